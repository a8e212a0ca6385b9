/- A space is opened on an empty disk. -/
import Derived.Test.YtddddjpmeegedaaGreatSpK
set_option linter.unusedVariables false
set_option linter.unusedSimpArgs false
namespace Go.Proofs.YtddddjpmeegedaaGreat
open Go.RowKit

abbrev poolO (bd : Nat) (l : Value) (bat : Nat) : Obj := .cells #[.pointer (some ⟨bd, 0, none⟩), .int .i64 16, l, .int .i64 0, .map (some bat)] 175
theorem pool5 {w : World} {g bd bat : Nat} {l : Value} (h : w.heap[g]? = some (poolO bd l bat)) :
    w.cell? ⟨g, 0, none⟩ = some (.pointer (some ⟨bd, 0, none⟩)) ∧ w.cell? ⟨g, 1, none⟩ = some (.int .i64 16) ∧ w.cell? ⟨g, 4, none⟩ = some (.map (some bat)) := by
  refine ⟨?_, ?_, ?_⟩ <;> (unfold World.cell?; rw [h]; rfl)

set_option maxRecDepth 100000 in
set_option maxHeartbeats 1000000 in
theorem pin_first {w : World} {bp bd bat : Nat} (h : w.heap[bp]? = some (poolO bd (.slice none 0 0) bat)) (hm : MapIs w bat (fun _ => none)) (hd : DiskAt w bd) (hdp : bd ≠ bp) :
    Calls Tryz.prog 100 #[.pointer (some ⟨bp, 0, none⟩), .int .i64 0] w fun e w' => e = .returned (.int .i64 0) ∧ ∃ bf bb c, PoolAt w' bp bat bf bb c 1 ∧ w.heap.size ≤ bf ∧ w.heap.size ≤ bb ∧ Off (fun k => k = bp ∨ k = bat) w w' := by
  have hlt : bp < w.heap.size := (Array.getElem?_eq_some_iff.1 h).1
  have HG := Lib.hid (pgiven_any (pool5 h).2.1)
  have H := Lib.hid (And.intro h (And.intro hm hd))
  clear h hm hd
  go_enter Tryz.func100, Tryz.ntmps100
  go_wp2_with fail
  refine HG.out.mono ?_
  rintro e w1 ⟨rfl, hb1⟩
  have h1 := (hb1.block bp hlt).trans H.out.1
  have hm1 : MapIs w1 bat (fun _ => none) := H.out.2.1.keep (hb1.block bat H.out.2.1.lt)
  have hl := hm1.look (t := 172) (e := 222) (z := .pointer none) Tryz.underlying172 (by kernel_rfl) (i := 0) (wfI ⟨by omega, by omega⟩)
  have hl' : (Instr.lookup 172 (.map (some bat)) (.int .i64 0) false).run Tryz.prog w1 = .ok (.pointer none) w1 := hl
  obtain ⟨p0, p1, p4⟩ := pool5 h1
  have HR := Lib.hid (room_first h1)
  have H1 := Lib.hid (And.intro hm1 (And.intro (H.out.2.2.below hb1) hb1))
  clear hb1 hm1 hl HG
  go_wp2_with fail
  refine HR.out.mono ?_
  rintro e w2 ⟨bf, l, rfl, hbf, h2, hf2, ho2⟩
  have hd2 : DiskAt w2 bd := ⟨ho2.cell H1.out.2.1.c0 hdp, ho2.cell H1.out.2.1.c1 hdp, ho2.cell H1.out.2.1.c2 hdp⟩
  have hbd : bd < bf := by have := World.block_lt_of_cell? w1 _ H1.out.2.1.c0; simp at this; omega
  have hbp : bp < bf := by have := H1.out.2.2.size; omega
  have hbf2 : bf < w2.heap.size := (Array.getElem?_eq_some_iff.1 hf2).1
  obtain ⟨w3, hmk, hpg3, hb3⟩ : ∃ w3, (Instr.makeSlice 74 (.int .i64 512) (.int .i64 512)).run Tryz.prog w2 = .ok (.slice (some ⟨w2.heap.size, 0, none⟩) 512 512) w3 ∧ PageAt w3 w2.heap.size 512 zeros ∧ Below w2.heap.size w2 w3 := ⟨_, make_page w2, page_zero w2, by go_grown⟩
  have hf3 := (hb3.block bf hbf2).trans hf2
  have h3 := (hb3.block bp (by omega)).trans h2
  have hd3 := hd2.below hb3
  have hz3 := hb3.size
  obtain ⟨q0, q1, q4⟩ := pool5 h3
  have g0 : w3.cell? ⟨bf, 0, none⟩ = some (.int .i64 0) := by unfold World.cell?; rw [hf3]; rfl
  have g1 : w3.cell? ⟨bf, 1, none⟩ = some (.slice none 0 0) := by unfold World.cell?; rw [hf3]; rfl
  have g2 : w3.cell? ⟨bf, 2, none⟩ = some (.int .i64 0) := by unfold World.cell?; rw [hf3]; rfl
  have g3 : w3.cell? ⟨bf, 3, none⟩ = some (.bool false) := by unfold World.cell?; rw [hf3]; rfl
  have g4 : w3.cell? ⟨bf, 4, none⟩ = some (.bool false) := by unfold World.cell?; rw [hf3]; rfl
  have gf : ∀ i, w3.frozen? ⟨bf, i, none⟩ = false := fun i => by unfold World.frozen?; rw [hf3]; simp
  have gf0 := gf 0
  have gf1 := gf 1
  have gf2 := gf 2
  have gf3 := gf 3
  have gf4 := gf 4
  have hne1 : bp ≠ bf := by omega
  have hm2 : MapIs w2 bat (fun _ => none) := H1.out.1.keep (ho2.block bat H1.out.1.lt (H1.out.1.cells_ne h1))
  have hm3 : MapIs w3 bat (fun _ => none) := hm2.keep (hb3.block bat hm2.lt)
  have hbat : bat ≠ bf := hm3.cells_ne hf3
  have hbat2 : bat ≠ bp := hm3.cells_ne h3
  have HM := Lib.hid hm3
  have H11 := Lib.hid H1.out.2.2
  have H3 := Lib.hid (And.intro h3 (And.intro hf3 (And.intro (ho2.trans (Off.of_below hb3 (F := fun _ => False)) (fun _ _ h => h.elim)) (And.intro hd3 hpg3))))
  clear h2 hf2 ho2 hd2 HR gf h3 hf3 hb3 hd3 hpg3 H1 h1 hm2 hm3
  go_wp2_with fail
  obtain ⟨W, hW⟩ : ∃ W, W = ((((w3.setCell ⟨bf, 0, none⟩ (.int .i64 0)).setCell ⟨bf, 1, none⟩ (.slice (some ⟨w2.heap.size, 0, none⟩) 512 512)).setCell ⟨bf, 2, none⟩ (.int .i64 0)).setCell ⟨bf, 3, none⟩ (.bool false)).setCell ⟨bf, 4, none⟩ (.bool false) := ⟨_, rfl⟩
  rw [← hW]
  have hfW : W.heap[bf]? = some (frameO 0 w2.heap.size 512 0 false false) := by rw [hW]; exact heap_set (heap_set (heap_set (heap_set (heap_set H3.out.2.1))))
  have hoW : ∀ k, k ≠ bf → W.heap[k]? = w3.heap[k]? := fun k hk => by
    rw [hW]
    exact (Below.heap_setCell _ _ _ _ hk).trans ((Below.heap_setCell _ _ _ _ hk).trans ((Below.heap_setCell _ _ _ _ hk).trans ((Below.heap_setCell _ _ _ _ hk).trans (Below.heap_setCell _ _ _ _ hk))))
  have hzW : W.heap.size = w3.heap.size := by rw [hW]; simp [World.setCell]
  have hosW : W.os = w3.os ∧ W.tape = w3.tape ∧ W.output = w3.output := by rw [hW]; exact ⟨rfl, rfl, rfl⟩
  have hbW : Off (· = bf) w3 W := ⟨hosW.1, hosW.2.1, hosW.2.2, by omega, fun k _ hk => hoW k hk⟩
  clear hW
  have hdW : DiskAt W bd := ⟨hbW.cell H3.out.2.2.2.1.c0 (by simp; omega), hbW.cell H3.out.2.2.2.1.c1 (by simp; omega), hbW.cell H3.out.2.2.2.1.c2 (by simp; omega)⟩
  have HS := Lib.hid (dsize_any hdW 1 (.inr rfl))
  have hpW := (hoW bp hne1).trans H3.out.1
  have hpgW : PageAt W w2.heap.size 512 zeros := H3.out.2.2.2.2.keep (hoW _ (by omega))
  clear q0 q1 q4 g0 g1 g2 g3 g4 gf0 gf1 gf2 gf3 gf4 hdW hosW hmk hl'
  have HMW := Lib.hid (HM.out.keep (hoW bat hbat))
  have HW := Lib.hid (And.intro hfW (And.intro hpW (And.intro hpgW hbW)))
  clear hfW hpW hpgW hbW hoW
  refine HS.out.mono ?_
  rintro e w5 ⟨rfl, hb5⟩
  have hf5 := (hb5.block bf (by omega)).trans HW.out.1
  have hp5 := (hb5.block bp (by omega)).trans HW.out.2.1
  have hpg5 := HW.out.2.2.1.keep (hb5.block _ HW.out.2.2.1.lt)
  have hlt5 := hb5.size
  have hm5 := HMW.out.keep (hb5.block bat HMW.out.lt)
  obtain ⟨q0, q1, q4⟩ := pool5 hp5
  obtain ⟨w6, hset, hm6, ho6, hz6⟩ := hm5.set (fun i hi => absurd rfl hi) (t := 172) (e := 222) Tryz.underlying172 (i := 0) (wfI ⟨by omega, by omega⟩) (.pointer (some ⟨bf, 0, none⟩))
  have hf6 := (ho6.block bf (by omega) (Ne.symm hbat)).trans hf5
  have hp6 := (ho6.block bp (by omega) (Ne.symm hbat2)).trans hp5
  have hpg6 := hpg5.keep (ho6.block _ hpg5.lt (hpg5.map_ne hm5))
  obtain ⟨f0, f1, f2, f3, f4, ff⟩ := frame5 hf6
  have f2f := ff 2
  have f4f := ff 4
  obtain ⟨r0, r1, r4⟩ := pool5 hp6
  have ho16 : Off (fun k => k = bp ∨ k = bat ∨ k = bf) w w6 :=
    ((((Off.of_below H11.out (F := fun k => k = bp ∨ k = bat ∨ k = bf)).trans H3.out.2.2.1 (fun k _ e => .inl e)).trans HW.out.2.2.2 (fun k _ e => .inr (.inr e))).trans (Off.of_below hb5 (F := fun _ => False)) (fun _ _ h => h.elim)).trans ho6 (fun k _ e => .inr (.inl e))
  have HO := Lib.hid ho16
  have hbfw : w.heap.size ≤ bf := by have := H11.out.size; omega
  have hbbw : w.heap.size ≤ w2.heap.size := by omega
  clear ho16
  have H6 := Lib.hid (And.intro hm6 (And.intro hf6 (And.intro hp6 hpg6)))
  clear hm5 hm6 hf5 hp5 hpg5 hf6 hp6 hpg6 ho6 ff hb5
  go_wp2
  go_ret
  have hoF : Off (· = bf) w6 ((w6.setCell ⟨bf, 2, none⟩ (.int .i64 1)).setCell ⟨bf, 4, none⟩ (.bool true)) := ⟨rfl, rfl, rfl, by simp [World.setCell], fun k hk hne => (Below.heap_setCell _ _ _ _ hne).trans (Below.heap_setCell _ _ _ _ hne)⟩
  refine ⟨rfl, bf, w2.heap.size, 512, ⟨hoF.cell r1 hne1, hoF.cell r4 hne1, H6.out.1.keep (hoF.block bat H6.out.1.lt hbat), ⟨false, true, heap_set (heap_set H6.out.2.1)⟩, H6.out.2.2.2.keep (hoF.block _ H6.out.2.2.2.lt (by omega)), hne1⟩, hbfw, hbbw, ?_⟩
  have ho := HO.out.trans hoF (fun k _ e => .inr (.inr e))
  exact ⟨ho.os, ho.tape, ho.output, ho.size, fun k hk hn => ho.block k hk (fun e => by
    rcases e with e | e | e
    · exact hn (.inl e)
    · exact hn (.inr e)
    · omega)⟩
end Go.Proofs.YtddddjpmeegedaaGreat
