/- A space is opened on an empty disk. A space on an empty disk: Open. A tree's leaf: its bytes, and how a text is read from them. A tree's items, and how a leaf is read. -/
import Derived.Test.YtoejgkcaamkanaaGreatDoorQ03
import Derived.Maps.Range
import Derived.Deep.RegionLaw
import Derived.Deep.RegionHeld3
import Derived.Laws.OwnMore
set_option linter.unusedVariables false
set_option linter.unusedSimpArgs false
namespace Go.Proofs.YtoejgkcaamkanaaGreatDoor
open Go.RowKit

abbrev poolO (bd : Nat) (l : Value) (bat : Nat) : Obj := .cells #[.pointer (some ⟨bd, 0, none⟩), .int .i64 16, l, .int .i64 0, .map (some bat)] 201
theorem pool5 {w : World} {g bd bat : Nat} {l : Value} (h : w.heap[g]? = some (poolO bd l bat)) :
    w.cell? ⟨g, 0, none⟩ = some (.pointer (some ⟨bd, 0, none⟩)) ∧ w.cell? ⟨g, 1, none⟩ = some (.int .i64 16) ∧ w.cell? ⟨g, 4, none⟩ = some (.map (some bat)) := by
  refine ⟨?_, ?_, ?_⟩ <;> (unfold World.cell?; rw [h]; rfl)

set_option maxRecDepth 100000 in
set_option maxHeartbeats 1000000 in
theorem pin_first {w : World} {bp bd bat : Nat} (h : w.heap[bp]? = some (poolO bd (.slice none 0 0) bat)) (hm : MapIs w bat (fun _ => none)) (hd : DiskAt w bd) (hdp : bd ≠ bp) :
    Calls Tryz.prog 127 #[.pointer (some ⟨bp, 0, none⟩), .int .i64 0] w fun e w' => e = .returned (.int .i64 0) ∧ ∃ bf bb c, PoolAt w' bp bat bf bb c 1 ∧ w.heap.size ≤ bf ∧ w.heap.size ≤ bb ∧ Off (fun k => k = bp ∨ k = bat) w w' := by
  have hlt : bp < w.heap.size := (Array.getElem?_eq_some_iff.1 h).1
  have HG := Lib.hid (pgiven_any (pool5 h).2.1)
  have H := Lib.hid (And.intro h (And.intro hm hd))
  clear h hm hd
  go_enter Tryz.func127, Tryz.ntmps127
  go_wp2_with fail
  refine HG.out.mono ?_
  rintro e w1 ⟨rfl, hb1⟩
  have h1 := (hb1.block bp hlt).trans H.out.1
  have hm1 : MapIs w1 bat (fun _ => none) := H.out.2.1.keep (hb1.block bat H.out.2.1.lt)
  have hl := hm1.look (t := 198) (e := 246) (z := .pointer none) Tryz.underlying198 (by kernel_rfl) (i := 0) (wfI ⟨by omega, by omega⟩)
  have hl' : (Instr.lookup 198 (.map (some bat)) (.int .i64 0) false).run Tryz.prog w1 = .ok (.pointer none) w1 := hl
  obtain ⟨p0, p1, p4⟩ := pool5 h1
  have HR := Lib.hid (room_first h1)
  have H1 := Lib.hid (And.intro hm1 (And.intro (H.out.2.2.below hb1) hb1))
  clear hb1 hm1 hl HG
  go_wp2_with fail
  refine HR.out.mono ?_
  rintro e w2 ⟨bf, l, rfl, hbf, h2, hf2, ho2⟩
  have hd2 : DiskAt w2 bd := ⟨ho2.cell H1.out.2.1.c0 hdp, ho2.cell H1.out.2.1.c1 hdp, ho2.cell H1.out.2.1.c2 hdp⟩
  have hbd : bd < bf := by have := World.block_lt_of_cell? w1 _ H1.out.2.1.c0; simp at this; omega
  have hbp : bp < bf := by have := H1.out.2.2.size; omega
  have hbf2 : bf < w2.heap.size := (Array.getElem?_eq_some_iff.1 hf2).1
  obtain ⟨w3, hmk, hpg3, hb3⟩ : ∃ w3, (Instr.makeSlice 84 (.int .i64 512) (.int .i64 512)).run Tryz.prog w2 = .ok (.slice (some ⟨w2.heap.size, 0, none⟩) 512 512) w3 ∧ PageAt w3 w2.heap.size 512 zeros ∧ Below w2.heap.size w2 w3 := ⟨_, make_page w2, page_zero w2, by go_grown⟩
  have hf3 := (hb3.block bf hbf2).trans hf2
  have h3 := (hb3.block bp (by omega)).trans h2
  have hd3 := hd2.below hb3
  have hz3 := hb3.size
  obtain ⟨q0, q1, q4⟩ := pool5 h3
  have g0 : w3.cell? ⟨bf, 0, none⟩ = some (.int .i64 0) := by unfold World.cell?; rw [hf3]; rfl
  have g1 : w3.cell? ⟨bf, 1, none⟩ = some (.slice none 0 0) := by unfold World.cell?; rw [hf3]; rfl
  have g2 : w3.cell? ⟨bf, 2, none⟩ = some (.int .i64 0) := by unfold World.cell?; rw [hf3]; rfl
  have g3 : w3.cell? ⟨bf, 3, none⟩ = some (.bool false) := by unfold World.cell?; rw [hf3]; rfl
  have g4 : w3.cell? ⟨bf, 4, none⟩ = some (.bool false) := by unfold World.cell?; rw [hf3]; rfl
  have gf : ∀ i, w3.frozen? ⟨bf, i, none⟩ = false := fun i => by unfold World.frozen?; rw [hf3]; simp
  have gf0 := gf 0
  have gf1 := gf 1
  have gf2 := gf 2
  have gf3 := gf 3
  have gf4 := gf 4
  have hne1 : bp ≠ bf := by omega
  have hm2 : MapIs w2 bat (fun _ => none) := H1.out.1.keep (ho2.block bat H1.out.1.lt (H1.out.1.cells_ne h1))
  have hm3 : MapIs w3 bat (fun _ => none) := hm2.keep (hb3.block bat hm2.lt)
  have hbat : bat ≠ bf := hm3.cells_ne hf3
  have hbat2 : bat ≠ bp := hm3.cells_ne h3
  have HM := Lib.hid hm3
  have H11 := Lib.hid H1.out.2.2
  have H3 := Lib.hid (And.intro h3 (And.intro hf3 (And.intro (ho2.trans (Off.of_below hb3 (F := fun _ => False)) (fun _ _ h => h.elim)) (And.intro hd3 hpg3))))
  clear h2 hf2 ho2 hd2 HR gf h3 hf3 hb3 hd3 hpg3 H1 h1 hm2 hm3
  go_wp2_with fail
  obtain ⟨W, hW⟩ : ∃ W, W = ((((w3.setCell ⟨bf, 0, none⟩ (.int .i64 0)).setCell ⟨bf, 1, none⟩ (.slice (some ⟨w2.heap.size, 0, none⟩) 512 512)).setCell ⟨bf, 2, none⟩ (.int .i64 0)).setCell ⟨bf, 3, none⟩ (.bool false)).setCell ⟨bf, 4, none⟩ (.bool false) := ⟨_, rfl⟩
  rw [← hW]
  have hfW : W.heap[bf]? = some (frameO 0 w2.heap.size 512 0 false false) := by rw [hW]; exact heap_set (heap_set (heap_set (heap_set (heap_set H3.out.2.1))))
  have hoW : ∀ k, k ≠ bf → W.heap[k]? = w3.heap[k]? := fun k hk => by
    rw [hW]
    exact (Below.heap_setCell _ _ _ _ hk).trans ((Below.heap_setCell _ _ _ _ hk).trans ((Below.heap_setCell _ _ _ _ hk).trans ((Below.heap_setCell _ _ _ _ hk).trans (Below.heap_setCell _ _ _ _ hk))))
  have hzW : W.heap.size = w3.heap.size := by rw [hW]; simp [World.setCell]
  have hosW : W.os = w3.os ∧ W.tape = w3.tape ∧ W.output = w3.output := by rw [hW]; exact ⟨rfl, rfl, rfl⟩
  have hbW : Off (· = bf) w3 W := ⟨hosW.1, hosW.2.1, hosW.2.2, by omega, fun k _ hk => hoW k hk⟩
  clear hW
  have hdW : DiskAt W bd := ⟨hbW.cell H3.out.2.2.2.1.c0 (by simp; omega), hbW.cell H3.out.2.2.2.1.c1 (by simp; omega), hbW.cell H3.out.2.2.2.1.c2 (by simp; omega)⟩
  have HS := Lib.hid (dsize_any hdW 1 (.inr rfl))
  have hpW := (hoW bp hne1).trans H3.out.1
  have hpgW : PageAt W w2.heap.size 512 zeros := H3.out.2.2.2.2.keep (hoW _ (by omega))
  clear q0 q1 q4 g0 g1 g2 g3 g4 gf0 gf1 gf2 gf3 gf4 hdW hosW hmk hl'
  have HMW := Lib.hid (HM.out.keep (hoW bat hbat))
  have HW := Lib.hid (And.intro hfW (And.intro hpW (And.intro hpgW hbW)))
  clear hfW hpW hpgW hbW hoW
  refine HS.out.mono ?_
  rintro e w5 ⟨rfl, hb5⟩
  have hf5 := (hb5.block bf (by omega)).trans HW.out.1
  have hp5 := (hb5.block bp (by omega)).trans HW.out.2.1
  have hpg5 := HW.out.2.2.1.keep (hb5.block _ HW.out.2.2.1.lt)
  have hlt5 := hb5.size
  have hm5 := HMW.out.keep (hb5.block bat HMW.out.lt)
  obtain ⟨q0, q1, q4⟩ := pool5 hp5
  obtain ⟨w6, hset, hm6, ho6, hz6⟩ := hm5.set (fun i hi => absurd rfl hi) (t := 198) (e := 246) Tryz.underlying198 (i := 0) (wfI ⟨by omega, by omega⟩) (.pointer (some ⟨bf, 0, none⟩))
  have hf6 := (ho6.block bf (by omega) (Ne.symm hbat)).trans hf5
  have hp6 := (ho6.block bp (by omega) (Ne.symm hbat2)).trans hp5
  have hpg6 := hpg5.keep (ho6.block _ hpg5.lt (hpg5.map_ne hm5))
  obtain ⟨f0, f1, f2, f3, f4, ff⟩ := frame5 hf6
  have f2f := ff 2
  have f4f := ff 4
  obtain ⟨r0, r1, r4⟩ := pool5 hp6
  have ho16 : Off (fun k => k = bp ∨ k = bat ∨ k = bf) w w6 :=
    ((((Off.of_below H11.out (F := fun k => k = bp ∨ k = bat ∨ k = bf)).trans H3.out.2.2.1 (fun k _ e => .inl e)).trans HW.out.2.2.2 (fun k _ e => .inr (.inr e))).trans (Off.of_below hb5 (F := fun _ => False)) (fun _ _ h => h.elim)).trans ho6 (fun k _ e => .inr (.inl e))
  have HO := Lib.hid ho16
  have hbfw : w.heap.size ≤ bf := by have := H11.out.size; omega
  have hbbw : w.heap.size ≤ w2.heap.size := by omega
  clear ho16
  have H6 := Lib.hid (And.intro hm6 (And.intro hf6 (And.intro hp6 hpg6)))
  clear hm5 hm6 hf5 hp5 hpg5 hf6 hp6 hpg6 ho6 ff hb5
  go_wp2
  go_ret
  have hoF : Off (· = bf) w6 ((w6.setCell ⟨bf, 2, none⟩ (.int .i64 1)).setCell ⟨bf, 4, none⟩ (.bool true)) := ⟨rfl, rfl, rfl, by simp [World.setCell], fun k hk hne => (Below.heap_setCell _ _ _ _ hne).trans (Below.heap_setCell _ _ _ _ hne)⟩
  refine ⟨rfl, bf, w2.heap.size, 512, ⟨hoF.cell r1 hne1, hoF.cell r4 hne1, H6.out.1.keep (hoF.block bat H6.out.1.lt hbat), ⟨false, true, heap_set (heap_set H6.out.2.1)⟩, H6.out.2.2.2.keep (hoF.block _ H6.out.2.2.2.lt (by omega)), hne1⟩, hbfw, hbbw, ?_⟩
  have ho := HO.out.trans hoF (fun k _ e => .inr (.inr e))
  exact ⟨ho.os, ho.tape, ho.output, ho.size, fun k hk hn => ho.block k hk (fun e => by
    rcases e with e | e | e
    · exact hn (.inl e)
    · exact hn (.inr e)
    · omega)⟩
end Go.Proofs.YtoejgkcaamkanaaGreatDoor

namespace Go.Proofs.YtoejgkcaamkanaaGreatDoor
open Go.RowKit

set_option maxRecDepth 100000 in
set_option maxHeartbeats 1000000 in
theorem bytes_first {w : World} {bs bp bd bat : Nat} (h : w.heap[bp]? = some (poolO bd (.slice none 0 0) bat)) (hm : MapIs w bat (fun _ => none)) (hd : DiskAt w bd) (hdp : bd ≠ bp) (hs : w.cell? ⟨bs, 1, none⟩ = some (.pointer (some ⟨bp, 0, none⟩))) (hsp : bs ≠ bp) (hsa : bs ≠ bat) :
    Calls Tryz.prog 85 #[.pointer (some ⟨bs, 0, none⟩), .int .i64 0] w fun e w' =>
      ∃ b cap bf bb c, e = .returned (.slice (some ⟨b, 0, none⟩) 512 cap) ∧ PageAt w' b cap zeros ∧ PoolAt w' bp bat bf bb c 0 ∧ w.heap.size ≤ bf ∧ w.heap.size ≤ bb ∧ Off (fun k => k = bp ∨ k = bat) w w' := by
  have HP := Lib.hid (pin_first h hm hd hdp)
  have hslt := World.block_lt_of_cell? w _ hs
  clear h hm hd
  go_enter Tryz.func85, Tryz.ntmps85
  go_wp2_with fail
  refine HP.out.mono ?_
  rintro e w1 ⟨rfl, bf, bb, c, h1, hyf, hyb, ho1⟩
  have hne : bs ≠ bf := by have h' : bs < w.heap.size := hslt; omega
  have hs1 := ho1.cell hs (by simp; exact ⟨hsp, hsa⟩)
  have HR := Lib.hid (pread_any h1 (by omega))
  have H1 := Lib.hid (And.intro h1 ho1)
  clear h1 ho1 HP hs
  go_wp2_with fail
  refine HR.out.mono ?_
  rintro e w2 ⟨rfl, hb2⟩
  obtain ⟨ch, late, hf⟩ := H1.out.1.f
  have h2 : PoolAt w2 bp bat bf bb c 1 := H1.out.1.turn (Off.of_below hb2) ⟨ch, late, (hb2.block bf H1.out.1.bf_lt).trans hf⟩
  have hs2 : w2.cell? ⟨bs, 1, none⟩ = some (.pointer (some ⟨bp, 0, none⟩)) := (hb2.cell (World.block_lt_of_cell? w1 _ hs1)).trans hs1
  have HU := Lib.hid (unpin_any h2)
  have H2 := Lib.hid (H1.out.2.trans (Off.of_below hb2 (F := fun _ => False)) (fun _ _ h => h.elim))
  clear h2 hb2 hf HR hs1
  go_wp2_with fail
  refine HU.out.mono ?_
  rintro e w3 ⟨rfl, h3, ho3⟩
  have hconv := Lib.run_convert_string_bytes (P := Tryz.prog) w3 9 84 5 ⟨zeros.toArray⟩ Tryz.underlying9 Tryz.underlying84 Tryz.underlying5
  have hz : (⟨zeros.toArray⟩ : ByteArray).size = 512 := by show zeros.toArray.size = 512; simp [zeros]
  rw [hz] at hconv
  have ho : Off (fun k => k = bp ∨ k = bat) w w3 := H2.out.trans ho3 (fun k hk e => by have e' : k = bf := e; omega)
  have H3 := Lib.hid (And.intro h3 ho)
  clear h3 ho3 HU hs2 ho
  go_wp2
  go_ret
  have hbc := below_conv w3 5 ⟨zeros.toArray⟩
  obtain ⟨ch, late, hf⟩ := H3.out.1.f
  exact ⟨w3.heap.size, grownCap w3 512 0 5, bf, bb, c, rfl, page_conv w3 zeros (by simp [zeros]), H3.out.1.turn (Off.of_below hbc) ⟨ch, late, (hbc.block bf H3.out.1.bf_lt).trans hf⟩, hyf, hyb, H3.out.2.trans (Off.of_below hbc (F := fun _ => False)) (fun _ _ h => h.elim)⟩

abbrev spaceO (bl bp : Nat) (now : Option Addr) (bfree : Nat) : Obj := .cells #[.pointer (some ⟨bl, 0, none⟩), .pointer (some ⟨bp, 0, none⟩), .pointer now, .map (some bfree)] 144

set_option maxRecDepth 100000 in
set_option maxHeartbeats 1000000 in
theorem open_any {w : World} {bd : Nat} (hd : DiskAt w bd) :
    Calls Tryz.prog 34 #[.pointer (some ⟨bd, 0, none⟩), .int .i64 16] w fun e w' =>
      ∃ bs bl bp bfree bat bf bb c, e = .returned (.tuple #[.pointer (some ⟨bs, 0, none⟩), .int .i64 0]) ∧ w'.heap[bs]? = some (spaceO bl bp none bfree) ∧ MapIs w' bfree (fun _ => none) ∧ PoolAt w' bp bat bf bb c 0 ∧ bs ≠ bf ∧ bfree ≠ bat ∧
        w.heap.size ≤ bs ∧ w.heap.size ≤ bp ∧ w.heap.size ≤ bfree ∧ w.heap.size ≤ bat ∧ w.heap.size ≤ bf ∧ w.heap.size ≤ bb ∧ Below w.heap.size w w' := by
  have HL := Lib.hid (logOpen_any hd)
  have H := Lib.hid hd
  clear hd
  go_enter Tryz.func34, Tryz.ntmps34
  go_wp2_with fail
  refine HL.out.mono ?_
  rintro e w1 ⟨bl, rfl, hb1, hyl, hlt1⟩
  have hmm := @run_makeMap Tryz.prog
  have hd1 := H.out.below hb1
  have hbX : Below w1.heap.size w1 ((w1.alloc (.map #[] 0)).alloc (.cells #[.pointer (some ⟨bl, 0, none⟩), .pointer none, .pointer none, .map (some w1.heap.size)] 144)) := by go_grown
  have HN := Lib.hid (poolNew_any (hd1.below hbX))
  have H1 := Lib.hid (And.intro hd1 (And.intro hb1 hbX))
  clear hd1 hb1 hbX HL
  go_wp2_with fail
  refine HN.out.mono ?_
  rintro e w2 ⟨bp, bat, rfl, hb2, hyp, hya, hpa, hp2, hm2⟩
  simp at hyp hya
  have hs2 : w2.heap[w1.heap.size + 1]? = some (.cells #[.pointer (some ⟨bl, 0, none⟩), .pointer none, .pointer none, .map (some w1.heap.size)] 144) := (hb2.block _ (by simp)).trans (by
    have := hnew (w1.alloc (.map #[] 0)) (.cells #[.pointer (some ⟨bl, 0, none⟩), .pointer none, .pointer none, .map (some w1.heap.size)] 144)
    simpa using this)
  have hf2 : MapIs w2 w1.heap.size (fun _ => none) := (MapIs.made w1).keep ((hb2.block _ (by simp; omega)).trans (Below.heap_alloc _ _ _ (by simp)))
  have s1 : w2.cell? ⟨w1.heap.size + 1, 1, none⟩ = some (.pointer none) := by unfold World.cell?; rw [hs2]; rfl
  have sf : w2.frozen? ⟨w1.heap.size + 1, 1, none⟩ = false := by unfold World.frozen?; rw [hs2]; rfl
  obtain ⟨W, hW⟩ : ∃ W, W = w2.setCell ⟨w1.heap.size + 1, 1, none⟩ (.pointer (some ⟨bp, 0, none⟩)) := ⟨_, rfl⟩
  have hsW : W.heap[w1.heap.size + 1]? = some (spaceO bl bp none w1.heap.size) := by rw [hW]; exact heap_set hs2
  have hoW : ∀ k, k ≠ w1.heap.size + 1 → W.heap[k]? = w2.heap[k]? := fun k hk => by rw [hW]; exact Below.heap_setCell _ _ _ _ hk
  have hbW : Below w1.heap.size w1 W := by rw [hW]; exact (H1.out.2.2.trans (hb2.mono (by simp; omega))).setCell (by simp) _
  have hpW := (hoW bp (by omega)).trans hp2
  have hmW := hm2.keep (hoW bat (by omega))
  have hfW := hf2.keep (hoW w1.heap.size (by omega))
  have hdW := H1.out.1.below hbW
  have hbd : bd < w1.heap.size := by have := World.block_lt_of_cell? w1 _ H1.out.1.c0; simpa using this
  have cW : W.cell? ⟨w1.heap.size + 1, 1, none⟩ = some (.pointer (some ⟨bp, 0, none⟩)) := by unfold World.cell?; rw [hsW]; rfl
  have HB := Lib.hid (bytes_first hpW hmW hdW (by omega) cW (by omega) (by omega))
  have HW := Lib.hid (And.intro hsW (And.intro hbW hfW))
  have hWs := Lib.hid hW
  clear hs2 hf2 hp2 hm2 hb2 hsW hoW hbW hpW hmW hfW hdW cW HN hW
  go_wp2
  rw [← hWs.out]
  go_loopw [43] (fun i wr => i = .int .i64 0 ∧ wr = W) (fun _ _ => 0)
  case atStart => exact ⟨rfl, rfl⟩
  case round =>
    obtain ⟨rfl, rfl⟩ := hrel
    clear s1 sf hmm
    go_wp2_with fail
    refine HB.out.mono ?_
    rintro e w4 ⟨b, cap, bf, bb, c, rfl, hpg, hpool, hyf, hyb, ho4⟩
    have hcap : 512 ≤ cap := by obtain ⟨_, _, _, _, _, h, _⟩ := hpg; exact h
    have HN := number_at hpg 4 (512 - 4) (cap - 4) (by omega) (by omega)
    rw [show num zeros 4 = 0 from by decide +kernel] at HN
    have HNh := Lib.hid HN
    have hzW := HW.out.2.1.size
    have h4 := (ho4.block (w1.heap.size + 1) (Array.getElem?_eq_some_iff.1 HW.out.1).1 (by simp; omega)).trans HW.out.1
    have hf4 := HW.out.2.2.keep (ho4.block w1.heap.size HW.out.2.2.lt (by simp; omega))
    have hb4 : Below w.heap.size w w4 := (H1.out.2.1.trans (HW.out.2.1.mono H1.out.2.1.size)).trans (ho4.below (fun k hk => by rcases hk with rfl | rfl <;> (have := H1.out.2.1.size; omega)) (by have := H1.out.2.1.size; omega))
    have H4 := Lib.hid (And.intro h4 (And.intro hf4 (And.intro hpool hb4)))
    clear HN h4 hf4 hpool hb4 ho4 hpg HB
    go_wp2_with fail
    refine HNh.out.mono ?_
    rintro e w5 ⟨rfl, hb5⟩
    have HB5 := Lib.hid hb5
    clear hb5 HNh
    go_wp2
    go_loopw [13] (fun i wr2 => i = .int .i64 0 ∧ wr2 = w5) (fun _ _ => 0)
    case atStart => exact ⟨rfl, rfl⟩
    case round =>
      obtain ⟨rfl, rfl⟩ := hrel
      go_wp2
      go_ret2
      have h := H4.out
      obtain ⟨ch, late, hf⟩ := h.2.2.1.f
      have hz1 := H1.out.2.1.size
      have hne : w1.heap.size + 1 ≠ bf := by have := (Array.getElem?_eq_some_iff.1 HW.out.1).1; omega
      exact ⟨w1.heap.size + 1, bl, bp, w1.heap.size, bat, bf, bb, c, rfl, (HB5.out.block _ (Array.getElem?_eq_some_iff.1 h.1).1).trans h.1, h.2.1.keep (HB5.out.block _ h.2.1.lt), h.2.2.1.turn (Off.of_below HB5.out) ⟨ch, late, (HB5.out.block bf h.2.2.1.bf_lt).trans hf⟩, hne, by omega, by omega, by omega, by omega, by omega, by omega, by omega, h.2.2.2.trans (HB5.out.mono h.2.2.2.size)⟩

theorem MapIs.range_empty {w : World} {b : Nat} (h : MapIs w b (fun _ => none)) {t e : TypeId} (ht : Tryz.prog.underlying t = some (.map 3 e)) :
    ∃ w', (Instr.range t (.map (some b))).run Tryz.prog w = .ok (.pointer (some ⟨w.heap.size, 0, none⟩)) w' ∧ Below w.heap.size w w' ∧ ∀ ty, (Instr.next (.pointer (some ⟨w.heap.size, 0, none⟩)) false ty).run Tryz.prog w' = .ok (.tuple #[.bool false]) w' := by
  obtain ⟨D, L, ho, htd, hn, hL, hs, hat, hhas⟩ := h
  have h0 : Maps.size D = 0 := by
    rw [hs]
    cases L with
    | nil => rfl
    | cons x l => exact absurd rfl ((hL x).1 List.mem_cons_self)
  obtain ⟨w', hrun, hr, hg, hz⟩ := ho.range lawI ht
  rw [h0] at hr
  refine ⟨w', hrun, ⟨hg.os, hg.tape, hg.output, hg.size, fun k hk => hg.block k hk (by simp)⟩, fun ty => ?_⟩
  rcases hr.next lawI ty with ⟨_, _, h⟩ | ⟨_, _, _, _, _, cnt', _, _, _, _, _, _, hlt, _⟩
  · exact h
  · omega
theorem sgiven_any {w : World} {bs bp : Nat} (s1 : w.cell? ⟨bs, 1, none⟩ = some (.pointer (some ⟨bp, 0, none⟩))) :
    Calls Tryz.prog 87 #[.pointer (some ⟨bs, 0, none⟩)] w fun e w' => e = .returned (.bool true) ∧ Below w.heap.size w w' := by
  go_enter Tryz.func87, Tryz.ntmps87
  go_wp2
  go_ret
  exact ⟨rfl, by first | exact Below.refl _ _ | go_grown⟩
set_option maxRecDepth 100000 in
set_option maxHeartbeats 1000000 in
theorem begin_any {w : World} {bs bl bp bfree : Nat} (h : w.heap[bs]? = some (spaceO bl bp none bfree)) (hm : MapIs w bfree (fun _ => none)) :
    Calls Tryz.prog 35 #[.pointer (some ⟨bs, 0, none⟩)] w fun e w' =>
      ∃ ba bm bg, e = .returned (.tuple #[.pointer (some ⟨ba, 0, none⟩), .int .i64 0]) ∧ w.heap.size ≤ ba ∧ w.heap.size ≤ bm ∧ w.heap.size ≤ bg ∧ bm ≠ bg ∧ w'.heap[ba]? = some (actO bs bm bg false) ∧ MapIs w' bm (fun _ => none) ∧ MapIs w' bg (fun _ => none) ∧
        w'.heap[bs]? = some (spaceO bl bp (some ⟨ba, 0, none⟩) bfree) ∧ Off (· = bs) w w' := by
  have hlt : bs < w.heap.size := (Array.getElem?_eq_some_iff.1 h).1
  have s1 : w.cell? ⟨bs, 1, none⟩ = some (.pointer (some ⟨bp, 0, none⟩)) := by unfold World.cell?; rw [h]; rfl
  have s2 : w.cell? ⟨bs, 2, none⟩ = some (.pointer none) := by unfold World.cell?; rw [h]; rfl
  have s3 : w.cell? ⟨bs, 3, none⟩ = some (.map (some bfree)) := by unfold World.cell?; rw [h]; rfl
  have sf : w.frozen? ⟨bs, 2, none⟩ = false := by unfold World.frozen?; rw [h]; rfl
  have HG := Lib.hid (sgiven_any s1)
  have hmm := @run_makeMap Tryz.prog
  have H := Lib.hid (And.intro h hm)
  clear h hm
  go_enter Tryz.func35, Tryz.ntmps35
  go_wp2_with fail
  refine HG.out.mono ?_
  rintro e w1 ⟨rfl, hb1⟩
  have hs1 := (hb1.block bs hlt).trans H.out.1
  have t1 : w1.cell? ⟨bs, 1, none⟩ = some (.pointer (some ⟨bp, 0, none⟩)) := by unfold World.cell?; rw [hs1]; rfl
  have t2 : w1.cell? ⟨bs, 2, none⟩ = some (.pointer none) := by unfold World.cell?; rw [hs1]; rfl
  have t3 : w1.cell? ⟨bs, 3, none⟩ = some (.map (some bfree)) := by unfold World.cell?; rw [hs1]; rfl
  have tf : w1.frozen? ⟨bs, 2, none⟩ = false := by unfold World.frozen?; rw [hs1]; rfl
  have hlt1 : bs < w1.heap.size := by have := hb1.size; omega
  have hl1 : bs < w1.heap.size + 1 := by omega
  have hl2 : bs < w1.heap.size + 1 + 1 := by omega
  have hl3 : bs < w1.heap.size + 1 + 1 + 1 := by omega
  have hm1 := H.out.2.keep (hb1.block bfree H.out.2.lt)
  have H1 := Lib.hid (And.intro hs1 (And.intro hm1 hb1))
  obtain ⟨X, hX⟩ : ∃ X, X = ((w1.alloc (.map #[] 0)).alloc (.map #[] 0)).alloc (actO bs w1.heap.size (w1.heap.size + 1) false) := ⟨_, rfl⟩
  have hbX : Below w1.heap.size w1 X := by rw [hX]; go_grown
  have hzX : X.heap.size = w1.heap.size + 1 + 1 + 1 := by rw [hX]; simp
  have haX : X.heap[w1.heap.size + 1 + 1]? = some (actO bs w1.heap.size (w1.heap.size + 1) false) := by
    rw [hX]
    have := hnew ((w1.alloc (.map #[] 0)).alloc (.map #[] 0)) (actO bs w1.heap.size (w1.heap.size + 1) false)
    simpa using this
  have hpX : MapIs X w1.heap.size (fun _ => none) := by
    rw [hX]
    exact (MapIs.made w1).keep ((Below.heap_alloc _ _ _ (by simp; omega)).trans (Below.heap_alloc _ _ _ (by simp)))
  have hgX : MapIs X (w1.heap.size + 1) (fun _ => none) := by
    rw [hX]
    have := MapIs.made (w1.alloc (.map #[] 0))
    have e : (w1.alloc (.map #[] 0)).heap.size = w1.heap.size + 1 := by simp
    rw [e] at this
    exact this.keep (Below.heap_alloc _ _ _ (by simp))
  obtain ⟨w2, hrange, hb2, hnext⟩ := (hm1.keep (hbX.block bfree hm1.lt)).range_empty (t := 141) (e := 4) Tryz.underlying141
  rw [hzX] at hrange hnext
  have hXh := Lib.hid hX
  have HX := Lib.hid (And.intro hbX (And.intro hzX (And.intro haX (And.intro hpX (And.intro hgX hb2)))))
  have hs2 := (hb2.block bs (by omega)).trans ((hbX.block bs hlt1).trans hs1)
  have u2 : w2.cell? ⟨bs, 2, none⟩ = some (.pointer none) := by unfold World.cell?; rw [hs2]; rfl
  have uf : w2.frozen? ⟨bs, 2, none⟩ = false := by unfold World.frozen?; rw [hs2]; rfl
  have HS2 := Lib.hid hs2
  rw [hX] at hrange
  clear hs1 hm1 hb1 HG s1 s2 s3 sf hX hbX hzX haX hpX hgX hb2 hs2
  go_wp2
  go_loopw [5] (fun _ wr => wr = w2) (fun _ _ => 0)
  case atStart => rfl
  case round =>
    obtain rfl := hrel
    go_wp2
    go_ret2
    have hz1 := H1.out.2.2.size
    have ho : Off (· = bs) wr (wr.setCell ⟨bs, 2, none⟩ (.pointer (some ⟨w1.heap.size + 1 + 1, 0, none⟩))) := ⟨rfl, rfl, rfl, by simp [World.setCell], fun k hk hne => Below.heap_setCell _ _ _ _ hne⟩
    have hb2 := HX.out.2.2.2.2.2
    have hzX := HX.out.2.1
    have ha := (hb2.block (w1.heap.size + 1 + 1) (by omega)).trans HX.out.2.2.1
    have hp := HX.out.2.2.2.1.keep (hb2.block w1.heap.size (by omega))
    have hg := HX.out.2.2.2.2.1.keep (hb2.block (w1.heap.size + 1) (by omega))
    refine ⟨w1.heap.size + 1 + 1, w1.heap.size, w1.heap.size + 1, rfl, by omega, by omega, by omega, by omega, (ho.block _ (Array.getElem?_eq_some_iff.1 ha).1 (fun e => by have e' : _ = bs := e; omega)).trans ha, hp.keep (ho.block _ hp.lt (fun e => by have e' : _ = bs := e; omega)), hg.keep (ho.block _ hg.lt (fun e => by have e' : _ = bs := e; omega)), heap_set HS2.out, ?_⟩
    exact (Off.of_below (H1.out.2.2.trans ((HX.out.1.trans (hb2.mono (by omega))).mono hz1))).trans ho (fun _ _ e => e)

theorem results_tmp4 {fn : Func} {t u v x : Tmp} (h : fn.results = #[.tmp t, .tmp u, .tmp v, .tmp x]) (tmps : Array Value) (P : Program) (w : World) :
    (results fn tmps).run P w = .ok (.tuple #[tmps.getD t undef, tmps.getD u undef, tmps.getD v undef, tmps.getD x undef]) w := by
  simp [results, h]

/-- What an action holds at its beginning, on an empty disk. -/
def raw0 : Raw := ⟨fun _ => zeros, fun _ => false, fun _ => false⟩
theorem cov0 (bs : Nat) : Cov (base0 bs) raw0 := by
  have e : raw0.total = 0 := by unfold Raw.total raw0; decide +kernel
  refine ⟨fun q h0 hq => .inr ?_, by rw [e]; omega⟩
  rw [e] at hq
  show q = 0
  omega

set_option maxRecDepth 100000 in
set_option maxHeartbeats 1000000 in
theorem begun_any (w : World) :
    Calls Tryz.prog 8 #[] w fun e w' =>
      ∃ bd bs ba F, e = .returned (.tuple #[.pointer (some ⟨bd, 0, none⟩), .pointer (some ⟨bs, 0, none⟩), .pointer (some ⟨ba, 0, none⟩), .bool true]) ∧ ActIs (base0 bs) w' ba F raw0 ∧ (∀ k, F k → w.heap.size ≤ k) ∧ Below w.heap.size w w' := by
  have HD := Lib.hid (diskNew_any w)
  go_enter Tryz.func8, Tryz.ntmps8
  go_wp2_with fail
  refine HD.out.mono ?_
  rintro e w1 ⟨rfl, hb1, hd1⟩
  have hD : DiskAt w1 w.heap.size := ⟨by unfold World.cell?; rw [hd1]; rfl, by unfold World.cell?; rw [hd1]; rfl, by unfold World.cell?; rw [hd1]; rfl⟩
  have HO := Lib.hid (open_any hD)
  have HB1 := Lib.hid hb1
  clear hb1 hd1 hD HD
  go_wp2_with fail
  refine HO.out.mono ?_
  rintro e w2 ⟨bs, bl, bp, bfree, bat, bf, bb, c, rfl, hs, hm, hp, hsf, hfa, y1, y2, y3, y4, y5, y6, hb2⟩
  have HBg := Lib.hid (begin_any hs hm)
  have H2 := Lib.hid (And.intro hs (And.intro hm (And.intro hp hb2)))
  clear hs hm hp hb2 HO
  go_wp2_with fail
  refine HBg.out.mono ?_
  rintro e w3 ⟨ba, bm, bg, rfl, z1, z2, z3, hmg, ha, hpm, hgm, hs3, ho3⟩
  have hz1 := HB1.out.size
  have hz2 := H2.out.2.2.2.size
  have hbelow : Below w.heap.size w w3 := (HB1.out.trans (H2.out.2.2.2.mono hz1)).trans (ho3.below (fun k e => by have e' : k = bs := e; omega) (by omega))
  have hpool : PoolAt w3 bp bat bf bb c 0 := by
    have h := H2.out.2.2.1
    have hne : ∀ k, k ≠ bs → k < w2.heap.size → w3.heap[k]? = w2.heap[k]? := fun k hk hlt => ho3.block k hlt hk
    obtain ⟨ch, late, hf⟩ := h.f
    have hsO := H2.out.1
    have n1 : bp ≠ bs := fun e => by
      have := h.p1
      rw [e] at this
      unfold World.cell? at this
      rw [hsO] at this
      cases this
    have n2 : bat ≠ bs := h.m.cells_ne hsO
    have n3 : bf ≠ bs := fun e => by rw [e, hsO] at hf; cases hf
    have n4 : bb ≠ bs := h.pg.ne hsO (by decide)
    exact ⟨ho3.cell h.p1 n1, ho3.cell h.p4 n1, h.m.keep (hne _ n2 h.m.lt), ⟨ch, late, (hne bf n3 h.bf_lt).trans hf⟩, h.pg.keep (hne _ n4 h.pg.lt), h.ne⟩
  have hs1 : w3.cell? ⟨bs, 1, none⟩ = some (.pointer (some ⟨bp, 0, none⟩)) := by unfold World.cell?; rw [hs3]; rfl
  have hlt2 : ∀ k, (k = bs ∨ k = bp ∨ k = bat ∨ k = bf ∨ k = bb) → k < w2.heap.size ∧ w1.heap.size ≤ k := fun k hk => by
    have h := H2.out.2.2.1
    rcases hk with rfl | rfl | rfl | rfl | rfl
    · exact ⟨(Array.getElem?_eq_some_iff.1 H2.out.1).1, y1⟩
    · exact ⟨World.block_lt_of_cell? w2 _ h.p1, y2⟩
    · exact ⟨h.m.lt, y4⟩
    · exact ⟨h.bf_lt, y5⟩
    · exact ⟨h.pg.lt, y6⟩
  have hA : ActAt (base0 bs) w3 ba bm bg (fun k => k = bs ∨ k = bp ∨ k = bat ∨ k = bf ∨ k = bb) raw0 (fun _ => 0) (fun _ => 0) :=
    ⟨ha, ⟨bp, bat, bf, bb, c, hpool, hs1, hsf, fun _ => Iff.rfl⟩, hpm, hgm, (fun p hp => by cases hp), fun p _ _ => rfl, (fun p hp => by cases hp), (fun p hp => by cases hp), (fun p _ hp => by cases hp), hmg,
      fun e => by have := (hlt2 _ e).1; omega, fun e => by have := (hlt2 _ e).1; omega, fun e => by have := (hlt2 _ e).1; omega, fun p hp => by cases hp⟩
  have HR := Lib.hid (show ActIs (base0 bs) w3 ba (foot ba bm bg (fun k => k = bs ∨ k = bp ∨ k = bat ∨ k = bf ∨ k = bb) raw0 (fun _ => 0)) raw0 ∧ (∀ k, foot ba bm bg (fun k => k = bs ∨ k = bp ∨ k = bat ∨ k = bf ∨ k = bb) raw0 (fun _ => 0) k → w.heap.size ≤ k) ∧ Below w.heap.size w w3 from
    ⟨⟨hA.bounded, bm, bg, _, _, _, hA, fun _ h => h⟩, (fun k hk => by
      rcases hk with rfl | rfl | rfl | hk | ⟨p, hp, _⟩
      · omega
      · omega
      · omega
      · have := (hlt2 k hk).2; omega
      · cases hp), hbelow⟩)
  clear hA hlt2 hs1 hpool hbelow ha hpm hgm hs3 ho3 HBg
  go_wp2
  refine bodyPost_ret (results_tmp4 rfl _ _ _) rfl ?_
  exact ⟨w.heap.size, bs, ba, _, rfl, HR.out⟩
end Go.Proofs.YtoejgkcaamkanaaGreatDoor

namespace Go.Proofs.YtoejgkcaamkanaaGreatDoor
open Go.RowKit

/-- A key and what it holds. -/
structure KV where
  k : ByteArray
  v : ByteArray
def KV.ok (x : KV) : Prop := x.k.size ≤ 96 ∧ x.v.size ≤ 32
def lenB (s : ByteArray) : List UInt8 := UInt8.ofNat s.size :: s.data.toList
def itemB (x : KV) : List UInt8 := lenB x.k ++ lenB x.v
def leafB (L : List KV) : List UInt8 := 1 :: UInt8.ofNat L.length :: L.flatMap itemB
def pageL (l : List UInt8) : List UInt8 := l ++ List.replicate (512 - l.length) 0
theorem lenB_length (s : ByteArray) : (lenB s).length = s.size + 1 := by simp [lenB]
theorem itemB_length (x : KV) : (itemB x).length = x.k.size + x.v.size + 2 := by simp [itemB, lenB]; omega
theorem pageL_length {l : List UInt8} (h : l.length ≤ 512) : (pageL l).length = 512 := by simp [pageL]; omega

set_option maxRecDepth 100000 in
set_option maxHeartbeats 1000000 in
theorem text_any {w : World} {vb va bb cap : Nat} {l : List UInt8} (hb : w.cell? ⟨vb, 0, none⟩ = some (.slice (some ⟨bb, 0, none⟩) 512 cap)) (a : Nat) (ha : w.cell? ⟨va, 0, none⟩ = some (.int .i64 a)) (hf : w.frozen? ⟨va, 0, none⟩ = false) (hne : vb ≠ va)
    (hp : PageAt w bb cap l) (hpa : bb ≠ va) (h5 : a < 512) (k : Nat) (hk : (l.getD a 0).toNat = k) (hfit : a + 1 + k ≤ 512) :
    Calls Tryz.prog 141 #[.pointer (some ⟨vb, 0, none⟩), .pointer (some ⟨va, 0, none⟩)] w fun e w' => e = .returned (.string ⟨((l.drop (a + 1)).take k).toArray⟩) ∧ w' = w.setCell ⟨va, 0, none⟩ (.int .i64 (a + 1 + k : Nat)) := by
  have hc := hp.cell a h5
  rw [hk] at hc
  have hcap : 512 ≤ cap := by obtain ⟨_, _, _, _, _, h, _⟩ := hp; exact h
  have hkn : k < 256 := by have := (l.getD a 0).toNat_lt; omega
  have ho : ∀ j, j ≠ va → (w.setCell ⟨va, 0, none⟩ (.int .i64 ((a : Int) + (1 + (k : Int))))).heap[j]? = w.heap[j]? := fun j hj => Below.heap_setCell _ _ _ _ hj
  have HP := Lib.hid (hp.keep (ho bb hpa))
  have hval : (a : Int) + (1 + (k : Int)) = ((a + 1 + k : Nat) : Int) := by omega
  have HV := Lib.hid hval
  clear hp ho hk hval
  generalize hK : (k : Int) = K at *
  have HK := Lib.hid hK
  have hK0 : 0 ≤ K ∧ K < 256 := by omega
  have hin : 0 ≤ (a : Int) + (1 + K) ∧ (a : Int) + (1 + K) ≤ (cap : Int) := by omega
  clear hK
  go_enter Tryz.func141, Tryz.ntmps141
  go_wp2
  · have hk := HK.out
    have hk0 : k = 0 := by omega
    rw [HP.out.sub _ _ _ (by omega)]
    go_wp2
    go_ret
    refine ⟨?_, by rw [HV.out]⟩
    rw [hk0]
    simp
  · have hk := HK.out
    rw [HP.out.sub _ _ _ (by omega)]
    go_wp2
    go_ret
    have e1 : ((a : Int) + (1 + K) - K).toNat = a + 1 := by omega
    have e2 : ((a : Int) + (1 + K)).toNat - (a + 1) = k := by omega
    rw [e1, e2]
    exact ⟨rfl, by rw [HV.out]⟩
end Go.Proofs.YtoejgkcaamkanaaGreatDoor

namespace Go.Proofs.YtoejgkcaamkanaaGreatDoor
open Go.RowKit

def kvCells (x : KV) : List Value := [.string x.k, .string x.v]
abbrev itemO (x : KV) : Obj := .cells #[.string x.k, .string x.v] 89
/-- Items that a call has made, in blocks from B on. -/
def Items (w : World) (B : Nat) (v : Value) (L : List KV) : Prop := w.ownsRow B 89 2 v L.length (L.flatMap kvCells)
theorem Items.nil (w : World) (B : Nat) : Items w B (.slice none 0 0) [] := World.ownsRow_nil _ _ _ _
theorem Items.slice {w : World} {B : Nat} {v : Value} {L : List KV} (h : Items w B v L) : ∃ A c, v = .slice A L.length c := by
  rcases h.2 with ⟨rfl, h0⟩ | ⟨g, cap, cur, rfl, _⟩
  · exact ⟨none, 0, by rw [h0]⟩
  · exact ⟨_, _, rfl⟩
theorem Items.alloc {w : World} {B : Nat} {v : Value} {L : List KV} (h : Items w B v L) (o : Obj) : Items (w.alloc o) B v L := World.ownsRow.alloc h o
theorem Items.keep {w w' : World} {B : Nat} {v : Value} {L : List KV} (h : Items w B v L) (e : ∀ k, B ≤ k → k < w.heap.size → w'.heap[k]? = w.heap[k]?) : Items w' B v L := by
  obtain ⟨h1, h2⟩ := h
  refine ⟨h1, ?_⟩
  rcases h2 with h2 | ⟨g, cap, cur, hv, hg, hh, r⟩
  · exact .inl h2
  · exact .inr ⟨g, cap, cur, hv, hg, (e g hg (Array.getElem?_eq_some_iff.1 hh).1).trans hh, r⟩
theorem Items.later {w w' : World} {B : Nat} {v : Value} {L : List KV} (h : Items w B v L) (hb : Below w.heap.size w w') : Items w' B v L := h.keep fun k _ hk => hb.block k hk
theorem Items.below {w w1 : World} {B : Nat} {v : Value} {L : List KV} (h : Items w B v L) (hB : B ≤ w.heap.size) (hg : w.grownBy w1 v.ownBlock) : Below B w w1 := by
  refine ⟨hg.os, hg.tape, hg.output, hg.size, fun k hk => hg.block k (by omega) (fun e => ?_)⟩
  rcases h.2 with ⟨rfl, _⟩ | ⟨g, cap, cur, rfl, hg', _⟩
  · simp [Value.ownBlock] at e
  · simp [Value.ownBlock] at e; omega
theorem kv_at : ∀ (L : List KV) (i : Nat) (h : i < L.length) (j : Nat), j < 2 → (L.flatMap kvCells)[i * 2 + j]? = (kvCells L[i])[j]?
  | [], i, h, _, _ => by simp at h
  | x :: L, 0, _, j, hj => by
    have h2 : (kvCells x).length = 2 := rfl
    simp only [List.flatMap_cons, Nat.zero_mul, Nat.zero_add, List.getElem_cons_zero]
    rw [List.getElem?_append_left (by omega)]
  | x :: L, i + 1, h, j, hj => by
    have h2 : (kvCells x).length = 2 := rfl
    simp only [List.flatMap_cons, List.getElem_cons_succ]
    rw [List.getElem?_append_right (by omega), h2, show (i + 1) * 2 + j - 2 = i * 2 + j by omega]
    exact kv_at L i (by simpa using h) j hj
/-- Its cells. -/
theorem Items.cells {w : World} {B g n c : Nat} {o : Nat} {L : List KV} (h : Items w B (.slice (some ⟨g, o, none⟩) n c) L) (i : Nat) (hi : i < L.length) :
    o = 0 ∧ n = L.length ∧ w.cell? ⟨g, i * 2, none⟩ = some (.string L[i].k) ∧ w.cell? ⟨g, i * 2 + 1, none⟩ = some (.string L[i].v) ∧ B ≤ g := by
  rcases h.2 with ⟨e, h0⟩ | ⟨g', cap, cur, e, hg', _⟩
  · cases e
  · simp only [Value.slice.injEq, Option.some.injEq, Addr.mk.injEq] at e
    obtain ⟨⟨rfl, rfl, _⟩, rfl, rfl⟩ := e
    have key : ∀ j v, j < 2 → (kvCells L[i])[j]? = some v → w.cell? ⟨g, i * 2 + j, none⟩ = some v := fun j v hj hv => by
      have := World.ownsRow.cells h (g := g) rfl (i * 2 + j) v (by rw [kv_at L i hi j hj]; exact hv)
      have ha : (⟨g, 0, none⟩ : Addr).add (i * 2 + j) = ⟨g, i * 2 + j, none⟩ := by unfold Addr.add; split <;> simp_all
      rw [← ha]; exact this
    exact ⟨rfl, rfl, key 0 _ (by omega) rfl, key 1 _ (by omega) rfl, hg'⟩
theorem info_item : (Tryz.prog.info? 89).map (fun i => (i.zero, i.size, i.bytes)) = some (some (.agg #[.string ⟨#[]⟩, .string ⟨#[]⟩]), 2, 32) := by kernel_rfl
theorem info_of {t : TypeId} {z : Value} {n b : Nat} (h : (Tryz.prog.info? t).map (fun i => (i.zero, i.size, i.bytes)) = some (some z, n, b)) : ∃ i, Tryz.prog.info? t = some i ∧ i.zero = some z ∧ i.size = n ∧ i.bytes = b := by
  cases hq : Tryz.prog.info? t with
  | none => rw [hq] at h; cases h
  | some i =>
    rw [hq] at h
    simp only [Option.map_some, Option.some.injEq, Prod.mk.injEq] at h
    exact ⟨i, rfl, h.1, h.2.1, h.2.2⟩
theorem grown_then {a b' c : World} {row : Option Nat} (h : a.grownBy b' none) (k : b'.grownBy c row) : a.grownBy c row :=
  ⟨k.os.trans h.os, k.tape.trans h.tape, k.output.trans h.output, Nat.le_trans h.size k.size, fun i hi hn => (k.block i (Nat.lt_of_lt_of_le hi h.size) hn).trans (h.block i hi (by simp))⟩
theorem Items.young {w : World} {B : Nat} {v : Value} {L : List KV} (h : Items w B v L) {k : Nat} (hk : w.heap.size ≤ k) : v.ownBlock ≠ some k := by
  rcases h.2 with ⟨rfl, _⟩ | ⟨g, cap, cur, rfl, _, hh, _⟩
  · simp [Value.ownBlock]
  · have := (Array.getElem?_eq_some_iff.1 hh).1
    simp [Value.ownBlock]
    omega
theorem Items.old {w : World} {B : Nat} {v : Value} {L : List KV} (h : Items w B v L) {k : Nat} (hk : k < B) : v.ownBlock ≠ some k := by
  rcases h.2 with ⟨rfl, _⟩ | ⟨g, cap, cur, rfl, hg, _⟩
  · simp [Value.ownBlock]
  · simp [Value.ownBlock]
    omega
/-- append of an item that has just been laid, in a region that draws. -/
theorem step_appI {ops : Array Oper} {o : Oper} {a : Act} {K : Act → World → Prop} {Q : Exit → Act → World → Prop} {E : Prop} {W : World} (hgd : o.guard = none) (s x : Operand)
    (ho : o.op = .call { callee := .builtin .append, args := #[s, x], argTypes := #[159, 159] })
    (B : Nat) (v : Value) (l : List KV) (hs : a.eval s = v) (hb : Items W B v l) (y : KV) (k c : Nat) (hx : a.eval x = .slice (some ⟨k, 0, none⟩) 1 c) (hk : k = W.heap.size)
    (hlen : l.length ≤ 1099511627776) (hB : B ≤ W.heap.size)
    (h : ∀ v' w', Items w' B v' (l ++ [y]) → Below B W w' → W.grownBy w' v.ownBlock → K (a.put o.dst v') w') : if Region.wanted o (yielded ops a.tmps) = true then Oper.wp Tryz.prog o a (W.alloc (itemO y)) K Q else E := by
  have hw : Region.wanted o (yielded ops a.tmps) = true := by simp [Region.wanted, hgd]
  rw [if_pos hw]
  obtain ⟨i0, hi, hz0, hz1, hz2⟩ := info_of info_item
  subst hk
  refine wp_append_own _ s x 159 ho B 89 i0 _ 2 32 Tryz.underlying159 hi hz0 hz1 hz2 rfl (by decide) v l.length (l.flatMap kvCells) hs (hb.alloc _) ⟨W.heap.size, 0, none⟩ 1 c (kvCells y) hx rfl ?_ ?_ (by unfold maxLen; omega) (by omega) (by simp; omega) ?_
  · intro j u hj
    match j, hj with
    | 0, hj => simp [kvCells] at hj; subst hj; simp [Addr.add]
    | 1, hj => simp [kvCells] at hj; subst hj; simp [Addr.add]
  · intro u hu
    simp [kvCells] at hu
    rcases hu with rfl | rfl <;> rfl
  · intro v' w' hown hg _
    refine h v' w' ?_ (((Below.refl B W).alloc hB _).trans ((hb.alloc _).below (by simp; omega) hg)) (grown_then (World.grownBy_alloc W _ none) hg)
    unfold Items
    rw [List.length_append, List.flatMap_append]
    simpa using hown
end Go.Proofs.YtoejgkcaamkanaaGreatDoor
