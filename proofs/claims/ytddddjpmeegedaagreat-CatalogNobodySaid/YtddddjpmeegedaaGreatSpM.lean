/- A space on an empty disk: Open. -/
import Derived.Test.YtddddjpmeegedaaGreatSpL
import Derived.Maps.Range
set_option linter.unusedVariables false
set_option linter.unusedSimpArgs false
namespace Go.Proofs.YtddddjpmeegedaaGreat
open Go.RowKit

set_option maxRecDepth 100000 in
set_option maxHeartbeats 1000000 in
theorem bytes_first {w : World} {bs bp bd bat : Nat} (h : w.heap[bp]? = some (poolO bd (.slice none 0 0) bat)) (hm : MapIs w bat (fun _ => none)) (hd : DiskAt w bd) (hdp : bd ≠ bp) (hs : w.cell? ⟨bs, 1, none⟩ = some (.pointer (some ⟨bp, 0, none⟩))) (hsp : bs ≠ bp) (hsa : bs ≠ bat) :
    Calls Tryz.prog 56 #[.pointer (some ⟨bs, 0, none⟩), .int .i64 0] w fun e w' =>
      ∃ b cap bf bb c, e = .returned (.slice (some ⟨b, 0, none⟩) 512 cap) ∧ PageAt w' b cap zeros ∧ PoolAt w' bp bat bf bb c 0 ∧ w.heap.size ≤ bf ∧ w.heap.size ≤ bb ∧ Off (fun k => k = bp ∨ k = bat) w w' := by
  have HP := Lib.hid (pin_first h hm hd hdp)
  have hslt := World.block_lt_of_cell? w _ hs
  clear h hm hd
  go_enter Tryz.func56, Tryz.ntmps56
  go_wp2_with fail
  refine HP.out.mono ?_
  rintro e w1 ⟨rfl, bf, bb, c, h1, hyf, hyb, ho1⟩
  have hne : bs ≠ bf := by have h' : bs < w.heap.size := hslt; omega
  have hs1 := ho1.cell hs (by simp; exact ⟨hsp, hsa⟩)
  have HR := Lib.hid (pread_any h1 (by omega))
  have H1 := Lib.hid (And.intro h1 ho1)
  clear h1 ho1 HP hs
  go_wp2_with fail
  refine HR.out.mono ?_
  rintro e w2 ⟨rfl, hb2⟩
  obtain ⟨ch, late, hf⟩ := H1.out.1.f
  have h2 : PoolAt w2 bp bat bf bb c 1 := H1.out.1.turn (Off.of_below hb2) ⟨ch, late, (hb2.block bf H1.out.1.bf_lt).trans hf⟩
  have hs2 : w2.cell? ⟨bs, 1, none⟩ = some (.pointer (some ⟨bp, 0, none⟩)) := (hb2.cell (World.block_lt_of_cell? w1 _ hs1)).trans hs1
  have HU := Lib.hid (unpin_any h2)
  have H2 := Lib.hid (H1.out.2.trans (Off.of_below hb2 (F := fun _ => False)) (fun _ _ h => h.elim))
  clear h2 hb2 hf HR hs1
  go_wp2_with fail
  refine HU.out.mono ?_
  rintro e w3 ⟨rfl, h3, ho3⟩
  have hconv := Lib.run_convert_string_bytes (P := Tryz.prog) w3 9 74 5 ⟨zeros.toArray⟩ Tryz.underlying9 Tryz.underlying74 Tryz.underlying5
  have hz : (⟨zeros.toArray⟩ : ByteArray).size = 512 := by show zeros.toArray.size = 512; simp [zeros]
  rw [hz] at hconv
  have ho : Off (fun k => k = bp ∨ k = bat) w w3 := H2.out.trans ho3 (fun k hk e => by have e' : k = bf := e; omega)
  have H3 := Lib.hid (And.intro h3 ho)
  clear h3 ho3 HU hs2 ho
  go_wp2
  go_ret
  have hbc := below_conv w3 5 ⟨zeros.toArray⟩
  obtain ⟨ch, late, hf⟩ := H3.out.1.f
  exact ⟨w3.heap.size, grownCap w3 512 0 5, bf, bb, c, rfl, page_conv w3 zeros (by simp [zeros]), H3.out.1.turn (Off.of_below hbc) ⟨ch, late, (hbc.block bf H3.out.1.bf_lt).trans hf⟩, hyf, hyb, H3.out.2.trans (Off.of_below hbc (F := fun _ => False)) (fun _ _ h => h.elim)⟩

abbrev spaceO (bl bp : Nat) (now : Option Addr) (bfree : Nat) : Obj := .cells #[.pointer (some ⟨bl, 0, none⟩), .pointer (some ⟨bp, 0, none⟩), .pointer now, .map (some bfree)] 106

set_option maxRecDepth 100000 in
set_option maxHeartbeats 1000000 in
theorem open_any {w : World} {bd : Nat} (hd : DiskAt w bd) :
    Calls Tryz.prog 22 #[.pointer (some ⟨bd, 0, none⟩), .int .i64 16] w fun e w' =>
      ∃ bs bl bp bfree bat bf bb c, e = .returned (.tuple #[.pointer (some ⟨bs, 0, none⟩), .int .i64 0]) ∧ w'.heap[bs]? = some (spaceO bl bp none bfree) ∧ MapIs w' bfree (fun _ => none) ∧ PoolAt w' bp bat bf bb c 0 ∧ bs ≠ bf ∧ bfree ≠ bat ∧
        w.heap.size ≤ bs ∧ w.heap.size ≤ bp ∧ w.heap.size ≤ bfree ∧ w.heap.size ≤ bat ∧ w.heap.size ≤ bf ∧ w.heap.size ≤ bb ∧ Below w.heap.size w w' := by
  have HL := Lib.hid (logOpen_any hd)
  have H := Lib.hid hd
  clear hd
  go_enter Tryz.func22, Tryz.ntmps22
  go_wp2_with fail
  refine HL.out.mono ?_
  rintro e w1 ⟨bl, rfl, hb1, hyl, hlt1⟩
  have hmm := @run_makeMap Tryz.prog
  have hd1 := H.out.below hb1
  have hbX : Below w1.heap.size w1 ((w1.alloc (.map #[] 0)).alloc (.cells #[.pointer (some ⟨bl, 0, none⟩), .pointer none, .pointer none, .map (some w1.heap.size)] 106)) := by go_grown
  have HN := Lib.hid (poolNew_any (hd1.below hbX))
  have H1 := Lib.hid (And.intro hd1 (And.intro hb1 hbX))
  clear hd1 hb1 hbX HL
  go_wp2_with fail
  refine HN.out.mono ?_
  rintro e w2 ⟨bp, bat, rfl, hb2, hyp, hya, hpa, hp2, hm2⟩
  simp at hyp hya
  have hs2 : w2.heap[w1.heap.size + 1]? = some (.cells #[.pointer (some ⟨bl, 0, none⟩), .pointer none, .pointer none, .map (some w1.heap.size)] 106) := (hb2.block _ (by simp)).trans (by
    have := hnew (w1.alloc (.map #[] 0)) (.cells #[.pointer (some ⟨bl, 0, none⟩), .pointer none, .pointer none, .map (some w1.heap.size)] 106)
    simpa using this)
  have hf2 : MapIs w2 w1.heap.size (fun _ => none) := (MapIs.made w1).keep ((hb2.block _ (by simp; omega)).trans (Below.heap_alloc _ _ _ (by simp)))
  have s1 : w2.cell? ⟨w1.heap.size + 1, 1, none⟩ = some (.pointer none) := by unfold World.cell?; rw [hs2]; rfl
  have sf : w2.frozen? ⟨w1.heap.size + 1, 1, none⟩ = false := by unfold World.frozen?; rw [hs2]; rfl
  obtain ⟨W, hW⟩ : ∃ W, W = w2.setCell ⟨w1.heap.size + 1, 1, none⟩ (.pointer (some ⟨bp, 0, none⟩)) := ⟨_, rfl⟩
  have hsW : W.heap[w1.heap.size + 1]? = some (spaceO bl bp none w1.heap.size) := by rw [hW]; exact heap_set hs2
  have hoW : ∀ k, k ≠ w1.heap.size + 1 → W.heap[k]? = w2.heap[k]? := fun k hk => by rw [hW]; exact Below.heap_setCell _ _ _ _ hk
  have hbW : Below w1.heap.size w1 W := by rw [hW]; exact (H1.out.2.2.trans (hb2.mono (by simp; omega))).setCell (by simp) _
  have hpW := (hoW bp (by omega)).trans hp2
  have hmW := hm2.keep (hoW bat (by omega))
  have hfW := hf2.keep (hoW w1.heap.size (by omega))
  have hdW := H1.out.1.below hbW
  have hbd : bd < w1.heap.size := by have := World.block_lt_of_cell? w1 _ H1.out.1.c0; simpa using this
  have cW : W.cell? ⟨w1.heap.size + 1, 1, none⟩ = some (.pointer (some ⟨bp, 0, none⟩)) := by unfold World.cell?; rw [hsW]; rfl
  have HB := Lib.hid (bytes_first hpW hmW hdW (by omega) cW (by omega) (by omega))
  have HW := Lib.hid (And.intro hsW (And.intro hbW hfW))
  have hWs := Lib.hid hW
  clear hs2 hf2 hp2 hm2 hb2 hsW hoW hbW hpW hmW hfW hdW cW HN hW
  go_wp2
  rw [← hWs.out]
  go_loopw [43] (fun i wr => i = .int .i64 0 ∧ wr = W) (fun _ _ => 0)
  case atStart => exact ⟨rfl, rfl⟩
  case round =>
    obtain ⟨rfl, rfl⟩ := hrel
    clear s1 sf hmm
    go_wp2_with fail
    refine HB.out.mono ?_
    rintro e w4 ⟨b, cap, bf, bb, c, rfl, hpg, hpool, hyf, hyb, ho4⟩
    have hcap : 512 ≤ cap := by obtain ⟨_, _, _, _, _, h, _⟩ := hpg; exact h
    have HN := number_at hpg 4 (512 - 4) (cap - 4) (by omega) (by omega)
    rw [show num zeros 4 = 0 from by decide +kernel] at HN
    have HNh := Lib.hid HN
    have hzW := HW.out.2.1.size
    have h4 := (ho4.block (w1.heap.size + 1) (Array.getElem?_eq_some_iff.1 HW.out.1).1 (by simp; omega)).trans HW.out.1
    have hf4 := HW.out.2.2.keep (ho4.block w1.heap.size HW.out.2.2.lt (by simp; omega))
    have hb4 : Below w.heap.size w w4 := (H1.out.2.1.trans (HW.out.2.1.mono H1.out.2.1.size)).trans (ho4.below (fun k hk => by rcases hk with rfl | rfl <;> (have := H1.out.2.1.size; omega)) (by have := H1.out.2.1.size; omega))
    have H4 := Lib.hid (And.intro h4 (And.intro hf4 (And.intro hpool hb4)))
    clear HN h4 hf4 hpool hb4 ho4 hpg HB
    go_wp2_with fail
    refine HNh.out.mono ?_
    rintro e w5 ⟨rfl, hb5⟩
    have HB5 := Lib.hid hb5
    clear hb5 HNh
    go_wp2
    go_loopw [13] (fun i wr2 => i = .int .i64 0 ∧ wr2 = w5) (fun _ _ => 0)
    case atStart => exact ⟨rfl, rfl⟩
    case round =>
      obtain ⟨rfl, rfl⟩ := hrel
      go_wp2
      go_ret2
      have h := H4.out
      obtain ⟨ch, late, hf⟩ := h.2.2.1.f
      have hz1 := H1.out.2.1.size
      have hne : w1.heap.size + 1 ≠ bf := by have := (Array.getElem?_eq_some_iff.1 HW.out.1).1; omega
      exact ⟨w1.heap.size + 1, bl, bp, w1.heap.size, bat, bf, bb, c, rfl, (HB5.out.block _ (Array.getElem?_eq_some_iff.1 h.1).1).trans h.1, h.2.1.keep (HB5.out.block _ h.2.1.lt), h.2.2.1.turn (Off.of_below HB5.out) ⟨ch, late, (HB5.out.block bf h.2.2.1.bf_lt).trans hf⟩, hne, by omega, by omega, by omega, by omega, by omega, by omega, by omega, h.2.2.2.trans (HB5.out.mono h.2.2.2.size)⟩

theorem MapIs.range_empty {w : World} {b : Nat} (h : MapIs w b (fun _ => none)) {t e : TypeId} (ht : Tryz.prog.underlying t = some (.map 3 e)) :
    ∃ w', (Instr.range t (.map (some b))).run Tryz.prog w = .ok (.pointer (some ⟨w.heap.size, 0, none⟩)) w' ∧ Below w.heap.size w w' ∧ ∀ ty, (Instr.next (.pointer (some ⟨w.heap.size, 0, none⟩)) false ty).run Tryz.prog w' = .ok (.tuple #[.bool false]) w' := by
  obtain ⟨D, L, ho, htd, hn, hL, hs, hat, hhas⟩ := h
  have h0 : Maps.size D = 0 := by
    rw [hs]
    cases L with
    | nil => rfl
    | cons x l => exact absurd rfl ((hL x).1 List.mem_cons_self)
  obtain ⟨w', hrun, hr, hg, hz⟩ := ho.range lawI ht
  rw [h0] at hr
  refine ⟨w', hrun, ⟨hg.os, hg.tape, hg.output, hg.size, fun k hk => hg.block k hk (by simp)⟩, fun ty => ?_⟩
  rcases hr.next lawI ty with ⟨_, _, h⟩ | ⟨_, _, _, _, _, cnt', _, _, _, _, _, _, hlt, _⟩
  · exact h
  · omega
theorem sgiven_any {w : World} {bs bp : Nat} (s1 : w.cell? ⟨bs, 1, none⟩ = some (.pointer (some ⟨bp, 0, none⟩))) :
    Calls Tryz.prog 58 #[.pointer (some ⟨bs, 0, none⟩)] w fun e w' => e = .returned (.bool true) ∧ Below w.heap.size w w' := by
  go_enter Tryz.func58, Tryz.ntmps58
  go_wp2
  go_ret
  exact ⟨rfl, by first | exact Below.refl _ _ | go_grown⟩
set_option maxRecDepth 100000 in
set_option maxHeartbeats 1000000 in
theorem begin_any {w : World} {bs bl bp bfree : Nat} (h : w.heap[bs]? = some (spaceO bl bp none bfree)) (hm : MapIs w bfree (fun _ => none)) :
    Calls Tryz.prog 23 #[.pointer (some ⟨bs, 0, none⟩)] w fun e w' =>
      ∃ ba bm bg, e = .returned (.tuple #[.pointer (some ⟨ba, 0, none⟩), .int .i64 0]) ∧ w.heap.size ≤ ba ∧ w.heap.size ≤ bm ∧ w.heap.size ≤ bg ∧ bm ≠ bg ∧ w'.heap[ba]? = some (actO bs bm bg false) ∧ MapIs w' bm (fun _ => none) ∧ MapIs w' bg (fun _ => none) ∧
        w'.heap[bs]? = some (spaceO bl bp (some ⟨ba, 0, none⟩) bfree) ∧ Off (· = bs) w w' := by
  have hlt : bs < w.heap.size := (Array.getElem?_eq_some_iff.1 h).1
  have s1 : w.cell? ⟨bs, 1, none⟩ = some (.pointer (some ⟨bp, 0, none⟩)) := by unfold World.cell?; rw [h]; rfl
  have s2 : w.cell? ⟨bs, 2, none⟩ = some (.pointer none) := by unfold World.cell?; rw [h]; rfl
  have s3 : w.cell? ⟨bs, 3, none⟩ = some (.map (some bfree)) := by unfold World.cell?; rw [h]; rfl
  have sf : w.frozen? ⟨bs, 2, none⟩ = false := by unfold World.frozen?; rw [h]; rfl
  have HG := Lib.hid (sgiven_any s1)
  have hmm := @run_makeMap Tryz.prog
  have H := Lib.hid (And.intro h hm)
  clear h hm
  go_enter Tryz.func23, Tryz.ntmps23
  go_wp2_with fail
  refine HG.out.mono ?_
  rintro e w1 ⟨rfl, hb1⟩
  have hs1 := (hb1.block bs hlt).trans H.out.1
  have t1 : w1.cell? ⟨bs, 1, none⟩ = some (.pointer (some ⟨bp, 0, none⟩)) := by unfold World.cell?; rw [hs1]; rfl
  have t2 : w1.cell? ⟨bs, 2, none⟩ = some (.pointer none) := by unfold World.cell?; rw [hs1]; rfl
  have t3 : w1.cell? ⟨bs, 3, none⟩ = some (.map (some bfree)) := by unfold World.cell?; rw [hs1]; rfl
  have tf : w1.frozen? ⟨bs, 2, none⟩ = false := by unfold World.frozen?; rw [hs1]; rfl
  have hlt1 : bs < w1.heap.size := by have := hb1.size; omega
  have hl1 : bs < w1.heap.size + 1 := by omega
  have hl2 : bs < w1.heap.size + 1 + 1 := by omega
  have hl3 : bs < w1.heap.size + 1 + 1 + 1 := by omega
  have hm1 := H.out.2.keep (hb1.block bfree H.out.2.lt)
  have H1 := Lib.hid (And.intro hs1 (And.intro hm1 hb1))
  obtain ⟨X, hX⟩ : ∃ X, X = ((w1.alloc (.map #[] 0)).alloc (.map #[] 0)).alloc (actO bs w1.heap.size (w1.heap.size + 1) false) := ⟨_, rfl⟩
  have hbX : Below w1.heap.size w1 X := by rw [hX]; go_grown
  have hzX : X.heap.size = w1.heap.size + 1 + 1 + 1 := by rw [hX]; simp
  have haX : X.heap[w1.heap.size + 1 + 1]? = some (actO bs w1.heap.size (w1.heap.size + 1) false) := by
    rw [hX]
    have := hnew ((w1.alloc (.map #[] 0)).alloc (.map #[] 0)) (actO bs w1.heap.size (w1.heap.size + 1) false)
    simpa using this
  have hpX : MapIs X w1.heap.size (fun _ => none) := by
    rw [hX]
    exact (MapIs.made w1).keep ((Below.heap_alloc _ _ _ (by simp; omega)).trans (Below.heap_alloc _ _ _ (by simp)))
  have hgX : MapIs X (w1.heap.size + 1) (fun _ => none) := by
    rw [hX]
    have := MapIs.made (w1.alloc (.map #[] 0))
    have e : (w1.alloc (.map #[] 0)).heap.size = w1.heap.size + 1 := by simp
    rw [e] at this
    exact this.keep (Below.heap_alloc _ _ _ (by simp))
  obtain ⟨w2, hrange, hb2, hnext⟩ := (hm1.keep (hbX.block bfree hm1.lt)).range_empty (t := 98) (e := 4) Tryz.underlying98
  rw [hzX] at hrange hnext
  have hXh := Lib.hid hX
  have HX := Lib.hid (And.intro hbX (And.intro hzX (And.intro haX (And.intro hpX (And.intro hgX hb2)))))
  have hs2 := (hb2.block bs (by omega)).trans ((hbX.block bs hlt1).trans hs1)
  have u2 : w2.cell? ⟨bs, 2, none⟩ = some (.pointer none) := by unfold World.cell?; rw [hs2]; rfl
  have uf : w2.frozen? ⟨bs, 2, none⟩ = false := by unfold World.frozen?; rw [hs2]; rfl
  have HS2 := Lib.hid hs2
  rw [hX] at hrange
  clear hs1 hm1 hb1 HG s1 s2 s3 sf hX hbX hzX haX hpX hgX hb2 hs2
  go_wp2
  go_loopw [5] (fun _ wr => wr = w2) (fun _ _ => 0)
  case atStart => rfl
  case round =>
    obtain rfl := hrel
    go_wp2
    go_ret2
    have hz1 := H1.out.2.2.size
    have ho : Off (· = bs) wr (wr.setCell ⟨bs, 2, none⟩ (.pointer (some ⟨w1.heap.size + 1 + 1, 0, none⟩))) := ⟨rfl, rfl, rfl, by simp [World.setCell], fun k hk hne => Below.heap_setCell _ _ _ _ hne⟩
    have hb2 := HX.out.2.2.2.2.2
    have hzX := HX.out.2.1
    have ha := (hb2.block (w1.heap.size + 1 + 1) (by omega)).trans HX.out.2.2.1
    have hp := HX.out.2.2.2.1.keep (hb2.block w1.heap.size (by omega))
    have hg := HX.out.2.2.2.2.1.keep (hb2.block (w1.heap.size + 1) (by omega))
    refine ⟨w1.heap.size + 1 + 1, w1.heap.size, w1.heap.size + 1, rfl, by omega, by omega, by omega, by omega, (ho.block _ (Array.getElem?_eq_some_iff.1 ha).1 (fun e => by have e' : _ = bs := e; omega)).trans ha, hp.keep (ho.block _ hp.lt (fun e => by have e' : _ = bs := e; omega)), hg.keep (ho.block _ hg.lt (fun e => by have e' : _ = bs := e; omega)), heap_set HS2.out, ?_⟩
    exact (Off.of_below (H1.out.2.2.trans ((HX.out.1.trans (hb2.mono (by omega))).mono hz1))).trans ho (fun _ _ e => e)

theorem results_tmp4 {fn : Func} {t u v x : Tmp} (h : fn.results = #[.tmp t, .tmp u, .tmp v, .tmp x]) (tmps : Array Value) (P : Program) (w : World) :
    (results fn tmps).run P w = .ok (.tuple #[tmps.getD t undef, tmps.getD u undef, tmps.getD v undef, tmps.getD x undef]) w := by
  simp [results, h]

/-- What an action holds at its beginning, on an empty disk. -/
def raw0 : Raw := ⟨fun _ => zeros, fun _ => false, fun _ => false⟩
theorem cov0 (bs : Nat) : Cov (base0 bs) raw0 := by
  have e : raw0.total = 0 := by unfold Raw.total raw0; decide +kernel
  refine ⟨fun q h0 hq => .inr ?_, by rw [e]; omega⟩
  rw [e] at hq
  show q = 0
  omega

set_option maxRecDepth 100000 in
set_option maxHeartbeats 1000000 in
theorem begun_any (w : World) :
    Calls Tryz.prog 41 #[] w fun e w' =>
      ∃ bd bs ba F, e = .returned (.tuple #[.pointer (some ⟨bd, 0, none⟩), .pointer (some ⟨bs, 0, none⟩), .pointer (some ⟨ba, 0, none⟩), .bool true]) ∧ ActIs (base0 bs) w' ba F raw0 ∧ (∀ k, F k → w.heap.size ≤ k) ∧ Below w.heap.size w w' := by
  have HD := Lib.hid (diskNew_any w)
  go_enter Tryz.func41, Tryz.ntmps41
  go_wp2_with fail
  refine HD.out.mono ?_
  rintro e w1 ⟨rfl, hb1, hd1⟩
  have hD : DiskAt w1 w.heap.size := ⟨by unfold World.cell?; rw [hd1]; rfl, by unfold World.cell?; rw [hd1]; rfl, by unfold World.cell?; rw [hd1]; rfl⟩
  have HO := Lib.hid (open_any hD)
  have HB1 := Lib.hid hb1
  clear hb1 hd1 hD HD
  go_wp2_with fail
  refine HO.out.mono ?_
  rintro e w2 ⟨bs, bl, bp, bfree, bat, bf, bb, c, rfl, hs, hm, hp, hsf, hfa, y1, y2, y3, y4, y5, y6, hb2⟩
  have HBg := Lib.hid (begin_any hs hm)
  have H2 := Lib.hid (And.intro hs (And.intro hm (And.intro hp hb2)))
  clear hs hm hp hb2 HO
  go_wp2_with fail
  refine HBg.out.mono ?_
  rintro e w3 ⟨ba, bm, bg, rfl, z1, z2, z3, hmg, ha, hpm, hgm, hs3, ho3⟩
  have hz1 := HB1.out.size
  have hz2 := H2.out.2.2.2.size
  have hbelow : Below w.heap.size w w3 := (HB1.out.trans (H2.out.2.2.2.mono hz1)).trans (ho3.below (fun k e => by have e' : k = bs := e; omega) (by omega))
  have hpool : PoolAt w3 bp bat bf bb c 0 := by
    have h := H2.out.2.2.1
    have hne : ∀ k, k ≠ bs → k < w2.heap.size → w3.heap[k]? = w2.heap[k]? := fun k hk hlt => ho3.block k hlt hk
    obtain ⟨ch, late, hf⟩ := h.f
    have hsO := H2.out.1
    have n1 : bp ≠ bs := fun e => by
      have := h.p1
      rw [e] at this
      unfold World.cell? at this
      rw [hsO] at this
      cases this
    have n2 : bat ≠ bs := h.m.cells_ne hsO
    have n3 : bf ≠ bs := fun e => by rw [e, hsO] at hf; cases hf
    have n4 : bb ≠ bs := h.pg.ne hsO (by decide)
    exact ⟨ho3.cell h.p1 n1, ho3.cell h.p4 n1, h.m.keep (hne _ n2 h.m.lt), ⟨ch, late, (hne bf n3 h.bf_lt).trans hf⟩, h.pg.keep (hne _ n4 h.pg.lt), h.ne⟩
  have hs1 : w3.cell? ⟨bs, 1, none⟩ = some (.pointer (some ⟨bp, 0, none⟩)) := by unfold World.cell?; rw [hs3]; rfl
  have hlt2 : ∀ k, (k = bs ∨ k = bp ∨ k = bat ∨ k = bf ∨ k = bb) → k < w2.heap.size ∧ w1.heap.size ≤ k := fun k hk => by
    have h := H2.out.2.2.1
    rcases hk with rfl | rfl | rfl | rfl | rfl
    · exact ⟨(Array.getElem?_eq_some_iff.1 H2.out.1).1, y1⟩
    · exact ⟨World.block_lt_of_cell? w2 _ h.p1, y2⟩
    · exact ⟨h.m.lt, y4⟩
    · exact ⟨h.bf_lt, y5⟩
    · exact ⟨h.pg.lt, y6⟩
  have hA : ActAt (base0 bs) w3 ba bm bg (fun k => k = bs ∨ k = bp ∨ k = bat ∨ k = bf ∨ k = bb) raw0 (fun _ => 0) (fun _ => 0) :=
    ⟨ha, ⟨bp, bat, bf, bb, c, hpool, hs1, hsf, fun _ => Iff.rfl⟩, hpm, hgm, (fun p hp => by cases hp), fun p _ _ => rfl, (fun p hp => by cases hp), (fun p hp => by cases hp), (fun p _ hp => by cases hp), hmg,
      fun e => by have := (hlt2 _ e).1; omega, fun e => by have := (hlt2 _ e).1; omega, fun e => by have := (hlt2 _ e).1; omega, fun p hp => by cases hp⟩
  have HR := Lib.hid (show ActIs (base0 bs) w3 ba (foot ba bm bg (fun k => k = bs ∨ k = bp ∨ k = bat ∨ k = bf ∨ k = bb) raw0 (fun _ => 0)) raw0 ∧ (∀ k, foot ba bm bg (fun k => k = bs ∨ k = bp ∨ k = bat ∨ k = bf ∨ k = bb) raw0 (fun _ => 0) k → w.heap.size ≤ k) ∧ Below w.heap.size w w3 from
    ⟨⟨hA.bounded, bm, bg, _, _, _, hA, fun _ h => h⟩, (fun k hk => by
      rcases hk with rfl | rfl | rfl | hk | ⟨p, hp, _⟩
      · omega
      · omega
      · omega
      · have := (hlt2 k hk).2; omega
      · cases hp), hbelow⟩)
  clear hA hlt2 hs1 hpool hbelow ha hpm hgm hs3 ho3 HBg
  go_wp2
  refine bodyPost_ret (results_tmp4 rfl _ _ _) rfl ?_
  exact ⟨w.heap.size, bs, ba, _, rfl, HR.out⟩
end Go.Proofs.YtddddjpmeegedaaGreat
