/- A predicate's text is read: parts between brackets. -/
import Derived.Test.YtdjlbfepddcmeaaGreatDoorQ33
set_option linter.unusedVariables false
set_option linter.unusedSimpArgs false
namespace Go.Proofs.YtdjlbfepddcmeaaGreatDoor
open Go.RowKit

def rdSize (r : Nat) (w : World) : Nat := match w.cell? ⟨r, 0, none⟩ with
  | some (.string s) => s.size
  | _ => 0
theorem RdL.size {r : Nat} {ac : Option Addr} {n cc : Nat} {l : List UInt8} {w : World} (h : RdL r ac n cc l w) : rdSize r w = l.length := by
  unfold rdSize
  rw [h.c0]
  show (⟨l.toArray⟩ : ByteArray).size = _
  rw [ba_size]
theorem mayP_two {cols : List Co} {n : Nat} {t : PT} (h : mayP cols (n + 1) t = true) (ho : t.op = 7 ∨ t.op = 8) : 2 ≤ t.parts.length := by
  rw [mayP, if_neg (by omega)] at h
  by_cases hz : t.col ≠ 0 ∨ t.d.zero = false
  · rw [if_pos hz] at h; cases h
  · rw [if_neg hz, if_pos ho] at h
    simp only [Bool.and_eq_true, decide_eq_true_eq] at h
    exact h.1.1

theorem lies_first {n r : Nat} {ac : Option Addr} {cc : Nat} {cols : List Co} (W rest : List UInt8) (op : Int) {ps' : List PT} {w w5 : World} {p0 : PT} {a : Option Addr} {c : Nat} {pa : Option Addr} {pc : Nat} {B : Nat}
    (hp : PredIs n (veil B w5) p0 a pa) (hrd : RdL r ac cols.length cc (tailK cols n W rest ps') w5) (ho : Only r w w5) (hz : w5.heap[w.heap.size]? = some zbox) (hzB : w.heap.size < B) (hB : B ≤ w5.heap.size) (hr : r < B) (hzr : w.heap.size ≠ r) :
    Lies n r ac cc cols W rest (p0 :: ps') op w B (w5.heap.size + 1) 1 [⟨p0, a, c, pa, pc⟩] w5.heap.size 1 ((w5.alloc (pbox p0 a c pa pc)).alloc (nbox 0 w5.heap.size 1 1)) := by
  have hal : Below w5.heap.size w5 ((w5.alloc (pbox p0 a c pa pc)).alloc (nbox 0 w5.heap.size 1 1)) := by go_grown
  refine ⟨rfl, World.ownsRow.alloc (World.ownsRow_lit w5 _ 1 hB (by decide) rfl) _, ?_, by omega, ?_, hrd.below hal, ho.below hal, (hal.block _ (by omega)).trans hz⟩
  · intro e he
    obtain rfl := List.mem_singleton.1 he
    refine hp.ext fun p v hpv => ?_
    obtain ⟨h1, h2⟩ := veil_cell hpv
    have hlt := World.block_lt_of_cell? w5 p h2
    exact cell_vb h1 (by omega) (by omega) ((hal.cell hlt).trans h2)
  · have := heap_alloc_new (w5.alloc (pbox p0 a c pa pc)) (nbox 0 w5.heap.size 1 1)
    simpa using this
set_option maxRecDepth 100000 in
set_option maxHeartbeats 1000000 in
theorem read_and (cols : List Co) (ac : Option Addr) (cc n : Nat) (hn8 : n < 8) (hcols : colsB cols = true) (hok : ReadOK cols ac cc n) (m : Nat) (w0 : World) (t : PT) (a0 pa0 : Option Addr) (r : Nat) (rest : List UInt8) (w : World) (hp : PredIs m w0 t a0 pa0) (hm : mayP cols (n + 1) t = true)
    (ho : t.op = 7) (h : RdL r ac cols.length cc (textP cols (n + 1) t ++ rest) w) (hc : ColIs (blank w r) ac cols) (hst : Stop rest) (hlen : (textP cols (n + 1) t ++ rest).length ≤ 4194304) (hG : Globs w) (h8 : 8 ≤ r) :
    Calls Tryz.prog 39 #[.pointer (some ⟨r, 0, none⟩), .int .i64 (n + 1 : Nat)] w (PrPost (n + 1) r ac cc cols rest t w) := by
  obtain ⟨hall, hp8, hops, hcol, hdz⟩ := mayP_parts hm (by omega)
  have hrl := h.lt
  have hrne : r ≠ w.heap.size := by omega
  have hb0 : Below w.heap.size w (w.alloc zbox) := by go_grown
  have hc1 : ColIs (blank (w.alloc zbox) r) ac cols := hc.ext (Only.of_below r hb0).ext
  have hbox : (w.alloc zbox).heap[w.heap.size]? = some zbox := heap_alloc_new w zbox
  have HB := Lib.hid (And.intro hbox (And.intro (Only.of_below r hb0) (And.intro (hG.below hb0) hc1)))
  have HCW := Lib.hid hc
  have HGW := Lib.hid hG
  have hn0 : (((n + 1 : Nat) : Int) == 0) = false := by rw [beq_eq_false_iff_ne]; omega
  have hzz : w.heap.size < (w.alloc zbox).heap.size := by simp
  have hzz' : w.heap.size ≤ (w.alloc zbox).heap.size := by simp
  have hd0 := da_zero hdz
  have h2 := mayP_two hm (.inl ho)
  obtain ⟨m, rfl⟩ : ∃ k, m = k + 1 := by
    cases m with
    | zero => exact hp.elim
    | succ k => exact ⟨k, rfl⟩
  rw [show textP cols (n + 1) t = [40] ++ Lib.join (t.parts.map (textP cols n)) [32, 97, 110, 100, 32] ++ [41] by rw [textP, if_neg (by omega), if_neg (by omega), if_pos ho]] at h hlen
  have hps := hp.parts
  have HK := Lib.hid (show ∀ (i : Nat) (hi : i < t.parts.length) (rest' : List UInt8) (W : World), RdL r ac cols.length cc (textP cols n t.parts[i] ++ rest') W → ColIs (blank W r) ac cols → Stop rest' → (textP cols n t.parts[i] ++ rest').length ≤ 4194304 → Globs W → Calls Tryz.prog 39 #[.pointer (some ⟨r, 0, none⟩), .int .i64 n] W (PrPost n r ac cc cols rest' t.parts[i] W) from fun i hi rest' W hr hcc hst' hlen' hg => by
    obtain ⟨rb, ro, -, a', c', pa', pc', -, hpi⟩ := hps.at_ i hi
    rw [List.all_eq_true] at hall
    exact hok m w0 _ a' pa' r rest' W hpi (hall _ (List.getElem_mem hi)) hr hcc hst' hlen' hg h8)
  have ht : t = .node 7 0 ⟨0, 0, ⟨#[]⟩, []⟩ t.parts := by
    obtain ⟨o', c', d', p'⟩ := t
    simp only [PT.op, PT.col, PT.d, PT.parts] at ho hcol hd0 ⊢
    rw [ho, hcol, hd0]
  generalize hpse : t.parts = ps at *
  subst ht
  clear hpse hps hp hm hall hcol hd0 hdz hops ho
  obtain ⟨p0, ps', rfl⟩ : ∃ p0 ps', ps = p0 :: ps' := by
    cases ps with
    | nil => simp at h2
    | cons x y => exact ⟨x, y, rfl⟩
  rw [show [40] ++ Lib.join ((p0 :: ps').map (textP cols n)) [32, 97, 110, 100, 32] ++ [41] ++ rest = 40 :: (textP cols n p0 ++ tailK cols n [32, 97, 110, 100, 32] rest ps') by rw [← join_tail]; simp] at h hlen
  have HLN := Lib.hid (show (textP cols n p0 ++ tailK cols n [32, 97, 110, 100, 32] rest ps').length ≤ 4194304 by rw [List.length_cons] at hlen; omega)
  have HS := Lib.hid (simple_no r ac cc cols _ (w.alloc zbox) (h.alloc zbox) hc1 hcols (fun k hk op h1 h6 => lead_none (name_len hcols k hk).1 (.inr (head_par _))))
  clear h hlen hc hG hbox hb0 hc1 hok
  generalize htx : textP cols n p0 ++ tailK cols n [32, 97, 110, 100, 32] rest ps' = TX at *
  have HTX := Lib.hid htx
  clear htx
  go_enter Tryz.func39, Tryz.ntmps39
  go_wp2_with fail
  refine HS.out.mono ?_
  rintro e w2 ⟨rfl, hr2, ho2⟩
  have hz2 := ho2.size
  simp at hz2
  have hb2 := (Below.heap_alloc w2 (pbox zeroP none 0 none 0) w.heap.size (by omega)).trans (ho2.heap HB.out.1 hrne.symm)
  have HT := Lib.hid (takes_no r ac cols.length cc ⟨#[116, 114, 117, 101]⟩ _ (w2.alloc (pbox zeroP none 0 none 0)) (hr2.alloc _) (by simp [List.isPrefixOf]))
  have HO2 := Lib.hid (Only.alloc (HB.out.2.1.trans ho2) (pbox zeroP none 0 none 0))
  clear ho2
  unfold pbox at *
  go_wp2_with fail
  refine HT.out.mono ?_
  rintro e w3 ⟨rfl, hr3, ho3⟩
  have hb3 := Only.heap ho3 hb2 hrne.symm
  go_wp2_with fail
  refine (takes_no r ac cols.length cc ⟨#[110, 111, 116, 32]⟩ _ w3 hr3 (by simp [List.isPrefixOf])).mono ?_
  rintro e w3' ⟨rfl, hr3', ho3'⟩
  have hb3' := Only.heap ho3' hb3 hrne.symm
  go_wp2_with fail
  refine (takes_yes r ac cols.length cc ⟨#[40]⟩ TX w3' hr3').mono ?_
  rintro e w4 ⟨rfl, hr4, ho4⟩
  have hb4 := Only.heap ho4 hb3' hrne.symm
  have hO4 : Only r w w4 := ((HO2.out.trans ho3).trans ho3').trans ho4
  have hz4 : w.heap.size < w4.heap.size := World.block_lt_of_cell? w4 ⟨w.heap.size, 0, none⟩ (box7 hb4).1.1
  rw [← HTX.out] at hr4 HLN
  go_wp2_with fail
  refine (HK.out 0 (by simp) (tailK cols n [32, 97, 110, 100, 32] rest ps') w4 hr4 (HCW.out.ext hO4.ext) (tail_stop cols n [32, 97, 110, 100, 32] rest ⟨_, rfl⟩ _) HLN.out (Globs.ext HGW.out (hO4.under (Nat.le_refl r) (by omega)) h8)).mono ?_
  rintro e w5 ⟨a, c, pa, pc, rfl, hpx, hr5, ho5⟩
  simp only [List.getElem_cons_zero] at hpx
  have hb5 := Only.heap ho5 hb4 hrne.symm
  have hO5 : Only r w w5 := hO4.trans ho5
  have hz5 : w4.heap.size ≤ w5.heap.size := ho5.size
  have HI := Lib.hid (lies_first [32, 97, 110, 100, 32] rest 7 (ps' := ps') (a := a) (c := c) (pa := pa) (pc := pc) hpx hr5 hO5 hb5 hz4 hz5 (hr4.lt) hrne.symm)
  have HLN2 := Lib.hid (show (tailK cols n [32, 97, 110, 100, 32] rest ps').length ≤ 4194304 by have := HLN.out; rw [List.length_append] at this; omega)
  clear hb2 hb3 hb3' hb4 hb5 hpx
  have hrB : r < w4.heap.size := hr4.lt
  have hzB : w.heap.size < w4.heap.size := hz4
  have hBq : w4.heap.size ≤ w5.heap.size + 1 := by omega
  unfold pv
  simp only [List.getElem_cons_zero]
  go_wp2
  generalize hBe : w4.heap.size = B at *
  generalize hqe : w5.heap.size + 1 = q at *
  generalize hWi : (w5.alloc (pbox p0 a c pa pc)).alloc (nbox 0 w5.heap.size 1 1) = wi at *
  go_loopw [46] (fun _ wr => ∃ (E : List PE) (g cap : Nat), 1 ≤ E.length ∧ E.length ≤ (p0 :: ps').length ∧ (tailK cols n [32, 97, 110, 100, 32] rest ((p0 :: ps').drop E.length)).length ≤ 4194304 ∧ Lies n r ac cc cols [32, 97, 110, 100, 32] rest (p0 :: ps') 7 w B q E.length E g cap wr)
    (fun _ wr => rdSize r wr)
  case atStart => exact ⟨[⟨p0, a, c, pa, pc⟩], w5.heap.size, 1, by simp, by simp, HLN2.out, HI.out⟩
  case round =>
    obtain ⟨E, g, cap, hk1, hk, hlen, hL⟩ := hrel
    generalize hPS : p0 :: ps' = ps at *
    by_cases hlt : E.length < ps.length
    · have hdr : tailK cols n [32, 97, 110, 100, 32] rest (ps.drop E.length) = [32, 97, 110, 100, 32] ++ (textP cols n ps[E.length] ++ tailK cols n [32, 97, 110, 100, 32] rest (ps.drop (E.length + 1))) := by rw [List.drop_eq_getElem_cons hlt, tailK]
      have hrd := hL.rd
      rw [hdr] at hrd hlen
      have HSZ := Lib.hid hrd.size
      have HLEN := Lib.hid (show (textP cols n ps[E.length] ++ tailK cols n [32, 97, 110, 100, 32] rest (ps.drop (E.length + 1))).length ≤ 4194304 by rw [List.length_append] at hlen; omega)
      have HT := Lib.hid (takes_no r ac cols.length cc ⟨#[41]⟩ _ wr hrd (by simp [List.isPrefixOf]))
      have hbx := hL.box
      have HLI := Lib.hid hL
      clear hL hlen hdr hrd
      have hqr : q ≠ r := by omega
      go_wp2_with fail
      refine HT.out.mono ?_
      rintro e w1 ⟨rfl, hr1, ho1⟩
      have hb1 := Only.heap ho1 hbx hqr
      clear hbx
      obtain ⟨ok, hb8, hb1⟩ : ∃ ok : Int, (ok != 8) = true ∧ w1.heap[q]? = some (nbox ok g E.length cap) := ⟨_, by split <;> rfl, hb1⟩
      obtain ⟨⟨k0, -, -, -, -, -, -⟩, -, -⟩ := nbox_cells hb1
      go_wp2_with fail
      refine (takes_yes r ac cols.length cc ⟨#[32, 97, 110, 100, 32]⟩ _ w1 hr1).mono ?_
      rintro e W2 ⟨rfl, hr2, ho2⟩
      have HR2 := Lib.hid hr2
      have HOr := Lib.hid (show Only r wr W2 from ho1.trans ho2)
      have hb2 := Only.heap ho2 hb1 hqr
      obtain ⟨⟨c0, -, -, -, -, -, -⟩, g0, g6⟩ := nbox_cells hb2
      clear hr2 ho2 hb2 ho1 hr1 hb1
      go_wp2
      have hmid := HLI.out.mid (w2 := W2) (op := 7) rfl HOr.out hrB hzB hBq hrne.symm
      have hrA : RdL r ac cols.length cc (textP cols n ps[E.length] ++ tailK cols n [32, 97, 110, 100, 32] rest (ps.drop (E.length + 1))) (W2.setCell ⟨q, 0, none⟩ (.int .i64 7)) := HR2.out.off ⟨q, 0, none⟩ (by show q ≠ r; omega) _
      generalize W2.setCell ⟨q, 0, none⟩ (.int .i64 7) = wA at *
      have hmd := hmid.drew
      have hrd : RdL r ac cols.length cc (textP cols n ps[E.length] ++ tailK cols n [32, 97, 110, 100, 32] rest (ps.drop (E.length + 1))) wA.drew := hrA.below (by go_grown)
      have hqA : q < wA.heap.size := World.block_lt_of_cell? wA ⟨q, 0, none⟩ (nbox_cells hmid.box).1.1
      have hgA := hmid.rows.base
      have HKC := Lib.hid (HK.out E.length hlt (tailK cols n [32, 97, 110, 100, 32] rest (ps.drop (E.length + 1))) wA.drew hrd (HCW.out.ext hmd.on.ext) (tail_stop cols n [32, 97, 110, 100, 32] rest ⟨_, rfl⟩ _) HLEN.out (Globs.ext HGW.out (hmd.on.under (Nat.le_refl r) (by omega)) h8))
      have k6 := (nbox_cells hmd.box).1.2.2.2.2.2.2
      have HMD := Lib.hid hmd
      have hzA : wA.drew.heap.size = wA.heap.size := rfl
      clear hmid hrA hmd hrd
      have cwn : IntKind.i64.wrap (n : Int) = (n : Int) := by rw [IntKind.wrap_i64]; omega
      go_region_law (first
        | (refine step_appP (by rfl) (.tmp 68) (.tmp 73) (by rfl) B g cap E (by rfl) HM5.out.rows ⟨ps[E.length], a, c, pa, pc⟩ _ 1 (by rfl) (by rfl) (by omega) (by omega) ?_; intro g' cap' w6 hr6 hg6 hor; have HL6 := Lib.hid (HM5.out.step hlt hk1 a c pa pc wA.heap.size HPX.out (by omega) HR5.out g' cap' hr6 hg6 hor hrB hzB hBq); have k6' : w6.cell? ⟨q, 6, none⟩ = some (.slice (some ⟨g, 0, none⟩) E.length cap) := (by refine (hg6.cell (cellA k5 _) ?_); simpa using fun e => HM5.out.gq e.symm); have f6' : w6.frozen? ⟨q, 6, none⟩ = false := ((World.frozen?_of_block (w := w5) (w' := w6) (a := ⟨q, 6, none⟩) ((hg6.block q (by simp; omega) (by simpa using fun e => HM5.out.gq e.symm)).trans (Below.heap_alloc w5 _ q z5))).trans (nbox_cells HM5.out.box).2.2))
        | (go_simp; (try rw [cwn]); go_at_call 39; refine HKC.out.mono ?_; rintro e w5 ⟨a, c, pa, pc, rfl, hpx, hr5, ho5⟩; have HM5 := Lib.hid (HMD.out.only ho5 hrB (by omega) (by omega)); have HPX := Lib.hid hpx; have HR5 := Lib.hid hr5; have k5 := (nbox_cells HM5.out.box).1.2.2.2.2.2.2; have z5 : q < w5.heap.size := (World.block_lt_of_cell? w5 _ k5); have y5 : ¬ q = w5.heap.size := (by omega); have zw5 : wA.heap.size ≤ w5.heap.size := ho5.size; clear hpx hr5 ho5; try unfold pv))
      all_goals
        go_wp2
        go_roundw
        case rel =>
          refine ⟨E ++ [⟨ps[E.length], a, c, pa, pc⟩], g', cap', by simp, by simp; omega, ?_, by have := HL6.out; simpa using this⟩
          have := HLEN.out
          rw [List.length_append] at this
          rw [List.length_append, List.length_cons, List.length_nil, Nat.zero_add]
          omega
        case measure =>
          rw [HSZ.out, HL6.out.rd.size]
          simp only [List.length_append, List.length_cons, List.length_nil]
          omega
    · have hke : E.length = ps.length := by omega
      have hrd := hL.rd
      rw [show tailK cols n [32, 97, 110, 100, 32] rest (ps.drop E.length) = 41 :: rest by rw [hke, List.drop_length]; rfl] at hrd
      have hbx := hL.box
      rw [if_neg (by omega)] at hbx
      have HLI := Lib.hid hL
      clear hL
      have hqr : q ≠ r := by omega
      go_wp2_with fail
      refine (takes_yes r ac cols.length cc ⟨#[41]⟩ rest wr hrd).mono ?_
      rintro e w1 ⟨rfl, hr1, ho1⟩
      have hb1 := Only.heap ho1 hbx hqr
      rw [hke] at hb1
      obtain ⟨⟨c0, c1, c2, c3, c4, c5, c6⟩, g0, g6⟩ := nbox_cells hb1
      obtain ⟨⟨e0, e1, e2, e3, e4, e5, e6⟩, f0, f1, f2, f3, f4, f5, f6⟩ := box7 (ho1.heap HLI.out.z hrne.symm)
      go_wp2
      (try simp only [Exit.inBlock, Exit.then])
      refine bodyPost_ret (v := pv (.node 7 0 ⟨0, 0, ⟨#[]⟩, []⟩ ps) none 0 (some ⟨g, 0, none⟩) cap) ?_ rfl ⟨none, 0, some ⟨g, 0, none⟩, cap, rfl, HLI.out.pred hke ho1 hrB hzB ⟨by omega, by omega⟩ hp8 _ _ _ _ _ _ _, hr1.put7 hrne.symm _ _ _ _ _ _ _, Only.put7 (HLI.out.on.trans ho1) (Nat.le_refl _) _ _ _ _ _ _ _⟩
      rw [results_cell1 rfl]
      go_simp
      exact ⟨rfl, rfl, rfl, rfl, rfl, rfl, rfl⟩
set_option maxRecDepth 100000 in
set_option maxHeartbeats 1000000 in
theorem read_or (cols : List Co) (ac : Option Addr) (cc n : Nat) (hn8 : n < 8) (hcols : colsB cols = true) (hok : ReadOK cols ac cc n) (m : Nat) (w0 : World) (t : PT) (a0 pa0 : Option Addr) (r : Nat) (rest : List UInt8) (w : World) (hp : PredIs m w0 t a0 pa0) (hm : mayP cols (n + 1) t = true)
    (ho : t.op = 8) (h : RdL r ac cols.length cc (textP cols (n + 1) t ++ rest) w) (hc : ColIs (blank w r) ac cols) (hst : Stop rest) (hlen : (textP cols (n + 1) t ++ rest).length ≤ 4194304) (hG : Globs w) (h8 : 8 ≤ r) :
    Calls Tryz.prog 39 #[.pointer (some ⟨r, 0, none⟩), .int .i64 (n + 1 : Nat)] w (PrPost (n + 1) r ac cc cols rest t w) := by
  obtain ⟨hall, hp8, hops, hcol, hdz⟩ := mayP_parts hm (by omega)
  have hrl := h.lt
  have hrne : r ≠ w.heap.size := by omega
  have hb0 : Below w.heap.size w (w.alloc zbox) := by go_grown
  have hc1 : ColIs (blank (w.alloc zbox) r) ac cols := hc.ext (Only.of_below r hb0).ext
  have hbox : (w.alloc zbox).heap[w.heap.size]? = some zbox := heap_alloc_new w zbox
  have HB := Lib.hid (And.intro hbox (And.intro (Only.of_below r hb0) (And.intro (hG.below hb0) hc1)))
  have HCW := Lib.hid hc
  have HGW := Lib.hid hG
  have hn0 : (((n + 1 : Nat) : Int) == 0) = false := by rw [beq_eq_false_iff_ne]; omega
  have hzz : w.heap.size < (w.alloc zbox).heap.size := by simp
  have hzz' : w.heap.size ≤ (w.alloc zbox).heap.size := by simp
  have hd0 := da_zero hdz
  have h2 := mayP_two hm (.inr ho)
  obtain ⟨m, rfl⟩ : ∃ k, m = k + 1 := by
    cases m with
    | zero => exact hp.elim
    | succ k => exact ⟨k, rfl⟩
  rw [show textP cols (n + 1) t = [40] ++ Lib.join (t.parts.map (textP cols n)) [32, 111, 114, 32] ++ [41] by rw [textP, if_neg (by omega), if_neg (by omega), if_neg (by omega), if_pos ho]] at h hlen
  have hps := hp.parts
  have HK := Lib.hid (show ∀ (i : Nat) (hi : i < t.parts.length) (rest' : List UInt8) (W : World), RdL r ac cols.length cc (textP cols n t.parts[i] ++ rest') W → ColIs (blank W r) ac cols → Stop rest' → (textP cols n t.parts[i] ++ rest').length ≤ 4194304 → Globs W → Calls Tryz.prog 39 #[.pointer (some ⟨r, 0, none⟩), .int .i64 n] W (PrPost n r ac cc cols rest' t.parts[i] W) from fun i hi rest' W hr hcc hst' hlen' hg => by
    obtain ⟨rb, ro, -, a', c', pa', pc', -, hpi⟩ := hps.at_ i hi
    rw [List.all_eq_true] at hall
    exact hok m w0 _ a' pa' r rest' W hpi (hall _ (List.getElem_mem hi)) hr hcc hst' hlen' hg h8)
  have ht : t = .node 8 0 ⟨0, 0, ⟨#[]⟩, []⟩ t.parts := by
    obtain ⟨o', c', d', p'⟩ := t
    simp only [PT.op, PT.col, PT.d, PT.parts] at ho hcol hd0 ⊢
    rw [ho, hcol, hd0]
  generalize hpse : t.parts = ps at *
  subst ht
  clear hpse hps hp hm hall hcol hd0 hdz hops ho
  obtain ⟨p0, ps', rfl⟩ : ∃ p0 ps', ps = p0 :: ps' := by
    cases ps with
    | nil => simp at h2
    | cons x y => exact ⟨x, y, rfl⟩
  rw [show [40] ++ Lib.join ((p0 :: ps').map (textP cols n)) [32, 111, 114, 32] ++ [41] ++ rest = 40 :: (textP cols n p0 ++ tailK cols n [32, 111, 114, 32] rest ps') by rw [← join_tail]; simp] at h hlen
  have HLN := Lib.hid (show (textP cols n p0 ++ tailK cols n [32, 111, 114, 32] rest ps').length ≤ 4194304 by rw [List.length_cons] at hlen; omega)
  have HS := Lib.hid (simple_no r ac cc cols _ (w.alloc zbox) (h.alloc zbox) hc1 hcols (fun k hk op h1 h6 => lead_none (name_len hcols k hk).1 (.inr (head_par _))))
  clear h hlen hc hG hbox hb0 hc1 hok
  generalize htx : textP cols n p0 ++ tailK cols n [32, 111, 114, 32] rest ps' = TX at *
  have HTX := Lib.hid htx
  clear htx
  go_enter Tryz.func39, Tryz.ntmps39
  go_wp2_with fail
  refine HS.out.mono ?_
  rintro e w2 ⟨rfl, hr2, ho2⟩
  have hz2 := ho2.size
  simp at hz2
  have hb2 := (Below.heap_alloc w2 (pbox zeroP none 0 none 0) w.heap.size (by omega)).trans (ho2.heap HB.out.1 hrne.symm)
  have HT := Lib.hid (takes_no r ac cols.length cc ⟨#[116, 114, 117, 101]⟩ _ (w2.alloc (pbox zeroP none 0 none 0)) (hr2.alloc _) (by simp [List.isPrefixOf]))
  have HO2 := Lib.hid (Only.alloc (HB.out.2.1.trans ho2) (pbox zeroP none 0 none 0))
  clear ho2
  unfold pbox at *
  go_wp2_with fail
  refine HT.out.mono ?_
  rintro e w3 ⟨rfl, hr3, ho3⟩
  have hb3 := Only.heap ho3 hb2 hrne.symm
  go_wp2_with fail
  refine (takes_no r ac cols.length cc ⟨#[110, 111, 116, 32]⟩ _ w3 hr3 (by simp [List.isPrefixOf])).mono ?_
  rintro e w3' ⟨rfl, hr3', ho3'⟩
  have hb3' := Only.heap ho3' hb3 hrne.symm
  go_wp2_with fail
  refine (takes_yes r ac cols.length cc ⟨#[40]⟩ TX w3' hr3').mono ?_
  rintro e w4 ⟨rfl, hr4, ho4⟩
  have hb4 := Only.heap ho4 hb3' hrne.symm
  have hO4 : Only r w w4 := ((HO2.out.trans ho3).trans ho3').trans ho4
  have hz4 : w.heap.size < w4.heap.size := World.block_lt_of_cell? w4 ⟨w.heap.size, 0, none⟩ (box7 hb4).1.1
  rw [← HTX.out] at hr4 HLN
  go_wp2_with fail
  refine (HK.out 0 (by simp) (tailK cols n [32, 111, 114, 32] rest ps') w4 hr4 (HCW.out.ext hO4.ext) (tail_stop cols n [32, 111, 114, 32] rest ⟨_, rfl⟩ _) HLN.out (Globs.ext HGW.out (hO4.under (Nat.le_refl r) (by omega)) h8)).mono ?_
  rintro e w5 ⟨a, c, pa, pc, rfl, hpx, hr5, ho5⟩
  simp only [List.getElem_cons_zero] at hpx
  have hb5 := Only.heap ho5 hb4 hrne.symm
  have hO5 : Only r w w5 := hO4.trans ho5
  have hz5 : w4.heap.size ≤ w5.heap.size := ho5.size
  have HI := Lib.hid (lies_first [32, 111, 114, 32] rest 8 (ps' := ps') (a := a) (c := c) (pa := pa) (pc := pc) hpx hr5 hO5 hb5 hz4 hz5 (hr4.lt) hrne.symm)
  have HLN2 := Lib.hid (show (tailK cols n [32, 111, 114, 32] rest ps').length ≤ 4194304 by have := HLN.out; rw [List.length_append] at this; omega)
  clear hb2 hb3 hb3' hb4 hb5 hpx
  have hrB : r < w4.heap.size := hr4.lt
  have hzB : w.heap.size < w4.heap.size := hz4
  have hBq : w4.heap.size ≤ w5.heap.size + 1 := by omega
  unfold pv
  simp only [List.getElem_cons_zero]
  go_wp2
  generalize hBe : w4.heap.size = B at *
  generalize hqe : w5.heap.size + 1 = q at *
  generalize hWi : (w5.alloc (pbox p0 a c pa pc)).alloc (nbox 0 w5.heap.size 1 1) = wi at *
  go_loopw [46] (fun _ wr => ∃ (E : List PE) (g cap : Nat), 1 ≤ E.length ∧ E.length ≤ (p0 :: ps').length ∧ (tailK cols n [32, 111, 114, 32] rest ((p0 :: ps').drop E.length)).length ≤ 4194304 ∧ Lies n r ac cc cols [32, 111, 114, 32] rest (p0 :: ps') 8 w B q E.length E g cap wr)
    (fun _ wr => rdSize r wr)
  case atStart => exact ⟨[⟨p0, a, c, pa, pc⟩], w5.heap.size, 1, by simp, by simp, HLN2.out, HI.out⟩
  case round =>
    obtain ⟨E, g, cap, hk1, hk, hlen, hL⟩ := hrel
    generalize hPS : p0 :: ps' = ps at *
    by_cases hlt : E.length < ps.length
    · have hdr : tailK cols n [32, 111, 114, 32] rest (ps.drop E.length) = [32, 111, 114, 32] ++ (textP cols n ps[E.length] ++ tailK cols n [32, 111, 114, 32] rest (ps.drop (E.length + 1))) := by rw [List.drop_eq_getElem_cons hlt, tailK]
      have hrd := hL.rd
      rw [hdr] at hrd hlen
      have HSZ := Lib.hid hrd.size
      have HLEN := Lib.hid (show (textP cols n ps[E.length] ++ tailK cols n [32, 111, 114, 32] rest (ps.drop (E.length + 1))).length ≤ 4194304 by rw [List.length_append] at hlen; omega)
      have HT := Lib.hid (takes_no r ac cols.length cc ⟨#[41]⟩ _ wr hrd (by simp [List.isPrefixOf]))
      have hbx := hL.box
      have HLI := Lib.hid hL
      clear hL hlen hdr hrd
      have hqr : q ≠ r := by omega
      go_wp2_with fail
      refine HT.out.mono ?_
      rintro e w1 ⟨rfl, hr1, ho1⟩
      have hb1 := Only.heap ho1 hbx hqr
      clear hbx
      by_cases hE1 : E.length = 1
      · rw [if_pos hE1] at hb1
        clear hE1
        obtain ⟨⟨k0, -, -, -, -, -, -⟩, -, -⟩ := nbox_cells hb1
        go_wp2_with fail
        refine (takes_no r ac cols.length cc ⟨#[32, 97, 110, 100, 32]⟩ _ w1 hr1 (by simp [List.isPrefixOf])).mono ?_
        rintro e w1' ⟨rfl, hr1', ho1'⟩
        have hb1' := Only.heap ho1' hb1 hqr
        replace ho1 : Only r wr w1' := ho1.trans ho1'
        clear hb1 hr1 k0 ho1'
        obtain ⟨⟨k0, -, -, -, -, -, -⟩, -, -⟩ := nbox_cells hb1'
        go_wp2_with fail
        refine (takes_yes r ac cols.length cc ⟨#[32, 111, 114, 32]⟩ _ w1' hr1').mono ?_
        rintro e W2 ⟨rfl, hr2, ho2⟩
        have HR2 := Lib.hid hr2
        have HOr := Lib.hid (show Only r wr W2 from ho1.trans ho2)
        have hb2 := Only.heap ho2 hb1' hqr
        obtain ⟨⟨c0, -, -, -, -, -, -⟩, g0, g6⟩ := nbox_cells hb2
        clear hr2 ho2 hb2 ho1 hr1' hb1'
        go_wp2
        have hmid := HLI.out.mid (w2 := W2) (op := 8) rfl HOr.out hrB hzB hBq hrne.symm
        have hrA : RdL r ac cols.length cc (textP cols n ps[E.length] ++ tailK cols n [32, 111, 114, 32] rest (ps.drop (E.length + 1))) (W2.setCell ⟨q, 0, none⟩ (.int .i64 8)) := HR2.out.off ⟨q, 0, none⟩ (by show q ≠ r; omega) _
        generalize W2.setCell ⟨q, 0, none⟩ (.int .i64 8) = wA at *
        have hmd := hmid.drew
        have hrd : RdL r ac cols.length cc (textP cols n ps[E.length] ++ tailK cols n [32, 111, 114, 32] rest (ps.drop (E.length + 1))) wA.drew := hrA.below (by go_grown)
        have hqA : q < wA.heap.size := World.block_lt_of_cell? wA ⟨q, 0, none⟩ (nbox_cells hmid.box).1.1
        have hgA := hmid.rows.base
        have HKC := Lib.hid (HK.out E.length hlt (tailK cols n [32, 111, 114, 32] rest (ps.drop (E.length + 1))) wA.drew hrd (HCW.out.ext hmd.on.ext) (tail_stop cols n [32, 111, 114, 32] rest ⟨_, rfl⟩ _) HLEN.out (Globs.ext HGW.out (hmd.on.under (Nat.le_refl r) (by omega)) h8))
        have k6 := (nbox_cells hmd.box).1.2.2.2.2.2.2
        have HMD := Lib.hid hmd
        have hzA : wA.drew.heap.size = wA.heap.size := rfl
        clear hmid hrA hmd hrd
        have cwn : IntKind.i64.wrap (n : Int) = (n : Int) := by rw [IntKind.wrap_i64]; omega
        go_region_law (first
          | (refine step_appP (by rfl) (.tmp 68) (.tmp 73) (by rfl) B g cap E (by rfl) HM5.out.rows ⟨ps[E.length], a, c, pa, pc⟩ _ 1 (by rfl) (by rfl) (by omega) (by omega) ?_; intro g' cap' w6 hr6 hg6 hor; have HL6 := Lib.hid (HM5.out.step hlt hk1 a c pa pc wA.heap.size HPX.out (by omega) HR5.out g' cap' hr6 hg6 hor hrB hzB hBq); have k6' : w6.cell? ⟨q, 6, none⟩ = some (.slice (some ⟨g, 0, none⟩) E.length cap) := (by refine (hg6.cell (cellA k5 _) ?_); simpa using fun e => HM5.out.gq e.symm); have f6' : w6.frozen? ⟨q, 6, none⟩ = false := ((World.frozen?_of_block (w := w5) (w' := w6) (a := ⟨q, 6, none⟩) ((hg6.block q (by simp; omega) (by simpa using fun e => HM5.out.gq e.symm)).trans (Below.heap_alloc w5 _ q z5))).trans (nbox_cells HM5.out.box).2.2))
          | (go_simp; (try rw [cwn]); go_at_call 39; refine HKC.out.mono ?_; rintro e w5 ⟨a, c, pa, pc, rfl, hpx, hr5, ho5⟩; have HM5 := Lib.hid (HMD.out.only ho5 hrB (by omega) (by omega)); have HPX := Lib.hid hpx; have HR5 := Lib.hid hr5; have k5 := (nbox_cells HM5.out.box).1.2.2.2.2.2.2; have z5 : q < w5.heap.size := (World.block_lt_of_cell? w5 _ k5); have y5 : ¬ q = w5.heap.size := (by omega); have zw5 : wA.heap.size ≤ w5.heap.size := ho5.size; clear hpx hr5 ho5; try unfold pv))
        all_goals
          go_wp2
          go_roundw
          case rel =>
            refine ⟨E ++ [⟨ps[E.length], a, c, pa, pc⟩], g', cap', by simp, by simp; omega, ?_, by have := HL6.out; simpa using this⟩
            have := HLEN.out
            rw [List.length_append] at this
            rw [List.length_append, List.length_cons, List.length_nil, Nat.zero_add]
            omega
          case measure =>
            rw [HSZ.out, HL6.out.rd.size]
            simp only [List.length_append, List.length_cons, List.length_nil]
            omega
      · rw [if_neg hE1] at hb1
        clear hE1
        obtain ⟨⟨k0, -, -, -, -, -, -⟩, -, -⟩ := nbox_cells hb1
        go_wp2_with fail
        refine (takes_yes r ac cols.length cc ⟨#[32, 111, 114, 32]⟩ _ w1 hr1).mono ?_
        rintro e W2 ⟨rfl, hr2, ho2⟩
        have HR2 := Lib.hid hr2
        have HOr := Lib.hid (show Only r wr W2 from ho1.trans ho2)
        have hb2 := Only.heap ho2 hb1 hqr
        obtain ⟨⟨c0, -, -, -, -, -, -⟩, g0, g6⟩ := nbox_cells hb2
        clear hr2 ho2 hb2 ho1 hr1 hb1
        go_wp2
        have hmid := HLI.out.mid (w2 := W2) (op := 8) rfl HOr.out hrB hzB hBq hrne.symm
        have hrA : RdL r ac cols.length cc (textP cols n ps[E.length] ++ tailK cols n [32, 111, 114, 32] rest (ps.drop (E.length + 1))) (W2.setCell ⟨q, 0, none⟩ (.int .i64 8)) := HR2.out.off ⟨q, 0, none⟩ (by show q ≠ r; omega) _
        generalize W2.setCell ⟨q, 0, none⟩ (.int .i64 8) = wA at *
        have hmd := hmid.drew
        have hrd : RdL r ac cols.length cc (textP cols n ps[E.length] ++ tailK cols n [32, 111, 114, 32] rest (ps.drop (E.length + 1))) wA.drew := hrA.below (by go_grown)
        have hqA : q < wA.heap.size := World.block_lt_of_cell? wA ⟨q, 0, none⟩ (nbox_cells hmid.box).1.1
        have hgA := hmid.rows.base
        have HKC := Lib.hid (HK.out E.length hlt (tailK cols n [32, 111, 114, 32] rest (ps.drop (E.length + 1))) wA.drew hrd (HCW.out.ext hmd.on.ext) (tail_stop cols n [32, 111, 114, 32] rest ⟨_, rfl⟩ _) HLEN.out (Globs.ext HGW.out (hmd.on.under (Nat.le_refl r) (by omega)) h8))
        have k6 := (nbox_cells hmd.box).1.2.2.2.2.2.2
        have HMD := Lib.hid hmd
        have hzA : wA.drew.heap.size = wA.heap.size := rfl
        clear hmid hrA hmd hrd
        have cwn : IntKind.i64.wrap (n : Int) = (n : Int) := by rw [IntKind.wrap_i64]; omega
        go_region_law (first
          | (refine step_appP (by rfl) (.tmp 68) (.tmp 73) (by rfl) B g cap E (by rfl) HM5.out.rows ⟨ps[E.length], a, c, pa, pc⟩ _ 1 (by rfl) (by rfl) (by omega) (by omega) ?_; intro g' cap' w6 hr6 hg6 hor; have HL6 := Lib.hid (HM5.out.step hlt hk1 a c pa pc wA.heap.size HPX.out (by omega) HR5.out g' cap' hr6 hg6 hor hrB hzB hBq); have k6' : w6.cell? ⟨q, 6, none⟩ = some (.slice (some ⟨g, 0, none⟩) E.length cap) := (by refine (hg6.cell (cellA k5 _) ?_); simpa using fun e => HM5.out.gq e.symm); have f6' : w6.frozen? ⟨q, 6, none⟩ = false := ((World.frozen?_of_block (w := w5) (w' := w6) (a := ⟨q, 6, none⟩) ((hg6.block q (by simp; omega) (by simpa using fun e => HM5.out.gq e.symm)).trans (Below.heap_alloc w5 _ q z5))).trans (nbox_cells HM5.out.box).2.2))
          | (go_simp; (try rw [cwn]); go_at_call 39; refine HKC.out.mono ?_; rintro e w5 ⟨a, c, pa, pc, rfl, hpx, hr5, ho5⟩; have HM5 := Lib.hid (HMD.out.only ho5 hrB (by omega) (by omega)); have HPX := Lib.hid hpx; have HR5 := Lib.hid hr5; have k5 := (nbox_cells HM5.out.box).1.2.2.2.2.2.2; have z5 : q < w5.heap.size := (World.block_lt_of_cell? w5 _ k5); have y5 : ¬ q = w5.heap.size := (by omega); have zw5 : wA.heap.size ≤ w5.heap.size := ho5.size; clear hpx hr5 ho5; try unfold pv))
        all_goals
          go_wp2
          go_roundw
          case rel =>
            refine ⟨E ++ [⟨ps[E.length], a, c, pa, pc⟩], g', cap', by simp, by simp; omega, ?_, by have := HL6.out; simpa using this⟩
            have := HLEN.out
            rw [List.length_append] at this
            rw [List.length_append, List.length_cons, List.length_nil, Nat.zero_add]
            omega
          case measure =>
            rw [HSZ.out, HL6.out.rd.size]
            simp only [List.length_append, List.length_cons, List.length_nil]
            omega
    · have hke : E.length = ps.length := by omega
      have hrd := hL.rd
      rw [show tailK cols n [32, 111, 114, 32] rest (ps.drop E.length) = 41 :: rest by rw [hke, List.drop_length]; rfl] at hrd
      have hbx := hL.box
      rw [if_neg (by omega)] at hbx
      have HLI := Lib.hid hL
      clear hL
      have hqr : q ≠ r := by omega
      go_wp2_with fail
      refine (takes_yes r ac cols.length cc ⟨#[41]⟩ rest wr hrd).mono ?_
      rintro e w1 ⟨rfl, hr1, ho1⟩
      have hb1 := Only.heap ho1 hbx hqr
      rw [hke] at hb1
      obtain ⟨⟨c0, c1, c2, c3, c4, c5, c6⟩, g0, g6⟩ := nbox_cells hb1
      obtain ⟨⟨e0, e1, e2, e3, e4, e5, e6⟩, f0, f1, f2, f3, f4, f5, f6⟩ := box7 (ho1.heap HLI.out.z hrne.symm)
      go_wp2
      (try simp only [Exit.inBlock, Exit.then])
      refine bodyPost_ret (v := pv (.node 8 0 ⟨0, 0, ⟨#[]⟩, []⟩ ps) none 0 (some ⟨g, 0, none⟩) cap) ?_ rfl ⟨none, 0, some ⟨g, 0, none⟩, cap, rfl, HLI.out.pred hke ho1 hrB hzB ⟨by omega, by omega⟩ hp8 _ _ _ _ _ _ _, hr1.put7 hrne.symm _ _ _ _ _ _ _, Only.put7 (HLI.out.on.trans ho1) (Nat.le_refl _) _ _ _ _ _ _ _⟩
      rw [results_cell1 rfl]
      go_simp
      exact ⟨rfl, rfl, rfl, rfl, rfl, rfl, rfl⟩
end Go.Proofs.YtdjlbfepddcmeaaGreatDoor
