/- Whether a predicate may be: the reference's, whole; its Check. -/
import Derived.Test.YtdjlbfepddcmeaaGreatDoorQ16
set_option linter.unusedVariables false
set_option linter.unusedSimpArgs false
namespace Go.Proofs.YtdjlbfepddcmeaaGreatDoor
open Go.RowKit

def RMayOK (cols : List Co) (n : Nat) : Prop :=
  ∀ (m : Nat) (t : PT) (a : Option Addr) (c : Nat) (pa : Option Addr) (pc : Nat) (ac : Option Addr) (cc : Nat) (w : World), PredIs m w t a pa → ColIs w ac cols → cols.length ≤ 140737488351232 →
    Calls Tryz.prog 26 #[pv t a c pa pc, .slice ac cols.length cc, .int .i64 (n : Nat)] w fun e w' => e = .returned (.bool (mayP cols n t)) ∧ Below w.heap.size w w'

theorem partsB_no {cols : List Co} {n lo hi : Nat} {ps : List PT} (j : Nat) (h : j < ps.length) (hj : mayP cols n ps[j] = false) : partsB cols n lo hi ps = false := by
  have := all_false_of ps (mayP cols n) j h hj
  simp [partsB, this]

set_option maxRecDepth 100000 in
set_option maxHeartbeats 4000000 in
theorem rmay_not (cols : List Co) (n m : Nat) (t : PT) (a : Option Addr) (c : Nat) (pa : Option Addr) (pc : Nat) (ac : Option Addr) (cc : Nat) (w : World) (hn : n < 8)
    (hp : PredIs m w t a pa) (hop : ¬ (1 ≤ t.op ∧ t.op ≤ 6)) (hz : t.col ≠ 0 ∨ t.d.zero = false) :
    Calls Tryz.prog 26 #[pv t a c pa pc, .slice ac cols.length cc, .int .i64 ((n + 1 : Nat) : Int)] w fun e w' => e = .returned (.bool (mayP cols (n + 1) t)) ∧ Below w.heap.size w w' := by
  have HF := Lib.hid (mayP_col (cols := cols) (n := n) hop hz)
  have hB3 : Below w.heap.size w (w.alloc (.cells #[.int .i64 t.op, .int .i64 t.col, .int .i64 t.d.k, .int .i64 t.d.n, .string t.d.s, .slice a t.d.l.length c, .slice pa t.parts.length pc] 27)) := by go_grown
  have HZ := Lib.hid (rzero_any m t a c pa pc _ (hp.below hB3))
  rw [show (decide (t.col = 0) && t.d.zero) = false by rcases hz with h | h <;> simp [h]] at HZ
  clear hp hz
  have hn0 : (((n + 1 : Nat) : Int) == 0) = false := beqI_f (by omega)
  unfold pv at *
  generalize ((n + 1 : Nat) : Int) = N at *
  generalize t.op = op at *
  generalize t.col = col at *
  generalize t.d = d at *
  generalize t.parts = ps at *
  by_cases h1 : 1 ≤ op
  · have h6 : ¬ op ≤ 6 := fun h => hop ⟨h1, h⟩
    clear hop
    go_enter Tryz.func26, Tryz.ntmps26
    go_wp2_with fail
    refine HZ.out.mono ?_
    rintro e w' ⟨rfl, hb'⟩
    go_wp2
    go_ret
    exact ⟨ret_bool HF.out.symm, hB3.trans (hb'.mono (by simp))⟩
  · clear hop
    go_enter Tryz.func26, Tryz.ntmps26
    go_wp2_with fail
    refine HZ.out.mono ?_
    rintro e w' ⟨rfl, hb'⟩
    go_wp2
    go_ret
    exact ⟨ret_bool HF.out.symm, hB3.trans (hb'.mono (by simp))⟩

set_option maxRecDepth 100000 in
set_option maxHeartbeats 4000000 in
theorem rmay_in7 (cols : List Co) (n m : Nat) (t : PT) (a : Option Addr) (c : Nat) (pa : Option Addr) (pc : Nat) (ac : Option Addr) (cc : Nat) (w : World) (hn : n < 8) (hok : RMayOK cols n)
    (hp : PredIs m w t a pa) (hr : ColIs w ac cols) (hl : cols.length ≤ 140737488351232) (hz : t.col = 0 ∧ t.d.zero = true) (ho : t.op = 7) :
    Calls Tryz.prog 26 #[pv t a c pa pc, .slice ac cols.length cc, .int .i64 ((n + 1 : Nat) : Int)] w fun e w' => e = .returned (.bool (partsB cols n 2 8 t.parts)) ∧ Below w.heap.size w w' := by
  have hB3 : Below w.heap.size w (w.alloc (.cells #[.int .i64 t.op, .int .i64 t.col, .int .i64 t.d.k, .int .i64 t.d.n, .string t.d.s, .slice a t.d.l.length c, .slice pa t.parts.length pc] 27)) := by go_grown
  have HZ := Lib.hid (rzero_any m t a c pa pc _ (hp.below hB3))
  rw [show (decide (t.col = 0) && t.d.zero) = true by simp [hz.1, hz.2]] at HZ
  clear hz
  obtain ⟨m, rfl⟩ : ∃ k, m = k + 1 := by
    cases m with
    | zero => exact hp.elim
    | succ k => exact ⟨k, rfl⟩
  have hps := hp.parts
  have hplen := hp.len
  clear hp
  have hn0 : (((n + 1 : Nat) : Int) == 0) = false := beqI_f (by omega)
  have hn1 : ((n + 1 : Nat) : Int) - 1 = (n : Int) := by omega
  have HN1 := Lib.hid hn1
  have hnlo : 0 ≤ ((n + 1 : Nat) : Int) := by omega
  have hnhi : ((n + 1 : Nat) : Int) ≤ 8 := by omega
  clear hn1
  unfold pv at *
  generalize ((n + 1 : Nat) : Int) = N at *
  generalize t.op = op at *
  generalize t.col = col at *
  generalize t.d = d at *
  generalize t.parts = ps at *
  subst ho
  generalize hPL : ps.length = pl at *
  have HPL := Lib.hid hPL
  clear hPL
  by_cases hlo : 2 ≤ pl
  · by_cases hhi : pl ≤ 8
    · have HR := Lib.hid (partsB_in (cols := cols) (n := n) (lo := 2) (hi := 8) (ps := ps) (by rw [HPL.out]; exact hlo) (by rw [HPL.out]; exact hhi))
      have e6 : decide ((pl : Int) < 2) = false := by rw [decide_eq_false_iff_not]; omega
      have e7 : decide ((8 : Int) < (pl : Int)) = false := by rw [decide_eq_false_iff_not]; omega
      go_enter Tryz.func26, Tryz.ntmps26
      go_wp2_with fail
      refine HZ.out.mono ?_
      rintro e w' ⟨rfl, hb'⟩
      have d0 := (hb'.cell (p := ⟨w.heap.size, 0, none⟩) (by simp)).trans (show _ = some (.int .i64 7) by go_simp)
      have d6 := (hb'.cell (p := ⟨w.heap.size, 6, none⟩) (by simp)).trans (show _ = some (.slice pa pl pc) by go_simp)
      have hb0 := hB3.trans (hb'.mono (by simp))
      have hz0 : w.heap.size < w'.heap.size := by have := hb'.size; simp at this; omega
      clear hb'
      go_wp2
      go_loopw [9] (fun i wr => ∃ j : Nat, j ≤ pl ∧ i = .int .i64 j ∧ (ps.take j).all (mayP cols n) = true ∧ Below w.heap.size w wr ∧ wr.cell? ⟨w.heap.size, 6, none⟩ = some (.slice pa pl pc) ∧ w.heap.size < wr.heap.size) (fun i _ => pl - (intOf i).toNat)
      case atStart => exact ⟨0, Nat.zero_le _, rfl, rfl, hb0, d6, hz0⟩
      case round =>
        clear d0 d6
        obtain ⟨j, hj, rfl, hall, hb, hc6, hzr⟩ := hrel
        have HA := Lib.hid hall
        clear hall
        by_cases hlt : j < pl
        · have hltp : j < ps.length := by rw [HPL.out]; exact hlt
          obtain ⟨b, off, rfl, a', c', pa', pc', hcell, hpi⟩ := (hps.below hb).at_ j hltp
          have HT := Lib.hid (all_take_succ ps (mayP cols n) j hltp)
          have HNO := Lib.hid (partsB_no (cols := cols) (n := n) (lo := 2) (hi := 8) j hltp)
          have HOK := Lib.hid (hok m ps[j] a' c' pa' pc' ac cc _ hpi (hr.below hb) hl)
          generalize ps[j] = x at *
          obtain ⟨g0, g1, g2, g3, g4, g5, g6⟩ := hcell
          clear hpi
          cases hx : mayP cols n x with
          | true =>
            rw [hx] at HOK
            go_wp2_with fail
            rw [HN1.out]
            refine HOK.out.mono ?_
            rintro e w2 ⟨rfl, hb2⟩
            have hc6' := (hb2.cell (p := ⟨w.heap.size, 6, none⟩) hzr).trans hc6
            have hz2 := hb2.size
            go_wp2
            go_roundw
            case rel => exact ⟨j + 1, by omega, by go_num, by rw [HT.out, HA.out, hx]; rfl, hb.trans (hb2.mono hb.size), hc6', by omega⟩
            case measure => simp [intOf]; omega
          | false =>
            have HF := Lib.hid (HNO.out hx)
            rw [hx] at HOK
            go_wp2_with fail
            rw [HN1.out]
            refine HOK.out.mono ?_
            rintro e w2 ⟨rfl, hb2⟩
            go_wp2
            go_ret
            exact ⟨ret_bool HF.out.symm, hb.trans (hb2.mono hb.size)⟩
        · go_wp2
          go_ret
          exact ⟨ret_bool (by rw [HR.out, ← HA.out, List.take_of_length_le (by rw [HPL.out]; omega)]), hb⟩
    · have HF := Lib.hid (partsB_hi (cols := cols) (n := n) (lo := 2) (hi := 8) (ps := ps) (by rw [HPL.out]; exact hhi))
      have e6 : decide ((pl : Int) < 2) = false := by rw [decide_eq_false_iff_not]; omega
      have e7 : decide ((8 : Int) < (pl : Int)) = true := by rw [decide_eq_true_iff]; omega
      go_enter Tryz.func26, Tryz.ntmps26
      go_wp2_with fail
      refine HZ.out.mono ?_
      rintro e w' ⟨rfl, hb'⟩
      have d0 := (hb'.cell (p := ⟨w.heap.size, 0, none⟩) (by simp)).trans (show _ = some (.int .i64 7) by go_simp)
      have d6 := (hb'.cell (p := ⟨w.heap.size, 6, none⟩) (by simp)).trans (show _ = some (.slice pa pl pc) by go_simp)
      have hb0 := hB3.trans (hb'.mono (by simp))
      have hz0 : w.heap.size < w'.heap.size := by have := hb'.size; simp at this; omega
      clear hb'
      go_wp2
      go_ret
      exact ⟨ret_bool HF.out.symm, hb0⟩
  · have HF := Lib.hid (partsB_lo (cols := cols) (n := n) (lo := 2) (hi := 8) (ps := ps) (by rw [HPL.out]; exact hlo))
    have e6 : decide ((pl : Int) < 2) = true := by rw [decide_eq_true_iff]; omega
    go_enter Tryz.func26, Tryz.ntmps26
    go_wp2_with fail
    refine HZ.out.mono ?_
    rintro e w' ⟨rfl, hb'⟩
    have d0 := (hb'.cell (p := ⟨w.heap.size, 0, none⟩) (by simp)).trans (show _ = some (.int .i64 7) by go_simp)
    have d6 := (hb'.cell (p := ⟨w.heap.size, 6, none⟩) (by simp)).trans (show _ = some (.slice pa pl pc) by go_simp)
    have hb0 := hB3.trans (hb'.mono (by simp))
    have hz0 : w.heap.size < w'.heap.size := by have := hb'.size; simp at this; omega
    clear hb'
    go_wp2
    go_ret
    exact ⟨ret_bool HF.out.symm, hb0⟩

set_option maxRecDepth 100000 in
set_option maxHeartbeats 4000000 in
theorem rmay_in8 (cols : List Co) (n m : Nat) (t : PT) (a : Option Addr) (c : Nat) (pa : Option Addr) (pc : Nat) (ac : Option Addr) (cc : Nat) (w : World) (hn : n < 8) (hok : RMayOK cols n)
    (hp : PredIs m w t a pa) (hr : ColIs w ac cols) (hl : cols.length ≤ 140737488351232) (hz : t.col = 0 ∧ t.d.zero = true) (ho : t.op = 8) :
    Calls Tryz.prog 26 #[pv t a c pa pc, .slice ac cols.length cc, .int .i64 ((n + 1 : Nat) : Int)] w fun e w' => e = .returned (.bool (partsB cols n 2 8 t.parts)) ∧ Below w.heap.size w w' := by
  have hB3 : Below w.heap.size w (w.alloc (.cells #[.int .i64 t.op, .int .i64 t.col, .int .i64 t.d.k, .int .i64 t.d.n, .string t.d.s, .slice a t.d.l.length c, .slice pa t.parts.length pc] 27)) := by go_grown
  have HZ := Lib.hid (rzero_any m t a c pa pc _ (hp.below hB3))
  rw [show (decide (t.col = 0) && t.d.zero) = true by simp [hz.1, hz.2]] at HZ
  clear hz
  obtain ⟨m, rfl⟩ : ∃ k, m = k + 1 := by
    cases m with
    | zero => exact hp.elim
    | succ k => exact ⟨k, rfl⟩
  have hps := hp.parts
  have hplen := hp.len
  clear hp
  have hn0 : (((n + 1 : Nat) : Int) == 0) = false := beqI_f (by omega)
  have hn1 : ((n + 1 : Nat) : Int) - 1 = (n : Int) := by omega
  have HN1 := Lib.hid hn1
  have hnlo : 0 ≤ ((n + 1 : Nat) : Int) := by omega
  have hnhi : ((n + 1 : Nat) : Int) ≤ 8 := by omega
  clear hn1
  unfold pv at *
  generalize ((n + 1 : Nat) : Int) = N at *
  generalize t.op = op at *
  generalize t.col = col at *
  generalize t.d = d at *
  generalize t.parts = ps at *
  subst ho
  generalize hPL : ps.length = pl at *
  have HPL := Lib.hid hPL
  clear hPL
  by_cases hlo : 2 ≤ pl
  · by_cases hhi : pl ≤ 8
    · have HR := Lib.hid (partsB_in (cols := cols) (n := n) (lo := 2) (hi := 8) (ps := ps) (by rw [HPL.out]; exact hlo) (by rw [HPL.out]; exact hhi))
      have e6 : decide ((pl : Int) < 2) = false := by rw [decide_eq_false_iff_not]; omega
      have e7 : decide ((8 : Int) < (pl : Int)) = false := by rw [decide_eq_false_iff_not]; omega
      go_enter Tryz.func26, Tryz.ntmps26
      go_wp2_with fail
      refine HZ.out.mono ?_
      rintro e w' ⟨rfl, hb'⟩
      have d0 := (hb'.cell (p := ⟨w.heap.size, 0, none⟩) (by simp)).trans (show _ = some (.int .i64 8) by go_simp)
      have d6 := (hb'.cell (p := ⟨w.heap.size, 6, none⟩) (by simp)).trans (show _ = some (.slice pa pl pc) by go_simp)
      have hb0 := hB3.trans (hb'.mono (by simp))
      have hz0 : w.heap.size < w'.heap.size := by have := hb'.size; simp at this; omega
      clear hb'
      go_wp2
      go_loopw [9] (fun i wr => ∃ j : Nat, j ≤ pl ∧ i = .int .i64 j ∧ (ps.take j).all (mayP cols n) = true ∧ Below w.heap.size w wr ∧ wr.cell? ⟨w.heap.size, 6, none⟩ = some (.slice pa pl pc) ∧ w.heap.size < wr.heap.size) (fun i _ => pl - (intOf i).toNat)
      case atStart => exact ⟨0, Nat.zero_le _, rfl, rfl, hb0, d6, hz0⟩
      case round =>
        clear d0 d6
        obtain ⟨j, hj, rfl, hall, hb, hc6, hzr⟩ := hrel
        have HA := Lib.hid hall
        clear hall
        by_cases hlt : j < pl
        · have hltp : j < ps.length := by rw [HPL.out]; exact hlt
          obtain ⟨b, off, rfl, a', c', pa', pc', hcell, hpi⟩ := (hps.below hb).at_ j hltp
          have HT := Lib.hid (all_take_succ ps (mayP cols n) j hltp)
          have HNO := Lib.hid (partsB_no (cols := cols) (n := n) (lo := 2) (hi := 8) j hltp)
          have HOK := Lib.hid (hok m ps[j] a' c' pa' pc' ac cc _ hpi (hr.below hb) hl)
          generalize ps[j] = x at *
          obtain ⟨g0, g1, g2, g3, g4, g5, g6⟩ := hcell
          clear hpi
          cases hx : mayP cols n x with
          | true =>
            rw [hx] at HOK
            go_wp2_with fail
            rw [HN1.out]
            refine HOK.out.mono ?_
            rintro e w2 ⟨rfl, hb2⟩
            have hc6' := (hb2.cell (p := ⟨w.heap.size, 6, none⟩) hzr).trans hc6
            have hz2 := hb2.size
            go_wp2
            go_roundw
            case rel => exact ⟨j + 1, by omega, by go_num, by rw [HT.out, HA.out, hx]; rfl, hb.trans (hb2.mono hb.size), hc6', by omega⟩
            case measure => simp [intOf]; omega
          | false =>
            have HF := Lib.hid (HNO.out hx)
            rw [hx] at HOK
            go_wp2_with fail
            rw [HN1.out]
            refine HOK.out.mono ?_
            rintro e w2 ⟨rfl, hb2⟩
            go_wp2
            go_ret
            exact ⟨ret_bool HF.out.symm, hb.trans (hb2.mono hb.size)⟩
        · go_wp2
          go_ret
          exact ⟨ret_bool (by rw [HR.out, ← HA.out, List.take_of_length_le (by rw [HPL.out]; omega)]), hb⟩
    · have HF := Lib.hid (partsB_hi (cols := cols) (n := n) (lo := 2) (hi := 8) (ps := ps) (by rw [HPL.out]; exact hhi))
      have e6 : decide ((pl : Int) < 2) = false := by rw [decide_eq_false_iff_not]; omega
      have e7 : decide ((8 : Int) < (pl : Int)) = true := by rw [decide_eq_true_iff]; omega
      go_enter Tryz.func26, Tryz.ntmps26
      go_wp2_with fail
      refine HZ.out.mono ?_
      rintro e w' ⟨rfl, hb'⟩
      have d0 := (hb'.cell (p := ⟨w.heap.size, 0, none⟩) (by simp)).trans (show _ = some (.int .i64 8) by go_simp)
      have d6 := (hb'.cell (p := ⟨w.heap.size, 6, none⟩) (by simp)).trans (show _ = some (.slice pa pl pc) by go_simp)
      have hb0 := hB3.trans (hb'.mono (by simp))
      have hz0 : w.heap.size < w'.heap.size := by have := hb'.size; simp at this; omega
      clear hb'
      go_wp2
      go_ret
      exact ⟨ret_bool HF.out.symm, hb0⟩
  · have HF := Lib.hid (partsB_lo (cols := cols) (n := n) (lo := 2) (hi := 8) (ps := ps) (by rw [HPL.out]; exact hlo))
    have e6 : decide ((pl : Int) < 2) = true := by rw [decide_eq_true_iff]; omega
    go_enter Tryz.func26, Tryz.ntmps26
    go_wp2_with fail
    refine HZ.out.mono ?_
    rintro e w' ⟨rfl, hb'⟩
    have d0 := (hb'.cell (p := ⟨w.heap.size, 0, none⟩) (by simp)).trans (show _ = some (.int .i64 8) by go_simp)
    have d6 := (hb'.cell (p := ⟨w.heap.size, 6, none⟩) (by simp)).trans (show _ = some (.slice pa pl pc) by go_simp)
    have hb0 := hB3.trans (hb'.mono (by simp))
    have hz0 : w.heap.size < w'.heap.size := by have := hb'.size; simp at this; omega
    clear hb'
    go_wp2
    go_ret
    exact ⟨ret_bool HF.out.symm, hb0⟩

set_option maxRecDepth 100000 in
set_option maxHeartbeats 4000000 in
theorem rmay_in9 (cols : List Co) (n m : Nat) (t : PT) (a : Option Addr) (c : Nat) (pa : Option Addr) (pc : Nat) (ac : Option Addr) (cc : Nat) (w : World) (hn : n < 8) (hok : RMayOK cols n)
    (hp : PredIs m w t a pa) (hr : ColIs w ac cols) (hl : cols.length ≤ 140737488351232) (hz : t.col = 0 ∧ t.d.zero = true) (ho : t.op = 9) :
    Calls Tryz.prog 26 #[pv t a c pa pc, .slice ac cols.length cc, .int .i64 ((n + 1 : Nat) : Int)] w fun e w' => e = .returned (.bool (partsB cols n 1 1 t.parts)) ∧ Below w.heap.size w w' := by
  have hB3 : Below w.heap.size w (w.alloc (.cells #[.int .i64 t.op, .int .i64 t.col, .int .i64 t.d.k, .int .i64 t.d.n, .string t.d.s, .slice a t.d.l.length c, .slice pa t.parts.length pc] 27)) := by go_grown
  have HZ := Lib.hid (rzero_any m t a c pa pc _ (hp.below hB3))
  rw [show (decide (t.col = 0) && t.d.zero) = true by simp [hz.1, hz.2]] at HZ
  clear hz
  obtain ⟨m, rfl⟩ : ∃ k, m = k + 1 := by
    cases m with
    | zero => exact hp.elim
    | succ k => exact ⟨k, rfl⟩
  have hps := hp.parts
  have hplen := hp.len
  clear hp
  have hn0 : (((n + 1 : Nat) : Int) == 0) = false := beqI_f (by omega)
  have hn1 : ((n + 1 : Nat) : Int) - 1 = (n : Int) := by omega
  have HN1 := Lib.hid hn1
  have hnlo : 0 ≤ ((n + 1 : Nat) : Int) := by omega
  have hnhi : ((n + 1 : Nat) : Int) ≤ 8 := by omega
  clear hn1
  unfold pv at *
  generalize ((n + 1 : Nat) : Int) = N at *
  generalize t.op = op at *
  generalize t.col = col at *
  generalize t.d = d at *
  generalize t.parts = ps at *
  subst ho
  generalize hPL : ps.length = pl at *
  have HPL := Lib.hid hPL
  clear hPL
  by_cases hlo : 1 ≤ pl
  · by_cases hhi : pl ≤ 1
    · have HR := Lib.hid (partsB_in (cols := cols) (n := n) (lo := 1) (hi := 1) (ps := ps) (by rw [HPL.out]; exact hlo) (by rw [HPL.out]; exact hhi))
      obtain rfl : pl = 1 := by omega
      skip
      go_enter Tryz.func26, Tryz.ntmps26
      go_wp2_with fail
      refine HZ.out.mono ?_
      rintro e w' ⟨rfl, hb'⟩
      have d0 := (hb'.cell (p := ⟨w.heap.size, 0, none⟩) (by simp)).trans (show _ = some (.int .i64 9) by go_simp)
      have d6 := (hb'.cell (p := ⟨w.heap.size, 6, none⟩) (by simp)).trans (show _ = some (.slice pa 1 pc) by go_simp)
      have hb0 := hB3.trans (hb'.mono (by simp))
      have hz0 : w.heap.size < w'.heap.size := by have := hb'.size; simp at this; omega
      clear hb'
      go_wp2
      go_loopw [9] (fun i wr => ∃ j : Nat, j ≤ 1 ∧ i = .int .i64 j ∧ (ps.take j).all (mayP cols n) = true ∧ Below w.heap.size w wr ∧ wr.cell? ⟨w.heap.size, 6, none⟩ = some (.slice pa 1 pc) ∧ w.heap.size < wr.heap.size) (fun i _ => 1 - (intOf i).toNat)
      case atStart => exact ⟨0, Nat.zero_le _, rfl, rfl, hb0, d6, hz0⟩
      case round =>
        clear d0 d6
        obtain ⟨j, hj, rfl, hall, hb, hc6, hzr⟩ := hrel
        have HA := Lib.hid hall
        clear hall
        by_cases hlt : j < 1
        · have hltp : j < ps.length := by rw [HPL.out]; exact hlt
          obtain ⟨b, off, rfl, a', c', pa', pc', hcell, hpi⟩ := (hps.below hb).at_ j hltp
          have HT := Lib.hid (all_take_succ ps (mayP cols n) j hltp)
          have HNO := Lib.hid (partsB_no (cols := cols) (n := n) (lo := 1) (hi := 1) j hltp)
          have HOK := Lib.hid (hok m ps[j] a' c' pa' pc' ac cc _ hpi (hr.below hb) hl)
          generalize ps[j] = x at *
          obtain ⟨g0, g1, g2, g3, g4, g5, g6⟩ := hcell
          clear hpi
          cases hx : mayP cols n x with
          | true =>
            rw [hx] at HOK
            go_wp2_with fail
            rw [HN1.out]
            refine HOK.out.mono ?_
            rintro e w2 ⟨rfl, hb2⟩
            have hc6' := (hb2.cell (p := ⟨w.heap.size, 6, none⟩) hzr).trans hc6
            have hz2 := hb2.size
            go_wp2
            go_roundw
            case rel => exact ⟨j + 1, by omega, by go_num, by rw [HT.out, HA.out, hx]; rfl, hb.trans (hb2.mono hb.size), hc6', by omega⟩
            case measure => simp [intOf]; omega
          | false =>
            have HF := Lib.hid (HNO.out hx)
            rw [hx] at HOK
            go_wp2_with fail
            rw [HN1.out]
            refine HOK.out.mono ?_
            rintro e w2 ⟨rfl, hb2⟩
            go_wp2
            go_ret
            exact ⟨ret_bool HF.out.symm, hb.trans (hb2.mono hb.size)⟩
        · go_wp2
          go_ret
          exact ⟨ret_bool (by rw [HR.out, ← HA.out, List.take_of_length_le (by rw [HPL.out]; omega)]), hb⟩
    · have HF := Lib.hid (partsB_hi (cols := cols) (n := n) (lo := 1) (hi := 1) (ps := ps) (by rw [HPL.out]; exact hhi))
      have e6 : ((pl : Int) != 1) = true := bneI_t (by omega)
      skip
      go_enter Tryz.func26, Tryz.ntmps26
      go_wp2_with fail
      refine HZ.out.mono ?_
      rintro e w' ⟨rfl, hb'⟩
      have d0 := (hb'.cell (p := ⟨w.heap.size, 0, none⟩) (by simp)).trans (show _ = some (.int .i64 9) by go_simp)
      have d6 := (hb'.cell (p := ⟨w.heap.size, 6, none⟩) (by simp)).trans (show _ = some (.slice pa pl pc) by go_simp)
      have hb0 := hB3.trans (hb'.mono (by simp))
      have hz0 : w.heap.size < w'.heap.size := by have := hb'.size; simp at this; omega
      clear hb'
      go_wp2
      go_ret
      exact ⟨ret_bool HF.out.symm, hb0⟩
  · have HF := Lib.hid (partsB_lo (cols := cols) (n := n) (lo := 1) (hi := 1) (ps := ps) (by rw [HPL.out]; exact hlo))
    obtain rfl : pl = 0 := by omega
    go_enter Tryz.func26, Tryz.ntmps26
    go_wp2_with fail
    refine HZ.out.mono ?_
    rintro e w' ⟨rfl, hb'⟩
    have d0 := (hb'.cell (p := ⟨w.heap.size, 0, none⟩) (by simp)).trans (show _ = some (.int .i64 9) by go_simp)
    have d6 := (hb'.cell (p := ⟨w.heap.size, 6, none⟩) (by simp)).trans (show _ = some (.slice pa 0 pc) by go_simp)
    have hb0 := hB3.trans (hb'.mono (by simp))
    have hz0 : w.heap.size < w'.heap.size := by have := hb'.size; simp at this; omega
    clear hb'
    go_wp2
    go_ret
    exact ⟨ret_bool HF.out.symm, hb0⟩

set_option maxRecDepth 100000 in
set_option maxHeartbeats 4000000 in
theorem rmay_in10 (cols : List Co) (n m : Nat) (t : PT) (a : Option Addr) (c : Nat) (pa : Option Addr) (pc : Nat) (ac : Option Addr) (cc : Nat) (w : World) (hn : n < 8)
    (hp : PredIs m w t a pa) (hr : ColIs w ac cols) (hl : cols.length ≤ 140737488351232) (hz : t.col = 0 ∧ t.d.zero = true) (ho : t.op = 10) :
    Calls Tryz.prog 26 #[pv t a c pa pc, .slice ac cols.length cc, .int .i64 ((n + 1 : Nat) : Int)] w fun e w' => e = .returned (.bool (decide (t.parts.length = 0))) ∧ Below w.heap.size w w' := by
  have hB3 : Below w.heap.size w (w.alloc (.cells #[.int .i64 t.op, .int .i64 t.col, .int .i64 t.d.k, .int .i64 t.d.n, .string t.d.s, .slice a t.d.l.length c, .slice pa t.parts.length pc] 27)) := by go_grown
  have HZ := Lib.hid (rzero_any m t a c pa pc _ (hp.below hB3))
  rw [show (decide (t.col = 0) && t.d.zero) = true by simp [hz.1, hz.2]] at HZ
  clear hz
  obtain ⟨m, rfl⟩ : ∃ k, m = k + 1 := by
    cases m with
    | zero => exact hp.elim
    | succ k => exact ⟨k, rfl⟩
  have hps := hp.parts
  have hplen := hp.len
  clear hp
  have hn0 : (((n + 1 : Nat) : Int) == 0) = false := beqI_f (by omega)
  have hn1 : ((n + 1 : Nat) : Int) - 1 = (n : Int) := by omega
  have HN1 := Lib.hid hn1
  have hnlo : 0 ≤ ((n + 1 : Nat) : Int) := by omega
  have hnhi : ((n + 1 : Nat) : Int) ≤ 8 := by omega
  clear hn1
  unfold pv at *
  generalize ((n + 1 : Nat) : Int) = N at *
  generalize t.op = op at *
  generalize t.col = col at *
  generalize t.d = d at *
  generalize t.parts = ps at *
  subst ho
  generalize hPL : ps.length = pl at *
  clear hPL
  by_cases h0 : pl = 0
  · subst h0
    go_enter Tryz.func26, Tryz.ntmps26
    go_wp2_with fail
    refine HZ.out.mono ?_
    rintro e w' ⟨rfl, hb'⟩
    have d0 := (hb'.cell (p := ⟨w.heap.size, 0, none⟩) (by simp)).trans (show _ = some (.int .i64 10) by go_simp)
    have d6 := (hb'.cell (p := ⟨w.heap.size, 6, none⟩) (by simp)).trans (show _ = some (.slice pa 0 pc) by go_simp)
    have hb0 := hB3.trans (hb'.mono (by simp))
    have hz0 : w.heap.size < w'.heap.size := by have := hb'.size; simp at this; omega
    clear hb'
    go_wp2
    go_ret
    exact ⟨rfl, hb0⟩
  · have e0 : ((pl : Int) == 0) = false := beqI_f (by omega)
    go_enter Tryz.func26, Tryz.ntmps26
    go_wp2_with fail
    refine HZ.out.mono ?_
    rintro e w' ⟨rfl, hb'⟩
    have d0 := (hb'.cell (p := ⟨w.heap.size, 0, none⟩) (by simp)).trans (show _ = some (.int .i64 10) by go_simp)
    have d6 := (hb'.cell (p := ⟨w.heap.size, 6, none⟩) (by simp)).trans (show _ = some (.slice pa pl pc) by go_simp)
    have hb0 := hB3.trans (hb'.mono (by simp))
    have hz0 : w.heap.size < w'.heap.size := by have := hb'.size; simp at this; omega
    clear hb'
    go_wp2
    go_ret
    exact ⟨ret_bool (by simp [h0]), hb0⟩

set_option maxRecDepth 100000 in
set_option maxHeartbeats 4000000 in
theorem rmay_other (cols : List Co) (n m : Nat) (t : PT) (a : Option Addr) (c : Nat) (pa : Option Addr) (pc : Nat) (ac : Option Addr) (cc : Nat) (w : World) (hn : n < 8)
    (hp : PredIs m w t a pa) (hr : ColIs w ac cols) (hl : cols.length ≤ 140737488351232) (hz : t.col = 0 ∧ t.d.zero = true) (ho : ¬ (1 ≤ t.op ∧ t.op ≤ 6)) (h7 : ¬ t.op = 7) (h8 : ¬ t.op = 8) (h9 : ¬ t.op = 9) (h10 : ¬ t.op = 10) :
    Calls Tryz.prog 26 #[pv t a c pa pc, .slice ac cols.length cc, .int .i64 ((n + 1 : Nat) : Int)] w fun e w' => e = .returned (.bool (false)) ∧ Below w.heap.size w w' := by
  have hB3 : Below w.heap.size w (w.alloc (.cells #[.int .i64 t.op, .int .i64 t.col, .int .i64 t.d.k, .int .i64 t.d.n, .string t.d.s, .slice a t.d.l.length c, .slice pa t.parts.length pc] 27)) := by go_grown
  have HZ := Lib.hid (rzero_any m t a c pa pc _ (hp.below hB3))
  rw [show (decide (t.col = 0) && t.d.zero) = true by simp [hz.1, hz.2]] at HZ
  clear hz
  obtain ⟨m, rfl⟩ : ∃ k, m = k + 1 := by
    cases m with
    | zero => exact hp.elim
    | succ k => exact ⟨k, rfl⟩
  have hps := hp.parts
  have hplen := hp.len
  clear hp
  have hn0 : (((n + 1 : Nat) : Int) == 0) = false := beqI_f (by omega)
  have hn1 : ((n + 1 : Nat) : Int) - 1 = (n : Int) := by omega
  have HN1 := Lib.hid hn1
  have hnlo : 0 ≤ ((n + 1 : Nat) : Int) := by omega
  have hnhi : ((n + 1 : Nat) : Int) ≤ 8 := by omega
  clear hn1
  unfold pv at *
  generalize ((n + 1 : Nat) : Int) = N at *
  generalize t.op = op at *
  generalize t.col = col at *
  generalize t.d = d at *
  generalize t.parts = ps at *
  generalize ps.length = pl at *
  by_cases h1 : 1 ≤ op
  · have h6 : ¬ op ≤ 6 := fun h => ho ⟨h1, h⟩
    clear ho
    go_enter Tryz.func26, Tryz.ntmps26
    go_wp2_with fail
    refine HZ.out.mono ?_
    rintro e w' ⟨rfl, hb'⟩
    have d0 := (hb'.cell (p := ⟨w.heap.size, 0, none⟩) (by simp)).trans (show _ = some (.int .i64 op) by go_simp)
    have d6 := (hb'.cell (p := ⟨w.heap.size, 6, none⟩) (by simp)).trans (show _ = some (.slice pa pl pc) by go_simp)
    have hb0 := hB3.trans (hb'.mono (by simp))
    have hz0 : w.heap.size < w'.heap.size := by have := hb'.size; simp at this; omega
    clear hb'
    go_wp2
    go_ret
    exact ⟨rfl, hb0⟩
  · clear ho
    go_enter Tryz.func26, Tryz.ntmps26
    go_wp2_with fail
    refine HZ.out.mono ?_
    rintro e w' ⟨rfl, hb'⟩
    have d0 := (hb'.cell (p := ⟨w.heap.size, 0, none⟩) (by simp)).trans (show _ = some (.int .i64 op) by go_simp)
    have d6 := (hb'.cell (p := ⟨w.heap.size, 6, none⟩) (by simp)).trans (show _ = some (.slice pa pl pc) by go_simp)
    have hb0 := hB3.trans (hb'.mono (by simp))
    have hz0 : w.heap.size < w'.heap.size := by have := hb'.size; simp at this; omega
    clear hb'
    go_wp2
    go_ret
    exact ⟨rfl, hb0⟩

theorem rmay_zero (cols : List Co) : RMayOK cols 0 := by
  intro m t a c pa pc ac cc w hp hr hl
  go_enter Tryz.func26, Tryz.ntmps26
  go_wp2
  go_ret
  exact ⟨rfl, by go_grown⟩

theorem rmay_ok (cols : List Co) : ∀ n, n ≤ 8 → RMayOK cols n
  | 0, _ => rmay_zero cols
  | n + 1, hn => by
    have ih := rmay_ok cols n (by omega)
    intro m t a c pa pc ac cc w hp hr hl
    by_cases ho : 1 ≤ t.op ∧ t.op ≤ 6
    · exact rmay_leaf cols n m t a c pa pc ac cc w (by omega) hp hr hl ho
    · by_cases hz : t.col ≠ 0 ∨ t.d.zero = false
      · exact rmay_not cols n m t a c pa pc ac cc w (by omega) hp ho hz
      · have hz' : t.col = 0 ∧ t.d.zero = true := by
          constructor
          · exact Decidable.byContradiction fun h => hz (.inl h)
          · cases h : t.d.zero
            · exact absurd (.inr h) hz
            · rfl
        have hm := mayP_in (cols := cols) (n := n) ho hz'.1 hz'.2
        by_cases h7 : t.op = 7
        · rw [hm, if_pos (.inl h7)]
          exact rmay_in7 cols n m t a c pa pc ac cc w (by omega) ih hp hr hl hz' h7
        · by_cases h8 : t.op = 8
          · rw [hm, if_pos (.inr h8)]
            exact rmay_in8 cols n m t a c pa pc ac cc w (by omega) ih hp hr hl hz' h8
          · rw [hm, if_neg (by rintro (h | h); exact h7 h; exact h8 h)]
            by_cases h9 : t.op = 9
            · rw [if_pos h9]
              have := rmay_in9 cols n m t a c pa pc ac cc w (by omega) ih hp hr hl hz' h9
              rwa [show partsB cols n 1 1 t.parts = (decide (t.parts.length = 1) && t.parts.all (mayP cols n)) by
                unfold partsB; congr 1; rw [Bool.eq_iff_iff]; simp; omega] at this
            · rw [if_neg h9]
              by_cases h10 : t.op = 10
              · rw [if_pos h10]
                exact rmay_in10 cols n m t a c pa pc ac cc w (by omega) hp hr hl hz' h10
              · rw [if_neg h10]
                exact rmay_other cols n m t a c pa pc ac cc w (by omega) hp hr hl hz' ho h7 h8 h9 h10

set_option maxHeartbeats 1000000 in
theorem rcheckp_any (cols : List Co) (m : Nat) (t : PT) (a : Option Addr) (c : Nat) (pa : Option Addr) (pc : Nat) (ac : Option Addr) (cc : Nat) (w : World)
    (hp : PredIs m w t a pa) (hr : ColIs w ac cols) (hl : cols.length ≤ 140737488351232) :
    Calls Tryz.prog 16 #[pv t a c pa pc, .slice ac cols.length cc] w fun e w' => e = .returned (.int .i64 (predE cols t)) ∧ Below w.heap.size w w' := by
  have hb0 : Below w.heap.size w (w.alloc (.cells #[.int .i64 t.op, .int .i64 t.col, .int .i64 t.d.k, .int .i64 t.d.n, .string t.d.s, .slice a t.d.l.length c, .slice pa t.parts.length pc] 27)) := by go_grown
  have HC := Lib.hid (rcolumns_any cols ac cc _ (hr.below hb0) hl)
  cases h1 : colsB cols with
  | false =>
    rw [show colE cols = 160 by simp [colE, h1]] at HC
    have HR := Lib.hid (show predE cols t = 160 by simp [predE, h1])
    clear h1
    go_enter Tryz.func16, Tryz.ntmps16
    go_wp2_with (go_at_call 12; refine HC.out.mono ?_; rintro e w' ⟨rfl, hb1⟩)
    go_ret
    exact ⟨ret_int HR.out.symm, hb0.trans (hb1.mono (by simp))⟩
  | true =>
    rw [show colE cols = 0 by simp [colE, h1]] at HC
    cases h2 : mayP cols 8 t with
    | false =>
      have HR := Lib.hid (show predE cols t = 150 by simp [predE, h1, h2])
      clear h1
      go_enter Tryz.func16, Tryz.ntmps16
      go_wp2_with fail
      refine HC.out.mono ?_
      rintro e w' ⟨rfl, hb1⟩
      have hb01 := hb0.trans (hb1.mono (by simp))
      have d0 := (hb1.cell (p := ⟨w.heap.size, 0, none⟩) (by simp)).trans (show _ = some (.int .i64 t.op) by go_simp)
      have d1 := (hb1.cell (p := ⟨w.heap.size, 1, none⟩) (by simp)).trans (show _ = some (.int .i64 t.col) by go_simp)
      have d2 := (hb1.cell (p := ⟨w.heap.size, 2, none⟩) (by simp)).trans (show _ = some (.int .i64 t.d.k) by go_simp)
      have d3 := (hb1.cell (p := ⟨w.heap.size, 3, none⟩) (by simp)).trans (show _ = some (.int .i64 t.d.n) by go_simp)
      have d4 := (hb1.cell (p := ⟨w.heap.size, 4, none⟩) (by simp)).trans (show _ = some (.string t.d.s) by go_simp)
      have d5 := (hb1.cell (p := ⟨w.heap.size, 5, none⟩) (by simp)).trans (show _ = some (.slice a t.d.l.length c) by go_simp)
      have d6 := (hb1.cell (p := ⟨w.heap.size, 6, none⟩) (by simp)).trans (show _ = some (.slice pa t.parts.length pc) by go_simp)
      go_wp2_with fail
      refine (rmay_ok cols 8 (by omega) m t a c pa pc ac cc w' (hp.below hb01) (hr.below hb01) hl).mono ?_
      rintro e w2 ⟨rfl, hb2⟩
      rw [h2]
      go_wp2
      go_ret
      exact ⟨ret_int HR.out.symm, hb01.trans (hb2.mono hb01.size)⟩
    | true =>
      have HR := Lib.hid (show predE cols t = 0 by simp [predE, h1, h2])
      clear h1
      go_enter Tryz.func16, Tryz.ntmps16
      go_wp2_with fail
      refine HC.out.mono ?_
      rintro e w' ⟨rfl, hb1⟩
      have hb01 := hb0.trans (hb1.mono (by simp))
      have d0 := (hb1.cell (p := ⟨w.heap.size, 0, none⟩) (by simp)).trans (show _ = some (.int .i64 t.op) by go_simp)
      have d1 := (hb1.cell (p := ⟨w.heap.size, 1, none⟩) (by simp)).trans (show _ = some (.int .i64 t.col) by go_simp)
      have d2 := (hb1.cell (p := ⟨w.heap.size, 2, none⟩) (by simp)).trans (show _ = some (.int .i64 t.d.k) by go_simp)
      have d3 := (hb1.cell (p := ⟨w.heap.size, 3, none⟩) (by simp)).trans (show _ = some (.int .i64 t.d.n) by go_simp)
      have d4 := (hb1.cell (p := ⟨w.heap.size, 4, none⟩) (by simp)).trans (show _ = some (.string t.d.s) by go_simp)
      have d5 := (hb1.cell (p := ⟨w.heap.size, 5, none⟩) (by simp)).trans (show _ = some (.slice a t.d.l.length c) by go_simp)
      have d6 := (hb1.cell (p := ⟨w.heap.size, 6, none⟩) (by simp)).trans (show _ = some (.slice pa t.parts.length pc) by go_simp)
      go_wp2_with fail
      refine (rmay_ok cols 8 (by omega) m t a c pa pc ac cc w' (hp.below hb01) (hr.below hb01) hl).mono ?_
      rintro e w2 ⟨rfl, hb2⟩
      rw [h2]
      go_wp2
      go_ret
      exact ⟨ret_int HR.out.symm, hb01.trans (hb2.mono hb01.size)⟩
end Go.Proofs.YtdjlbfepddcmeaaGreatDoor
