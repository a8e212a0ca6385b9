/- Whether a predicate may be: the program's, whole. -/
import Derived.Test.YtdjlbfepddcmeaaGreatDoorQ14
set_option linter.unusedVariables false
set_option linter.unusedSimpArgs false
namespace Go.Proofs.YtdjlbfepddcmeaaGreatDoor
open Go.RowKit

theorem partsB_lo {cols : List Co} {n lo hi : Nat} {ps : List PT} (h : ¬ lo ≤ ps.length) : partsB cols n lo hi ps = false := by simp [partsB, h]
theorem partsB_hi {cols : List Co} {n lo hi : Nat} {ps : List PT} (h : ¬ ps.length ≤ hi) : partsB cols n lo hi ps = false := by simp [partsB, h]
theorem partsB_in {cols : List Co} {n lo hi : Nat} {ps : List PT} (h : lo ≤ ps.length) (h' : ps.length ≤ hi) : partsB cols n lo hi ps = ps.all (mayP cols n) := by simp [partsB, h, h']


set_option maxRecDepth 100000 in
set_option maxHeartbeats 4000000 in
theorem may_in7 (cols : List Co) (n m : Nat) (t : PT) (a : Option Addr) (c : Nat) (pa : Option Addr) (pc : Nat) (ac : Option Addr) (cc : Nat) (w : World) (hn : n < 8) (hok : MayOK cols n)
    (hp : PredIs m w t a pa) (hr : ColIs w ac cols) (hl : cols.length ≤ 140737488351232) (hz : t.col = 0 ∧ t.d.zero = true) (ho : t.op = 7) :
    Calls Tryz.prog 33 #[pv t a c pa pc, .slice ac cols.length cc, .int .i64 ((n + 1 : Nat) : Int)] w fun e w' => e = .returned (.bool (partsB cols n 2 8 t.parts)) ∧ Below w.heap.size w w' := by
  obtain ⟨m, rfl⟩ : ∃ k, m = k + 1 := by
    cases m with
    | zero => exact hp.elim
    | succ k => exact ⟨k, rfl⟩
  have hps := hp.parts
  have hplen := hp.len
  clear hp
  obtain ⟨hcol, hz⟩ := hz
  unfold Da.zero at hz
  simp only [Bool.and_eq_true, decide_eq_true_eq, List.isEmpty_iff] at hz
  obtain ⟨⟨⟨hk, hnn⟩, hs⟩, hll⟩ := hz
  rw [← Lib.toList_data] at hs
  unfold pv
  generalize t.op = op at *
  generalize t.col = col at *
  generalize t.d = d at *
  generalize t.parts = ps at *
  subst ho
  generalize d.k = dk at *
  generalize d.n = dn at *
  generalize d.s = ds at *
  generalize d.l.length = dl at *
  subst hcol hk hnn hll
  have hn0 : (((n + 1 : Nat) : Int) == 0) = false := beqI_f (by omega)
  generalize hN : ((n + 1 : Nat) : Int) = N at *
  have HN := Lib.hid hN
  clear hN
  have hB4 : Below w.heap.size w ((((w.alloc (.cells #[.int .i64 7, .int .i64 0, .int .i64 0, .int .i64 0, .string ds, .slice a 0 c, .slice pa ps.length pc] 27)).alloc (.cells #[.slice ac cols.length cc] 28)).alloc (.cells #[.int .i64 N] 3)).alloc (.cells #[.int .i64 0, .int .i64 0, .string ds, .slice a 0 c] 24)) := by go_grown
  have hps4 := hps.below hB4
  have hr4 := hr.below hB4
  have HP : Hid (PredPt 58 #[.pointer (some ⟨w.heap.size + 1, 0, none⟩), .pointer (some ⟨w.heap.size + 1 + 1, 0, none⟩)] m ps (fun x => !mayP cols n x) ((((w.alloc (.cells #[.int .i64 7, .int .i64 0, .int .i64 0, .int .i64 0, .string ds, .slice a 0 c, .slice pa ps.length pc] 27)).alloc (.cells #[.slice ac cols.length cc] 28)).alloc (.cells #[.int .i64 N] 3)).alloc (.cells #[.int .i64 0, .int .i64 0, .string ds, .slice a 0 c] 24))) := by
    refine Lib.hid ?_
    intro W x a' c' pa' pc' _ hx hb hz
    refine mayC_pt cols n m x a' c' pa' pc' ac cc W (w.heap.size + 1) (w.heap.size + 1 + 1) hok hn hx (hr4.below hb) hl ?_ ?_
    · rw [hb.cell (p := ⟨w.heap.size + 1, 0, none⟩) (by simp)]
      go_simp
    · rw [hb.cell (p := ⟨w.heap.size + 1 + 1, 0, none⟩) (by simp), HN.out]
      go_simp
  have HCF := Lib.hid (containsFunc_pt 58 _ _ m ps pa pc _ hps4 hplen HP.out (fun _ _ => by kernel_rfl))
  clear HP hps4 hr4 hps hr
  generalize hPL : ps.length = pl at *
  have HPL := Lib.hid hPL
  clear hPL
  by_cases hlo : 2 ≤ pl
  · by_cases hhi : pl ≤ 8
    · have HR := Lib.hid (partsB_in (cols := cols) (n := n) (lo := 2) (hi := 8) (ps := ps) (by rw [HPL.out]; exact hlo) (by rw [HPL.out]; exact hhi))
      have e6 : decide ((2 : Int) ≤ (pl : Int)) = true := by rw [decide_eq_true_iff]; omega
      have e7 : decide ((pl : Int) ≤ 8) = true := by rw [decide_eq_true_iff]; omega
      skip
      go_enter Tryz.func33, Tryz.ntmps33
      go_wp2_with fail
      refine HCF.out.mono ?_
      rintro e w' ⟨rfl, hb'⟩
      go_wp2
      go_ret
      exact ⟨ret_bool (by rw [HR.out]; exact not_any_not _ _), hB4.trans (hb'.mono (by simp; omega))⟩
    · have HF := Lib.hid (partsB_hi (cols := cols) (n := n) (lo := 2) (hi := 8) (ps := ps) (by rw [HPL.out]; exact hhi))
      have e6 : decide ((2 : Int) ≤ (pl : Int)) = true := by rw [decide_eq_true_iff]; omega
      have e7 : decide ((pl : Int) ≤ 8) = false := by rw [decide_eq_false_iff_not]; omega
      skip
      go_enter Tryz.func33, Tryz.ntmps33
      go_wp2
      go_ret
      exact ⟨ret_bool HF.out.symm, hB4⟩
  · have HF := Lib.hid (partsB_lo (cols := cols) (n := n) (lo := 2) (hi := 8) (ps := ps) (by rw [HPL.out]; exact hlo))
    have e6 : decide ((2 : Int) ≤ (pl : Int)) = false := by rw [decide_eq_false_iff_not]; omega
    skip
    go_enter Tryz.func33, Tryz.ntmps33
    go_wp2
    go_ret
    exact ⟨ret_bool HF.out.symm, hB4⟩

set_option maxRecDepth 100000 in
set_option maxHeartbeats 4000000 in
theorem may_in8 (cols : List Co) (n m : Nat) (t : PT) (a : Option Addr) (c : Nat) (pa : Option Addr) (pc : Nat) (ac : Option Addr) (cc : Nat) (w : World) (hn : n < 8) (hok : MayOK cols n)
    (hp : PredIs m w t a pa) (hr : ColIs w ac cols) (hl : cols.length ≤ 140737488351232) (hz : t.col = 0 ∧ t.d.zero = true) (ho : t.op = 8) :
    Calls Tryz.prog 33 #[pv t a c pa pc, .slice ac cols.length cc, .int .i64 ((n + 1 : Nat) : Int)] w fun e w' => e = .returned (.bool (partsB cols n 2 8 t.parts)) ∧ Below w.heap.size w w' := by
  obtain ⟨m, rfl⟩ : ∃ k, m = k + 1 := by
    cases m with
    | zero => exact hp.elim
    | succ k => exact ⟨k, rfl⟩
  have hps := hp.parts
  have hplen := hp.len
  clear hp
  obtain ⟨hcol, hz⟩ := hz
  unfold Da.zero at hz
  simp only [Bool.and_eq_true, decide_eq_true_eq, List.isEmpty_iff] at hz
  obtain ⟨⟨⟨hk, hnn⟩, hs⟩, hll⟩ := hz
  rw [← Lib.toList_data] at hs
  unfold pv
  generalize t.op = op at *
  generalize t.col = col at *
  generalize t.d = d at *
  generalize t.parts = ps at *
  subst ho
  generalize d.k = dk at *
  generalize d.n = dn at *
  generalize d.s = ds at *
  generalize d.l.length = dl at *
  subst hcol hk hnn hll
  have hn0 : (((n + 1 : Nat) : Int) == 0) = false := beqI_f (by omega)
  generalize hN : ((n + 1 : Nat) : Int) = N at *
  have HN := Lib.hid hN
  clear hN
  have hB4 : Below w.heap.size w ((((w.alloc (.cells #[.int .i64 8, .int .i64 0, .int .i64 0, .int .i64 0, .string ds, .slice a 0 c, .slice pa ps.length pc] 27)).alloc (.cells #[.slice ac cols.length cc] 28)).alloc (.cells #[.int .i64 N] 3)).alloc (.cells #[.int .i64 0, .int .i64 0, .string ds, .slice a 0 c] 24)) := by go_grown
  have hps4 := hps.below hB4
  have hr4 := hr.below hB4
  have HP : Hid (PredPt 58 #[.pointer (some ⟨w.heap.size + 1, 0, none⟩), .pointer (some ⟨w.heap.size + 1 + 1, 0, none⟩)] m ps (fun x => !mayP cols n x) ((((w.alloc (.cells #[.int .i64 8, .int .i64 0, .int .i64 0, .int .i64 0, .string ds, .slice a 0 c, .slice pa ps.length pc] 27)).alloc (.cells #[.slice ac cols.length cc] 28)).alloc (.cells #[.int .i64 N] 3)).alloc (.cells #[.int .i64 0, .int .i64 0, .string ds, .slice a 0 c] 24))) := by
    refine Lib.hid ?_
    intro W x a' c' pa' pc' _ hx hb hz
    refine mayC_pt cols n m x a' c' pa' pc' ac cc W (w.heap.size + 1) (w.heap.size + 1 + 1) hok hn hx (hr4.below hb) hl ?_ ?_
    · rw [hb.cell (p := ⟨w.heap.size + 1, 0, none⟩) (by simp)]
      go_simp
    · rw [hb.cell (p := ⟨w.heap.size + 1 + 1, 0, none⟩) (by simp), HN.out]
      go_simp
  have HCF := Lib.hid (containsFunc_pt 58 _ _ m ps pa pc _ hps4 hplen HP.out (fun _ _ => by kernel_rfl))
  clear HP hps4 hr4 hps hr
  generalize hPL : ps.length = pl at *
  have HPL := Lib.hid hPL
  clear hPL
  by_cases hlo : 2 ≤ pl
  · by_cases hhi : pl ≤ 8
    · have HR := Lib.hid (partsB_in (cols := cols) (n := n) (lo := 2) (hi := 8) (ps := ps) (by rw [HPL.out]; exact hlo) (by rw [HPL.out]; exact hhi))
      have e6 : decide ((2 : Int) ≤ (pl : Int)) = true := by rw [decide_eq_true_iff]; omega
      have e7 : decide ((pl : Int) ≤ 8) = true := by rw [decide_eq_true_iff]; omega
      skip
      go_enter Tryz.func33, Tryz.ntmps33
      go_wp2_with fail
      refine HCF.out.mono ?_
      rintro e w' ⟨rfl, hb'⟩
      go_wp2
      go_ret
      exact ⟨ret_bool (by rw [HR.out]; exact not_any_not _ _), hB4.trans (hb'.mono (by simp; omega))⟩
    · have HF := Lib.hid (partsB_hi (cols := cols) (n := n) (lo := 2) (hi := 8) (ps := ps) (by rw [HPL.out]; exact hhi))
      have e6 : decide ((2 : Int) ≤ (pl : Int)) = true := by rw [decide_eq_true_iff]; omega
      have e7 : decide ((pl : Int) ≤ 8) = false := by rw [decide_eq_false_iff_not]; omega
      skip
      go_enter Tryz.func33, Tryz.ntmps33
      go_wp2
      go_ret
      exact ⟨ret_bool HF.out.symm, hB4⟩
  · have HF := Lib.hid (partsB_lo (cols := cols) (n := n) (lo := 2) (hi := 8) (ps := ps) (by rw [HPL.out]; exact hlo))
    have e6 : decide ((2 : Int) ≤ (pl : Int)) = false := by rw [decide_eq_false_iff_not]; omega
    skip
    go_enter Tryz.func33, Tryz.ntmps33
    go_wp2
    go_ret
    exact ⟨ret_bool HF.out.symm, hB4⟩

set_option maxRecDepth 100000 in
set_option maxHeartbeats 4000000 in
theorem may_in9 (cols : List Co) (n m : Nat) (t : PT) (a : Option Addr) (c : Nat) (pa : Option Addr) (pc : Nat) (ac : Option Addr) (cc : Nat) (w : World) (hn : n < 8) (hok : MayOK cols n)
    (hp : PredIs m w t a pa) (hr : ColIs w ac cols) (hl : cols.length ≤ 140737488351232) (hz : t.col = 0 ∧ t.d.zero = true) (ho : t.op = 9) :
    Calls Tryz.prog 33 #[pv t a c pa pc, .slice ac cols.length cc, .int .i64 ((n + 1 : Nat) : Int)] w fun e w' => e = .returned (.bool (partsB cols n 1 1 t.parts)) ∧ Below w.heap.size w w' := by
  obtain ⟨m, rfl⟩ : ∃ k, m = k + 1 := by
    cases m with
    | zero => exact hp.elim
    | succ k => exact ⟨k, rfl⟩
  have hps := hp.parts
  have hplen := hp.len
  clear hp
  obtain ⟨hcol, hz⟩ := hz
  unfold Da.zero at hz
  simp only [Bool.and_eq_true, decide_eq_true_eq, List.isEmpty_iff] at hz
  obtain ⟨⟨⟨hk, hnn⟩, hs⟩, hll⟩ := hz
  rw [← Lib.toList_data] at hs
  unfold pv
  generalize t.op = op at *
  generalize t.col = col at *
  generalize t.d = d at *
  generalize t.parts = ps at *
  subst ho
  generalize d.k = dk at *
  generalize d.n = dn at *
  generalize d.s = ds at *
  generalize d.l.length = dl at *
  subst hcol hk hnn hll
  have hn0 : (((n + 1 : Nat) : Int) == 0) = false := beqI_f (by omega)
  generalize hN : ((n + 1 : Nat) : Int) = N at *
  have HN := Lib.hid hN
  clear hN
  have hB4 : Below w.heap.size w ((((w.alloc (.cells #[.int .i64 9, .int .i64 0, .int .i64 0, .int .i64 0, .string ds, .slice a 0 c, .slice pa ps.length pc] 27)).alloc (.cells #[.slice ac cols.length cc] 28)).alloc (.cells #[.int .i64 N] 3)).alloc (.cells #[.int .i64 0, .int .i64 0, .string ds, .slice a 0 c] 24)) := by go_grown
  have hps4 := hps.below hB4
  have hr4 := hr.below hB4
  have HP : Hid (PredPt 58 #[.pointer (some ⟨w.heap.size + 1, 0, none⟩), .pointer (some ⟨w.heap.size + 1 + 1, 0, none⟩)] m ps (fun x => !mayP cols n x) ((((w.alloc (.cells #[.int .i64 9, .int .i64 0, .int .i64 0, .int .i64 0, .string ds, .slice a 0 c, .slice pa ps.length pc] 27)).alloc (.cells #[.slice ac cols.length cc] 28)).alloc (.cells #[.int .i64 N] 3)).alloc (.cells #[.int .i64 0, .int .i64 0, .string ds, .slice a 0 c] 24))) := by
    refine Lib.hid ?_
    intro W x a' c' pa' pc' _ hx hb hz
    refine mayC_pt cols n m x a' c' pa' pc' ac cc W (w.heap.size + 1) (w.heap.size + 1 + 1) hok hn hx (hr4.below hb) hl ?_ ?_
    · rw [hb.cell (p := ⟨w.heap.size + 1, 0, none⟩) (by simp)]
      go_simp
    · rw [hb.cell (p := ⟨w.heap.size + 1 + 1, 0, none⟩) (by simp), HN.out]
      go_simp
  have HCF := Lib.hid (containsFunc_pt 58 _ _ m ps pa pc _ hps4 hplen HP.out (fun _ _ => by kernel_rfl))
  clear HP hps4 hr4 hps hr
  generalize hPL : ps.length = pl at *
  have HPL := Lib.hid hPL
  clear hPL
  by_cases hlo : 1 ≤ pl
  · by_cases hhi : pl ≤ 1
    · have HR := Lib.hid (partsB_in (cols := cols) (n := n) (lo := 1) (hi := 1) (ps := ps) (by rw [HPL.out]; exact hlo) (by rw [HPL.out]; exact hhi))
      have e6 : decide ((1 : Int) ≤ (pl : Int)) = true := by rw [decide_eq_true_iff]; omega
      have e7 : decide ((pl : Int) ≤ 1) = true := by rw [decide_eq_true_iff]; omega
      skip
      go_enter Tryz.func33, Tryz.ntmps33
      go_wp2_with fail
      refine HCF.out.mono ?_
      rintro e w' ⟨rfl, hb'⟩
      go_wp2
      go_ret
      exact ⟨ret_bool (by rw [HR.out]; exact not_any_not _ _), hB4.trans (hb'.mono (by simp; omega))⟩
    · have HF := Lib.hid (partsB_hi (cols := cols) (n := n) (lo := 1) (hi := 1) (ps := ps) (by rw [HPL.out]; exact hhi))
      have e6 : decide ((1 : Int) ≤ (pl : Int)) = true := by rw [decide_eq_true_iff]; omega
      have e7 : decide ((pl : Int) ≤ 1) = false := by rw [decide_eq_false_iff_not]; omega
      skip
      go_enter Tryz.func33, Tryz.ntmps33
      go_wp2
      go_ret
      exact ⟨ret_bool HF.out.symm, hB4⟩
  · have HF := Lib.hid (partsB_lo (cols := cols) (n := n) (lo := 1) (hi := 1) (ps := ps) (by rw [HPL.out]; exact hlo))
    have e6 : decide ((1 : Int) ≤ (pl : Int)) = false := by rw [decide_eq_false_iff_not]; omega
    obtain rfl : pl = 0 := by omega
    go_enter Tryz.func33, Tryz.ntmps33
    go_wp2
    go_ret
    exact ⟨ret_bool HF.out.symm, hB4⟩

set_option maxRecDepth 100000 in
set_option maxHeartbeats 4000000 in
theorem may_in10 (cols : List Co) (n m : Nat) (t : PT) (a : Option Addr) (c : Nat) (pa : Option Addr) (pc : Nat) (ac : Option Addr) (cc : Nat) (w : World) (hn : n < 8) (hok : MayOK cols n)
    (hp : PredIs m w t a pa) (hr : ColIs w ac cols) (hl : cols.length ≤ 140737488351232) (hz : t.col = 0 ∧ t.d.zero = true) (ho : t.op = 10) :
    Calls Tryz.prog 33 #[pv t a c pa pc, .slice ac cols.length cc, .int .i64 ((n + 1 : Nat) : Int)] w fun e w' => e = .returned (.bool (partsB cols n 0 0 t.parts)) ∧ Below w.heap.size w w' := by
  obtain ⟨m, rfl⟩ : ∃ k, m = k + 1 := by
    cases m with
    | zero => exact hp.elim
    | succ k => exact ⟨k, rfl⟩
  have hps := hp.parts
  have hplen := hp.len
  clear hp
  obtain ⟨hcol, hz⟩ := hz
  unfold Da.zero at hz
  simp only [Bool.and_eq_true, decide_eq_true_eq, List.isEmpty_iff] at hz
  obtain ⟨⟨⟨hk, hnn⟩, hs⟩, hll⟩ := hz
  rw [← Lib.toList_data] at hs
  unfold pv
  generalize t.op = op at *
  generalize t.col = col at *
  generalize t.d = d at *
  generalize t.parts = ps at *
  subst ho
  generalize d.k = dk at *
  generalize d.n = dn at *
  generalize d.s = ds at *
  generalize d.l.length = dl at *
  subst hcol hk hnn hll
  have hn0 : (((n + 1 : Nat) : Int) == 0) = false := beqI_f (by omega)
  generalize hN : ((n + 1 : Nat) : Int) = N at *
  have HN := Lib.hid hN
  clear hN
  have hB4 : Below w.heap.size w ((((w.alloc (.cells #[.int .i64 10, .int .i64 0, .int .i64 0, .int .i64 0, .string ds, .slice a 0 c, .slice pa ps.length pc] 27)).alloc (.cells #[.slice ac cols.length cc] 28)).alloc (.cells #[.int .i64 N] 3)).alloc (.cells #[.int .i64 0, .int .i64 0, .string ds, .slice a 0 c] 24)) := by go_grown
  have hps4 := hps.below hB4
  have hr4 := hr.below hB4
  have HP : Hid (PredPt 58 #[.pointer (some ⟨w.heap.size + 1, 0, none⟩), .pointer (some ⟨w.heap.size + 1 + 1, 0, none⟩)] m ps (fun x => !mayP cols n x) ((((w.alloc (.cells #[.int .i64 10, .int .i64 0, .int .i64 0, .int .i64 0, .string ds, .slice a 0 c, .slice pa ps.length pc] 27)).alloc (.cells #[.slice ac cols.length cc] 28)).alloc (.cells #[.int .i64 N] 3)).alloc (.cells #[.int .i64 0, .int .i64 0, .string ds, .slice a 0 c] 24))) := by
    refine Lib.hid ?_
    intro W x a' c' pa' pc' _ hx hb hz
    refine mayC_pt cols n m x a' c' pa' pc' ac cc W (w.heap.size + 1) (w.heap.size + 1 + 1) hok hn hx (hr4.below hb) hl ?_ ?_
    · rw [hb.cell (p := ⟨w.heap.size + 1, 0, none⟩) (by simp)]
      go_simp
    · rw [hb.cell (p := ⟨w.heap.size + 1 + 1, 0, none⟩) (by simp), HN.out]
      go_simp
  have HCF := Lib.hid (containsFunc_pt 58 _ _ m ps pa pc _ hps4 hplen HP.out (fun _ _ => by kernel_rfl))
  clear HP hps4 hr4 hps hr
  generalize hPL : ps.length = pl at *
  have HPL := Lib.hid hPL
  clear hPL
  by_cases hlo : 0 ≤ pl
  · by_cases hhi : pl ≤ 0
    · have HR := Lib.hid (partsB_in (cols := cols) (n := n) (lo := 0) (hi := 0) (ps := ps) (by rw [HPL.out]; exact hlo) (by rw [HPL.out]; exact hhi))
      have e6 : decide ((0 : Int) ≤ (pl : Int)) = true := by rw [decide_eq_true_iff]; omega
      have e7 : decide ((pl : Int) ≤ 0) = true := by rw [decide_eq_true_iff]; omega
      obtain rfl : pl = 0 := by omega
      go_enter Tryz.func33, Tryz.ntmps33
      go_wp2_with fail
      refine HCF.out.mono ?_
      rintro e w' ⟨rfl, hb'⟩
      go_wp2
      go_ret
      exact ⟨ret_bool (by rw [HR.out]; exact not_any_not _ _), hB4.trans (hb'.mono (by simp; omega))⟩
    · have HF := Lib.hid (partsB_hi (cols := cols) (n := n) (lo := 0) (hi := 0) (ps := ps) (by rw [HPL.out]; exact hhi))
      have e6 : decide ((0 : Int) ≤ (pl : Int)) = true := by rw [decide_eq_true_iff]; omega
      have e7 : decide ((pl : Int) ≤ 0) = false := by rw [decide_eq_false_iff_not]; omega
      have e8 : ¬ pl = 0 := by omega
      go_enter Tryz.func33, Tryz.ntmps33
      go_wp2
      go_ret
      exact ⟨ret_bool HF.out.symm, hB4⟩
  · exact absurd (Nat.zero_le pl) hlo
end Go.Proofs.YtdjlbfepddcmeaaGreatDoor
