/- Whether a predicate may be: the program's. -/
import Derived.Test.YtdjlbfepddcmeaaGreatDoorQ13
set_option linter.unusedVariables false
set_option linter.unusedSimpArgs false
namespace Go.Proofs.YtdjlbfepddcmeaaGreatDoor
open Go.RowKit

/-- pred.may answers as it must, so deep. -/
def MayOK (cols : List Co) (n : Nat) : Prop :=
  ∀ (m : Nat) (t : PT) (a : Option Addr) (c : Nat) (pa : Option Addr) (pc : Nat) (ac : Option Addr) (cc : Nat) (w : World), PredIs m w t a pa → ColIs w ac cols → cols.length ≤ 140737488351232 →
    Calls Tryz.prog 33 #[pv t a c pa pc, .slice ac cols.length cc, .int .i64 (n : Nat)] w fun e w' => e = .returned (.bool (mayP cols n t)) ∧ Below w.heap.size w w'

theorem mayC_pt (cols : List Co) (n m : Nat) (t : PT) (a : Option Addr) (c : Nat) (pa : Option Addr) (pc : Nat) (ac : Option Addr) (cc : Nat) (w : World) (bc bd : Nat) (hok : MayOK cols n) (hn : n < 8)
    (hp : PredIs m w t a pa) (hr : ColIs w ac cols) (hl : cols.length ≤ 140737488351232) (hc : w.cell? ⟨bc, 0, none⟩ = some (.slice ac cols.length cc)) (hd : w.cell? ⟨bd, 0, none⟩ = some (.int .i64 ((n + 1 : Nat) : Int))) :
    Calls Tryz.prog 58 #[pv t a c pa pc, .pointer (some ⟨bc, 0, none⟩), .pointer (some ⟨bd, 0, none⟩)] w fun e w' => e = .returned (.bool (!mayP cols n t)) ∧ Below w.heap.size w w' := by
  have hb : Below w.heap.size w (w.alloc (.cells #[.int .i64 t.op, .int .i64 t.col, .int .i64 t.d.k, .int .i64 t.d.n, .string t.d.s, .slice a t.d.l.length c, .slice pa t.parts.length pc] 27)) := by go_grown
  have hc' := cellA hc (.cells #[.int .i64 t.op, .int .i64 t.col, .int .i64 t.d.k, .int .i64 t.d.n, .string t.d.s, .slice a t.d.l.length c, .slice pa t.parts.length pc] 27)
  have hd' := cellA hd (.cells #[.int .i64 t.op, .int .i64 t.col, .int .i64 t.d.k, .int .i64 t.d.n, .string t.d.s, .slice a t.d.l.length c, .slice pa t.parts.length pc] 27)
  have HK := Lib.hid (hok m t a c pa pc ac cc _ (hp.below hb) (hr.below hb) hl)
  have hN : ((n + 1 : Nat) : Int) - 1 = (n : Int) := by omega
  have HN := Lib.hid hN
  have h0 : 0 ≤ ((n + 1 : Nat) : Int) := by omega
  have h8 : ((n + 1 : Nat) : Int) ≤ 8 := by omega
  clear hN
  generalize ((n + 1 : Nat) : Int) = N at *
  go_enter Tryz.func58, Tryz.ntmps58
  go_wp2_with fail
  rw [HN.out]
  refine HK.out.mono ?_
  rintro e w' ⟨rfl, hb'⟩
  go_wp2
  go_ret
  exact ⟨rfl, hb.trans (hb'.mono (by simp))⟩

theorem mayP_col {cols : List Co} {n : Nat} {t : PT} (h : ¬ (1 ≤ t.op ∧ t.op ≤ 6)) (hc : t.col ≠ 0 ∨ t.d.zero = false) : mayP cols (n + 1) t = false := by
  rw [mayP, if_neg h, if_pos hc]
theorem mayP_in {cols : List Co} {n : Nat} {t : PT} (h : ¬ (1 ≤ t.op ∧ t.op ≤ 6)) (hc : t.col = 0) (hz : t.d.zero = true) : mayP cols (n + 1) t =
    if t.op = 7 ∨ t.op = 8 then decide (2 ≤ t.parts.length) && decide (t.parts.length ≤ 8) && t.parts.all (mayP cols n)
    else if t.op = 9 then decide (t.parts.length = 1) && t.parts.all (mayP cols n)
    else if t.op = 10 then decide (t.parts.length = 0)
    else false := by
  rw [mayP, if_neg h, if_neg (by rw [hc, hz]; simp)]

theorem zero_no {d : Da} (h : ¬ (d.k = 0 ∧ d.n = 0 ∧ d.s.toList = [] ∧ d.l.length = 0)) : d.zero = false := by
  rw [Lib.toList_data] at h
  unfold Da.zero
  by_cases h1 : d.k = 0 <;> by_cases h2 : d.n = 0 <;> by_cases h3 : d.s.data.toList = [] <;> by_cases h4 : d.l.length = 0 <;> simp_all
theorem zero_yes {d : Da} (h1 : d.k = 0) (h2 : d.n = 0) (h3 : d.s.toList = []) (h4 : d.l.length = 0) : d.zero = true := by
  rw [Lib.toList_data] at h3
  simp only [Da.zero, h1, h2, h3, h4]; rfl

/-- What stands behind the tests: how many parts there may be, and each of them. -/
def partsB (cols : List Co) (n : Nat) (lo hi : Nat) (ps : List PT) : Bool := decide (lo ≤ ps.length) && decide (ps.length ≤ hi) && ps.all (mayP cols n)

set_option maxRecDepth 100000 in
set_option maxHeartbeats 4000000 in
theorem may_col (cols : List Co) (n m : Nat) (t : PT) (a : Option Addr) (c : Nat) (pa : Option Addr) (pc : Nat) (ac : Option Addr) (cc : Nat) (w : World) (hn : n < 8)
    (hp : PredIs m w t a pa) (hl : cols.length ≤ 140737488351232) (hop : ¬ (1 ≤ t.op ∧ t.op ≤ 6)) (hz : t.col ≠ 0 ∨ t.d.zero = false) :
    Calls Tryz.prog 33 #[pv t a c pa pc, .slice ac cols.length cc, .int .i64 ((n + 1 : Nat) : Int)] w fun e w' => e = .returned (.bool (mayP cols (n + 1) t)) ∧ Below w.heap.size w w' := by
  have HF := Lib.hid (mayP_col (cols := cols) (n := n) hop hz)
  have hda := hp.da
  have hlen := hda.l
  clear hp
  unfold pv
  generalize t.op = op at *
  generalize t.col = col at *
  generalize t.d = d at *
  generalize t.parts = ps at *
  have hn0 : (((n + 1 : Nat) : Int) == 0) = false := beqI_f (by omega)
  generalize ((n + 1 : Nat) : Int) = N at *
  by_cases h1 : 1 ≤ op
  · have h6 : ¬ op ≤ 6 := fun h => hop ⟨h1, h⟩
    by_cases hc : col = 0
    · have hzz : ¬ d.zero = true := by rcases hz with h | h; exact absurd hc h; simp [h]
      by_cases hk : d.k = 0
      · by_cases hn' : d.n = 0
        · by_cases hs : d.s.toList = []
          · have hlz : ¬ d.l.length = 0 := fun h => hzz (zero_yes hk hn' hs h)
            have e5 : decide ((0 : Int) < (d.l.length : Int)) = true := by rw [decide_eq_true_iff]; omega
            clear hz hzz hop
            go_enter Tryz.func33, Tryz.ntmps33
            go_wp2
            go_ret
            exact ⟨ret_bool HF.out.symm, by go_grown⟩
          · clear hz hzz hop
            go_enter Tryz.func33, Tryz.ntmps33
            go_wp2
            go_ret
            exact ⟨ret_bool HF.out.symm, by go_grown⟩
        · clear hz hzz hop
          go_enter Tryz.func33, Tryz.ntmps33
          go_wp2
          go_ret
          exact ⟨ret_bool HF.out.symm, by go_grown⟩
      · clear hz hzz hop
        go_enter Tryz.func33, Tryz.ntmps33
        go_wp2
        go_ret
        exact ⟨ret_bool HF.out.symm, by go_grown⟩
    · clear hz hop
      go_enter Tryz.func33, Tryz.ntmps33
      go_wp2
      go_ret
      exact ⟨ret_bool HF.out.symm, by go_grown⟩
  · by_cases hc : col = 0
    · have hzz : ¬ d.zero = true := by rcases hz with h | h; exact absurd hc h; simp [h]
      by_cases hk : d.k = 0
      · by_cases hn' : d.n = 0
        · by_cases hs : d.s.toList = []
          · have hlz : ¬ d.l.length = 0 := fun h => hzz (zero_yes hk hn' hs h)
            have e5 : decide ((0 : Int) < (d.l.length : Int)) = true := by rw [decide_eq_true_iff]; omega
            clear hz hzz hop
            go_enter Tryz.func33, Tryz.ntmps33
            go_wp2
            go_ret
            exact ⟨ret_bool HF.out.symm, by go_grown⟩
          · clear hz hzz hop
            go_enter Tryz.func33, Tryz.ntmps33
            go_wp2
            go_ret
            exact ⟨ret_bool HF.out.symm, by go_grown⟩
        · clear hz hzz hop
          go_enter Tryz.func33, Tryz.ntmps33
          go_wp2
          go_ret
          exact ⟨ret_bool HF.out.symm, by go_grown⟩
      · clear hz hzz hop
        go_enter Tryz.func33, Tryz.ntmps33
        go_wp2
        go_ret
        exact ⟨ret_bool HF.out.symm, by go_grown⟩
    · clear hz hop
      go_enter Tryz.func33, Tryz.ntmps33
      go_wp2
      go_ret
      exact ⟨ret_bool HF.out.symm, by go_grown⟩
end Go.Proofs.YtdjlbfepddcmeaaGreatDoor
