/- Whether two data are the same: the reference's. -/
import Derived.Test.YtekcoddjdjllhaaDoorDatA
namespace Go.Proofs.YtekcoddjdjllhaaDoor
open Go.RowKit

/-- Are data the same? -/
def It.same (x y : It) : Bool := decide (x.k = y.k) && decide (x.n = y.n) && (x.s.toList == y.s.toList) && decide (x.ln + y.ln = 0)
def Da.same (d d' : Da) : Bool := decide (d.k = d'.k) && decide (d.n = d'.n) && (d.s.toList == d'.s.toList) && decide (d.l.length = d'.l.length) && (List.range d.l.length).all fun i =>
  match d.l[i]?, d'.l[i]? with
  | some x, some y => x.same y
  | _, _ => false

def SameTo (l l' : List It) (j : Nat) : Prop := ∀ i, i < j → ∃ x y, l[i]? = some x ∧ l'[i]? = some y ∧ x.same y = true

theorem same_step {l l' : List It} {j : Nat} {x y : It} (h : SameTo l l' j) (hx : l[j]? = some x) (hy : l'[j]? = some y) (hs : x.same y = true) : SameTo l l' (j + 1) := by
  intro i hi
  by_cases e : i = j
  · subst e; exact ⟨x, y, hx, hy, hs⟩
  · exact h i (by omega)
theorem same_no {k n : Int} {s s' : ByteArray} {l l' : List It} {j : Nat} {x y : It} (hj : j < l.length) (hx : l[j]? = some x) (hy : l'[j]? = some y) (hs : x.same y = false) : false = (Da.mk k n s l).same (Da.mk k n s' l') := by
  symm
  unfold Da.same
  rw [Bool.and_eq_false_iff]
  refine .inr ?_
  rw [List.all_eq_false]
  exact ⟨j, List.mem_range.2 hj, by simp [hx, hy, hs]⟩
theorem same_yes {k n : Int} {s s' : ByteArray} {l l' : List It} {j : Nat} (hs : s.toList = s'.toList) (hl : l.length = l'.length) (hj : l.length ≤ j) (h : SameTo l l' j) : true = (Da.mk k n s l).same (Da.mk k n s' l') := by
  symm
  unfold Da.same
  simp only [hs, hl, decide_true, Bool.true_and, beq_self_eq_true]
  rw [List.all_eq_true]
  intro i hi
  obtain ⟨x, y, e1, e2, e3⟩ := h i (by have := List.mem_range.1 hi; omega)
  simp [e1, e2, e3]
theorem same_not {k n k' n' : Int} {s s' : ByteArray} {l l' : List It} (h : ¬ (k = k' ∧ n = n' ∧ s.toList = s'.toList ∧ l.length = l'.length)) : (Da.mk k n s l).same (Da.mk k' n' s' l') = false := by
  unfold Da.same
  simp only
  by_cases h1 : k = k' <;> by_cases h2 : n = n' <;> by_cases h3 : s.toList = s'.toList <;> by_cases h4 : l.length = l'.length <;> simp_all

set_option maxHeartbeats 1000000 in
theorem rsame_any (d d' : Da) (a : Option Addr) (c : Nat) (a' : Option Addr) (c' : Nat) (w : World) (hr : RowIs w a d.l) (hr' : RowIs w a' d'.l)
    (hl : d.l.length ≤ 140737488351232) (hl' : d'.l.length ≤ 140737488351232) :
    Calls Tryd.prog 13 #[dv d.k d.n d.s a d.l.length c, dv d'.k d'.n d'.s a' d'.l.length c'] w fun e w' => e = .returned (.bool (d.same d')) ∧ Below w.heap.size w w' := by
  obtain ⟨k, n, s, l⟩ := d
  obtain ⟨k', n', s', l'⟩ := d'
  simp only at *
  by_cases hk : k = k' ∧ n = n' ∧ s.toList = s'.toList ∧ l.length = l'.length
  · obtain ⟨rfl, rfl, hs, hll⟩ := hk
    have hs0 : (s.toList != s'.toList) = false := by simp [hs]
    have HS := Lib.hid hs
    have HL := Lib.hid hll
    have hl0 : decide ((l.length : Int) = (l'.length : Int)) = true := by simp [hll]
    have hl1 : ((l.length : Int) != (l'.length : Int)) = false := by simp [hll]
    clear hs hll
    go_enter Tryd.func13, Tryd.ntmps13
    go_wp2
    go_loopw [5] (fun i wr => ∃ j : Nat, j ≤ l.length ∧ i = .int .i64 j ∧ SameTo l l' j ∧ Below w.heap.size w wr ∧
        wr.cell? ⟨w.heap.size, 3, none⟩ = some (.slice a l.length c) ∧ wr.cell? ⟨w.heap.size + 1, 3, none⟩ = some (.slice a' l'.length c') ∧ w.heap.size + 1 < wr.heap.size) (fun i _ => l.length - (intOf i).toNat)
    case atStart => exact ⟨0, Nat.zero_le _, rfl, fun i hi => absurd hi (by omega), ((Below.refl _ _).alloc (Nat.le_refl _) _).alloc (by simp) _, by go_simp, by go_simp, by simp⟩
    case round =>
      obtain ⟨j, hj, rfl, hall, hb, hc3, hc3', hz⟩ := hrel
      by_cases hlt : j < l.length
      · have hlt' : j < l'.length := by have := HL.out; omega
        obtain ⟨b, off, ai, ci, rfl, g0, g1, g2, g3, gl, _⟩ := (hr.below hb).at_ j hlt
        obtain ⟨b', off', ai', ci', rfl, g0', g1', g2', g3', gl', _⟩ := (hr'.below hb).at_ j hlt'
        have HA := Lib.hid hall
        have hx0 := List.getElem?_eq_getElem hlt
        have hy0 := List.getElem?_eq_getElem hlt'
        clear hall
        generalize hx : l[j] = x at *
        generalize hy : l'[j] = y at *
        have HX := Lib.hid hx0
        have HY := Lib.hid hy0
        clear hx hy hx0 hy0
        obtain ⟨k1, n1, s1, m1⟩ := x
        obtain ⟨k2, n2, s2, m2⟩ := y
        simp only at *
        have hz1 : w.heap.size < wr.heap.size := by omega
        have hz2 : ¬ w.heap.size = wr.heap.size := by omega
        have hz3 : ¬ w.heap.size + 1 = wr.heap.size := by omega
        have hz4 : ¬ w.heap.size = wr.heap.size + 1 := by omega
        have hq1 : b < wr.heap.size := World.block_lt_of_cell? wr _ g0
        have hq2 : b' < wr.heap.size := World.block_lt_of_cell? wr _ g0'
        have hq3 : ¬ b = wr.heap.size := by omega
        have hq4 : ¬ b' = wr.heap.size := by omega
        have hq5 : ¬ b = wr.heap.size + 1 := by omega
        have hq6 : ¬ b' = wr.heap.size + 1 := by omega
        go_wp2
        go_region
        all_goals go_wp2
        all_goals first
          | (go_roundw
             case rel => exact ⟨j + 1, by omega, by go_num, same_step HA.out HX.out HY.out (by go_light; simp_all [It.same]; omega), by go_grown, by go_simp, by go_simp, by simp; omega⟩
             case measure => simp [intOf]; omega)
          | (go_ret; exact ⟨ret_bool (same_no hlt HX.out HY.out (by go_light; simp_all [It.same]; try omega)), by go_grown⟩)
      · go_wp2
        go_ret
        exact ⟨ret_bool (same_yes HS.out HL.out (show l.length ≤ j by omega) hall), hb⟩
  · have HN := Lib.hid (same_not hk)
    go_enter Tryd.func13, Tryd.ntmps13
    go_wp2
    all_goals first
      | (go_ret; exact ⟨ret_bool HN.out.symm, by go_grown⟩)
      | (exfalso; go_light; simp_all; try omega)
end Go.Proofs.YtekcoddjdjllhaaDoor
