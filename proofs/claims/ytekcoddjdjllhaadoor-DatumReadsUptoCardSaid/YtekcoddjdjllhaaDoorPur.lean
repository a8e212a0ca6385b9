/- The order of data: plain laws. -/
import Derived.Test.YtekcoddjdjllhaaDoorDatO
import Derived.Test.YtekcoddjdjllhaaDoorDatS
namespace Go.Proofs.YtekcoddjdjllhaaDoor
open Go.RowKit

theorem cb_anti : ∀ a b : List UInt8, Go.Lib.compareBytes b a = - Go.Lib.compareBytes a b
  | [], [] => rfl
  | [], _ :: _ => rfl
  | _ :: _, [] => rfl
  | a :: al, b :: bl => by
    have ih := cb_anti al bl
    simp only [Go.Lib.compareBytes]
    by_cases h1 : a < b
    · have h2 : ¬ b < a := fun h => by
        have := UInt8.lt_iff_toNat_lt.1 h1; have := UInt8.lt_iff_toNat_lt.1 h; omega
      simp [h1, h2]
    · by_cases h2 : b < a
      · simp [h1, h2]
      · simp [h1, h2, ih]

theorem cb_trans : ∀ a b c : List UInt8, Go.Lib.compareBytes a b ≤ 0 → Go.Lib.compareBytes b c ≤ 0 → Go.Lib.compareBytes a c ≤ 0
  | [], _, [], _, _ => by simp [Go.Lib.compareBytes]
  | [], _, _ :: _, _, _ => by simp [Go.Lib.compareBytes]
  | _ :: _, [], _, h, _ => by simp [Go.Lib.compareBytes] at h
  | _ :: _, _ :: _, [], _, h => by simp [Go.Lib.compareBytes] at h
  | a :: al, b :: bl, c :: cl, h1, h2 => by
    have ih := cb_trans al bl cl
    simp only [Go.Lib.compareBytes] at *
    simp only [UInt8.lt_iff_toNat_lt] at *
    generalize a.toNat = x at *
    generalize b.toNat = y at *
    generalize c.toNat = z at *
    split at h1
    · split at h2
      · rw [if_pos (by omega)]; omega
      · split at h2
        · omega
        · rw [if_pos (by omega)]; omega
    · split at h1
      · omega
      · split at h2
        · rw [if_pos (by omega)]; omega
        · split at h2
          · omega
          · rw [if_neg (by omega), if_neg (by omega)]
            exact ih h1 h2

/-- Compare's error and value. -/
def cE (d d' : Da) : Int := if d.may && d'.may then (if decide (d.k = 3) || decide (d'.k = 3) then 10 else 0) else 11
def cV (d d' : Da) : Int := if cE d d' = 0 then ordB d.k d.n d.s d'.k d'.n d'.s else 0
theorem cmpAns_eq (d d' : Da) : cmpAns d d' = .tuple #[.int .i64 (cV d d'), .int .i64 (cE d d')] := by
  unfold cmpAns cV cE
  split
  · split <;> simp
  · simp

theorem ordB_three (k n : Int) (s : ByteArray) (k' n' : Int) (s' : ByteArray) : ordB k n s k' n' s' = -1 ∨ ordB k n s k' n' s' = 0 ∨ ordB k n s k' n' s' = 1 := by
  have := compareBytes_three s.data.toList s'.data.toList
  unfold ordB
  split
  · split <;> simp
  · split
    · simp
    · split
      · simp
      · exact this

theorem ordB_anti (k n : Int) (s : ByteArray) (k' n' : Int) (s' : ByteArray) : ordB k' n' s' k n s = - ordB k n s k' n' s' := by
  have h := cb_anti s.data.toList s'.data.toList
  unfold ordB
  by_cases hk : k = k'
  · subst hk
    simp only [ne_eq, not_true_eq_false, if_false]
    by_cases h1 : n < n'
    · rw [if_neg (by omega), if_pos h1, if_pos h1]; rfl
    · by_cases h2 : n' < n
      · rw [if_pos h2, if_neg h1, if_pos h2]
      · rw [if_neg h2, if_neg h1, if_neg h1, if_neg h2]; exact h
  · rw [if_pos (fun e => hk e.symm), if_pos hk]
    by_cases h1 : k < k'
    · rw [if_neg (by omega), if_pos h1]; rfl
    · rw [if_pos (by omega), if_neg h1]

theorem ordB_zero (k n : Int) (s : ByteArray) (k' n' : Int) (s' : ByteArray) : ordB k n s k' n' s' = 0 ↔ k = k' ∧ n = n' ∧ s.data.toList = s'.data.toList := by
  have h := compareBytes_zero s.data.toList s'.data.toList
  unfold ordB
  by_cases hk : k = k'
  · subst hk
    simp only [ne_eq, not_true_eq_false, if_false, true_and]
    by_cases h1 : n < n'
    · rw [if_pos h1]; simp; omega
    · by_cases h2 : n' < n
      · rw [if_neg h1, if_pos h2]; simp; omega
      · rw [if_neg h1, if_neg h2, h]
        constructor
        · intro e; exact ⟨by omega, e⟩
        · exact fun e => e.2
  · rw [if_pos hk]
    constructor
    · split <;> simp
    · exact fun e => absurd e.1 hk

theorem ordB_trans (k n : Int) (s : ByteArray) (k' n' : Int) (s' : ByteArray) (k'' n'' : Int) (s'' : ByteArray) (h1 : ordB k n s k' n' s' ≤ 0) (h2 : ordB k' n' s' k'' n'' s'' ≤ 0) : ordB k n s k'' n'' s'' ≤ 0 := by
  have h := cb_trans s.data.toList s'.data.toList s''.data.toList
  unfold ordB at *
  split at h1
  · split at h1
    · split at h2
      · split at h2
        · rw [if_pos (by omega), if_pos (by omega)]; omega
        · omega
      · rw [if_pos (by omega), if_pos (by omega)]; omega
    · omega
  · split at h2
    · split at h2
      · rw [if_pos (by omega), if_pos (by omega)]; omega
      · omega
    · rw [if_neg (by omega)]
      split at h1
      · split at h2
        · rw [if_pos (by omega)]; omega
        · split at h2
          · omega
          · rw [if_pos (by omega)]; omega
      · split at h1
        · omega
        · split at h2
          · rw [if_pos (by omega)]; omega
          · split at h2
            · omega
            · rw [if_neg (by omega), if_neg (by omega)]
              exact h h1 h2

theorem may_short {d : Da} (h : d.may = true) (h3 : ¬ d.k = 3) : d.l.length = 0 := by
  simp only [Da.may, h3, if_false, simpleB, Bool.and_eq_true, decide_eq_true_eq] at h
  exact h.1

theorem cE_zero {d d' : Da} (h : cE d d' = 0) : d.may = true ∧ d'.may = true ∧ ¬ d.k = 3 ∧ ¬ d'.k = 3 := by
  unfold cE at h
  split at h
  · next hm =>
    split at h
    · omega
    · next hk =>
      simp at hm hk
      exact ⟨hm.1, hm.2, hk.1, hk.2⟩
  · omega
theorem cE_of {d d' : Da} (h : d.may = true) (h' : d'.may = true) (k : ¬ d.k = 3) (k' : ¬ d'.k = 3) : cE d d' = 0 := by
  simp [cE, h, h', k, k']

theorem line_law (x y z : Da) (h1 : cE x y = 0) (h2 : cE y z = 0) (h3 : cE x z = 0) :
    cE y x = 0 ∧ cV y x = - cV x y ∧ (cV x y = -1 ∨ cV x y = 0 ∨ cV x y = 1) ∧ (cV y z = -1 ∨ cV y z = 0 ∨ cV y z = 1) ∧ (cV x z = -1 ∨ cV x z = 0 ∨ cV x z = 1) ∧
    (0 < cV x y ∨ 0 < cV y z ∨ cV x z ≤ 0) ∧ (cV x y = 0 → cV x z = cV y z) ∧ x.same y = decide (cV x y = 0) := by
  obtain ⟨mx, my, kx, ky⟩ := cE_zero h1
  have h4 := cE_of my mx ky kx
  simp only [cV, h1, h2, h3, h4, if_true]
  refine ⟨trivial, ordB_anti _ _ _ _ _ _, ordB_three _ _ _ _ _ _, ordB_three _ _ _ _ _ _, ordB_three _ _ _ _ _ _, ?_, ?_, ?_⟩
  · have := ordB_trans x.k x.n x.s y.k y.n y.s z.k z.n z.s
    omega
  · intro h
    obtain ⟨ek, en, es⟩ := (ordB_zero _ _ _ _ _ _).1 h
    rw [ek, en]
    unfold ordB
    rw [es]
  · have hz := ordB_zero x.k x.n x.s y.k y.n y.s
    have lx := may_short mx kx
    have ly := may_short my ky
    have hs : (x.s.toList == y.s.toList) = decide (x.s.data.toList = y.s.data.toList) := by 
      rw [Lib.toList_data, Lib.toList_data]
      by_cases h : x.s.data.toList = y.s.data.toList
      · rw [h, decide_eq_true rfl]; exact beq_self_eq_true _
      · rw [decide_eq_false h, beq_eq_false_iff_ne]; exact h
    unfold Da.same
    rw [hs, lx, ly]
    simp only [List.range_zero, List.all_nil, Bool.and_true, decide_true]
    by_cases a : x.k = y.k <;> by_cases b : x.n = y.n <;> by_cases c : x.s.data.toList = y.s.data.toList <;> simp_all
end Go.Proofs.YtekcoddjdjllhaaDoor
