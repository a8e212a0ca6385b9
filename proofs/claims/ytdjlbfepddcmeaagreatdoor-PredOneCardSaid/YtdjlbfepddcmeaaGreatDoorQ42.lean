/- PredOne: plain laws. -/
import Derived.Test.YtdjlbfepddcmeaaGreatDoorQ39
set_option linter.unusedVariables false
set_option linter.unusedSimpArgs false
namespace Go.Proofs.YtdjlbfepddcmeaaGreatDoor
open Go.RowKit

def leafP (op : Int) (d : Da) : PT := .node op 0 d []
def colsX (k : Int) : List Co := [⟨⟨#[120]⟩, k⟩]
theorem one_may (k : Int) (op : Int) (d : Da) (ho : 1 ≤ op ∧ op ≤ 5) (hk : k = 1 ∨ k = 2) (hd : d.k = k) : mayP (colsX k) 8 (leafP op d) = d.may := by
  show (if 1 ≤ op ∧ op ≤ 6 then decide (([] : List PT).length = 0) && (decide ((0 : Int) ≤ 0) && decide ((0 : Int) < (colsX k).length)) && d.may && suitsB op d.k (kindAt (colsX k) 0) else _) = _
  rw [if_pos ⟨ho.1, by omega⟩]
  have h3 : decide (k = 3) = false := by simp; omega
  have hs : suitsB op k k = true := by
    unfold suitsB
    rw [if_neg (by omega)]
    split
    · simp
    · simp [h3]
  have ka : kindAt (colsX k) 0 = k := rfl
  rw [ka, hd, hs]
  simp [colsX]
theorem one_err (k : Int) (op : Int) (d : Da) (cells : List El) (ho : 1 ≤ op ∧ op ≤ 5) (hk : k = 1 ∨ k = 2) (hd : d.k = k) : holdE (colsX k) cells (leafP op d) = holdE (colsX k) cells (leafP 1 d) := by
  unfold holdE predE
  rw [one_may k op d ho hk hd, one_may k 1 d ⟨by omega, by omega⟩ hk hd]
theorem simple_nil {d : Da} (hm : d.may = true) (hk : d.k = 1 ∨ d.k = 2) : d.l = [] := by
  unfold Da.may at hm
  rw [if_neg (by omega)] at hm
  unfold simpleB at hm
  simp only [Bool.and_eq_true, decide_eq_true_eq] at hm
  exact List.length_eq_zero_iff.1 hm.1
theorem one_same {x d : Da} (hx : x.may = true) (hd : d.may = true) (hk : x.k = 1 ∨ x.k = 2) (he : d.k = x.k) : x.same d = decide (ordD x d = 0) := by
  have h1 := simple_nil hx hk
  have h2 := simple_nil hd (by omega)
  have hz := ordB_zero x.k x.n x.s d.k d.n d.s
  by_cases h : ordD x d = 0
  · obtain ⟨_, hn, hs⟩ := hz.1 h
    rw [decide_eq_true h]
    unfold Da.same
    rw [Go.Lib.toList_data, Go.Lib.toList_data]
    simp [h1, h2, hn, hs, he]
  · rw [decide_eq_false h]
    have : ¬ (x.k = d.k ∧ x.n = d.n ∧ x.s.data.toList = d.s.data.toList) := fun e => h (hz.2 e)
    unfold Da.same
    rw [Go.Lib.toList_data, Go.Lib.toList_data]
    simp only [he, true_and] at this
    by_cases e1 : x.n = d.n
    · have e2 : (x.s.data.toList == d.s.data.toList) = false := by
        rw [beq_eq_false_iff_ne]
        exact fun e => this ⟨e1, e⟩
      simp [e2]
    · simp [e1]
theorem one_vals (k : Int) (d : Da) (x : El) (hk : k = 1 ∨ k = 2) (hd : d.k = k) (hx : x.d.k = k) (h0 : holdE (colsX k) [x] (leafP 1 d) = 0) :
    holdV (colsX k) [x] (leafP 1 d) = decide (ordD x.d d = 0) ∧ holdV (colsX k) [x] (leafP 2 d) = decide (ordD x.d d < 0) ∧ holdV (colsX k) [x] (leafP 3 d) = decide (0 < ordD x.d d) ∧
    holdV (colsX k) [x] (leafP 4 d) = decide (ordD x.d d ≤ 0) ∧ holdV (colsX k) [x] (leafP 5 d) = decide (0 ≤ ordD x.d d) := by
  have hr : rowE (colsX k) [x] = 0 := by
    by_cases h : rowE (colsX k) [x] = 0
    · exact h
    · rw [holdE_row h] at h0; exact absurd h0 h
  have hm : d.may = true := by
    rw [holdE_may hr, one_may k 1 d ⟨by omega, by omega⟩ hk hd] at h0
    cases hh : d.may
    · simp [hh] at h0
    · rfl
  have hxm : x.d.may = true := by
    unfold rowE rowB keepB at hr
    by_cases hc : colsB (colsX k) = true
    · by_cases hh : x.d.may = true
      · exact hh
      · simp [hc, hh] at hr
    · simp [hc] at hr
  have key : ∀ op, 1 ≤ op ∧ op ≤ 5 → holdE (colsX k) [x] (leafP op d) = 0 := fun op ho => (one_err k op d [x] ho hk hd).trans h0
  have hca : cellAt [x] 0 = x.d := rfl
  refine ⟨?_, ?_, ?_, ?_, ?_⟩
  · rw [holdV, if_pos h0, ← one_same hxm hm (by omega) (by omega), trueP]; simp [leafP, PT.op, PT.col, PT.d, hca]
  · rw [holdV, if_pos (key 2 ⟨by omega, by omega⟩), trueP]; simp [leafP, PT.op, PT.col, PT.d, hca]
  · rw [holdV, if_pos (key 3 ⟨by omega, by omega⟩), trueP]; simp [leafP, PT.op, PT.col, PT.d, hca]
  · rw [holdV, if_pos (key 4 ⟨by omega, by omega⟩), trueP]; simp [leafP, PT.op, PT.col, PT.d, hca]
  · rw [holdV, if_pos (key 5 ⟨by omega, by omega⟩), trueP]; simp [leafP, PT.op, PT.col, PT.d, hca]
/-- Just one of three; and the other two turned. -/
theorem one_law (k : Int) (d : Da) (x : El) (hk : k = 1 ∨ k = 2) (hd : d.k = k) (hx : x.d.k = k) (h0 : holdE (colsX k) [x] (leafP 1 d) = 0) :
    ((if holdV (colsX k) [x] (leafP 1 d) then (1 : Int) else 0) + (if holdV (colsX k) [x] (leafP 2 d) then 1 else 0) + (if holdV (colsX k) [x] (leafP 3 d) then 1 else 0) = 1) ∧
    holdV (colsX k) [x] (leafP 4 d) = (!holdV (colsX k) [x] (leafP 3 d)) ∧ holdV (colsX k) [x] (leafP 5 d) = (!holdV (colsX k) [x] (leafP 2 d)) := by
  obtain ⟨h1, h2, h3, h4, h5⟩ := one_vals k d x hk hd hx h0
  rw [h1, h2, h3, h4, h5]
  generalize ordD x.d d = o
  rcases Int.lt_trichotomy o 0 with h | h | h
  · refine ⟨?_, ?_, ?_⟩
    · rw [decide_eq_false (show ¬ o = 0 by omega), decide_eq_true h, decide_eq_false (show ¬ 0 < o by omega)]; rfl
    · rw [decide_eq_true (show o ≤ 0 by omega), decide_eq_false (show ¬ 0 < o by omega)]; rfl
    · rw [decide_eq_false (show ¬ 0 ≤ o by omega), decide_eq_true h]; rfl
  · subst h; exact ⟨rfl, rfl, rfl⟩
  · refine ⟨?_, ?_, ?_⟩
    · rw [decide_eq_false (show ¬ o = 0 by omega), decide_eq_false (show ¬ o < 0 by omega), decide_eq_true h]; rfl
    · rw [decide_eq_false (show ¬ o ≤ 0 by omega), decide_eq_true h]; rfl
    · rw [decide_eq_true (show 0 ≤ o by omega), decide_eq_false (show ¬ o < 0 by omega)]; rfl
end Go.Proofs.YtdjlbfepddcmeaaGreatDoor
