/- What an action holds: plain laws of page 0. -/
import Derived.Test.YtddddjpmeegedaaGreatSpX
set_option linter.unusedVariables false
set_option linter.unusedSimpArgs false
namespace Go.Proofs.YtddddjpmeegedaaGreat
open Go.RowKit

theorem splice_getD (l s : List UInt8) (o i : Nat) (h : o + s.length ≤ l.length) : (splice l o s).getD i 0 = if o ≤ i ∧ i < o + s.length then s.getD (i - o) 0 else l.getD i 0 := by
  unfold splice
  simp only [List.getD_eq_getElem?_getD]
  congr 1
  have ht : (l.take o).length = o := by rw [List.length_take]; omega
  by_cases h1 : i < o
  · rw [List.getElem?_append_left (by omega), List.getElem?_take, if_pos h1, if_neg (by omega)]
  · rw [List.getElem?_append_right (by omega), ht]
    by_cases h2 : i < o + s.length
    · rw [List.getElem?_append_left (by omega), if_pos ⟨by omega, h2⟩]
    · rw [List.getElem?_append_right (by omega), List.getElem?_drop, if_neg (by omega)]
      rw [show o + s.length + (i - o - s.length) = i by omega]
theorem digL_length (n : Int) : (digL n).length = 4 := rfl
theorem num_same (l : List UInt8) (o : Nat) (n : Int) (h : o + 4 ≤ l.length) (h0 : 0 ≤ n) (h1 : n < 4294967296) : num (splice l o (digL n)) o = n := by
  unfold num
  rw [splice_getD _ _ _ _ (by rw [digL_length]; exact h), splice_getD _ _ _ _ (by rw [digL_length]; exact h), splice_getD _ _ _ _ (by rw [digL_length]; exact h), splice_getD _ _ _ _ (by rw [digL_length]; exact h), digL_length,
    if_pos (by omega), if_pos (by omega), if_pos (by omega), if_pos (by omega), show o - o = 0 by omega, show o + 1 - o = 1 by omega, show o + 2 - o = 2 by omega, show o + 3 - o = 3 by omega]
  exact num_dig n h0 h1
theorem num_other (l : List UInt8) (o i : Nat) (n : Int) (h : o + 4 ≤ l.length) (hi : i + 4 ≤ o ∨ o + 4 ≤ i) : num (splice l o (digL n)) i = num l i := by
  unfold num
  rw [splice_getD _ _ _ _ (by rw [digL_length]; exact h), splice_getD _ _ _ _ (by rw [digL_length]; exact h), splice_getD _ _ _ _ (by rw [digL_length]; exact h), splice_getD _ _ _ _ (by rw [digL_length]; exact h), digL_length,
    if_neg (by omega), if_neg (by omega), if_neg (by omega), if_neg (by omega)]
theorem splice_whole (l s : List UInt8) (h : s.length = l.length) : splice l 0 s = s := by
  unfold splice
  rw [List.take_zero, List.nil_append, Nat.zero_add, List.drop_of_length_le (by omega), List.append_nil]

/-- An action that has freed nothing. -/
structure Fine {bs : Nat} (B : Base bs) (R : Raw) : Prop where
  cov : Cov B R
  len0 : (R.page 0).length = 512
  free0 : num (R.page 0) 4 = 0
  gone : ∀ p, R.gone p = false
theorem fine0 (bs : Nat) : Fine (base0 bs) raw0 := ⟨cov0 bs, by show zeros.length = 512; exact List.length_replicate, by unfold raw0; decide +kernel, fun _ => rfl⟩
theorem Fine.there {bs : Nat} {B : Base bs} {R : Raw} (h : Fine B R) {p : Int} (hp : 1 ≤ p ∧ p ≤ R.total) : thereE R p = 0 := by
  rw [thereE, if_pos ⟨hp.1, hp.2, h.gone p⟩]
/-- A page but the first is written over. -/
theorem Fine.put {bs : Nat} {B : Base bs} {R : Raw} (h : Fine B R) {p : Int} (hp : p ≠ 0) (o : Nat) (l : List UInt8) : Fine B (R.put p o l) ∧ (R.put p o l).page 0 = R.page 0 := by
  have e : (R.put p o l).page 0 = R.page 0 := by
    show (if (0 : Int) = p then splice (R.page p) o l else R.page 0) = _
    rw [if_neg (Ne.symm hp)]
  refine ⟨⟨⟨fun q h0 hq => ?_, ?_⟩, by rw [e]; exact h.len0, by rw [e]; exact h.free0, h.gone⟩, e⟩
  · unfold Raw.total at hq
    rw [e] at hq
    rcases h.cov.1 q h0 hq with h1 | h1
    · left; show (decide (q = p) || R.dirty q) = true; rw [h1]; simp
    · exact .inr h1
  · unfold Raw.total
    rw [e]
    exact h.cov.2
/-- A root is set. -/
theorem Fine.setRoot {bs : Nat} {B : Base bs} {R : Raw} (h : Fine B R) (k : Nat) (hk : k < 16) (n : Int) (hn : 0 ≤ n ∧ n ≤ 2147483647) :
    Fine B (R.put 0 (8 + 4 * k) (digL n)) ∧ (R.put 0 (8 + 4 * k) (digL n)).root k = n ∧ (R.put 0 (8 + 4 * k) (digL n)).total = R.total ∧ (∀ j, j ≠ k → (R.put 0 (8 + 4 * k) (digL n)).root j = R.root j) ∧ ∀ p, p ≠ 0 → (R.put 0 (8 + 4 * k) (digL n)).page p = R.page p := by
  have hl := h.len0
  have e : (R.put 0 (8 + 4 * k) (digL n)).page 0 = splice (R.page 0) (8 + 4 * k) (digL n) := by
    show (if (0 : Int) = 0 then splice (R.page 0) (8 + 4 * k) (digL n) else R.page 0) = _
    rw [if_pos rfl]
  have et : (R.put 0 (8 + 4 * k) (digL n)).total = R.total := by
    unfold Raw.total
    rw [e, num_other _ _ _ _ (by omega) (by omega)]
  refine ⟨⟨⟨fun q h0 hq => ?_, by rw [et]; exact h.cov.2⟩, ?_, ?_, h.gone⟩, ?_, et, fun j hj => ?_, fun p hp => if_neg hp⟩
  · rw [et] at hq
    rcases h.cov.1 q h0 hq with h1 | h1
    · left; show (decide (q = 0) || R.dirty q) = true; rw [h1]; simp
    · exact .inr h1
  · rw [e, length_splice _ _ _ (by rw [digL_length]; omega), hl]
  · rw [e, num_other _ _ _ _ (by omega) (by omega)]; exact h.free0
  · unfold Raw.root
    rw [e, num_same _ _ _ (by omega) hn.1 (by omega)]
  · unfold Raw.root
    rw [e, num_other _ _ _ _ (by omega) (by omega)]
/-- A new page. -/
theorem Fine.alloc {bs : Nat} {B : Base bs} {R : Raw} (h : Fine B R) (ht : R.total + 1 < 4096) :
    Fine B ((R.put 0 0 (digL (R.total + 1))).lay (R.total + 1) zeros) ∧ ((R.put 0 0 (digL (R.total + 1))).lay (R.total + 1) zeros).total = R.total + 1 ∧ (∀ j, j < 16 → ((R.put 0 0 (digL (R.total + 1))).lay (R.total + 1) zeros).root j = R.root j) ∧
    ((R.put 0 0 (digL (R.total + 1))).lay (R.total + 1) zeros).page (R.total + 1) = zeros ∧ ∀ p, p ≠ 0 → p ≠ R.total + 1 → ((R.put 0 0 (digL (R.total + 1))).lay (R.total + 1) zeros).page p = R.page p := by
  have hl := h.len0
  have h0 : 0 ≤ R.total := (num_range _ _).1
  have e : ((R.put 0 0 (digL (R.total + 1))).lay (R.total + 1) zeros).page 0 = splice (R.page 0) 0 (digL (R.total + 1)) := by
    show (if (0 : Int) = R.total + 1 then zeros else (if (0 : Int) = 0 then splice (R.page 0) 0 (digL (R.total + 1)) else R.page 0)) = _
    rw [if_neg (by omega), if_pos rfl]
  have et : ((R.put 0 0 (digL (R.total + 1))).lay (R.total + 1) zeros).total = R.total + 1 := by
    have := num_same (R.page 0) 0 (R.total + 1) (by omega) (by omega) (by omega)
    show num (((R.put 0 0 (digL (R.total + 1))).lay (R.total + 1) zeros).page 0) 0 = _
    rw [e, this]
  refine ⟨⟨⟨fun q hq0 hq => ?_, by rw [et]; exact ht⟩, ?_, ?_, h.gone⟩, et, fun j hj => ?_, if_pos rfl, fun p hp hp' => ?_⟩
  · rw [et] at hq
    by_cases e1 : q = R.total + 1
    · left; show (decide (q = R.total + 1) || _) = true; simp [e1]
    · rcases h.cov.1 q hq0 (by omega) with h1 | h1
      · left; show (decide (q = R.total + 1) || (decide (q = 0) || R.dirty q)) = true; rw [h1]; simp
      · exact .inr h1
  · rw [e, length_splice _ _ _ (by rw [digL_length]; omega), hl]
  · rw [e, num_other _ _ _ _ (by omega) (by omega)]; exact h.free0
  · unfold Raw.root
    rw [e, num_other _ _ _ _ (by omega) (by omega)]
  · show (if p = R.total + 1 then zeros else (if p = 0 then _ else R.page p)) = _
    rw [if_neg hp', if_neg hp]

/-- A tree that is one leaf. -/
structure Leaf (R : Raw) (k : Nat) (L : List KV) : Prop where
  top : 1 ≤ R.root k ∧ R.root k ≤ R.total
  page : R.page (R.root k) = pageL (leafB L)
  ok : ∀ x ∈ L, x.ok
  rises : Sorted L
  len : (leafB L).length ≤ 512
  few : L.length < 256
theorem Leaf.len512 {R : Raw} {k : Nat} {L : List KV} (h : Leaf R k L) : (R.page (R.root k)).length = 512 := by rw [h.page]; exact pageL_length h.len
end Go.Proofs.YtddddjpmeegedaaGreat
