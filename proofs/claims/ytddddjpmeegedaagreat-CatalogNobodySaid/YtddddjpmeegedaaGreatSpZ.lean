/- Put into a tree that is one leaf, behind all others. -/
import Derived.Test.YtddddjpmeegedaaGreatSpY
set_option linter.unusedVariables false
set_option linter.unusedSimpArgs false
namespace Go.Proofs.YtddddjpmeegedaaGreat
open Go.RowKit

theorem Sorted.snoc {L : List KV} {x : KV} (h : Sorted L) (he : ∀ t (h : t < L.length), cmpK L[t] x.k < 0) : Sorted (L ++ [x]) := by
  intro i j hi hj hij
  rw [List.length_append, List.length_singleton] at hi hj
  have hi' : i < L.length := by omega
  rw [List.getElem_append_left hi']
  by_cases hj' : j < L.length
  · rw [List.getElem_append_left hj']
    exact h i j hi' hj' hij
  · have : j = L.length := by omega
    subst this
    rw [List.getElem_append_right (Nat.le_refl _)]
    have := he i hi'
    unfold cmpK at this
    simpa using this
theorem Leaf.next {bs : Nat} {B : Base bs} {R : Raw} {k : Nat} {L L' : List KV} (h : Leaf R k L) (hf : Fine B R) (hok : ∀ x ∈ L', x.ok) (hs : Sorted L') (hlen : (leafB L').length ≤ 512) (hn : L'.length < 256) :
    Fine B (R.put (R.root k) 0 (pageL (leafB L'))) ∧ Leaf (R.put (R.root k) 0 (pageL (leafB L'))) k L' ∧ (R.put (R.root k) 0 (pageL (leafB L'))).page 0 = R.page 0 ∧ ∀ p, p ≠ R.root k → (R.put (R.root k) 0 (pageL (leafB L'))).page p = R.page p := by
  have hp : R.root k ≠ 0 := by have := h.top.1; omega
  obtain ⟨h1, h2⟩ := hf.put hp 0 (pageL (leafB L'))
  have hroot : (R.put (R.root k) 0 (pageL (leafB L'))).root k = R.root k := by
    show num ((R.put (R.root k) 0 (pageL (leafB L'))).page 0) (8 + 4 * k) = num (R.page 0) (8 + 4 * k)
    rw [h2]
  refine ⟨h1, ⟨?_, ?_, hok, hs, hlen, hn⟩, h2, fun p hp' => if_neg hp'⟩
  · rw [hroot]
    unfold Raw.total
    rw [h2]
    exact h.top
  · rw [hroot]
    show (if R.root k = R.root k then splice (R.page (R.root k)) 0 (pageL (leafB L')) else R.page (R.root k)) = _
    rw [if_pos rfl]
    exact splice_whole _ _ (by rw [h.len512, pageL_length hlen])

set_option maxRecDepth 100000 in
set_option maxHeartbeats 2000000 in
theorem Put_end {bs : Nat} {B : Base bs} {w : World} {tb ba k : Nat} {F : Nat → Prop} {R : Raw} (ht : w.heap[tb]? = some (treeO ba k)) (hA : ActIs B w ba F R) (hf : Fine B R) (htF : ¬ F tb) (hk : k < 16) {L : List KV} (hL : Leaf R k L)
    (x : KV) (hx : x.ok) (hx0 : 0 < x.k.size) (hend : ∀ t (h : t < L.length), cmpK L[t] x.k < 0) (hlen : (leafB (L ++ [x])).length ≤ 512) (hn : L.length + 1 < 256) :
    Calls Tryz.prog 27 #[.pointer (some ⟨tb, 0, none⟩), .string x.k, .string x.v] w fun e w' => e = .returned (.tuple #[.bool true, .int .i64 0]) ∧ Step B ba w F (R.put (R.root k) 0 (pageL (leafB (L ++ [x])))) w' := by
  have HT := Lib.hid (top_any ht hA hf.cov htF hk)
  have h1 : ¬ R.root k = 0 := by have := hL.top.1; omega
  have h1' : (R.root k == 0) = false := by simpa using h1
  have hltb : tb < w.heap.size := (Array.getElem?_eq_some_iff.1 ht).1
  have H := Lib.hid (And.intro ht (And.intro hf (And.intro hL (And.intro hx (And.intro hend (And.intro hlen hn))))))
  have f1 : (x.k.size : Int) ≤ 96 := by have := hx.1; omega
  have f2 : (x.v.size : Int) ≤ 32 := by have := hx.2; omega
  have f0 : x.k.toList.isEmpty = false := by
    rw [Go.Lib.toList_data]
    cases h : x.k.data.toList with
    | nil =>
      have e : x.k.size = x.k.data.toList.length := by simp
      rw [h] at e
      have e' : x.k.size = 0 := e
      omega
    | cons _ _ => rfl
  clear ht hA hf hL hx hend hlen
  go_enter Tryz.func27, Tryz.ntmps27
  go_wp2_with fail
  refine HT.out.mono ?_
  rintro e w1 ⟨rfl, hst⟩
  have ht1 := hst.block H.out.1 htF
  obtain ⟨F1, h1A, hF1, ho1⟩ := hst
  have htF1 : ¬ F1 tb := fun e => htF (hF1 tb hltb e)
  have HP := Lib.hid (put_end ht1 h1A H.out.2.1.cov htF1 (R.root k) (H.out.2.1.there H.out.2.2.1.top) L H.out.2.2.1.page H.out.2.2.1.ok H.out.2.2.1.rises x H.out.2.2.2.1 H.out.2.2.2.2.1 H.out.2.2.2.2.2.1 hn)
  have HO := Lib.hid (And.intro ho1 hF1)
  clear ht1 h1A ho1 hF1 htF1 HT
  go_wp2_with fail
  refine HP.out.mono ?_
  rintro e w2 ⟨rfl, hst⟩
  have HS := Lib.hid (Step.trans HO.out.1 HO.out.2 hst)
  clear hst
  go_wp2
  go_ret2
  exact ⟨rfl, HS.out⟩
end Go.Proofs.YtddddjpmeegedaaGreat
