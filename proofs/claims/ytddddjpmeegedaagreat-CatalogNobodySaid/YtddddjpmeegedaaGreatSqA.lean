/- Put into an empty tree. -/
import Derived.Test.YtddddjpmeegedaaGreatSpZ
set_option linter.unusedVariables false
set_option linter.unusedSimpArgs false
namespace Go.Proofs.YtddddjpmeegedaaGreat
open Go.RowKit

/-- The steps of the first Put: a page, an empty leaf, the root, the leaf. -/
def fst1 (R : Raw) : Raw := (R.put 0 0 (digL (R.total + 1))).lay (R.total + 1) zeros
def fst2 (R : Raw) : Raw := (fst1 R).put (R.total + 1) 0 (pageL (leafB []))
def fst3 (R : Raw) (k : Nat) : Raw := (fst2 R).put 0 (8 + 4 * k) (digL (R.total + 1))
def fst4 (R : Raw) (k : Nat) (x : KV) : Raw := (fst3 R k).put (R.total + 1) 0 (pageL (leafB [x]))
theorem first_laws {bs : Nat} {B : Base bs} {R : Raw} (h : Fine B R) (ht : R.total + 1 < 4096) (k : Nat) (hk : k < 16) :
    Fine B (fst1 R) ∧ (fst1 R).total = R.total + 1 ∧ Fine B (fst2 R) ∧ (fst2 R).total = R.total + 1 ∧ Fine B (fst3 R k) ∧ Leaf (fst3 R k) k [] ∧ (fst3 R k).root k = R.total + 1 ∧ (fst3 R k).total = R.total + 1 ∧ (∀ j, j < 16 → j ≠ k → (fst3 R k).root j = R.root j) ∧
    ∀ p, p ≠ 0 → p ≠ R.total + 1 → (fst3 R k).page p = R.page p := by
  have h0 : 0 ≤ R.total := (num_range _ _).1
  obtain ⟨f1, t1, r1, p1, q1⟩ := h.alloc ht
  have hne : R.total + 1 ≠ 0 := by omega
  obtain ⟨f2, z2⟩ := f1.put hne 0 (pageL (leafB []))
  have hl : (pageL (leafB [])).length = 512 := pageL_length (by simp [leafB])
  have e2 : (fst2 R).page (R.total + 1) = pageL (leafB []) := by
    show (if R.total + 1 = R.total + 1 then splice ((fst1 R).page (R.total + 1)) 0 (pageL (leafB [])) else _) = _
    rw [if_pos rfl]
    exact splice_whole _ _ (by rw [hl, show (fst1 R).page (R.total + 1) = zeros from p1]; exact List.length_replicate.symm)
  have t2 : (fst2 R).total = R.total + 1 := by
    show num ((fst2 R).page 0) 0 = _
    rw [show (fst2 R).page 0 = (fst1 R).page 0 from z2]
    exact t1
  obtain ⟨f3, s3, t3, r3, p3⟩ := Fine.setRoot (R := fst2 R) f2 k hk (R.total + 1) ⟨by omega, by omega⟩
  have hroot2 : ∀ j, (fst2 R).root j = (fst1 R).root j := fun j => by
    show num ((fst2 R).page 0) (8 + 4 * j) = num ((fst1 R).page 0) (8 + 4 * j)
    rw [show (fst2 R).page 0 = (fst1 R).page 0 from z2]
  refine ⟨f1, t1, f2, t2, f3, ⟨?_, ?_, by simp, fun i j hi => by simp at hi, by simp [leafB], by simp⟩, s3, t3.trans t2, fun j hj hne' => (r3 j hne').trans ((hroot2 j).trans (r1 j hj)), fun p hp hp' => (p3 p hp).trans ?_⟩
  · rw [show (fst3 R k).root k = R.total + 1 from s3, show (fst3 R k).total = R.total + 1 from t3.trans t2]
    omega
  · rw [show (fst3 R k).root k = R.total + 1 from s3]
    exact (p3 _ hne).trans e2
  · show (if p = R.total + 1 then _ else (fst1 R).page p) = _
    rw [if_neg hp']
    exact q1 p hp hp'

set_option maxRecDepth 100000 in
set_option maxHeartbeats 2000000 in
theorem Put_first {bs : Nat} {B : Base bs} {w : World} {tb ba k : Nat} {F : Nat → Prop} {R : Raw} (ht : w.heap[tb]? = some (treeO ba k)) (hA : ActIs B w ba F R) (hf : Fine B R) (htF : ¬ F tb) (hk : k < 16) (hr : R.root k = 0) (htot : R.total + 1 < 4096)
    (x : KV) (hx : x.ok) (hx0 : 0 < x.k.size) :
    Calls Tryz.prog 27 #[.pointer (some ⟨tb, 0, none⟩), .string x.k, .string x.v] w fun e w' => e = .returned (.tuple #[.bool true, .int .i64 0]) ∧ Step B ba w F (fst4 R k x) w' := by
  have HT := top_any ht hA hf.cov htF hk
  rw [hr] at HT
  have HTh := Lib.hid HT
  have hltb : tb < w.heap.size := (Array.getElem?_eq_some_iff.1 ht).1
  have HLaw := Lib.hid (first_laws hf htot k hk)
  have H := Lib.hid (And.intro ht (And.intro hf hx))
  have f1 : (x.k.size : Int) ≤ 96 := by have := hx.1; omega
  have f2 : (x.v.size : Int) ≤ 32 := by have := hx.2; omega
  have f0 : x.k.toList.isEmpty = false := by
    rw [Go.Lib.toList_data]
    cases h : x.k.data.toList with
    | nil =>
      have e : x.k.size = x.k.data.toList.length := by simp
      rw [h] at e
      have e' : x.k.size = 0 := e
      omega
    | cons _ _ => rfl
  have h0 : 0 ≤ R.total := (num_range _ _).1
  clear ht hA hx HT hr
  go_enter Tryz.func27, Tryz.ntmps27
  go_wp2_with fail
  refine HTh.out.mono ?_
  rintro e w1 ⟨rfl, hst⟩
  have ht1 := hst.block H.out.1 htF
  obtain ⟨F1, h1A, hF1, ho1⟩ := hst
  have htF1 : ¬ F1 tb := fun e => htF (hF1 tb hltb e)
  have HAl := Lib.hid (alloc_new h1A hf.cov hf.free0 htot)
  have HO1 := Lib.hid (And.intro ho1 hF1)
  obtain ⟨t0, t1⟩ := tree2 ht1
  have HB1 := Lib.hid (And.intro ht1 htF1)
  have hlt1 : tb < w1.heap.size := (Array.getElem?_eq_some_iff.1 ht1).1
  clear ht1 h1A ho1 hF1 htF1 HTh hf
  go_wp2_with fail
  refine HAl.out.mono ?_
  rintro e w2 ⟨rfl, hst⟩
  have ht2 := hst.block HB1.out.1 HB1.out.2
  obtain ⟨F2, h2A, hF2, ho2⟩ := hst
  have htF2 : ¬ F2 tb := fun e => HB1.out.2 (hF2 tb hlt1 e)
  have hb2 : Below w2.heap.size w2 (w2.alloc (nodeO true (.slice none 0 0) (.slice none 0 0))) := by go_grown
  have HW := Lib.hid (write_leaf (L := []) (A := none) (c := 0) ((hb2.block tb (Array.getElem?_eq_some_iff.1 ht2).1).trans ht2) (h2A.below hb2) (show Cov B (fst1 R) from HLaw.out.1.cov) htF2 (R.total + 1) (HLaw.out.1.there ⟨by omega, by rw [HLaw.out.2.1]; omega⟩) (hnew w2 _) (.inl rfl) (by simp) (by simp [leafB]) (by simp))
  have HO2 := Lib.hid (And.intro (HO1.out.1.trans ho2 (fun k hk e => HO1.out.2 k hk e)) (And.intro (fun k (hk : k < w.heap.size) e => HO1.out.2 k hk (hF2 k (Nat.lt_of_lt_of_le hk HO1.out.1.size) e)) (And.intro ht2 (And.intro htF2 hb2))))
  have hlt2 : tb < w2.heap.size := (Array.getElem?_eq_some_iff.1 ht2).1
  clear ht2 h2A hF2 ho2 htF2 hb2 HAl t0 t1
  go_wp2_with fail
  refine HW.out.mono ?_
  rintro e w3 ⟨rfl, hst⟩
  have ht3 := hst.block ((HO2.out.2.2.2.2.block tb hlt2).trans HO2.out.2.2.1) HO2.out.2.2.2.1
  obtain ⟨F3, h3A, hF3, ho3⟩ := hst
  have hz2 : w2.heap.size ≤ (w2.alloc (nodeO true (.slice none 0 0) (.slice none 0 0))).heap.size := HO2.out.2.2.2.2.size
  have htF3 : ¬ F3 tb := fun e => HO2.out.2.2.2.1 (hF3 tb (by omega) e)
  have HO3 := Lib.hid (And.intro ((HO2.out.1.trans (Off.of_below HO2.out.2.2.2.2 (F := fun _ => False)) (fun _ _ h => h.elim)).trans ho3 (fun k hk e => HO2.out.2.1 k hk e)) (And.intro (fun k (hk : k < w.heap.size) e => HO2.out.2.1 k hk (hF3 k (by have := HO2.out.1.size; omega) e)) htF3))
  obtain ⟨t0, t1⟩ := tree2 ht3
  have hdr : Below w3.heap.size w3 w3.drew := (Below.refl _ _).drew
  have HSR := Lib.hid (setRoot_any (h3A.below hdr) (show Cov B (fst2 R) from HLaw.out.2.2.1.cov) k hk (R.total + 1) ⟨by omega, by omega⟩)
  have H3 := Lib.hid (And.intro ht3 (And.intro t0 t1))
  have hlt3 : tb < w3.heap.size := (Array.getElem?_eq_some_iff.1 ht3).1
  clear ht3 h3A hF3 ho3 htF3 HW
  go_wp2
  refine wp_region_noPanic ?_
  refine wp_region_held_drew (S := (fun w' => w'.cell? ⟨tb, 0, none⟩ = some (.pointer (some ⟨ba, 0, none⟩)) ∧ w'.cell? ⟨tb, 1, none⟩ = some (.int .i64 k))) (by kernel_rfl) ⟨t0, t1⟩ (fun hS => ?_)
  refine wpAnyH_take (i := 0) (v := ?_) rfl (by kernel_rfl) (by kernel_rfl) (by kernel_rfl) (fun _ _ _ h => h) (Or.inl ⟨by rfl, ?_⟩) hS ?_
  rotate_left
  · rintro w9 ⟨t0, t1⟩
    go_simp
    try with_reducible rfl
  try simp only [Act.put, List.getElem_toArray, List.getElem_cons_succ, List.getElem_cons_zero, List.setIfInBounds_toArray, List.set_cons_zero, List.set_cons_succ]
  refine wpAnyH_take (i := 1) (v := ?_) rfl (by kernel_rfl) (by kernel_rfl) (by kernel_rfl) (fun _ _ _ h => h) (Or.inl ⟨by rfl, ?_⟩) hS ?_
  rotate_left
  · rintro w9 ⟨t0, t1⟩
    go_simp
    try with_reducible rfl
  try simp only [Act.put, List.getElem_toArray, List.getElem_cons_succ, List.getElem_cons_zero, List.setIfInBounds_toArray, List.set_cons_zero, List.set_cons_succ]
  refine wpAnyH_take (i := 2) (v := ?_) rfl (by kernel_rfl) (by kernel_rfl) (by kernel_rfl) (fun _ _ _ h => h) (Or.inl ⟨by rfl, ?_⟩) hS ?_
  rotate_left
  · rintro w9 ⟨t0, t1⟩
    go_simp
    try with_reducible rfl
  try simp only [Act.put, List.getElem_toArray, List.getElem_cons_succ, List.getElem_cons_zero, List.setIfInBounds_toArray, List.set_cons_zero, List.set_cons_succ]
  refine wpAnyH_take (i := 3) (v := ?_) rfl (by kernel_rfl) (by kernel_rfl) (by kernel_rfl) (fun _ _ _ h => h) (Or.inl ⟨by rfl, ?_⟩) hS ?_
  rotate_left
  · rintro w9 ⟨t0, t1⟩
    go_simp
    try with_reducible rfl
  try simp only [Act.put, List.getElem_toArray, List.getElem_cons_succ, List.getElem_cons_zero, List.setIfInBounds_toArray, List.set_cons_zero, List.set_cons_succ]
  refine wpAnyH_take (i := 4) (v := ?_) rfl (by kernel_rfl) (by kernel_rfl) (by kernel_rfl) (fun _ _ _ h => h) (Or.inl ⟨by rfl, ?_⟩) hS ?_
  rotate_left
  · rintro w9 ⟨t0, t1⟩
    go_simp
    try with_reducible rfl
  try simp only [Act.put, List.getElem_toArray, List.getElem_cons_succ, List.getElem_cons_zero, List.setIfInBounds_toArray, List.set_cons_zero, List.set_cons_succ]
  refine wpAnyH_take (i := 5) (v := ?_) rfl (by kernel_rfl) (by kernel_rfl) (by kernel_rfl) (fun _ _ _ h => h) (Or.inl ⟨by rfl, ?_⟩) hS ?_
  rotate_left
  · rintro w9 ⟨t0, t1⟩
    go_simp
    try with_reducible rfl
  try simp only [Act.put, List.getElem_toArray, List.getElem_cons_succ, List.getElem_cons_zero, List.setIfInBounds_toArray, List.set_cons_zero, List.set_cons_succ]
  refine wpAnyH_take (i := 6) (v := ?_) rfl (by kernel_rfl) (by kernel_rfl) (by kernel_rfl) (fun _ _ _ h => h) (Or.inl ⟨by rfl, ?_⟩) hS ?_
  rotate_left
  · rintro w9 ⟨t0, t1⟩
    go_simp
    try with_reducible rfl
  try simp only [Act.put, List.getElem_toArray, List.getElem_cons_succ, List.getElem_cons_zero, List.setIfInBounds_toArray, List.set_cons_zero, List.set_cons_succ]
  refine wpAnyH_take (i := 7) (v := ?_) rfl (by kernel_rfl) (by kernel_rfl) (by kernel_rfl) (fun _ _ _ h => h) (Or.inl ⟨by rfl, ?_⟩) hS ?_
  rotate_left
  · rintro w9 ⟨t0, t1⟩
    go_simp
    try with_reducible rfl
  try simp only [Act.put, List.getElem_toArray, List.getElem_cons_succ, List.getElem_cons_zero, List.setIfInBounds_toArray, List.set_cons_zero, List.set_cons_succ]
  refine wpAnyH_take (i := 8) (v := ?_) rfl (by kernel_rfl) (by kernel_rfl) (by kernel_rfl) (fun _ _ _ h => h) (Or.inl ⟨by rfl, ?_⟩) hS ?_
  rotate_left
  · rintro w9 ⟨t0, t1⟩
    go_simp
    try with_reducible rfl
  try simp only [Act.put, List.getElem_toArray, List.getElem_cons_succ, List.getElem_cons_zero, List.setIfInBounds_toArray, List.set_cons_zero, List.set_cons_succ]
  refine wpAnyH_ready (rs := [9]) (by kernel_rfl) (by simp) ?_
  refine AllReadyH.cons rfl (fun K hK => ?_) AllReadyH.nil
  go_simp
  refine HSR.out.mono ?_
  rintro e w4 ⟨rfl, hst⟩
  have hS4 := And.intro (hst.cell H3.out.2.1 HO3.out.2.2) (hst.cell H3.out.2.2 HO3.out.2.2)
  have ht4 : w4.heap[tb]? = some (treeO ba k) := hst.block (show w3.drew.heap[tb]? = some (treeO ba k) from H3.out.1) HO3.out.2.2
  obtain ⟨F4, h4A, hF4, ho4⟩ := hst
  have htF4 : ¬ F4 tb := fun e => HO3.out.2.2 (hF4 tb hlt3 e)
  have HO4 := Lib.hid (And.intro ((HO3.out.1.trans (Off.of_below ((Below.refl w3.heap.size w3).drew) (F := fun _ => False)) (fun _ _ h => h.elim)).trans ho4 (fun k hk e => HO3.out.2.1 k hk e)) (fun k (hk : k < w.heap.size) e => HO3.out.2.1 k hk (hF4 k (Nat.lt_of_lt_of_le hk HO3.out.1.size) e)))
  have hlf := HLaw.out.2.2.2.2.2.1
  have HP := Lib.hid (put_end (R := fst3 R k) ht4 h4A HLaw.out.2.2.2.2.1.cov htF4 (R.total + 1) (HLaw.out.2.2.2.2.1.there ⟨by omega, by rw [HLaw.out.2.2.2.2.2.2.2.1]; omega⟩) [] (by have := hlf.page; rw [HLaw.out.2.2.2.2.2.2.1] at this; exact this) (by simp) hlf.rises x H.out.2.2 (by simp) (by
    have h1 := H.out.2.2.1
    have h2 := H.out.2.2.2
    simp [leafB, itemB, lenB]
    omega) (by simp))
  clear ht4 h4A hF4 ho4 htF4 HSR hlf t0 t1
  refine hK.out _ _ hS4 (fun _ => ?_)
  clear hK K
  try simp only [Act.put, List.getElem_toArray, List.getElem_cons_succ, List.getElem_cons_zero, List.setIfInBounds_toArray, List.set_cons_zero, List.set_cons_succ]
  refine wpAnyH_done (by kernel_rfl) ?_ _
  refine NoPanic.normal ?_
  go_wp2_with fail
  refine HP.out.mono ?_
  rintro e w5 ⟨rfl, hst⟩
  have HS := Lib.hid (Step.trans HO4.out.1 HO4.out.2 hst)
  clear hst
  go_wp2
  go_ret2
  exact ⟨rfl, HS.out⟩
end Go.Proofs.YtddddjpmeegedaaGreat
