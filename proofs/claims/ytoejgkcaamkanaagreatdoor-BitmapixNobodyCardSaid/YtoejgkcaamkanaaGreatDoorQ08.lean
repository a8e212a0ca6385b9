/- Put into an empty tree. Reading a tree that is one leaf: Get, first, From, Next. -/
import Derived.Test.YtoejgkcaamkanaaGreatDoorQ07
set_option linter.unusedVariables false
set_option linter.unusedSimpArgs false
namespace Go.Proofs.YtoejgkcaamkanaaGreatDoor
open Go.RowKit

/-- The steps of the first Put: a page, an empty leaf, the root, the leaf. -/
def fst1 (R : Raw) : Raw := (R.put 0 0 (digL (R.total + 1))).lay (R.total + 1) zeros
def fst2 (R : Raw) : Raw := (fst1 R).put (R.total + 1) 0 (pageL (leafB []))
def fst3 (R : Raw) (k : Nat) : Raw := (fst2 R).put 0 (8 + 4 * k) (digL (R.total + 1))
def fst4 (R : Raw) (k : Nat) (x : KV) : Raw := (fst3 R k).put (R.total + 1) 0 (pageL (leafB [x]))
theorem first_laws {bs : Nat} {B : Base bs} {R : Raw} (h : Fine B R) (ht : R.total + 1 < 4096) (k : Nat) (hk : k < 16) :
    Fine B (fst1 R) ∧ (fst1 R).total = R.total + 1 ∧ Fine B (fst2 R) ∧ (fst2 R).total = R.total + 1 ∧ Fine B (fst3 R k) ∧ Leaf (fst3 R k) k [] ∧ (fst3 R k).root k = R.total + 1 ∧ (fst3 R k).total = R.total + 1 ∧ (∀ j, j < 16 → j ≠ k → (fst3 R k).root j = R.root j) ∧
    ∀ p, p ≠ 0 → p ≠ R.total + 1 → (fst3 R k).page p = R.page p := by
  have h0 : 0 ≤ R.total := (num_range _ _).1
  obtain ⟨f1, t1, r1, p1, q1⟩ := h.alloc ht
  have hne : R.total + 1 ≠ 0 := by omega
  obtain ⟨f2, z2⟩ := f1.put hne 0 (pageL (leafB []))
  have hl : (pageL (leafB [])).length = 512 := pageL_length (by simp [leafB])
  have e2 : (fst2 R).page (R.total + 1) = pageL (leafB []) := by
    show (if R.total + 1 = R.total + 1 then splice ((fst1 R).page (R.total + 1)) 0 (pageL (leafB [])) else _) = _
    rw [if_pos rfl]
    exact splice_whole _ _ (by rw [hl, show (fst1 R).page (R.total + 1) = zeros from p1]; exact List.length_replicate.symm)
  have t2 : (fst2 R).total = R.total + 1 := by
    show num ((fst2 R).page 0) 0 = _
    rw [show (fst2 R).page 0 = (fst1 R).page 0 from z2]
    exact t1
  obtain ⟨f3, s3, t3, r3, p3⟩ := Fine.setRoot (R := fst2 R) f2 k hk (R.total + 1) ⟨by omega, by omega⟩
  have hroot2 : ∀ j, (fst2 R).root j = (fst1 R).root j := fun j => by
    show num ((fst2 R).page 0) (8 + 4 * j) = num ((fst1 R).page 0) (8 + 4 * j)
    rw [show (fst2 R).page 0 = (fst1 R).page 0 from z2]
  refine ⟨f1, t1, f2, t2, f3, ⟨?_, ?_, by simp, fun i j hi => by simp at hi, by simp [leafB], by simp⟩, s3, t3.trans t2, fun j hj hne' => (r3 j hne').trans ((hroot2 j).trans (r1 j hj)), fun p hp hp' => (p3 p hp).trans ?_⟩
  · rw [show (fst3 R k).root k = R.total + 1 from s3, show (fst3 R k).total = R.total + 1 from t3.trans t2]
    omega
  · rw [show (fst3 R k).root k = R.total + 1 from s3]
    exact (p3 _ hne).trans e2
  · show (if p = R.total + 1 then _ else (fst1 R).page p) = _
    rw [if_neg hp']
    exact q1 p hp hp'

set_option maxRecDepth 100000 in
set_option maxHeartbeats 2000000 in
theorem Put_first {bs : Nat} {B : Base bs} {w : World} {tb ba k : Nat} {F : Nat → Prop} {R : Raw} (ht : w.heap[tb]? = some (treeO ba k)) (hA : ActIs B w ba F R) (hf : Fine B R) (htF : ¬ F tb) (hk : k < 16) (hr : R.root k = 0) (htot : R.total + 1 < 4096)
    (x : KV) (hx : x.ok) (hx0 : 0 < x.k.size) :
    Calls Tryz.prog 39 #[.pointer (some ⟨tb, 0, none⟩), .string x.k, .string x.v] w fun e w' => e = .returned (.tuple #[.bool true, .int .i64 0]) ∧ Step B ba w F (fst4 R k x) w' := by
  have HT := top_any ht hA hf.cov htF hk
  rw [hr] at HT
  have HTh := Lib.hid HT
  have hltb : tb < w.heap.size := (Array.getElem?_eq_some_iff.1 ht).1
  have HLaw := Lib.hid (first_laws hf htot k hk)
  have H := Lib.hid (And.intro ht (And.intro hf hx))
  have f1 : (x.k.size : Int) ≤ 96 := by have := hx.1; omega
  have f2 : (x.v.size : Int) ≤ 32 := by have := hx.2; omega
  have f0 : x.k.toList.isEmpty = false := by
    rw [Go.Lib.toList_data]
    cases h : x.k.data.toList with
    | nil =>
      have e : x.k.size = x.k.data.toList.length := by simp
      rw [h] at e
      have e' : x.k.size = 0 := e
      omega
    | cons _ _ => rfl
  have h0 : 0 ≤ R.total := (num_range _ _).1
  clear ht hA hx HT hr
  go_enter Tryz.func39, Tryz.ntmps39
  go_wp2_with fail
  refine HTh.out.mono ?_
  rintro e w1 ⟨rfl, hst⟩
  have ht1 := hst.block H.out.1 htF
  obtain ⟨F1, h1A, hF1, ho1⟩ := hst
  have htF1 : ¬ F1 tb := fun e => htF (hF1 tb hltb e)
  have HAl := Lib.hid (alloc_new h1A hf.cov hf.free0 htot)
  have HO1 := Lib.hid (And.intro ho1 hF1)
  obtain ⟨t0, t1⟩ := tree2 ht1
  have HB1 := Lib.hid (And.intro ht1 htF1)
  have hlt1 : tb < w1.heap.size := (Array.getElem?_eq_some_iff.1 ht1).1
  clear ht1 h1A ho1 hF1 htF1 HTh hf
  go_wp2_with fail
  refine HAl.out.mono ?_
  rintro e w2 ⟨rfl, hst⟩
  have ht2 := hst.block HB1.out.1 HB1.out.2
  obtain ⟨F2, h2A, hF2, ho2⟩ := hst
  have htF2 : ¬ F2 tb := fun e => HB1.out.2 (hF2 tb hlt1 e)
  have hb2 : Below w2.heap.size w2 (w2.alloc (nodeO true (.slice none 0 0) (.slice none 0 0))) := by go_grown
  have HW := Lib.hid (write_leaf (L := []) (A := none) (c := 0) ((hb2.block tb (Array.getElem?_eq_some_iff.1 ht2).1).trans ht2) (h2A.below hb2) (show Cov B (fst1 R) from HLaw.out.1.cov) htF2 (R.total + 1) (HLaw.out.1.there ⟨by omega, by rw [HLaw.out.2.1]; omega⟩) (hnew w2 _) (.inl rfl) (by simp) (by simp [leafB]) (by simp))
  have HO2 := Lib.hid (And.intro (HO1.out.1.trans ho2 (fun k hk e => HO1.out.2 k hk e)) (And.intro (fun k (hk : k < w.heap.size) e => HO1.out.2 k hk (hF2 k (Nat.lt_of_lt_of_le hk HO1.out.1.size) e)) (And.intro ht2 (And.intro htF2 hb2))))
  have hlt2 : tb < w2.heap.size := (Array.getElem?_eq_some_iff.1 ht2).1
  clear ht2 h2A hF2 ho2 htF2 hb2 HAl t0 t1
  go_wp2_with fail
  refine HW.out.mono ?_
  rintro e w3 ⟨rfl, hst⟩
  have ht3 := hst.block ((HO2.out.2.2.2.2.block tb hlt2).trans HO2.out.2.2.1) HO2.out.2.2.2.1
  obtain ⟨F3, h3A, hF3, ho3⟩ := hst
  have hz2 : w2.heap.size ≤ (w2.alloc (nodeO true (.slice none 0 0) (.slice none 0 0))).heap.size := HO2.out.2.2.2.2.size
  have htF3 : ¬ F3 tb := fun e => HO2.out.2.2.2.1 (hF3 tb (by omega) e)
  have HO3 := Lib.hid (And.intro ((HO2.out.1.trans (Off.of_below HO2.out.2.2.2.2 (F := fun _ => False)) (fun _ _ h => h.elim)).trans ho3 (fun k hk e => HO2.out.2.1 k hk e)) (And.intro (fun k (hk : k < w.heap.size) e => HO2.out.2.1 k hk (hF3 k (by have := HO2.out.1.size; omega) e)) htF3))
  obtain ⟨t0, t1⟩ := tree2 ht3
  have hdr : Below w3.heap.size w3 w3.drew := (Below.refl _ _).drew
  have HSR := Lib.hid (setRoot_any (h3A.below hdr) (show Cov B (fst2 R) from HLaw.out.2.2.1.cov) k hk (R.total + 1) ⟨by omega, by omega⟩)
  have H3 := Lib.hid (And.intro ht3 (And.intro t0 t1))
  have hlt3 : tb < w3.heap.size := (Array.getElem?_eq_some_iff.1 ht3).1
  clear ht3 h3A hF3 ho3 htF3 HW
  go_wp2
  refine wp_region_noPanic ?_
  refine wp_region_held_drew (S := (fun w' => w'.cell? ⟨tb, 0, none⟩ = some (.pointer (some ⟨ba, 0, none⟩)) ∧ w'.cell? ⟨tb, 1, none⟩ = some (.int .i64 k))) (by kernel_rfl) ⟨t0, t1⟩ (fun hS => ?_)
  refine wpAnyH_take (i := 0) (v := ?_) rfl (by kernel_rfl) (by kernel_rfl) (by kernel_rfl) (fun _ _ _ h => h) (Or.inl ⟨by rfl, ?_⟩) hS ?_
  rotate_left
  · rintro w9 ⟨t0, t1⟩
    go_simp
    try with_reducible rfl
  try simp only [Act.put, List.getElem_toArray, List.getElem_cons_succ, List.getElem_cons_zero, List.setIfInBounds_toArray, List.set_cons_zero, List.set_cons_succ]
  refine wpAnyH_take (i := 1) (v := ?_) rfl (by kernel_rfl) (by kernel_rfl) (by kernel_rfl) (fun _ _ _ h => h) (Or.inl ⟨by rfl, ?_⟩) hS ?_
  rotate_left
  · rintro w9 ⟨t0, t1⟩
    go_simp
    try with_reducible rfl
  try simp only [Act.put, List.getElem_toArray, List.getElem_cons_succ, List.getElem_cons_zero, List.setIfInBounds_toArray, List.set_cons_zero, List.set_cons_succ]
  refine wpAnyH_take (i := 2) (v := ?_) rfl (by kernel_rfl) (by kernel_rfl) (by kernel_rfl) (fun _ _ _ h => h) (Or.inl ⟨by rfl, ?_⟩) hS ?_
  rotate_left
  · rintro w9 ⟨t0, t1⟩
    go_simp
    try with_reducible rfl
  try simp only [Act.put, List.getElem_toArray, List.getElem_cons_succ, List.getElem_cons_zero, List.setIfInBounds_toArray, List.set_cons_zero, List.set_cons_succ]
  refine wpAnyH_take (i := 3) (v := ?_) rfl (by kernel_rfl) (by kernel_rfl) (by kernel_rfl) (fun _ _ _ h => h) (Or.inl ⟨by rfl, ?_⟩) hS ?_
  rotate_left
  · rintro w9 ⟨t0, t1⟩
    go_simp
    try with_reducible rfl
  try simp only [Act.put, List.getElem_toArray, List.getElem_cons_succ, List.getElem_cons_zero, List.setIfInBounds_toArray, List.set_cons_zero, List.set_cons_succ]
  refine wpAnyH_take (i := 4) (v := ?_) rfl (by kernel_rfl) (by kernel_rfl) (by kernel_rfl) (fun _ _ _ h => h) (Or.inl ⟨by rfl, ?_⟩) hS ?_
  rotate_left
  · rintro w9 ⟨t0, t1⟩
    go_simp
    try with_reducible rfl
  try simp only [Act.put, List.getElem_toArray, List.getElem_cons_succ, List.getElem_cons_zero, List.setIfInBounds_toArray, List.set_cons_zero, List.set_cons_succ]
  refine wpAnyH_take (i := 5) (v := ?_) rfl (by kernel_rfl) (by kernel_rfl) (by kernel_rfl) (fun _ _ _ h => h) (Or.inl ⟨by rfl, ?_⟩) hS ?_
  rotate_left
  · rintro w9 ⟨t0, t1⟩
    go_simp
    try with_reducible rfl
  try simp only [Act.put, List.getElem_toArray, List.getElem_cons_succ, List.getElem_cons_zero, List.setIfInBounds_toArray, List.set_cons_zero, List.set_cons_succ]
  refine wpAnyH_take (i := 6) (v := ?_) rfl (by kernel_rfl) (by kernel_rfl) (by kernel_rfl) (fun _ _ _ h => h) (Or.inl ⟨by rfl, ?_⟩) hS ?_
  rotate_left
  · rintro w9 ⟨t0, t1⟩
    go_simp
    try with_reducible rfl
  try simp only [Act.put, List.getElem_toArray, List.getElem_cons_succ, List.getElem_cons_zero, List.setIfInBounds_toArray, List.set_cons_zero, List.set_cons_succ]
  refine wpAnyH_take (i := 7) (v := ?_) rfl (by kernel_rfl) (by kernel_rfl) (by kernel_rfl) (fun _ _ _ h => h) (Or.inl ⟨by rfl, ?_⟩) hS ?_
  rotate_left
  · rintro w9 ⟨t0, t1⟩
    go_simp
    try with_reducible rfl
  try simp only [Act.put, List.getElem_toArray, List.getElem_cons_succ, List.getElem_cons_zero, List.setIfInBounds_toArray, List.set_cons_zero, List.set_cons_succ]
  refine wpAnyH_take (i := 8) (v := ?_) rfl (by kernel_rfl) (by kernel_rfl) (by kernel_rfl) (fun _ _ _ h => h) (Or.inl ⟨by rfl, ?_⟩) hS ?_
  rotate_left
  · rintro w9 ⟨t0, t1⟩
    go_simp
    try with_reducible rfl
  try simp only [Act.put, List.getElem_toArray, List.getElem_cons_succ, List.getElem_cons_zero, List.setIfInBounds_toArray, List.set_cons_zero, List.set_cons_succ]
  refine wpAnyH_ready (rs := [9]) (by kernel_rfl) (by simp) ?_
  refine AllReadyH.cons rfl (fun K hK => ?_) AllReadyH.nil
  go_simp
  refine HSR.out.mono ?_
  rintro e w4 ⟨rfl, hst⟩
  have hS4 := And.intro (hst.cell H3.out.2.1 HO3.out.2.2) (hst.cell H3.out.2.2 HO3.out.2.2)
  have ht4 : w4.heap[tb]? = some (treeO ba k) := hst.block (show w3.drew.heap[tb]? = some (treeO ba k) from H3.out.1) HO3.out.2.2
  obtain ⟨F4, h4A, hF4, ho4⟩ := hst
  have htF4 : ¬ F4 tb := fun e => HO3.out.2.2 (hF4 tb hlt3 e)
  have HO4 := Lib.hid (And.intro ((HO3.out.1.trans (Off.of_below ((Below.refl w3.heap.size w3).drew) (F := fun _ => False)) (fun _ _ h => h.elim)).trans ho4 (fun k hk e => HO3.out.2.1 k hk e)) (fun k (hk : k < w.heap.size) e => HO3.out.2.1 k hk (hF4 k (Nat.lt_of_lt_of_le hk HO3.out.1.size) e)))
  have hlf := HLaw.out.2.2.2.2.2.1
  have HP := Lib.hid (put_end (R := fst3 R k) ht4 h4A HLaw.out.2.2.2.2.1.cov htF4 (R.total + 1) (HLaw.out.2.2.2.2.1.there ⟨by omega, by rw [HLaw.out.2.2.2.2.2.2.2.1]; omega⟩) [] (by have := hlf.page; rw [HLaw.out.2.2.2.2.2.2.1] at this; exact this) (by simp) hlf.rises x H.out.2.2 (by simp) (by
    have h1 := H.out.2.2.1
    have h2 := H.out.2.2.2
    simp [leafB, itemB, lenB]
    omega) (by simp))
  clear ht4 h4A hF4 ho4 htF4 HSR hlf t0 t1
  refine hK.out _ _ hS4 (fun _ => ?_)
  clear hK K
  try simp only [Act.put, List.getElem_toArray, List.getElem_cons_succ, List.getElem_cons_zero, List.setIfInBounds_toArray, List.set_cons_zero, List.set_cons_succ]
  refine wpAnyH_done (by kernel_rfl) ?_ _
  refine NoPanic.normal ?_
  go_wp2_with fail
  refine HP.out.mono ?_
  rintro e w5 ⟨rfl, hst⟩
  have HS := Lib.hid (Step.trans HO4.out.1 HO4.out.2 hst)
  clear hst
  go_wp2
  go_ret2
  exact ⟨rfl, HS.out⟩
end Go.Proofs.YtoejgkcaamkanaaGreatDoor

namespace Go.Proofs.YtoejgkcaamkanaaGreatDoor
open Go.RowKit

theorem Cut.uniq {L : List KV} {key : ByteArray} {i j : Nat} (h : Cut L key i) (h' : Cut L key j) : i = j := by
  rcases Nat.lt_trichotomy i j with hl | he | hg
  · have := h'.lo i (by have := h'.le; omega) hl
    have := h.hi i (by have := h'.le; omega) (Nat.le_refl _)
    omega
  · exact he
  · have := h.lo j (by have := h.le; omega) hg
    have := h'.hi j (by have := h.le; omega) (Nat.le_refl _)
    omega
theorem isAt_some {L : List KV} {key : ByteArray} {i : Nat} (h : isAt L key i = true) : ∃ hi : i < L.length, cmpK L[i] key = 0 := by
  unfold isAt at h
  cases hh : L[i]? with
  | none => rw [hh] at h; cases h
  | some x =>
    rw [hh] at h
    obtain ⟨hi, e⟩ := List.getElem?_eq_some_iff.1 hh
    exact ⟨hi, by subst e; simpa using h⟩
/-- What Get answers. -/
def gotR (L : List KV) (key : ByteArray) (i : Nat) : Value := if isAt L key i then .tuple #[.string (L.getD i ⟨⟨#[]⟩, ⟨#[]⟩⟩).v, .int .i64 0] else .tuple #[.string ⟨#[]⟩, .int .i64 3]

set_option maxRecDepth 100000 in
set_option maxHeartbeats 2000000 in
theorem Get_leaf {bs : Nat} {B : Base bs} {w : World} {tb ba k : Nat} {F : Nat → Prop} {R : Raw} (ht : w.heap[tb]? = some (treeO ba k)) (hA : ActIs B w ba F R) (hf : Fine B R) (htF : ¬ F tb) (hk : k < 16) {L : List KV} (hL : Leaf R k L) (key : ByteArray) :
    Calls Tryz.prog 88 #[.pointer (some ⟨tb, 0, none⟩), .string key] w fun e w' => ∃ i, Cut L key i ∧ e = .returned (gotR L key i) ∧ Step B ba w F R w' := by
  have HT := Lib.hid (top_any ht hA hf.cov htF hk)
  have h1 : (R.root k == 0) = false := by have := hL.top.1; simp; omega
  have h1' : ¬ R.root k = 0 := by simpa using h1
  have hltb : tb < w.heap.size := (Array.getElem?_eq_some_iff.1 ht).1
  have H := Lib.hid (And.intro ht (And.intro hf hL))
  clear ht hA hf hL
  go_enter Tryz.func88, Tryz.ntmps88
  go_wp2_with fail
  refine HT.out.mono ?_
  rintro e w1 ⟨rfl, hst⟩
  have ht1 := hst.block H.out.1 htF
  obtain ⟨F1, h1A, hF1, ho1⟩ := hst
  have htF1 : ¬ F1 tb := fun e => htF (hF1 tb hltb e)
  have HP := Lib.hid (read_leaf ht1 h1A H.out.2.1.cov htF1 (R.root k) (H.out.2.1.there H.out.2.2.top) L H.out.2.2.page H.out.2.2.ok H.out.2.2.len H.out.2.2.few)
  have HO := Lib.hid (And.intro ho1 hF1)
  clear ht1 h1A ho1 hF1 htF1 HT
  go_wp2
  go_loopw [6] (fun i wr => i = .int .i64 (R.root k) ∧ wr = w1) (fun i _ => 0)
  case atStart => exact ⟨rfl, rfl⟩
  case round =>
    obtain ⟨rfl, rfl⟩ := hrel
    go_wp2_with fail
    refine HP.out.mono ?_
    rintro e w2 ⟨nb, v, F2, M, rfl, hnb2, hit2, hM, hMn, hA2, hF2M, hF2, ho2⟩
    obtain ⟨A, c, rfl⟩ := hit2.slice
    have HF := Lib.hid (find_any hnb2 hit2.read (by have := H.out.2.2.few; omega) H.out.2.2.rises key)
    obtain ⟨n0, n1, n2, nf⟩ := node3 hnb2
    have hnlt : nb < w2.heap.size := (Array.getElem?_eq_some_iff.1 hnb2).1
    have HS2 := Lib.hid (show Step B ba w F R w2 from ⟨F2, hA2, fun j hj e => HO.out.2 j hj (hF2 j (by have := HO.out.1.size; omega) e), HO.out.1.trans ho2 (fun j hj e => HO.out.2 j hj e)⟩)
    have H2 := Lib.hid (And.intro hnb2 hit2)
    clear hnb2 hit2 hA2 hF2M hF2 ho2 nf HP
    go_wp2_with fail
    refine HF.out.mono ?_
    rintro e w3 ⟨i, rfl, hcut, hb3⟩
    have HS3 := Lib.hid (HS2.out.below hb3)
    have hnb3 := (hb3.block nb hnlt).trans H2.out.1
    have hit3 := H2.out.2.later hb3
    obtain ⟨n0, n1, n2, nf⟩ := node3 hnb3
    have HC := Lib.hid hcut
    by_cases hat : isAt L key i = true
    · obtain ⟨hi, _⟩ := isAt_some hat
      have hv : gotR L key i = .tuple #[.string L[i].v, .int .i64 0] := by
        rw [gotR, if_pos hat, List.getD_eq_getElem?_getD, List.getElem?_eq_getElem hi]; rfl
      have HV := Lib.hid hv
      rw [hat]
      rcases hit3.read with h0 | ⟨g, off, rfl, hc⟩
      · subst h0; simp at hi
      · obtain ⟨k0, k1⟩ := hc i hi
        generalize L[i].v = s at *
        generalize L[i].k = s2 at *
        have hi2 : (i : Int) < L.length := by omega
        clear hc hit3 hnb3 hcut hb3 nf hat hv
        go_wp2
        go_ret2
        exact ⟨i, HC.out, by rw [HV.out]; exact ret_two rfl rfl, HS3.out⟩
    · have hat : isAt L key i = false := by simpa using hat
      have HV := Lib.hid (show gotR L key i = .tuple #[.string ⟨#[]⟩, .int .i64 3] from by rw [gotR, if_neg (by rw [hat]; decide)])
      rw [hat]
      clear hit3 hnb3 hcut hb3 nf hat
      go_wp2
      go_ret2
      exact ⟨i, HC.out, by rw [HV.out]; exact ret_two rfl rfl, HS3.out⟩

theorem Off.set {F : Nat → Prop} {w w' : World} (h : Off F w w') {k i : Nat} (hk : F k) (v : Value) : Off F w (w'.setCell ⟨k, i, none⟩ v) :=
  ⟨h.os, h.tape, h.output, by rw [World.size_setCell]; exact h.size, fun j hj hn => (Below.heap_setCell _ _ _ _ (fun e => hn (by subst e; exact hk))).trans (h.block j hj hn)⟩
theorem off_set2 (w : World) (k i j : Nat) (u v : Value) : Off (· = k) w ((w.setCell ⟨k, i, none⟩ u).setCell ⟨k, j, none⟩ v) :=
  ((Off.refl (fun x => x = k) w).set (k := k) rfl u).set (k := k) rfl v
theorem Step.young {bs : Nat} {B : Base bs} {ba : Nat} {w w0 w1 w2 : World} {F G : Nat → Prop} {R : Raw} (hb : Below w.heap.size w w0) (h : Step B ba w0 F R w1) (ho : Off G w1 w2) (hG : ∀ k, G k → w.heap.size ≤ k ∧ k < w0.heap.size ∧ ¬ F k) : Step B ba w F R w2 := by
  obtain ⟨F', hA, hF, ho1⟩ := h
  refine ⟨F', hA.off ho (fun k hk hg => (hG k hg).2.2 (hF k (hG k hg).2.1 hk)), fun k hk h => hF k (Nat.lt_of_lt_of_le hk hb.size) h, ?_⟩
  have h1 : Off F w w1 := (Off.of_below hb).trans ho1 (fun _ _ h => h)
  exact ⟨ho.os.trans h1.os, ho.tape.trans h1.tape, ho.output.trans h1.output, Nat.le_trans h1.size ho.size, fun k hk hn => (ho.block k (Nat.lt_of_lt_of_le hk h1.size) (fun e => by have := (hG k e).1; omega)).trans (h1.block k hk hn)⟩
theorem xfroz {w : World} {g : Nat} {x : KV} (h : w.heap[g]? = some (itemO x)) : w.frozen? ⟨g, 0, none⟩ = false ∧ w.frozen? ⟨g, 1, none⟩ = false := by
  refine ⟨?_, ?_⟩ <;> (unfold World.frozen?; rw [h]; rfl)
/-- An item, and whether there is one. -/
def itemR (x : Option KV) : Value := match x with
  | none => .tuple #[.agg #[.string ⟨#[]⟩, .string ⟨#[]⟩], .bool false]
  | some x => .tuple #[.agg #[.string x.k, .string x.v], .bool true]
def firstI (L : List KV) (key : ByteArray) (it : Bool) (i : Nat) : Nat := if isAt L key i && !it then i + 1 else i

set_option maxRecDepth 100000 in
set_option maxHeartbeats 2000000 in
theorem first_leaf {bs : Nat} {B : Base bs} {w : World} {tb ba k : Nat} {F : Nat → Prop} {R : Raw} (ht : w.heap[tb]? = some (treeO ba k)) (hA : ActIs B w ba F R) (hf : Fine B R) (htF : ¬ F tb) {L : List KV} (hL : Leaf R k L) (key : ByteArray) (it : Bool) :
    Calls Tryz.prog 92 #[.pointer (some ⟨tb, 0, none⟩), .int .i64 (R.root k), .string key, .bool it] w fun e w' => ∃ i, Cut L key i ∧ e = .returned (itemR L[firstI L key it i]?) ∧ Step B ba w F R w' := by
  have h1 : (R.root k == 0) = false := by have := hL.top.1; simp; omega
  have h1' : ¬ R.root k = 0 := by simpa using h1
  have hltb : tb < w.heap.size := (Array.getElem?_eq_some_iff.1 ht).1
  have hb0 : Below w.heap.size w (w.alloc (itemO ⟨⟨#[]⟩, ⟨#[]⟩⟩)) := by go_grown
  have HP := Lib.hid (read_leaf ((hb0.block tb hltb).trans ht) (hA.below hb0) hf.cov htF (R.root k) (hf.there hL.top) L hL.page hL.ok hL.len hL.few)
  have hnF : ¬ F w.heap.size := fun e => by have := hA.1 _ e; omega
  have hx0 := hnew w (itemO ⟨⟨#[]⟩, ⟨#[]⟩⟩)
  have H := Lib.hid (And.intro hb0 (And.intro hf (And.intro hL (And.intro hnF hx0))))
  clear ht hA hf hL hb0 hnF hx0
  go_enter Tryz.func92, Tryz.ntmps92
  go_wp2_with fail
  refine HP.out.mono ?_
  rintro e w2 ⟨nb, v, F2, M, rfl, hnb2, hit2, hM, hMn, hA2, hF2M, hF2, ho2⟩
  simp at hM
  obtain ⟨A, c, rfl⟩ := hit2.slice
  have HF := Lib.hid (find_any hnb2 hit2.read (by have := H.out.2.2.1.few; omega) H.out.2.2.1.rises key)
  obtain ⟨n0, n1, n2, nf⟩ := node3 hnb2
  have hnlt : nb < w2.heap.size := (Array.getElem?_eq_some_iff.1 hnb2).1
  have hx2 := (ho2.block w.heap.size (by simp) H.out.2.2.2.1).trans H.out.2.2.2.2
  have hsz2 : w.heap.size + 1 ≤ w2.heap.size := by have := ho2.size; simp at this; exact this
  have HS2 := Lib.hid (show Step B ba (w.alloc (itemO ⟨⟨#[]⟩, ⟨#[]⟩⟩)) F R w2 from ⟨F2, hA2, fun j hj e => hF2 j hj e, ho2⟩)
  have H2 := Lib.hid (And.intro hnb2 (And.intro hit2 hx2))
  clear hnb2 hit2 hA2 hF2M hF2 ho2 nf HP hx2
  go_wp2_with fail
  refine HF.out.mono ?_
  rintro e w3 ⟨i, rfl, hcut, hb3⟩
  have HS3 := Lib.hid (HS2.out.below hb3)
  have hnb3 := (hb3.block nb hnlt).trans H2.out.1
  have hx3 := (hb3.block w.heap.size (by omega)).trans H2.out.2.2
  have hit3 := H2.out.2.1.later hb3
  obtain ⟨n0, n1, n2, nf⟩ := node3 hnb3
  obtain ⟨x0, x1⟩ := xcells hx3
  obtain ⟨z0, z1⟩ := xfroz hx3
  have hle := hcut.le
  have HC := Lib.hid hcut
  have HI := Lib.hid hit3.read
  have hout : ∀ w9, Off (· = w.heap.size) w3 w9 → Step B ba w F R w9 := fun w9 ho => HS3.out.young H.out.1 ho (fun j hj => by subst hj; exact ⟨Nat.le_refl _, by simp, H.out.2.2.2.1⟩)
  have HO := Lib.hid hout
  have hfew := H.out.2.2.1.few
  clear hx3 hit3 hnb3 hcut hb3 nf hout
  cases hat : isAt L key i with
  | false =>
    by_cases hi : i < L.length
    · have HV := Lib.hid (show itemR L[firstI L key it i]? = .tuple #[.agg #[.string L[i].k, .string L[i].v], .bool true] from by rw [show firstI L key it i = i by simp [firstI, hat], List.getElem?_eq_getElem hi]; rfl)
      rcases HI.out with h0 | ⟨g, off, rfl, hc⟩
      · subst h0; simp at hi
      · obtain ⟨k0, k1⟩ := hc i hi
        generalize L[i].v = s at *
        generalize L[i].k = s2 at *
        have hi2 : (i : Int) < (L.length : Int) := by omega
        clear hc hat
        go_wp2
        (try simp only [Exit.inBlock, Exit.then])
        refine bodyPost_ret (v := .tuple #[.agg #[.string s2, .string s], .bool true]) ?_ rfl ⟨i, HC.out, by rw [HV.out], HO.out _ ?_⟩
        · rw [results_cell_tmp rfl]
          go_simp
          try rfl
        · exact off_set2 _ _ _ _ _ _
    · have HV := Lib.hid (show itemR L[firstI L key it i]? = .tuple #[.agg #[.string ⟨#[]⟩, .string ⟨#[]⟩], .bool false] from by rw [show firstI L key it i = i by simp [firstI, hat], List.getElem?_eq_none (by omega)]; rfl)
      have hi2 : ¬ (i : Int) < (L.length : Int) := by omega
      clear hat
      go_wp2
      (try simp only [Exit.inBlock, Exit.then])
      refine bodyPost_ret (v := .tuple #[.agg #[.string ⟨#[]⟩, .string ⟨#[]⟩], .bool false]) ?_ rfl ⟨i, HC.out, by rw [HV.out], HO.out _ ?_⟩
      · rw [results_cell_tmp rfl]
        go_simp
        try rfl
      · exact off_set2 _ _ _ _ _ _
  | true =>
    cases it with
    | true =>
      by_cases hi : i < L.length
      · have HV := Lib.hid (show itemR L[firstI L key true i]? = .tuple #[.agg #[.string L[i].k, .string L[i].v], .bool true] from by rw [show firstI L key true i = i by simp [firstI, hat], List.getElem?_eq_getElem hi]; rfl)
        rcases HI.out with h0 | ⟨g, off, rfl, hc⟩
        · subst h0; simp at hi
        · obtain ⟨k0, k1⟩ := hc i hi
          generalize L[i].v = s at *
          generalize L[i].k = s2 at *
          have hi2 : (i : Int) < (L.length : Int) := by omega
          clear hc hat
          go_wp2
          (try simp only [Exit.inBlock, Exit.then])
          refine bodyPost_ret (v := .tuple #[.agg #[.string s2, .string s], .bool true]) ?_ rfl ⟨i, HC.out, by rw [HV.out], HO.out _ ?_⟩
          · rw [results_cell_tmp rfl]
            go_simp
            try rfl
          · exact off_set2 _ _ _ _ _ _
      · have HV := Lib.hid (show itemR L[firstI L key true i]? = .tuple #[.agg #[.string ⟨#[]⟩, .string ⟨#[]⟩], .bool false] from by rw [show firstI L key true i = i by simp [firstI, hat], List.getElem?_eq_none (by omega)]; rfl)
        have hi2 : ¬ (i : Int) < (L.length : Int) := by omega
        clear hat
        go_wp2
        (try simp only [Exit.inBlock, Exit.then])
        refine bodyPost_ret (v := .tuple #[.agg #[.string ⟨#[]⟩, .string ⟨#[]⟩], .bool false]) ?_ rfl ⟨i, HC.out, by rw [HV.out], HO.out _ ?_⟩
        · rw [results_cell_tmp rfl]
          go_simp
          try rfl
        · exact off_set2 _ _ _ _ _ _
    | false =>
      by_cases hi : (i + 1) < L.length
      · have HV := Lib.hid (show itemR L[firstI L key false i]? = .tuple #[.agg #[.string L[(i + 1)].k, .string L[(i + 1)].v], .bool true] from by rw [show firstI L key false i = (i + 1) by simp [firstI, hat], List.getElem?_eq_getElem hi]; rfl)
        rcases HI.out with h0 | ⟨g, off, rfl, hc⟩
        · subst h0; simp at hi
        · obtain ⟨k0, k1⟩ := hc (i + 1) hi
          generalize L[(i + 1)].v = s at *
          generalize L[(i + 1)].k = s2 at *
          have hi2 : (i : Int) + 1 < (L.length : Int) := by omega
          clear hc hat
          go_wp2
          (try simp only [Exit.inBlock, Exit.then])
          refine bodyPost_ret (v := .tuple #[.agg #[.string s2, .string s], .bool true]) ?_ rfl ⟨i, HC.out, by rw [HV.out], HO.out _ ?_⟩
          · rw [results_cell_tmp rfl]
            go_simp
            try rfl
          · exact off_set2 _ _ _ _ _ _
      · have HV := Lib.hid (show itemR L[firstI L key false i]? = .tuple #[.agg #[.string ⟨#[]⟩, .string ⟨#[]⟩], .bool false] from by rw [show firstI L key false i = (i + 1) by simp [firstI, hat], List.getElem?_eq_none (by omega)]; rfl)
        have hi2 : ¬ (i : Int) + 1 < (L.length : Int) := by omega
        clear hat
        go_wp2
        (try simp only [Exit.inBlock, Exit.then])
        refine bodyPost_ret (v := .tuple #[.agg #[.string ⟨#[]⟩, .string ⟨#[]⟩], .bool false]) ?_ rfl ⟨i, HC.out, by rw [HV.out], HO.out _ ?_⟩
        · rw [results_cell_tmp rfl]
          go_simp
          try rfl
        · exact off_set2 _ _ _ _ _ _

set_option maxRecDepth 100000 in
set_option maxHeartbeats 2000000 in
theorem From_leaf {bs : Nat} {B : Base bs} {w : World} {tb ba k : Nat} {F : Nat → Prop} {R : Raw} (ht : w.heap[tb]? = some (treeO ba k)) (hA : ActIs B w ba F R) (hf : Fine B R) (htF : ¬ F tb) (hk : k < 16) {L : List KV} (hL : Leaf R k L) (key : ByteArray) :
    Calls Tryz.prog 42 #[.pointer (some ⟨tb, 0, none⟩), .string key] w fun e w' => ∃ i, Cut L key i ∧ e = .returned (itemR L[firstI L key true i]?) ∧ Step B ba w F R w' := by
  have hltb : tb < w.heap.size := (Array.getElem?_eq_some_iff.1 ht).1
  have hb0 : Below w.heap.size w (w.alloc (itemO ⟨⟨#[]⟩, ⟨#[]⟩⟩)) := by go_grown
  have ht0 := (hb0.block tb hltb).trans ht
  have HT := Lib.hid (top_any ht0 (hA.below hb0) hf.cov htF hk)
  have hnF : ¬ F w.heap.size := fun e => by have := hA.1 _ e; omega
  have hx0 := hnew w (itemO ⟨⟨#[]⟩, ⟨#[]⟩⟩)
  have H := Lib.hid (And.intro hb0 (And.intro hf (And.intro hL (And.intro hnF (And.intro hx0 ht0)))))
  clear ht hA hf hL hb0 hnF hx0 ht0
  go_enter Tryz.func42, Tryz.ntmps42
  go_wp2_with fail
  refine HT.out.mono ?_
  rintro e w1 ⟨rfl, hst⟩
  have ht1 := hst.block H.out.2.2.2.2.2 htF
  have hx1 := hst.block H.out.2.2.2.2.1 H.out.2.2.2.1
  obtain ⟨F1, h1A, hF1, ho1⟩ := hst
  have htF1 : ¬ F1 tb := fun e => htF (hF1 tb (by simp; omega) e)
  have hgF1 : ¬ F1 w.heap.size := fun e => H.out.2.2.2.1 (hF1 w.heap.size (by simp) e)
  have HP := Lib.hid (first_leaf ht1 h1A H.out.2.1 htF1 H.out.2.2.1 key true)
  have HO := Lib.hid (And.intro ho1 (And.intro hF1 (And.intro hx1 hgF1)))
  clear ht1 h1A ho1 hF1 htF1 HT hx1 hgF1
  go_wp2_with fail
  refine HP.out.mono ?_
  rintro e w2 ⟨i, hcut, rfl, hst⟩
  have hx2 := hst.block HO.out.2.2.1 HO.out.2.2.2
  obtain ⟨x0, x1⟩ := xcells hx2
  obtain ⟨z0, z1⟩ := xfroz hx2
  have HS := Lib.hid (show Step B ba (w.alloc (itemO ⟨⟨#[]⟩, ⟨#[]⟩⟩)) F R w2 from Step.trans HO.out.1 HO.out.2.1 hst)
  have HC := Lib.hid hcut
  have hout : ∀ w9, Off (· = w.heap.size) w2 w9 → Step B ba w F R w9 := fun w9 ho => HS.out.young H.out.1 ho (fun j hj => by subst hj; exact ⟨Nat.le_refl _, by simp, H.out.2.2.2.1⟩)
  have HO2 := Lib.hid hout
  clear hx2 hst hcut hout
  cases hq : L[firstI L key true i]? with
  | none =>
    have HQ := Lib.hid hq
    clear hq
    rw [show itemR none = .tuple #[.agg #[.string ⟨#[]⟩, .string ⟨#[]⟩], .bool false] from rfl]
    go_wp2
    (try simp only [Exit.inBlock, Exit.then])
    refine bodyPost_ret (v := .tuple #[.agg #[.string ⟨#[]⟩, .string ⟨#[]⟩], .bool false]) ?_ rfl ⟨i, HC.out, by rw [HQ.out]; rfl, HO2.out _ ?_⟩
    · rw [results_cell_tmp rfl]
      go_simp
      try rfl
    · exact off_set2 _ _ _ _ _ _
  | some x =>
    have HQ := Lib.hid hq
    clear hq
    rw [show itemR (some x) = .tuple #[.agg #[.string x.k, .string x.v], .bool true] from rfl]
    go_wp2
    (try simp only [Exit.inBlock, Exit.then])
    refine bodyPost_ret (v := .tuple #[.agg #[.string x.k, .string x.v], .bool true]) ?_ rfl ⟨i, HC.out, by rw [HQ.out]; rfl, HO2.out _ ?_⟩
    · rw [results_cell_tmp rfl]
      go_simp
      try rfl
    · exact off_set2 _ _ _ _ _ _

set_option maxRecDepth 100000 in
set_option maxHeartbeats 2000000 in
theorem Next_leaf {bs : Nat} {B : Base bs} {w : World} {tb ba k : Nat} {F : Nat → Prop} {R : Raw} (ht : w.heap[tb]? = some (treeO ba k)) (hA : ActIs B w ba F R) (hf : Fine B R) (htF : ¬ F tb) (hk : k < 16) {L : List KV} (hL : Leaf R k L) (key : ByteArray) :
    Calls Tryz.prog 44 #[.pointer (some ⟨tb, 0, none⟩), .string key] w fun e w' => ∃ i, Cut L key i ∧ e = .returned (itemR L[firstI L key false i]?) ∧ Step B ba w F R w' := by
  have hltb : tb < w.heap.size := (Array.getElem?_eq_some_iff.1 ht).1
  have hb0 : Below w.heap.size w (w.alloc (itemO ⟨⟨#[]⟩, ⟨#[]⟩⟩)) := by go_grown
  have ht0 := (hb0.block tb hltb).trans ht
  have HT := Lib.hid (top_any ht0 (hA.below hb0) hf.cov htF hk)
  have hnF : ¬ F w.heap.size := fun e => by have := hA.1 _ e; omega
  have hx0 := hnew w (itemO ⟨⟨#[]⟩, ⟨#[]⟩⟩)
  have H := Lib.hid (And.intro hb0 (And.intro hf (And.intro hL (And.intro hnF (And.intro hx0 ht0)))))
  clear ht hA hf hL hb0 hnF hx0 ht0
  go_enter Tryz.func44, Tryz.ntmps44
  go_wp2_with fail
  refine HT.out.mono ?_
  rintro e w1 ⟨rfl, hst⟩
  have ht1 := hst.block H.out.2.2.2.2.2 htF
  have hx1 := hst.block H.out.2.2.2.2.1 H.out.2.2.2.1
  obtain ⟨F1, h1A, hF1, ho1⟩ := hst
  have htF1 : ¬ F1 tb := fun e => htF (hF1 tb (by simp; omega) e)
  have hgF1 : ¬ F1 w.heap.size := fun e => H.out.2.2.2.1 (hF1 w.heap.size (by simp) e)
  have HP := Lib.hid (first_leaf ht1 h1A H.out.2.1 htF1 H.out.2.2.1 key false)
  have HO := Lib.hid (And.intro ho1 (And.intro hF1 (And.intro hx1 hgF1)))
  clear ht1 h1A ho1 hF1 htF1 HT hx1 hgF1
  go_wp2_with fail
  refine HP.out.mono ?_
  rintro e w2 ⟨i, hcut, rfl, hst⟩
  have hx2 := hst.block HO.out.2.2.1 HO.out.2.2.2
  obtain ⟨x0, x1⟩ := xcells hx2
  obtain ⟨z0, z1⟩ := xfroz hx2
  have HS := Lib.hid (show Step B ba (w.alloc (itemO ⟨⟨#[]⟩, ⟨#[]⟩⟩)) F R w2 from Step.trans HO.out.1 HO.out.2.1 hst)
  have HC := Lib.hid hcut
  have hout : ∀ w9, Off (· = w.heap.size) w2 w9 → Step B ba w F R w9 := fun w9 ho => HS.out.young H.out.1 ho (fun j hj => by subst hj; exact ⟨Nat.le_refl _, by simp, H.out.2.2.2.1⟩)
  have HO2 := Lib.hid hout
  clear hx2 hst hcut hout
  cases hq : L[firstI L key false i]? with
  | none =>
    have HQ := Lib.hid hq
    clear hq
    rw [show itemR none = .tuple #[.agg #[.string ⟨#[]⟩, .string ⟨#[]⟩], .bool false] from rfl]
    go_wp2
    (try simp only [Exit.inBlock, Exit.then])
    refine bodyPost_ret (v := .tuple #[.agg #[.string ⟨#[]⟩, .string ⟨#[]⟩], .bool false]) ?_ rfl ⟨i, HC.out, by rw [HQ.out]; rfl, HO2.out _ ?_⟩
    · rw [results_cell_tmp rfl]
      go_simp
      try rfl
    · exact off_set2 _ _ _ _ _ _
  | some x =>
    have HQ := Lib.hid hq
    clear hq
    rw [show itemR (some x) = .tuple #[.agg #[.string x.k, .string x.v], .bool true] from rfl]
    go_wp2
    (try simp only [Exit.inBlock, Exit.then])
    refine bodyPost_ret (v := .tuple #[.agg #[.string x.k, .string x.v], .bool true]) ?_ rfl ⟨i, HC.out, by rw [HQ.out]; rfl, HO2.out _ ?_⟩
    · rw [results_cell_tmp rfl]
      go_simp
      try rfl
    · exact off_set2 _ _ _ _ _ _
end Go.Proofs.YtoejgkcaamkanaaGreatDoor
