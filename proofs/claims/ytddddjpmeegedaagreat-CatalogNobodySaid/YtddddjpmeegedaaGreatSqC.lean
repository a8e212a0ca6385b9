/- How many a tree that is one leaf, or empty, holds. -/
import Derived.Test.YtddddjpmeegedaaGreatSqB
import Derived.Great.Walk
set_option linter.unusedVariables false
set_option linter.unusedSimpArgs false
namespace Go.Proofs.YtddddjpmeegedaaGreat
open Go.RowKit

set_option maxRecDepth 100000 in
set_option maxHeartbeats 2000000 in
theorem lenc_leaf {w : World} {nb cb n : Nat} {A : Option Addr} {c : Nat} {kv : Value} (h : w.heap[nb]? = some (nodeO true (.slice A n c) kv)) (hn : n < 256) (hcb : w.heap[cb]? = some (.cells #[.int .i64 0] 3)) (p d : Int) :
    Calls Tryz.prog 62 #[.int .i64 p, .int .i64 d, .pointer (some ⟨nb, 0, none⟩), .pointer (some ⟨cb, 0, none⟩)] w fun e w' => e = .returned (.tuple #[]) ∧ w'.heap[cb]? = some (.cells #[.int .i64 n] 3) ∧ Off (· = cb) w w' := by
  obtain ⟨n0, n1, n2, nf⟩ := node3 h
  have c0 : w.cell? ⟨cb, 0, none⟩ = some (.int .i64 0) := by unfold World.cell?; rw [hcb]; rfl
  have z0 : w.frozen? ⟨cb, 0, none⟩ = false := by unfold World.frozen?; rw [hcb]; rfl
  have H := Lib.hid (And.intro h (And.intro hcb n1))
  have hne : nb ≠ cb := by
    rintro rfl
    rw [h] at hcb
    cases hcb
  have HS9 := Lib.hid (show (w.setCell ⟨cb, 0, none⟩ (.int .i64 n)).drew.cell? ⟨nb, 1, none⟩ = some (.slice A n c) from (World.cell?_of_block (Below.heap_setCell w _ _ _ hne)).trans n1)
  have hwr : IntKind.i64.wrap (n : Int) = n := by rw [IntKind.wrap_i64]; omega
  clear h hcb nf
  go_enter Tryz.func62, Tryz.ntmps62
  go_wp2
  refine wp_region_noPanic ?_
  refine wp_region_held_drew (S := (fun w' => w'.cell? ⟨nb, 1, none⟩ = some (.slice A n c))) (by kernel_rfl) H.out.2.2 (fun hS => ?_)
  refine wpAnyH_take (i := 1) (v := ?_) rfl (by kernel_rfl) (by kernel_rfl) (by kernel_rfl) (fun _ _ _ h => h) (Or.inl ⟨by rfl, ?_⟩) hS ?_
  rotate_left
  · intro w9 t0
    go_simp
    try with_reducible rfl
  try simp only [Act.put, List.getElem_toArray, List.getElem_cons_succ, List.getElem_cons_zero, List.setIfInBounds_toArray, List.set_cons_zero, List.set_cons_succ]
  refine wpAnyH_take (i := 2) (v := ?_) rfl (by kernel_rfl) (by kernel_rfl) (by kernel_rfl) (fun _ _ _ h => h) (Or.inl ⟨by rfl, ?_⟩) hS ?_
  rotate_left
  · intro w9 t0
    go_simp
    try with_reducible rfl
  try simp only [Act.put, List.getElem_toArray, List.getElem_cons_succ, List.getElem_cons_zero, List.setIfInBounds_toArray, List.set_cons_zero, List.set_cons_succ]
  refine wpAnyH_take (i := 3) (v := ?_) rfl (by kernel_rfl) (by kernel_rfl) (by kernel_rfl) (fun _ _ _ h => h) (Or.inl ⟨by rfl, ?_⟩) hS ?_
  rotate_left
  · intro w9 t0
    go_simp
    try with_reducible rfl
  try simp only [Act.put, List.getElem_toArray, List.getElem_cons_succ, List.getElem_cons_zero, List.setIfInBounds_toArray, List.set_cons_zero, List.set_cons_succ]
  refine wpAnyH_take (i := 4) (v := ?_) rfl (by kernel_rfl) (by kernel_rfl) (by kernel_rfl) (fun _ _ _ h => h) (Or.inl ⟨by rfl, ?_⟩) hS ?_
  rotate_left
  · intro w9 t0
    go_simp
    try with_reducible rfl
  try simp only [Act.put, List.getElem_toArray, List.getElem_cons_succ, List.getElem_cons_zero, List.setIfInBounds_toArray, List.set_cons_zero, List.set_cons_succ]
  refine wpAnyH_take (i := 5) (v := ?_) rfl (by kernel_rfl) (by kernel_rfl) (by kernel_rfl) (fun _ _ _ h => h) (Or.inl ⟨by rfl, ?_⟩) hS ?_
  rotate_left
  · intro w9 t0
    go_simp
    try with_reducible rfl
  try simp only [Act.put, List.getElem_toArray, List.getElem_cons_succ, List.getElem_cons_zero, List.setIfInBounds_toArray, List.set_cons_zero, List.set_cons_succ]
  refine wpAnyH_ready (rs := [0]) (by kernel_rfl) (by simp) ?_
  refine AllReadyH.cons rfl (fun K hK => ?_) AllReadyH.nil
  go_simp
  refine hK.out _ _ H.out.2.2 (fun _ => ?_)
  clear hK K
  try simp only [Act.put, List.getElem_toArray, List.getElem_cons_succ, List.getElem_cons_zero, List.setIfInBounds_toArray, List.set_cons_zero, List.set_cons_succ]
  refine wpAnyH_take (i := 6) (v := ?_) rfl (by kernel_rfl) (by kernel_rfl) (by kernel_rfl) (fun _ _ _ h => h) (Or.inl ⟨by rfl, ?_⟩) H.out.2.2 ?_
  rotate_left
  · intro w9 t0
    go_simp
    try with_reducible rfl
  try simp only [Act.put, List.getElem_toArray, List.getElem_cons_succ, List.getElem_cons_zero, List.setIfInBounds_toArray, List.set_cons_zero, List.set_cons_succ]
  refine wpAnyH_ready (rs := [7]) (by kernel_rfl) (by simp) ?_
  refine AllReadyH.cons rfl (fun K hK => ?_) AllReadyH.nil
  go_simp
  refine hK.out _ _ HS9.out (fun _ => ?_)
  clear hK K
  try simp only [Act.put, List.getElem_toArray, List.getElem_cons_succ, List.getElem_cons_zero, List.setIfInBounds_toArray, List.set_cons_zero, List.set_cons_succ]
  refine wpAnyH_done (by kernel_rfl) ?_ _
  refine NoPanic.normal ?_
  go_wp2
  exact Great.bodyPost_end0 rfl rfl ⟨rfl, (show (w.setCell _ _).heap[cb]? = _ from heap_set H.out.2.1), (Off.set (k := cb) (Off.refl (fun j => j = cb) w) rfl _).trans (Off.of_below ((Below.refl _ _).drew)) (fun _ _ h => h)⟩

set_option maxRecDepth 100000 in
set_option maxHeartbeats 2000000 in
theorem walk_leaf {bs : Nat} {B : Base bs} {w : World} {tb ba k cb : Nat} {F : Nat → Prop} {R : Raw} (ht : w.heap[tb]? = some (treeO ba k)) (hA : ActIs B w ba F R) (hf : Fine B R) (htF : ¬ F tb) {L : List KV} (hL : Leaf R k L)
    (hcb : w.heap[cb]? = some (.cells #[.int .i64 0] 3)) (hcF : ¬ F cb) (d : Int) :
    Calls Tryz.prog 61 #[.pointer (some ⟨tb, 0, none⟩), .int .i64 (R.root k), .int .i64 d, .func (.func 62) #[] #[.pointer (some ⟨cb, 0, none⟩)]] w fun e w' => e = .returned (.tuple #[]) ∧ w'.heap[cb]? = some (.cells #[.int .i64 L.length] 3) ∧
      ∃ F', ActIs B w' ba F' R ∧ (∀ j, j < w.heap.size → F' j → F j) ∧ Off (fun j => F j ∨ j = cb) w w' ∧ ¬ F' cb := by
  have h1 : (R.root k == 0) = false := by have := hL.top.1; simp; omega
  have h1' : ¬ R.root k = 0 := by simpa using h1
  have hltb : tb < w.heap.size := (Array.getElem?_eq_some_iff.1 ht).1
  have hltc : cb < w.heap.size := (Array.getElem?_eq_some_iff.1 hcb).1
  have HP := Lib.hid (read_leaf ht hA hf.cov htF (R.root k) (hf.there hL.top) L hL.page hL.ok hL.len hL.few)
  have H := Lib.hid (And.intro hL (And.intro hcb hcF))
  clear ht hA hf hL hcb hcF
  go_enter Tryz.func61, Tryz.ntmps61
  go_wp2_with fail
  refine HP.out.mono ?_
  rintro e w2 ⟨nb, v, F2, M, rfl, hnb2, hit2, hM, hMn, hA2, hF2M, hF2, ho2⟩
  obtain ⟨A, c, rfl⟩ := hit2.slice
  have hcb2 := (ho2.block cb hltc H.out.2.2).trans H.out.2.1
  have hL2 := H.out.1.few
  have HC := Lib.hid (lenc_leaf hnb2 hL2 hcb2 (R.root k) d)
  have hnlt : nb < w2.heap.size := (Array.getElem?_eq_some_iff.1 hnb2).1
  have hF2c : ¬ F2 cb := fun e => H.out.2.2 (hF2 cb hltc e)
  have H2 := Lib.hid (And.intro hnb2 (And.intro hA2 (And.intro hF2 (And.intro ho2 hF2c))))
  clear hnb2 hit2 hA2 hF2M hF2 ho2 hcb2 hF2c HP
  go_wp2_with fail
  refine HC.out.mono ?_
  rintro e w3 ⟨rfl, hcb3, ho3⟩
  have hne : nb ≠ cb := by omega
  have hnb3 := (ho3.block nb hnlt hne).trans H2.out.1
  obtain ⟨n0, n1, n2, nf⟩ := node3 hnb3
  have hA3 : ActIs B w3 ba F2 R := H2.out.2.1.off ho3 (fun j hj e => H2.out.2.2.2.2 (by subst e; exact hj))
  have ho : Off (fun j => F j ∨ j = cb) w w3 := ((H2.out.2.2.2.1).mono (fun j h => Or.inl h)).trans (ho3.mono (fun j h => Or.inr h)) (fun j _ h => by
    rcases h with h | h
    · exact .inl h
    · exact .inr h)
  have H3 := Lib.hid (And.intro hcb3 (And.intro hA3 ho))
  clear hnb3 nf hcb3 ho3 hA3 ho HC
  go_wp2
  go_loopw [26] (fun i wr => i = .int .i64 0 ∧ wr = w3) (fun i _ => 0)
  case atStart => exact ⟨rfl, rfl⟩
  case round =>
    obtain ⟨rfl, rfl⟩ := hrel
    go_wp2
    exact Great.bodyPost_end0 rfl rfl ⟨rfl, H3.out.1, F2, H3.out.2.1, H2.out.2.2.1, H3.out.2.2, H2.out.2.2.2.2⟩

set_option maxRecDepth 100000 in
set_option maxHeartbeats 2000000 in
theorem Len_leaf {bs : Nat} {B : Base bs} {w : World} {tb ba k : Nat} {F : Nat → Prop} {R : Raw} (ht : w.heap[tb]? = some (treeO ba k)) (hA : ActIs B w ba F R) (hf : Fine B R) (htF : ¬ F tb) (hk : k < 16) {L : List KV} (hL : Leaf R k L) :
    Calls Tryz.prog 25 #[.pointer (some ⟨tb, 0, none⟩)] w fun e w' => e = .returned (.int .i64 L.length) ∧ Step B ba w F R w' := by
  have hltb : tb < w.heap.size := (Array.getElem?_eq_some_iff.1 ht).1
  have hb0 : Below w.heap.size w (w.alloc (.cells #[.int .i64 0] 3)) := by go_grown
  have ht0 := (hb0.block tb hltb).trans ht
  have HT := Lib.hid (top_any ht0 (hA.below hb0) hf.cov htF hk)
  have hnF : ¬ F w.heap.size := fun e => by have := hA.1 _ e; omega
  have hx0 := hnew w (.cells #[.int .i64 0] 3)
  have H := Lib.hid (And.intro hb0 (And.intro hf (And.intro hL (And.intro hnF (And.intro hx0 ht0)))))
  clear ht hA hf hL hb0 hnF hx0 ht0
  go_enter Tryz.func25, Tryz.ntmps25
  go_wp2_with fail
  refine HT.out.mono ?_
  rintro e w1 ⟨rfl, hst⟩
  have ht1 := hst.block H.out.2.2.2.2.2 htF
  have hx1 := hst.block H.out.2.2.2.2.1 H.out.2.2.2.1
  obtain ⟨F1, h1A, hF1, ho1⟩ := hst
  have htF1 : ¬ F1 tb := fun e => htF (hF1 tb (by simp; omega) e)
  have hgF1 : ¬ F1 w.heap.size := fun e => H.out.2.2.2.1 (hF1 w.heap.size (by simp) e)
  have HP := Lib.hid (walk_leaf ht1 h1A H.out.2.1 htF1 H.out.2.2.1 hx1 hgF1 0)
  have HO := Lib.hid (And.intro ho1 hF1)
  clear ht1 h1A ho1 hF1 htF1 HT hx1 hgF1
  go_wp2_with fail
  refine HP.out.mono ?_
  rintro e w2 ⟨rfl, hcb, F2, hA2, hF2, ho2, hc2⟩
  have c0 : w2.cell? ⟨w.heap.size, 0, none⟩ = some (.int .i64 L.length) := by unfold World.cell?; rw [hcb]; rfl
  have HS := Lib.hid (show Step B ba w F R w2 from by
    refine ⟨F2, hA2, fun j hj e => HO.out.2 j (by simp; omega) (hF2 j (by have := HO.out.1.size; simp at this; omega) e), ?_⟩
    have h01 : Off F w w1 := (Off.of_below H.out.1).trans HO.out.1 (fun _ _ h => h)
    refine ⟨ho2.os.trans h01.os, ho2.tape.trans h01.tape, ho2.output.trans h01.output, Nat.le_trans h01.size ho2.size, fun j hj hn => (ho2.block j (Nat.lt_of_lt_of_le hj h01.size) ?_).trans (h01.block j hj hn)⟩
    rintro (e | e)
    · exact hn (HO.out.2 j (by simp; omega) e)
    · omega)
  clear hcb hA2 hF2 ho2 hc2
  go_wp2
  go_ret
  exact ⟨rfl, HS.out⟩

set_option maxRecDepth 100000 in
set_option maxHeartbeats 2000000 in
theorem Len_none {bs : Nat} {B : Base bs} {w : World} {tb ba k : Nat} {F : Nat → Prop} {R : Raw} (ht : w.heap[tb]? = some (treeO ba k)) (hA : ActIs B w ba F R) (hf : Fine B R) (htF : ¬ F tb) (hk : k < 16) (hr : R.root k = 0) :
    Calls Tryz.prog 25 #[.pointer (some ⟨tb, 0, none⟩)] w fun e w' => e = .returned (.int .i64 0) ∧ Step B ba w F R w' := by
  have hltb : tb < w.heap.size := (Array.getElem?_eq_some_iff.1 ht).1
  have hb0 : Below w.heap.size w (w.alloc (.cells #[.int .i64 0] 3)) := by go_grown
  have ht0 := (hb0.block tb hltb).trans ht
  have HT := top_any ht0 (hA.below hb0) hf.cov htF hk
  rw [hr] at HT
  have HTh := Lib.hid HT
  have hnF : ¬ F w.heap.size := fun e => by have := hA.1 _ e; omega
  have hx0 := hnew w (.cells #[.int .i64 0] 3)
  have H := Lib.hid (And.intro hb0 (And.intro hnF hx0))
  clear ht hA hf hb0 hnF hx0 ht0 HT hr
  have HW := Lib.hid (show ∀ (w1 : World) (v : Value), Calls Tryz.prog 61 #[.pointer (some ⟨tb, 0, none⟩), .int .i64 0, .int .i64 0, v] w1 fun e w' => e = .returned (.tuple #[]) ∧ Below w1.heap.size w1 w' from by
    intro w1 v
    go_enter Tryz.func61, Tryz.ntmps61
    go_wp2
    exact bodyPost_ret (v := .tuple #[]) (results_none rfl _ _ _) rfl ⟨rfl, by first | exact Below.refl _ _ | go_grown⟩)
  go_enter Tryz.func25, Tryz.ntmps25
  go_wp2_with fail
  refine HTh.out.mono ?_
  rintro e w1 ⟨rfl, hst⟩
  have hx1 := hst.block H.out.2.2 H.out.2.1
  have HS := Lib.hid (Step.trans (Off.of_below H.out.1 (F := F)) (fun _ _ h => h) hst)
  have hlt1 : w.heap.size < w1.heap.size := (Array.getElem?_eq_some_iff.1 hx1).1
  have HX := Lib.hid hx1
  clear hst hx1
  go_wp2_with fail
  refine (HW.out _ _).mono ?_
  rintro e w2 ⟨rfl, hb⟩
  have hx2 := (hb.block w.heap.size hlt1).trans HX.out
  have c0 : w2.cell? ⟨w.heap.size, 0, none⟩ = some (.int .i64 0) := by unfold World.cell?; rw [hx2]; rfl
  have HB := Lib.hid hb
  clear hx2 hb
  go_wp2
  go_ret
  exact ⟨rfl, HS.out.below HB.out⟩
end Go.Proofs.YtddddjpmeegedaaGreat
