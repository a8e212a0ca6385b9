/- A tree: top, store of a leaf that fits, New. -/
import Derived.Test.YtddddjpmeegedaaGreatSpU
set_option linter.unusedVariables false
set_option linter.unusedSimpArgs false
namespace Go.Proofs.YtddddjpmeegedaaGreat
open Go.RowKit

def Raw.root (R : Raw) (k : Nat) : Int := num (R.page 0) (8 + 4 * k)
theorem Step.cell {bs : Nat} {B : Base bs} {ba : Nat} {w w' : World} {F : Nat → Prop} {R : Raw} (h : Step B ba w F R w') {p : Addr} {v : Value} (hv : w.cell? p = some v) (hF : ¬ F p.block) : w'.cell? p = some v := by
  obtain ⟨F', _, _, ho⟩ := h
  exact ho.cell hv hF
theorem Step.block {bs : Nat} {B : Base bs} {ba : Nat} {w w' : World} {F : Nat → Prop} {R : Raw} (h : Step B ba w F R w') {k : Nat} {o : Obj} (hv : w.heap[k]? = some o) (hF : ¬ F k) : w'.heap[k]? = some o := by
  obtain ⟨F', _, _, ho⟩ := h
  exact (ho.block k (Array.getElem?_eq_some_iff.1 hv).1 hF).trans hv
theorem Step.below {bs : Nat} {B : Base bs} {ba : Nat} {w w1 w2 : World} {F : Nat → Prop} {R : Raw} (h : Step B ba w F R w1) (hb : Below w1.heap.size w1 w2) : Step B ba w F R w2 := by
  obtain ⟨F', hA, hF, ho⟩ := h
  exact ⟨F', hA.below hb, hF, ho.trans (Off.of_below hb (F := fun _ => False)) (fun _ _ h => h.elim)⟩

set_option maxRecDepth 100000 in
set_option maxHeartbeats 2000000 in
theorem top_any {bs : Nat} {B : Base bs} {w : World} {tb ba k : Nat} {F : Nat → Prop} {R : Raw} (ht : w.heap[tb]? = some (treeO ba k)) (hA : ActIs B w ba F R) (hc : Cov B R) (htF : ¬ F tb) (hk : k < 16) :
    Calls Tryz.prog 60 #[.pointer (some ⟨tb, 0, none⟩)] w fun e w' => e = .returned (.tuple #[.int .i64 (R.root k), .int .i64 0]) ∧ Step B ba w F R w' := by
  obtain ⟨t0, t1⟩ := tree2 ht
  have hdr : Below w.heap.size w w.drew := (Below.refl _ _).drew
  have HR := Lib.hid (root_any (w := w.drew) (hA.below hdr) hc k hk)
  have HT := Lib.hid (And.intro t0 t1)
  clear ht hA hc t0 t1
  have t0 := HT.out.1
  have t1 := HT.out.2
  go_enter Tryz.func60, Tryz.ntmps60
  go_wp2
  refine wp_region_noPanic ?_
  refine wp_region_held_drew (S := (fun w' => w'.cell? ⟨tb, 0, none⟩ = some (.pointer (some ⟨ba, 0, none⟩)) ∧ w'.cell? ⟨tb, 1, none⟩ = some (.int .i64 k))) (by kernel_rfl) ⟨t0, t1⟩ (fun hS => ?_)
  refine wpAnyH_take (i := 0) (v := ?_) rfl (by kernel_rfl) (by kernel_rfl) (by kernel_rfl) (fun _ _ _ h => h) (Or.inl ⟨by rfl, ?_⟩) hS ?_
  rotate_left
  · rintro w9 ⟨t0, t1⟩
    go_simp
    try with_reducible rfl
  try simp only [Act.put, List.getElem_toArray, List.getElem_cons_succ, List.getElem_cons_zero, List.setIfInBounds_toArray, List.set_cons_zero, List.set_cons_succ]
  refine wpAnyH_take (i := 1) (v := ?_) rfl (by kernel_rfl) (by kernel_rfl) (by kernel_rfl) (fun _ _ _ h => h) (Or.inl ⟨by rfl, ?_⟩) hS ?_
  rotate_left
  · rintro w9 ⟨t0, t1⟩
    go_simp
    try with_reducible rfl
  try simp only [Act.put, List.getElem_toArray, List.getElem_cons_succ, List.getElem_cons_zero, List.setIfInBounds_toArray, List.set_cons_zero, List.set_cons_succ]
  refine wpAnyH_take (i := 2) (v := ?_) rfl (by kernel_rfl) (by kernel_rfl) (by kernel_rfl) (fun _ _ _ h => h) (Or.inl ⟨by rfl, ?_⟩) hS ?_
  rotate_left
  · rintro w9 ⟨t0, t1⟩
    go_simp
    try with_reducible rfl
  try simp only [Act.put, List.getElem_toArray, List.getElem_cons_succ, List.getElem_cons_zero, List.setIfInBounds_toArray, List.set_cons_zero, List.set_cons_succ]
  refine wpAnyH_take (i := 3) (v := ?_) rfl (by kernel_rfl) (by kernel_rfl) (by kernel_rfl) (fun _ _ _ h => h) (Or.inl ⟨by rfl, ?_⟩) hS ?_
  rotate_left
  · rintro w9 ⟨t0, t1⟩
    go_simp
    try with_reducible rfl
  try simp only [Act.put, List.getElem_toArray, List.getElem_cons_succ, List.getElem_cons_zero, List.setIfInBounds_toArray, List.set_cons_zero, List.set_cons_succ]
  refine wpAnyH_take (i := 4) (v := ?_) rfl (by kernel_rfl) (by kernel_rfl) (by kernel_rfl) (fun _ _ _ h => h) (Or.inl ⟨by rfl, ?_⟩) hS ?_
  rotate_left
  · rintro w9 ⟨t0, t1⟩
    go_simp
    try with_reducible rfl
  try simp only [Act.put, List.getElem_toArray, List.getElem_cons_succ, List.getElem_cons_zero, List.setIfInBounds_toArray, List.set_cons_zero, List.set_cons_succ]
  refine wpAnyH_take (i := 5) (v := ?_) rfl (by kernel_rfl) (by kernel_rfl) (by kernel_rfl) (fun _ _ _ h => h) (Or.inl ⟨by rfl, ?_⟩) hS ?_
  rotate_left
  · rintro w9 ⟨t0, t1⟩
    go_simp
    try with_reducible rfl
  try simp only [Act.put, List.getElem_toArray, List.getElem_cons_succ, List.getElem_cons_zero, List.setIfInBounds_toArray, List.set_cons_zero, List.set_cons_succ]
  refine wpAnyH_take (i := 6) (v := ?_) rfl (by kernel_rfl) (by kernel_rfl) (by kernel_rfl) (fun _ _ _ h => h) (Or.inl ⟨by rfl, ?_⟩) hS ?_
  rotate_left
  · rintro w9 ⟨t0, t1⟩
    go_simp
    try with_reducible rfl
  try simp only [Act.put, List.getElem_toArray, List.getElem_cons_succ, List.getElem_cons_zero, List.setIfInBounds_toArray, List.set_cons_zero, List.set_cons_succ]
  refine wpAnyH_take (i := 7) (v := ?_) rfl (by kernel_rfl) (by kernel_rfl) (by kernel_rfl) (fun _ _ _ h => h) (Or.inl ⟨by rfl, ?_⟩) hS ?_
  rotate_left
  · rintro w9 ⟨t0, t1⟩
    go_simp
    try with_reducible rfl
  try simp only [Act.put, List.getElem_toArray, List.getElem_cons_succ, List.getElem_cons_zero, List.setIfInBounds_toArray, List.set_cons_zero, List.set_cons_succ]
  refine wpAnyH_ready (rs := [8]) (by kernel_rfl) (by simp) ?_
  refine AllReadyH.cons rfl (fun K hK => ?_) AllReadyH.nil
  go_simp
  refine HR.out.mono ?_
  rintro e w1 ⟨rfl, hst⟩
  have hS1 := And.intro (hst.cell HT.out.1 htF) (hst.cell HT.out.2 htF)
  have HS := Lib.hid (show Step B ba w F R w1 from Step.trans (Off.of_below hdr) (fun _ _ h => h) hst)
  clear hst
  refine hK.out _ _ hS1 (fun _ => ?_)
  clear hK K
  try simp only [Act.put, List.getElem_toArray, List.getElem_cons_succ, List.getElem_cons_zero, List.setIfInBounds_toArray, List.set_cons_zero, List.set_cons_succ]
  refine wpAnyH_take (i := 9) (v := ?_) rfl (by kernel_rfl) (by kernel_rfl) (by kernel_rfl) (fun _ _ _ h => h) (Or.inl ⟨by rfl, ?_⟩) hS1 ?_
  rotate_left
  · rintro w9 ⟨t0, t1⟩
    go_simp
    try with_reducible rfl
  try simp only [Act.put, List.getElem_toArray, List.getElem_cons_succ, List.getElem_cons_zero, List.setIfInBounds_toArray, List.set_cons_zero, List.set_cons_succ]
  refine wpAnyH_take (i := 10) (v := ?_) rfl (by kernel_rfl) (by kernel_rfl) (by kernel_rfl) (fun _ _ _ h => h) (Or.inl ⟨by rfl, ?_⟩) hS1 ?_
  rotate_left
  · rintro w9 ⟨t0, t1⟩
    go_simp
    try with_reducible rfl
  try simp only [Act.put, List.getElem_toArray, List.getElem_cons_succ, List.getElem_cons_zero, List.setIfInBounds_toArray, List.set_cons_zero, List.set_cons_succ]
  refine wpAnyH_take (i := 11) (v := ?_) rfl (by kernel_rfl) (by kernel_rfl) (by kernel_rfl) (fun _ _ _ h => h) (Or.inl ⟨by rfl, ?_⟩) hS1 ?_
  rotate_left
  · rintro w9 ⟨t0, t1⟩
    go_simp
    try with_reducible rfl
  try simp only [Act.put, List.getElem_toArray, List.getElem_cons_succ, List.getElem_cons_zero, List.setIfInBounds_toArray, List.set_cons_zero, List.set_cons_succ]
  refine wpAnyH_take (i := 12) (v := ?_) rfl (by kernel_rfl) (by kernel_rfl) (by kernel_rfl) (fun _ _ _ h => h) (Or.inl ⟨by rfl, ?_⟩) hS1 ?_
  rotate_left
  · rintro w9 ⟨t0, t1⟩
    go_simp
    try with_reducible rfl
  try simp only [Act.put, List.getElem_toArray, List.getElem_cons_succ, List.getElem_cons_zero, List.setIfInBounds_toArray, List.set_cons_zero, List.set_cons_succ]
  refine wpAnyH_done (by kernel_rfl) ?_ _
  refine NoPanic.normal ?_
  go_wp2
  go_ret2
  exact ⟨rfl, HS.out⟩

set_option maxRecDepth 100000 in
set_option maxHeartbeats 2000000 in
theorem store_leaf {bs : Nat} {B : Base bs} {w : World} {tb ba root nb : Nat} {F : Nat → Prop} {R : Raw} {A : Option Addr} {c : Nat} {kv : Value} {L : List KV} (ht : w.heap[tb]? = some (treeO ba root)) (hA : ActIs B w ba F R) (hc : Cov B R) (htF : ¬ F tb) (p : Int) (hp : thereE R p = 0)
    (h : w.heap[nb]? = some (nodeO true (.slice A L.length c) kv)) (hr : ItemsR w A L) (hok : ∀ x ∈ L, x.ok) (hlen : (leafB L).length ≤ 512) (hn : L.length < 256) :
    Calls Tryz.prog 116 #[.pointer (some ⟨tb, 0, none⟩), .int .i64 p, .pointer (some ⟨nb, 0, none⟩)] w fun e w' => e = .returned (.tuple #[.pointer none, .int .i64 0]) ∧ Step B ba w F (R.put p 0 (pageL (leafB L))) w' := by
  have HB := Lib.hid (bytes_leaf h hr hok hn)
  have H := Lib.hid (And.intro ht (And.intro hA (And.intro h hr)))
  have HC := Lib.hid (And.intro hc (And.intro hp (And.intro hok (And.intro hlen hn))))
  clear ht hA hc hp h hr hok hn
  have hl : ((leafB L).length : Int) ≤ 512 := by omega
  clear hlen
  go_enter Tryz.func116, Tryz.ntmps116
  go_wp2_with fail
  refine HB.out.mono ?_
  rintro e w1 ⟨v, rfl, hb1, hbel⟩
  obtain ⟨A1, c1, rfl⟩ := hb1.slice
  have HW := Lib.hid (write_leaf ((hbel.block tb (Array.getElem?_eq_some_iff.1 H.out.1).1).trans H.out.1) (H.out.2.1.below hbel) HC.out.1 htF p HC.out.2.1 ((hbel.block nb (Array.getElem?_eq_some_iff.1 H.out.2.2.1).1).trans H.out.2.2.1) (H.out.2.2.2.below hbel) HC.out.2.2.1 HC.out.2.2.2.1 HC.out.2.2.2.2)
  have HBel := Lib.hid hbel
  clear hb1 hbel HB
  go_wp2_with fail
  refine HW.out.mono ?_
  rintro e w2 ⟨rfl, hst⟩
  have HS := Lib.hid (Step.trans (Off.of_below HBel.out) (fun _ _ h => h) hst)
  clear hst
  go_wp2
  go_ret2
  exact ⟨rfl, HS.out⟩

set_option maxHeartbeats 1000000 in
theorem treeNew_any {bs : Nat} {B : Base bs} {w : World} {ba : Nat} {F : Nat → Prop} {R : Raw} (hA : ActIs B w ba F R) (hc : Cov B R) (k : Nat) (hk : k < 16) :
    Calls Tryz.prog 24 #[.pointer (some ⟨ba, 0, none⟩), .int .i64 k] w fun e w' => ∃ tb F', e = .returned (.tuple #[.pointer (some ⟨tb, 0, none⟩), .int .i64 0]) ∧ w'.heap[tb]? = some (treeO ba k) ∧ w.heap.size ≤ tb ∧ ¬ F' tb ∧ ActIs B w' ba F' R ∧ (∀ k, k < w.heap.size → F' k → F k) ∧ Off F w w' := by
  have HR := Lib.hid (root_any hA hc k hk)
  clear hA
  go_enter Tryz.func24, Tryz.ntmps24
  go_wp2_with fail
  refine HR.out.mono ?_
  rintro e w1 ⟨rfl, F1, h1, hF1, ho1⟩
  have H1 := Lib.hid (And.intro h1 (And.intro hF1 ho1))
  clear h1 hF1 ho1
  go_wp2
  go_ret2
  have hb : Below w1.heap.size w1 (w1.alloc (treeO ba k)) := by go_grown
  exact ⟨w1.heap.size, F1, rfl, hnew w1 _, H1.out.2.2.size, fun h => by have := H1.out.1.1 _ h; omega, H1.out.1.below hb, H1.out.2.1, H1.out.2.2.trans (Off.of_below hb (F := fun _ => False)) (fun _ _ h => h.elim)⟩
end Go.Proofs.YtddddjpmeegedaaGreat
