/- An empty tree's Get, Pages, Drop; what the methods are: New, Drop. (Written by gensrg.py.) Trees, whatever they hold; methods over a tree: Get, From, Next, Put. (Printed by genta.py.) Rows of integers that a call has made. (Printed by genrow3.py.) -/
import Derived.Test.YtoejgkcaamkanaaGreatDoorQ11
import Derived.Deep.AppendLies
set_option linter.unusedVariables false
set_option linter.unusedSimpArgs false
namespace Go.Proofs.YtoejgkcaamkanaaGreatDoor
open Go.RowKit

set_option maxRecDepth 100000 in
set_option maxHeartbeats 2000000 in
theorem Get_none {bs : Nat} {B : Base bs} {w : World} {tb ba k : Nat} {F : Nat → Prop} {R : Raw} (ht : w.heap[tb]? = some (treeO ba k)) (hA : ActIs B w ba F R) (hf : Fine B R) (htF : ¬ F tb) (hk : k < 16) (hr : R.root k = 0) (key : ByteArray) :
    Calls Tryz.prog 88 #[.pointer (some ⟨tb, 0, none⟩), .string key] w fun e w' => e = .returned (.tuple #[.string ⟨#[]⟩, .int .i64 3]) ∧ Step B ba w F R w' := by
  have HT := top_any ht hA hf.cov htF hk
  rw [hr] at HT
  have HTh := Lib.hid HT
  clear ht hA hf hr HT
  go_enter Tryz.func88, Tryz.ntmps88
  go_wp2_with fail
  refine HTh.out.mono ?_
  rintro e w1 ⟨rfl, hst⟩
  have HS := Lib.hid hst
  clear hst
  go_wp2
  go_loopw [6] (fun i wr => i = .int .i64 0 ∧ wr = w1) (fun i _ => 0)
  case atStart => exact ⟨rfl, rfl⟩
  case round =>
    obtain ⟨rfl, rfl⟩ := hrel
    go_wp2
    go_ret2
    exact ⟨rfl, HS.out⟩

theorem len64_zero (w : World) : Calls Tryz.prog 154 #[.int .u64 0] w fun e w' => e = .returned (.int .i64 0) ∧ w' = w := by
  go_enter Tryz.func154, Tryz.ntmps154
  go_wp2
  go_ret
  refine ⟨?_, rfl⟩
  show Ending.returned (.int .i64 (wrap64 (wrap64 (Lib.len8 0)))) = _
  rw [show wrap64 (wrap64 (Lib.len8 0)) = 0 by decide +kernel]
theorem len_zero (w : World) : Calls Tryz.prog 111 #[.int .u64 0] w fun e w' => e = .returned (.int .i64 0) ∧ w' = w := by
  have H := Lib.hid (len64_zero w)
  go_enter Tryz.func111, Tryz.ntmps111
  go_wp2_with fail
  refine H.out.mono ?_
  rintro e w1 ⟨rfl, rfl⟩
  go_wp2
  go_ret
  exact ⟨rfl, rfl⟩
theorem insSort_nil (w : World) : Calls Tryz.prog 144 #[.slice none 0 0, .int .i64 0, .int .i64 0] w fun e w' => e = .returned (.tuple #[]) ∧ w' = w := by
  go_enter Tryz.func144, Tryz.ntmps144
  go_wp2
  go_loopw [6] (fun i wr => i = .int .i64 1 ∧ wr = w) (fun i _ => 0)
  case atStart => exact ⟨rfl, rfl⟩
  case round =>
    obtain ⟨rfl, rfl⟩ := hrel
    go_wp2
    exact Great.bodyPost_end0 rfl rfl ⟨rfl, rfl⟩
theorem pdq_nil (w : World) (l : Int) : Calls Tryz.prog 110 #[.slice none 0 0, .int .i64 0, .int .i64 0, .int .i64 l] w fun e w' => e = .returned (.tuple #[]) ∧ w' = w := by
  have H := Lib.hid (insSort_nil w)
  go_enter Tryz.func110, Tryz.ntmps110
  go_wp2
  go_loopw [1, 2] (fun a b wr => a = .int .i64 0 ∧ b = .int .i64 0 ∧ wr = w) (fun _ _ _ => 0)
  case atStart => exact ⟨rfl, rfl, rfl⟩
  case round =>
    obtain ⟨rfl, rfl, rfl⟩ := hrel
    go_wp2_with fail
    refine H.out.mono ?_
    rintro e w1 ⟨rfl, rfl⟩
    go_wp2
    exact bodyPost_ret (v := .tuple #[]) (results_none rfl _ _ _) rfl ⟨rfl, rfl⟩
theorem sort_nil (w : World) : Calls Tryz.prog 61 #[.slice none 0 0] w fun e w' => e = .returned (.tuple #[]) ∧ w' = w := by
  have H := Lib.hid (And.intro (len_zero w) (fun l => pdq_nil w l))
  go_enter Tryz.func61, Tryz.ntmps61
  go_wp2_with fail
  refine H.out.1.mono ?_
  rintro e w1 ⟨rfl, rfl⟩
  go_wp2_with fail
  refine (H.out.2 _).mono ?_
  rintro e w1 ⟨rfl, rfl⟩
  go_wp2
  exact Great.bodyPost_end0 rfl rfl ⟨rfl, rfl⟩

set_option maxRecDepth 100000 in
set_option maxHeartbeats 2000000 in
theorem Pages_none {bs : Nat} {B : Base bs} {w : World} {tb ba k : Nat} {F : Nat → Prop} {R : Raw} (ht : w.heap[tb]? = some (treeO ba k)) (hA : ActIs B w ba F R) (hf : Fine B R) (htF : ¬ F tb) (hk : k < 16) (hr : R.root k = 0) :
    Calls Tryz.prog 248 #[.pointer (some ⟨tb, 0, none⟩)] w fun e w' => e = .returned (.slice none 0 0) ∧ Step B ba w F R w' := by
  have hltb : tb < w.heap.size := (Array.getElem?_eq_some_iff.1 ht).1
  have hb0 : Below w.heap.size w (w.alloc (.cells #[.slice none 0 0] 38)) := by go_grown
  have ht0 := (hb0.block tb hltb).trans ht
  have HT := top_any ht0 (hA.below hb0) hf.cov htF hk
  rw [hr] at HT
  have HTh := Lib.hid HT
  have hnF : ¬ F w.heap.size := fun e => by have := hA.1 _ e; omega
  have hx0 := hnew w (.cells #[.slice none 0 0] 38)
  have H := Lib.hid (And.intro hb0 (And.intro hnF hx0))
  clear ht hA hf hb0 hnF hx0 ht0 HT hr
  have HW := Lib.hid (show ∀ (w1 : World) (v : Value), Calls Tryz.prog 97 #[.pointer (some ⟨tb, 0, none⟩), .int .i64 0, .int .i64 0, v] w1 fun e w' => e = .returned (.tuple #[]) ∧ Below w1.heap.size w1 w' from by
    intro w1 v
    go_enter Tryz.func97, Tryz.ntmps97
    go_wp2
    exact bodyPost_ret (v := .tuple #[]) (results_none rfl _ _ _) rfl ⟨rfl, by first | exact Below.refl _ _ | go_grown⟩)
  have HSo := Lib.hid (fun W => sort_nil W)
  go_enter Tryz.func248, Tryz.ntmps248
  go_wp2_with fail
  refine HTh.out.mono ?_
  rintro e w1 ⟨rfl, hst⟩
  have hx1 := hst.block H.out.2.2 H.out.2.1
  have HS := Lib.hid (Step.trans (Off.of_below H.out.1 (F := F)) (fun _ _ h => h) hst)
  have hlt1 : w.heap.size < w1.heap.size := (Array.getElem?_eq_some_iff.1 hx1).1
  have HX := Lib.hid hx1
  clear hst hx1
  go_wp2_with fail
  refine (HW.out _ _).mono ?_
  rintro e w2 ⟨rfl, hb⟩
  have hx2 := (hb.block w.heap.size hlt1).trans HX.out
  have c0 : w2.cell? ⟨w.heap.size, 0, none⟩ = some (.slice none 0 0) := by unfold World.cell?; rw [hx2]; rfl
  have HB := Lib.hid hb
  clear hx2 hb
  go_wp2_with fail
  refine (HSo.out _).mono ?_
  rintro e w3 ⟨rfl, rfl⟩
  go_wp2
  go_ret
  exact ⟨rfl, HS.out.below HB.out⟩

set_option maxRecDepth 100000 in
set_option maxHeartbeats 4000000 in
theorem TDrop_none {bs : Nat} {B : Base bs} {w : World} {tb ba k : Nat} {F : Nat → Prop} {R : Raw} (ht : w.heap[tb]? = some (treeO ba k)) (hA : ActIs B w ba F R) (hf : Fine B R) (htF : ¬ F tb) (hk : k < 16) (hr : R.root k = 0) :
    Calls Tryz.prog 247 #[.pointer (some ⟨tb, 0, none⟩)] w fun e w' => e = .returned (.int .i64 0) ∧ Step B ba w F (R.put 0 (8 + 4 * k) (digL 0)) w' := by
  have hltb : tb < w.heap.size := (Array.getElem?_eq_some_iff.1 ht).1
  have HT := top_any ht hA hf.cov htF hk
  rw [hr] at HT
  have HTh := Lib.hid HT
  have H := Lib.hid (And.intro ht (And.intro hf (And.intro htF hr)))
  clear ht hA hf hr HT
  go_enter Tryz.func247, Tryz.ntmps247
  go_wp2_with fail
  refine HTh.out.mono ?_
  rintro e w1 ⟨rfl, hst⟩
  have ht1 := hst.block H.out.1 H.out.2.2.1
  obtain ⟨F1, h1A, hF1, ho1⟩ := hst
  have htF1 : ¬ F1 tb := fun e => H.out.2.2.1 (hF1 tb hltb e)
  have HP := Lib.hid (Pages_none ht1 h1A H.out.2.1 htF1 hk H.out.2.2.2)
  have H1 := Lib.hid (And.intro ht1 (And.intro htF1 (And.intro ho1 hF1)))
  clear ht1 h1A ho1 hF1 htF1 HTh
  go_wp2_with fail
  refine HP.out.mono ?_
  rintro e w2 ⟨rfl, hst⟩
  have ht2 := hst.block H1.out.1 H1.out.2.1
  obtain ⟨F2, h2A, hF2, ho2⟩ := hst
  have hlt1 : tb < w1.heap.size := (Array.getElem?_eq_some_iff.1 H1.out.1).1
  have htF2 : ¬ F2 tb := fun e => H1.out.2.1 (hF2 tb hlt1 e)
  obtain ⟨t0, t1⟩ := tree2 ht2
  have HSd := Lib.hid (setRoot_any (h2A.below ((Below.refl _ w2).drew)) H.out.2.1.cov k hk 0 ⟨by omega, by omega⟩)
  have H2 := Lib.hid (And.intro ht2 (And.intro htF2 (And.intro (H1.out.2.2.1.trans ho2 (fun k hk e => H1.out.2.2.2 k hk e)) (fun k (hk : k < w.heap.size) (e : F2 k) => H1.out.2.2.2 k hk (hF2 k (Nat.lt_of_lt_of_le hk H1.out.2.2.1.size) e)))))
  clear ht2 h2A hF2 ho2 htF2 HP
  go_wp2
  go_loopw [18] (fun i wr => i = .int .i64 0 ∧ wr = w2) (fun _ _ => 0)
  case atStart => exact ⟨rfl, rfl⟩
  case round =>
    obtain ⟨rfl, rfl⟩ := hrel
    go_wp2
    refine wp_region_noPanic ?_
    refine wp_region_held_drew (S := (fun w' => w'.cell? ⟨tb, 0, none⟩ = some (.pointer (some ⟨ba, 0, none⟩)) ∧ w'.cell? ⟨tb, 1, none⟩ = some (.int .i64 k))) (by kernel_rfl) ⟨t0, t1⟩ (fun hS => ?_)
    refine wpAnyH_take (i := 0) (v := ?_) rfl (by kernel_rfl) (by kernel_rfl) (by kernel_rfl) (fun _ _ _ h => h) (Or.inl ⟨by rfl, ?_⟩) hS ?_
    rotate_left
    · rintro w9 ⟨t0, t1⟩
      go_simp
      try with_reducible rfl
    try simp only [Act.put, List.getElem_toArray, List.getElem_cons_succ, List.getElem_cons_zero, List.setIfInBounds_toArray, List.set_cons_zero, List.set_cons_succ]
    refine wpAnyH_take (i := 1) (v := ?_) rfl (by kernel_rfl) (by kernel_rfl) (by kernel_rfl) (fun _ _ _ h => h) (Or.inl ⟨by rfl, ?_⟩) hS ?_
    rotate_left
    · rintro w9 ⟨t0, t1⟩
      go_simp
      try with_reducible rfl
    try simp only [Act.put, List.getElem_toArray, List.getElem_cons_succ, List.getElem_cons_zero, List.setIfInBounds_toArray, List.set_cons_zero, List.set_cons_succ]
    refine wpAnyH_take (i := 2) (v := ?_) rfl (by kernel_rfl) (by kernel_rfl) (by kernel_rfl) (fun _ _ _ h => h) (Or.inl ⟨by rfl, ?_⟩) hS ?_
    rotate_left
    · rintro w9 ⟨t0, t1⟩
      go_simp
      try with_reducible rfl
    try simp only [Act.put, List.getElem_toArray, List.getElem_cons_succ, List.getElem_cons_zero, List.setIfInBounds_toArray, List.set_cons_zero, List.set_cons_succ]
    refine wpAnyH_take (i := 3) (v := ?_) rfl (by kernel_rfl) (by kernel_rfl) (by kernel_rfl) (fun _ _ _ h => h) (Or.inl ⟨by rfl, ?_⟩) hS ?_
    rotate_left
    · rintro w9 ⟨t0, t1⟩
      go_simp
      try with_reducible rfl
    try simp only [Act.put, List.getElem_toArray, List.getElem_cons_succ, List.getElem_cons_zero, List.setIfInBounds_toArray, List.set_cons_zero, List.set_cons_succ]
    refine wpAnyH_take (i := 4) (v := ?_) rfl (by kernel_rfl) (by kernel_rfl) (by kernel_rfl) (fun _ _ _ h => h) (Or.inl ⟨by rfl, ?_⟩) hS ?_
    rotate_left
    · rintro w9 ⟨t0, t1⟩
      go_simp
      try with_reducible rfl
    try simp only [Act.put, List.getElem_toArray, List.getElem_cons_succ, List.getElem_cons_zero, List.setIfInBounds_toArray, List.set_cons_zero, List.set_cons_succ]
    refine wpAnyH_take (i := 5) (v := ?_) rfl (by kernel_rfl) (by kernel_rfl) (by kernel_rfl) (fun _ _ _ h => h) (Or.inl ⟨by rfl, ?_⟩) hS ?_
    rotate_left
    · rintro w9 ⟨t0, t1⟩
      go_simp
      try with_reducible rfl
    try simp only [Act.put, List.getElem_toArray, List.getElem_cons_succ, List.getElem_cons_zero, List.setIfInBounds_toArray, List.set_cons_zero, List.set_cons_succ]
    refine wpAnyH_take (i := 6) (v := ?_) rfl (by kernel_rfl) (by kernel_rfl) (by kernel_rfl) (fun _ _ _ h => h) (Or.inl ⟨by rfl, ?_⟩) hS ?_
    rotate_left
    · rintro w9 ⟨t0, t1⟩
      go_simp
      try with_reducible rfl
    try simp only [Act.put, List.getElem_toArray, List.getElem_cons_succ, List.getElem_cons_zero, List.setIfInBounds_toArray, List.set_cons_zero, List.set_cons_succ]
    refine wpAnyH_take (i := 7) (v := ?_) rfl (by kernel_rfl) (by kernel_rfl) (by kernel_rfl) (fun _ _ _ h => h) (Or.inl ⟨by rfl, ?_⟩) hS ?_
    rotate_left
    · rintro w9 ⟨t0, t1⟩
      go_simp
      try with_reducible rfl
    try simp only [Act.put, List.getElem_toArray, List.getElem_cons_succ, List.getElem_cons_zero, List.setIfInBounds_toArray, List.set_cons_zero, List.set_cons_succ]
    refine wpAnyH_ready (rs := [8]) (by kernel_rfl) (by simp) ?_
    refine AllReadyH.cons rfl (fun K hK => ?_) AllReadyH.nil
    go_simp
    refine HSd.out.mono ?_
    rintro e w5 ⟨rfl, hst⟩
    have hs5 := tree2 (hst.block (show wr.drew.heap[tb]? = some (treeO ba k) from H2.out.1) H2.out.2.1)
    have HS := Lib.hid (Step.trans (H2.out.2.2.1.trans (Off.of_below ((Below.refl _ wr).drew) (F := fun _ => False)) (fun _ _ e => e.elim)) H2.out.2.2.2 hst)
    clear hst
    refine hK.out _ _ hs5 (fun _ => ?_)
    clear hK K
    try simp only [Act.put, List.getElem_toArray, List.getElem_cons_succ, List.getElem_cons_zero, List.setIfInBounds_toArray, List.set_cons_zero, List.set_cons_succ]
    refine wpAnyH_take (i := 9) (v := ?_) rfl (by kernel_rfl) (by kernel_rfl) (by kernel_rfl) (fun _ _ _ h => h) (Or.inl ⟨by rfl, ?_⟩) hs5 ?_
    rotate_left
    · rintro w9 ⟨t0, t1⟩
      go_simp
      try with_reducible rfl
    try simp only [Act.put, List.getElem_toArray, List.getElem_cons_succ, List.getElem_cons_zero, List.setIfInBounds_toArray, List.set_cons_zero, List.set_cons_succ]
    refine wpAnyH_done (by kernel_rfl) ?_ _
    refine NoPanic.normal ?_
    go_wp2
    go_ret
    exact ⟨rfl, HS.out⟩

/-- What stands about a method that was opened: its blocks are apart from what the action holds. -/
structure MethIs {bs : Nat} (B : Base bs) (w : World) (ba mb tb r : Nat) (o : Obj) (F : Nat → Prop) (R : Raw) : Prop where
  meth : w.heap[mb]? = some o
  tree : w.heap[tb]? = some (treeO ba r)
  act : ActIs B w ba F R
  mF : ¬ F mb
  tF : ¬ F tb

abbrev bmO (tb : Nat) : Obj := .cells #[.pointer (some ⟨tb, 0, none⟩)] 59
set_option maxRecDepth 100000 in
set_option maxHeartbeats 2000000 in
theorem bmNew {bs : Nat} {B : Base bs} {w : World} {ba : Nat} {F : Nat → Prop} {R : Raw} (hA : ActIs B w ba F R) (hc : Cov B R) (k : Nat) (hk : k < 16) :
    Calls Tryz.prog 9 #[.pointer (some ⟨ba, 0, none⟩), .int .i64 k] w fun e w' => ∃ mb tb F', e = .returned (.tuple #[.pointer (some ⟨mb, 0, none⟩), .int .i64 0]) ∧ MethIs B w' ba mb tb k (bmO tb) F' R ∧ w.heap.size ≤ mb ∧ w.heap.size ≤ tb ∧ (∀ k, k < w.heap.size → F' k → F k) ∧ Off F w w' := by
  have HT := Lib.hid (treeNew_any hA hc k hk)
  clear hA
  go_enter Tryz.func9, Tryz.ntmps9
  go_wp2_with fail
  refine HT.out.mono ?_
  rintro e w1 ⟨tb, F1, rfl, ht1, hlt1, htF1, hA1, hF1, ho1⟩
  have hb : Below w1.heap.size w1 (w1.alloc (bmO tb)) := by go_grown
  have HR := Lib.hid (show MethIs B (w1.alloc (bmO tb)) ba w1.heap.size tb k (bmO tb) F1 R ∧ w.heap.size ≤ w1.heap.size ∧ w.heap.size ≤ tb ∧ (∀ k, k < w.heap.size → F1 k → F k) ∧ Off F w (w1.alloc (bmO tb)) from
    ⟨⟨hnew w1 _, (hb.block tb (Array.getElem?_eq_some_iff.1 ht1).1).trans ht1, hA1.below hb, fun e => by have := hA1.1 _ e; omega, htF1⟩, ho1.size, hlt1, hF1, ho1.trans (Off.of_below hb (F := fun _ => False)) (fun _ _ e => e.elim)⟩)
  clear ht1 hlt1 htF1 hA1 hF1 ho1 hb HT
  go_wp2
  go_ret2
  exact ⟨w1.heap.size, tb, F1, rfl, HR.out⟩
set_option maxRecDepth 100000 in
set_option maxHeartbeats 2000000 in
theorem bmGoing {bs : Nat} {B : Base bs} {w : World} {ba mb tb k : Nat} {F : Nat → Prop} {R : Raw} (h : MethIs B w ba mb tb k (bmO tb) F R) (hf : Fine B R) (hk : k < 16) (hr : R.root k = 0) :
    Calls Tryz.prog 40 #[.pointer (some ⟨mb, 0, none⟩)] w fun e w' => e = .returned (.int .i64 0) ∧ Step B ba w F R w' := by
  have HG := Lib.hid (Get_none h.tree h.act hf h.tF hk hr ⟨#[120]⟩)
  have c0 : w.cell? ⟨mb, 0, none⟩ = some (.pointer (some ⟨tb, 0, none⟩)) := by unfold World.cell?; rw [h.meth]; rfl
  clear h hf hr
  go_enter Tryz.func40, Tryz.ntmps40
  go_wp2_with fail
  refine HG.out.mono ?_
  rintro e w1 ⟨rfl, hst⟩
  have HS := Lib.hid hst
  clear hst
  go_wp2
  go_ret
  exact ⟨rfl, HS.out⟩
set_option maxRecDepth 100000 in
set_option maxHeartbeats 2000000 in
theorem bmDrop {bs : Nat} {B : Base bs} {w : World} {ba mb tb k : Nat} {F : Nat → Prop} {R : Raw} (h : MethIs B w ba mb tb k (bmO tb) F R) (hf : Fine B R) (hk : k < 16) (hr : R.root k = 0) :
    Calls Tryz.prog 245 #[.pointer (some ⟨mb, 0, none⟩)] w fun e w' => e = .returned (.int .i64 0) ∧ Step B ba w F (R.put 0 (8 + 4 * k) (digL 0)) w' := by
  have HG := Lib.hid (bmGoing h hf hk hr)
  have H := Lib.hid (And.intro h (And.intro hf hr))
  clear h hf hr
  go_enter Tryz.func245, Tryz.ntmps245
  go_wp2_with fail
  refine HG.out.mono ?_
  rintro e w1 ⟨rfl, hst⟩
  have hm1 := hst.block H.out.1.meth H.out.1.mF
  have ht1 := hst.block H.out.1.tree H.out.1.tF
  obtain ⟨F1, hA1, hF1, ho1⟩ := hst
  have htF1 : ¬ F1 tb := fun e => H.out.1.tF (hF1 tb (Array.getElem?_eq_some_iff.1 H.out.1.tree).1 e)
  have c0 : w1.cell? ⟨mb, 0, none⟩ = some (.pointer (some ⟨tb, 0, none⟩)) := by unfold World.cell?; rw [hm1]; rfl
  have HD := Lib.hid (TDrop_none ht1 hA1 H.out.2.1 htF1 hk H.out.2.2)
  have HO := Lib.hid (And.intro ho1 hF1)
  clear hm1 ht1 hA1 hF1 ho1 htF1 HG
  go_wp2_with fail
  refine HD.out.mono ?_
  rintro e w2 ⟨rfl, hst⟩
  have HS := Lib.hid (Step.trans HO.out.1 HO.out.2 hst)
  clear hst
  go_wp2
  go_ret
  exact ⟨rfl, HS.out⟩
theorem bmName (mb : Nat) (w : World) : Calls Tryz.prog 51 #[.pointer (some ⟨mb, 0, none⟩)] w fun e w' => e = .returned (.string ⟨#[98, 105, 116, 109, 97, 112]⟩) ∧ w' = w := by
  go_enter Tryz.func51, Tryz.ntmps51
  go_wp2
  go_ret
  exact ⟨rfl, rfl⟩

abbrev ivO (tb : Nat) : Obj := .cells #[.pointer (some ⟨tb, 0, none⟩)] 67
set_option maxRecDepth 100000 in
set_option maxHeartbeats 2000000 in
theorem ivNew {bs : Nat} {B : Base bs} {w : World} {ba : Nat} {F : Nat → Prop} {R : Raw} (hA : ActIs B w ba F R) (hc : Cov B R) (k : Nat) (hk : k < 16) :
    Calls Tryz.prog 28 #[.pointer (some ⟨ba, 0, none⟩), .int .i64 k] w fun e w' => ∃ mb tb F', e = .returned (.tuple #[.pointer (some ⟨mb, 0, none⟩), .int .i64 0]) ∧ MethIs B w' ba mb tb k (ivO tb) F' R ∧ w.heap.size ≤ mb ∧ w.heap.size ≤ tb ∧ (∀ k, k < w.heap.size → F' k → F k) ∧ Off F w w' := by
  have HT := Lib.hid (treeNew_any hA hc k hk)
  clear hA
  go_enter Tryz.func28, Tryz.ntmps28
  go_wp2_with fail
  refine HT.out.mono ?_
  rintro e w1 ⟨tb, F1, rfl, ht1, hlt1, htF1, hA1, hF1, ho1⟩
  have hb : Below w1.heap.size w1 (w1.alloc (ivO tb)) := by go_grown
  have HR := Lib.hid (show MethIs B (w1.alloc (ivO tb)) ba w1.heap.size tb k (ivO tb) F1 R ∧ w.heap.size ≤ w1.heap.size ∧ w.heap.size ≤ tb ∧ (∀ k, k < w.heap.size → F1 k → F k) ∧ Off F w (w1.alloc (ivO tb)) from
    ⟨⟨hnew w1 _, (hb.block tb (Array.getElem?_eq_some_iff.1 ht1).1).trans ht1, hA1.below hb, fun e => by have := hA1.1 _ e; omega, htF1⟩, ho1.size, hlt1, hF1, ho1.trans (Off.of_below hb (F := fun _ => False)) (fun _ _ e => e.elim)⟩)
  clear ht1 hlt1 htF1 hA1 hF1 ho1 hb HT
  go_wp2
  go_ret2
  exact ⟨w1.heap.size, tb, F1, rfl, HR.out⟩
set_option maxRecDepth 100000 in
set_option maxHeartbeats 2000000 in
theorem ivGoing {bs : Nat} {B : Base bs} {w : World} {ba mb tb k : Nat} {F : Nat → Prop} {R : Raw} (h : MethIs B w ba mb tb k (ivO tb) F R) (hf : Fine B R) (hk : k < 16) (hr : R.root k = 0) :
    Calls Tryz.prog 75 #[.pointer (some ⟨mb, 0, none⟩)] w fun e w' => e = .returned (.int .i64 0) ∧ Step B ba w F R w' := by
  have HG := Lib.hid (Get_none h.tree h.act hf h.tF hk hr ⟨#[120]⟩)
  have c0 : w.cell? ⟨mb, 0, none⟩ = some (.pointer (some ⟨tb, 0, none⟩)) := by unfold World.cell?; rw [h.meth]; rfl
  clear h hf hr
  go_enter Tryz.func75, Tryz.ntmps75
  go_wp2_with fail
  refine HG.out.mono ?_
  rintro e w1 ⟨rfl, hst⟩
  have HS := Lib.hid hst
  clear hst
  go_wp2
  go_ret
  exact ⟨rfl, HS.out⟩
set_option maxRecDepth 100000 in
set_option maxHeartbeats 2000000 in
theorem ivDrop {bs : Nat} {B : Base bs} {w : World} {ba mb tb k : Nat} {F : Nat → Prop} {R : Raw} (h : MethIs B w ba mb tb k (ivO tb) F R) (hf : Fine B R) (hk : k < 16) (hr : R.root k = 0) :
    Calls Tryz.prog 256 #[.pointer (some ⟨mb, 0, none⟩)] w fun e w' => e = .returned (.int .i64 0) ∧ Step B ba w F (R.put 0 (8 + 4 * k) (digL 0)) w' := by
  have HG := Lib.hid (ivGoing h hf hk hr)
  have H := Lib.hid (And.intro h (And.intro hf hr))
  clear h hf hr
  go_enter Tryz.func256, Tryz.ntmps256
  go_wp2_with fail
  refine HG.out.mono ?_
  rintro e w1 ⟨rfl, hst⟩
  have hm1 := hst.block H.out.1.meth H.out.1.mF
  have ht1 := hst.block H.out.1.tree H.out.1.tF
  obtain ⟨F1, hA1, hF1, ho1⟩ := hst
  have htF1 : ¬ F1 tb := fun e => H.out.1.tF (hF1 tb (Array.getElem?_eq_some_iff.1 H.out.1.tree).1 e)
  have c0 : w1.cell? ⟨mb, 0, none⟩ = some (.pointer (some ⟨tb, 0, none⟩)) := by unfold World.cell?; rw [hm1]; rfl
  have HD := Lib.hid (TDrop_none ht1 hA1 H.out.2.1 htF1 hk H.out.2.2)
  have HO := Lib.hid (And.intro ho1 hF1)
  clear hm1 ht1 hA1 hF1 ho1 htF1 HG
  go_wp2_with fail
  refine HD.out.mono ?_
  rintro e w2 ⟨rfl, hst⟩
  have HS := Lib.hid (Step.trans HO.out.1 HO.out.2 hst)
  clear hst
  go_wp2
  go_ret
  exact ⟨rfl, HS.out⟩
theorem ivName (mb : Nat) (w : World) : Calls Tryz.prog 81 #[.pointer (some ⟨mb, 0, none⟩)] w fun e w' => e = .returned (.string ⟨#[105, 110, 118, 101, 114, 116, 101, 100]⟩) ∧ w' = w := by
  go_enter Tryz.func81, Tryz.ntmps81
  go_wp2
  go_ret
  exact ⟨rfl, rfl⟩
end Go.Proofs.YtoejgkcaamkanaaGreatDoor

namespace Go.Proofs.YtoejgkcaamkanaaGreatDoor
open Go.RowKit

theorem first_zero {tb : Nat} (key : ByteArray) (it : Bool) (w : World) (_ : Option World) :
    Calls Tryz.prog 92 #[.pointer (some ⟨tb, 0, none⟩), .int .i64 0, .string key, .bool it] w fun e w' => e = .returned (itemR none) ∧ Below w.heap.size w w' := by
  go_enter Tryz.func92, Tryz.ntmps92
  go_wp2
  (try simp only [Exit.inBlock, Exit.then])
  refine bodyPost_ret (v := .tuple #[.agg #[.string ⟨#[]⟩, .string ⟨#[]⟩], .bool false]) ?_ rfl ⟨rfl, by first | exact Below.refl _ _ | go_grown⟩
  rw [results_cell_tmp rfl]
  go_simp
  try rfl

set_option maxRecDepth 100000 in
set_option maxHeartbeats 2000000 in
theorem From_none {bs : Nat} {B : Base bs} {w : World} {tb ba k : Nat} {F : Nat → Prop} {R : Raw} (ht : w.heap[tb]? = some (treeO ba k)) (hA : ActIs B w ba F R) (hf : Fine B R) (htF : ¬ F tb) (hk : k < 16) (hr : R.root k = 0) (key : ByteArray) :
    Calls Tryz.prog 42 #[.pointer (some ⟨tb, 0, none⟩), .string key] w fun e w' => e = .returned (itemR none) ∧ Step B ba w F R w' := by
  have hltb : tb < w.heap.size := (Array.getElem?_eq_some_iff.1 ht).1
  have hb0 : Below w.heap.size w (w.alloc (itemO ⟨⟨#[]⟩, ⟨#[]⟩⟩)) := by go_grown
  have ht0 := (hb0.block tb hltb).trans ht
  have HT := top_any ht0 (hA.below hb0) hf.cov htF hk
  rw [hr] at HT
  have HTh := Lib.hid HT
  have hnF : ¬ F w.heap.size := fun e => by have := hA.1 _ e; omega
  have hx0 := hnew w (itemO ⟨⟨#[]⟩, ⟨#[]⟩⟩)
  have H := Lib.hid (And.intro hb0 (And.intro hnF hx0))
  clear ht hA hf hb0 hnF hx0 ht0 HT hr
  go_enter Tryz.func42, Tryz.ntmps42
  go_wp2_with fail
  refine HTh.out.mono ?_
  rintro e w1 ⟨rfl, hst⟩
  have hx1 := hst.block H.out.2.2 H.out.2.1
  have hF' : ∃ F1, (¬ F1 w.heap.size) ∧ ActIs B w1 ba F1 R := by
    obtain ⟨F1, h1A, hF1, ho1⟩ := hst
    exact ⟨F1, fun e => H.out.2.1 (hF1 _ (by simp) e), h1A⟩
  have hlt1 : w.heap.size < w1.heap.size := (Array.getElem?_eq_some_iff.1 hx1).1
  have HS := Lib.hid hst
  have HX := Lib.hid (And.intro hx1 hF')
  clear hst hx1 hF' HTh
  go_wp2_with fail
  refine (first_zero key true w1 (some w1)).mono ?_
  rintro e w2 ⟨rfl, hb2⟩
  have hx2 := (hb2.block w.heap.size hlt1).trans HX.out.1
  obtain ⟨x0, x1⟩ := xcells hx2
  obtain ⟨z0, z1⟩ := xfroz hx2
  have hout : ∀ w9, Off (· = w.heap.size) w2 w9 → Step B ba w F R w9 := fun w9 ho => (HS.out.below hb2).young H.out.1 ho (fun j hj => by subst hj; exact ⟨Nat.le_refl _, by simp, H.out.2.1⟩)
  have HO2 := Lib.hid hout
  clear hx2 hout hb2
  rw [show itemR none = .tuple #[.agg #[.string ⟨#[]⟩, .string ⟨#[]⟩], .bool false] from rfl]
  go_wp2
  (try simp only [Exit.inBlock, Exit.then])
  refine bodyPost_ret (v := .tuple #[.agg #[.string ⟨#[]⟩, .string ⟨#[]⟩], .bool false]) ?_ rfl ⟨rfl, HO2.out _ ?_⟩
  · rw [results_cell_tmp rfl]
    go_simp
    try rfl
  · exact off_set2 _ _ _ _ _ _

set_option maxRecDepth 100000 in
set_option maxHeartbeats 2000000 in
theorem Next_none {bs : Nat} {B : Base bs} {w : World} {tb ba k : Nat} {F : Nat → Prop} {R : Raw} (ht : w.heap[tb]? = some (treeO ba k)) (hA : ActIs B w ba F R) (hf : Fine B R) (htF : ¬ F tb) (hk : k < 16) (hr : R.root k = 0) (key : ByteArray) :
    Calls Tryz.prog 44 #[.pointer (some ⟨tb, 0, none⟩), .string key] w fun e w' => e = .returned (itemR none) ∧ Step B ba w F R w' := by
  have hltb : tb < w.heap.size := (Array.getElem?_eq_some_iff.1 ht).1
  have hb0 : Below w.heap.size w (w.alloc (itemO ⟨⟨#[]⟩, ⟨#[]⟩⟩)) := by go_grown
  have ht0 := (hb0.block tb hltb).trans ht
  have HT := top_any ht0 (hA.below hb0) hf.cov htF hk
  rw [hr] at HT
  have HTh := Lib.hid HT
  have hnF : ¬ F w.heap.size := fun e => by have := hA.1 _ e; omega
  have hx0 := hnew w (itemO ⟨⟨#[]⟩, ⟨#[]⟩⟩)
  have H := Lib.hid (And.intro hb0 (And.intro hnF hx0))
  clear ht hA hf hb0 hnF hx0 ht0 HT hr
  go_enter Tryz.func44, Tryz.ntmps44
  go_wp2_with fail
  refine HTh.out.mono ?_
  rintro e w1 ⟨rfl, hst⟩
  have hx1 := hst.block H.out.2.2 H.out.2.1
  have hF' : ∃ F1, (¬ F1 w.heap.size) ∧ ActIs B w1 ba F1 R := by
    obtain ⟨F1, h1A, hF1, ho1⟩ := hst
    exact ⟨F1, fun e => H.out.2.1 (hF1 _ (by simp) e), h1A⟩
  have hlt1 : w.heap.size < w1.heap.size := (Array.getElem?_eq_some_iff.1 hx1).1
  have HS := Lib.hid hst
  have HX := Lib.hid (And.intro hx1 hF')
  clear hst hx1 hF' HTh
  go_wp2_with fail
  refine (first_zero key false w1 (some w1)).mono ?_
  rintro e w2 ⟨rfl, hb2⟩
  have hx2 := (hb2.block w.heap.size hlt1).trans HX.out.1
  obtain ⟨x0, x1⟩ := xcells hx2
  obtain ⟨z0, z1⟩ := xfroz hx2
  have hout : ∀ w9, Off (· = w.heap.size) w2 w9 → Step B ba w F R w9 := fun w9 ho => (HS.out.below hb2).young H.out.1 ho (fun j hj => by subst hj; exact ⟨Nat.le_refl _, by simp, H.out.2.1⟩)
  have HO2 := Lib.hid hout
  clear hx2 hout hb2
  rw [show itemR none = .tuple #[.agg #[.string ⟨#[]⟩, .string ⟨#[]⟩], .bool false] from rfl]
  go_wp2
  (try simp only [Exit.inBlock, Exit.then])
  refine bodyPost_ret (v := .tuple #[.agg #[.string ⟨#[]⟩, .string ⟨#[]⟩], .bool false]) ?_ rfl ⟨rfl, HO2.out _ ?_⟩
  · rw [results_cell_tmp rfl]
    go_simp
    try rfl
  · exact off_set2 _ _ _ _ _ _

/-- The tree of root k holds L. -/
def Tr (R : Raw) (k : Nat) (L : List KV) : Prop := (L = [] ∧ R.root k = 0) ∨ (L ≠ [] ∧ Leaf R k L)
/-- A method over a tree that holds L. -/
structure MIs {bs : Nat} (B : Base bs) (w : World) (ba mb tb k : Nat) (o : Obj) (F : Nat → Prop) (R : Raw) (L : List KV) : Prop where
  m : MethIs B w ba mb tb k o F R
  fine : Fine B R
  k16 : k < 16
  tr : Tr R k L
def MStep {bs : Nat} (B : Base bs) (ba mb tb k : Nat) (o : Obj) (w : World) (F : Nat → Prop) (R : Raw) (L : List KV) (w' : World) : Prop :=
  ∃ F', MIs B w' ba mb tb k o F' R L ∧ (∀ j, j < w.heap.size → F' j → F j) ∧ Off F w w'
section
variable {bs : Nat} {B : Base bs} {w w' w1 w2 : World} {ba mb tb k : Nat} {o : Obj} {F F1 : Nat → Prop} {R R' R1 : Raw} {L L' L1 : List KV}
theorem MethIs.lt (h : MethIs B w ba mb tb k o F R) : mb < w.heap.size ∧ tb < w.heap.size := ⟨(Array.getElem?_eq_some_iff.1 h.meth).1, (Array.getElem?_eq_some_iff.1 h.tree).1⟩
theorem MIs.step (h : MIs B w ba mb tb k o F R L) (hst : Step B ba w F R' w') (hf : Fine B R') (ht : Tr R' k L') : MStep B ba mb tb k o w F R' L' w' := by
  have hm := hst.block h.m.meth h.m.mF
  have ht1 := hst.block h.m.tree h.m.tF
  obtain ⟨F', hA, hF, ho⟩ := hst
  exact ⟨F', ⟨⟨hm, ht1, hA, fun e => h.m.mF (hF mb h.m.lt.1 e), fun e => h.m.tF (hF tb h.m.lt.2 e)⟩, hf, h.k16, ht⟩, hF, ho⟩
theorem MIs.below (h : MIs B w ba mb tb k o F R L) (hb : Below w.heap.size w w') : MIs B w' ba mb tb k o F R L :=
  ⟨⟨(hb.block mb h.m.lt.1).trans h.m.meth, (hb.block tb h.m.lt.2).trans h.m.tree, h.m.act.below hb, h.m.mF, h.m.tF⟩, h.fine, h.k16, h.tr⟩
theorem MStep.trans (ho : Off F w w1) (hF : ∀ j, j < w.heap.size → F1 j → F j) (h : MStep B ba mb tb k o w1 F1 R L w2) : MStep B ba mb tb k o w F R L w2 := by
  obtain ⟨F2, h2, hF2, ho2⟩ := h
  exact ⟨F2, h2, fun j hj e => hF j hj (hF2 j (Nat.lt_of_lt_of_le hj ho.size) e), ho.trans ho2 hF⟩
theorem MStep.refl (h : MIs B w ba mb tb k o F R L) : MStep B ba mb tb k o w F R L w := ⟨F, h, fun _ _ e => e, Off.refl _ _⟩
theorem MStep.below (h : MStep B ba mb tb k o w F R L w1) (hb : Below w1.heap.size w1 w2) : MStep B ba mb tb k o w F R L w2 := by
  obtain ⟨F', h', hF, ho⟩ := h
  exact ⟨F', h'.below hb, hF, ho.trans (Off.of_below hb (F := fun _ => False)) (fun _ _ e => e.elim)⟩
theorem MStep.block (h : MStep B ba mb tb k o w F R L w') {j : Nat} {ob : Obj} (hv : w.heap[j]? = some ob) (hF : ¬ F j) : w'.heap[j]? = some ob := by
  obtain ⟨F', _, _, ho⟩ := h
  exact (ho.block j (Array.getElem?_eq_some_iff.1 hv).1 hF).trans hv
/-- From a world that has young blocks more. -/
theorem MStep.old (hb : Below w.heap.size w w1) (h : MStep B ba mb tb k o w1 F R L w2) : MStep B ba mb tb k o w F R L w2 :=
  MStep.trans (Off.of_below hb (F := F)) (fun _ _ e => e) h
theorem MIs.lt (h : MIs B w ba mb tb k o F R L) : mb < w.heap.size ∧ tb < w.heap.size := h.m.lt
theorem MIs.notF (h : MIs B w ba mb tb k o F R L) : ¬ F w.heap.size := fun e => by have := h.m.act.1 _ e; omega
theorem Tr.rises (h : Tr R k L) : Sorted L := by
  rcases h with ⟨rfl, _⟩ | ⟨_, h⟩
  · intro i j hi; simp at hi
  · exact h.rises
theorem Tr.ok (h : Tr R k L) : ∀ x ∈ L, x.ok := by
  rcases h with ⟨rfl, _⟩ | ⟨_, h⟩
  · intro x hx; simp at hx
  · exact h.ok

theorem MIs.Get (h : MIs B w ba mb tb k o F R L) (key : ByteArray) :
    Calls Tryz.prog 88 #[.pointer (some ⟨tb, 0, none⟩), .string key] w fun e w' => ∃ i, Cut L key i ∧ e = .returned (gotR L key i) ∧ MStep B ba mb tb k o w F R L w' := by
  rcases h.tr with ⟨rfl, hr⟩ | ⟨h0, hL⟩
  · refine (Get_none h.m.tree h.m.act h.fine h.m.tF h.k16 hr key).mono ?_
    rintro e w1 ⟨rfl, hst⟩
    exact ⟨0, ⟨by simp, fun t ht => by simp at ht, fun t ht => by simp at ht⟩, rfl, h.step hst h.fine h.tr⟩
  · refine (Get_leaf h.m.tree h.m.act h.fine h.m.tF h.k16 hL key).mono ?_
    rintro e w1 ⟨i, hcut, rfl, hst⟩
    exact ⟨i, hcut, rfl, h.step hst h.fine h.tr⟩

theorem MIs.From (h : MIs B w ba mb tb k o F R L) (key : ByteArray) :
    Calls Tryz.prog 42 #[.pointer (some ⟨tb, 0, none⟩), .string key] w fun e w' => ∃ i, Cut L key i ∧ e = .returned (itemR L[firstI L key true i]?) ∧ MStep B ba mb tb k o w F R L w' := by
  rcases h.tr with ⟨rfl, hr⟩ | ⟨h0, hL⟩
  · refine (From_none h.m.tree h.m.act h.fine h.m.tF h.k16 hr key).mono ?_
    rintro e w1 ⟨rfl, hst⟩
    exact ⟨0, ⟨by simp, fun t ht => by simp at ht, fun t ht => by simp at ht⟩, rfl, h.step hst h.fine h.tr⟩
  · refine (From_leaf h.m.tree h.m.act h.fine h.m.tF h.k16 hL key).mono ?_
    rintro e w1 ⟨i, hcut, rfl, hst⟩
    exact ⟨i, hcut, rfl, h.step hst h.fine h.tr⟩

theorem MIs.Next (h : MIs B w ba mb tb k o F R L) (key : ByteArray) :
    Calls Tryz.prog 44 #[.pointer (some ⟨tb, 0, none⟩), .string key] w fun e w' => ∃ i, Cut L key i ∧ e = .returned (itemR L[firstI L key false i]?) ∧ MStep B ba mb tb k o w F R L w' := by
  rcases h.tr with ⟨rfl, hr⟩ | ⟨h0, hL⟩
  · refine (Next_none h.m.tree h.m.act h.fine h.m.tF h.k16 hr key).mono ?_
    rintro e w1 ⟨rfl, hst⟩
    exact ⟨0, ⟨by simp, fun t ht => by simp at ht, fun t ht => by simp at ht⟩, rfl, h.step hst h.fine h.tr⟩
  · refine (Next_leaf h.m.tree h.m.act h.fine h.m.tF h.k16 hL key).mono ?_
    rintro e w1 ⟨i, hcut, rfl, hst⟩
    exact ⟨i, hcut, rfl, h.step hst h.fine h.tr⟩

theorem MIs.Put (h : MIs B w ba mb tb k o F R L) (x : KV) (hx : x.ok) (hx0 : 0 < x.k.size) (i : Nat) (hcut : Cut L x.k i) (hlen : (leafB (putL L i x)).length ≤ 512) (hn : L.length + 1 < 256) (htot : R.total + 1 < 4096) :
    Calls Tryz.prog 39 #[.pointer (some ⟨tb, 0, none⟩), .string x.k, .string x.v] w fun e w' => e = .returned (.tuple #[.bool (!isAt L x.k i), .int .i64 0]) ∧ ∃ R', R'.total ≤ R.total + (if L = [] then 1 else 0) ∧ (∀ j, j < 16 → j ≠ k → R'.root j = R.root j) ∧ MStep B ba mb tb k o w F R' (putL L i x) w' := by
  rcases h.tr with ⟨rfl, hr⟩ | ⟨h0, hL⟩
  · obtain ⟨f1, t1, f2, t2, f3, l3, r3, t3, o3, q3⟩ := first_laws h.fine htot k h.k16
    have hi0 : i = 0 := by have := hcut.le; simpa using this
    subst hi0
    have hp : putL [] 0 x = [x] := rfl
    have hp' : Sorted [x] := fun a b ha hb' hab => by simp at ha hb'; omega
    obtain ⟨f4, l4, z4, q4⟩ := Leaf.next (L' := [x]) l3 f3 (fun y hy => by simp at hy; rw [hy]; exact hx) hp' (by rw [← hp]; exact hlen) (by simp)
    have e4 : (fst3 R k).put ((fst3 R k).root k) 0 (pageL (leafB [x])) = fst4 R k x := by unfold fst4; rw [r3]
    rw [e4] at f4 l4 z4 q4
    refine (Put_first h.m.tree h.m.act h.fine h.m.tF h.k16 hr htot x hx hx0).mono ?_
    rintro e w1 ⟨rfl, hst⟩
    have et : (fst4 R k x).total = (fst3 R k).total := by unfold Raw.total; rw [z4]
    have er : ∀ j, (fst4 R k x).root j = (fst3 R k).root j := fun j => by unfold Raw.root; rw [z4]
    exact ⟨rfl, fst4 R k x, by rw [et, t3]; simp, fun j hj hne => (er j).trans (o3 j hj hne), h.step hst f4 (.inr ⟨by rw [hp]; simp, by rw [hp]; exact l4⟩)⟩
  · obtain ⟨p1, p2, p3⟩ := putL_laws hL.ok hL.rises hx hcut
    obtain ⟨f4, l4, z4, q4⟩ := Leaf.next (L' := putL L i x) hL h.fine p1 p2 hlen (by omega)
    refine (Put_leaf h.m.tree h.m.act h.fine h.m.tF h.k16 hL x hx hx0 i hcut hlen hn).mono ?_
    rintro e w1 ⟨rfl, hst⟩
    have et : (R.put (R.root k) 0 (pageL (leafB (putL L i x)))).total = R.total := by unfold Raw.total; rw [z4]
    have er : ∀ j, (R.put (R.root k) 0 (pageL (leafB (putL L i x)))).root j = R.root j := fun j => by
      show num ((R.put (R.root k) 0 (pageL (leafB (putL L i x)))).page 0) (8 + 4 * j) = num (R.page 0) (8 + 4 * j)
      rw [z4]
    refine ⟨rfl, _, by rw [et]; split <;> omega, fun j hj hne => er j, h.step hst f4 (.inr ⟨fun e => ?_, l4⟩)⟩
    have := congrArg List.length e
    have hlp : (putL L i x).length ≥ 1 := by
      unfold putL
      split
      · rw [List.length_set]
        cases L with
        | nil => exact absurd rfl h0
        | cons a l => simp
      · rw [insL_length L i x hcut.le]; omega
    simp at this
    rw [this] at hlp
    simp at hlp
end
end Go.Proofs.YtoejgkcaamkanaaGreatDoor

namespace Go.Proofs.YtoejgkcaamkanaaGreatDoor
open Go.RowKit

structure Nu where
  n : Int

def nuc (x : Nu) : List Value := [.int .i64 x.n]
abbrev nuO (x : Nu) : Obj := .cells #[.int .i64 x.n] 3
def nuRows (w : World) (B : Nat) (v : Value) (L : List Nu) : Prop := w.ownsRow B 3 1 v L.length (L.flatMap nuc)
theorem nuRows.nil (w : World) (B : Nat) : nuRows w B (.slice none 0 0) [] := World.ownsRow_nil _ _ _ _
theorem nuRows.slice {w : World} {B : Nat} {v : Value} {L : List Nu} (h : nuRows w B v L) : ∃ A c, v = .slice A L.length c := by
  rcases h.2 with ⟨rfl, h0⟩ | ⟨g, cap, cur, rfl, _⟩
  · exact ⟨none, 0, by rw [h0]⟩
  · exact ⟨_, _, rfl⟩
theorem nuRows.keep {w w' : World} {B : Nat} {v : Value} {L : List Nu} (h : nuRows w B v L) (e : ∀ k, v.ownBlock = some k → w'.heap[k]? = w.heap[k]?) : nuRows w' B v L := by
  obtain ⟨h1, h2⟩ := h
  refine ⟨h1, ?_⟩
  rcases h2 with h2 | ⟨g, cap, cur, hv, hg, hh, r⟩
  · exact .inl h2
  · exact .inr ⟨g, cap, cur, hv, hg, (e g (by rw [hv]; rfl)).trans hh, r⟩
theorem nuRows.own {w : World} {B : Nat} {v : Value} {L : List Nu} (h : nuRows w B v L) {k : Nat} (hk : v.ownBlock = some k) : k < w.heap.size ∧ ∃ cs fr, w.heap[k]? = some (.cells cs 3 fr) := by
  rcases h.2 with ⟨rfl, _⟩ | ⟨g, cap, cur, rfl, _, hh, _⟩
  · simp [Value.ownBlock] at hk
  · simp only [Value.ownBlock, Option.some.injEq] at hk
    subst hk
    exact ⟨(Array.getElem?_eq_some_iff.1 hh).1, _, _, hh⟩
theorem nu_at : ∀ (L : List Nu) (i : Nat) (h : i < L.length) (j : Nat), j < 1 → (L.flatMap nuc)[i * 1 + j]? = (nuc L[i])[j]?
  | [], i, h, _, _ => by simp at h
  | x :: L, 0, _, j, hj => by
    have h2 : (nuc x).length = 1 := rfl
    simp only [List.flatMap_cons, Nat.zero_mul, Nat.zero_add, List.getElem_cons_zero]
    rw [List.getElem?_append_left (by omega)]
  | x :: L, i + 1, h, j, hj => by
    have h2 : (nuc x).length = 1 := rfl
    simp only [List.flatMap_cons, List.getElem_cons_succ]
    rw [List.getElem?_append_right (by omega), h2, show (i + 1) * 1 + j - 1 = i * 1 + j by omega]
    exact nu_at L i (by simpa using h) j hj
theorem nuRows.cells {w : World} {B g n c : Nat} {o : Nat} {L : List Nu} (h : nuRows w B (.slice (some ⟨g, o, none⟩) n c) L) (i : Nat) (hi : i < L.length) :
    o = 0 ∧ n = L.length ∧ w.cell? ⟨g, i * 1, none⟩ = some (.int .i64 L[i].n) := by
  rcases h.2 with ⟨e, h0⟩ | ⟨g', cap, cur, e, hg', _⟩
  · cases e
  · simp only [Value.slice.injEq, Option.some.injEq, Addr.mk.injEq] at e
    obtain ⟨⟨rfl, rfl, _⟩, rfl, rfl⟩ := e
    have key : ∀ j v, j < 1 → (nuc L[i])[j]? = some v → w.cell? ⟨g, i * 1 + j, none⟩ = some v := fun j v hj hv => by
      have := World.ownsRow.cells h (g := g) rfl (i * 1 + j) v (by rw [nu_at L i hi j hj]; exact hv)
      have ha : (⟨g, 0, none⟩ : Addr).add (i * 1 + j) = ⟨g, i * 1 + j, none⟩ := by unfold Addr.add; split <;> simp_all
      rw [← ha]; exact this
    exact ⟨rfl, rfl, key 0 _ (by omega) rfl⟩
theorem nuRows.nonil {w : World} {B n c : Nat} {L : List Nu} (h : nuRows w B (.slice none n c) L) : L = [] := by
  rcases h.2 with ⟨_, e⟩ | ⟨_, _, _, e, _⟩
  · exact List.length_eq_zero_iff.1 e
  · cases e
theorem nu_info : (Tryz.prog.info? 3).map (fun i => (i.zero, i.size, i.bytes)) = some (some (.int .i64 0), 1, 8) := by kernel_rfl
theorem step_appnu {ops : Array Oper} {o : Oper} {a : Act} {K : Act → World → Prop} {Q : Exit → Act → World → Prop} {E : Prop} {W : World} (hgd : o.guard = none) (s x : Operand)
    (ho : o.op = .call { callee := .builtin .append, args := #[s, x], argTypes := #[38, 38] })
    (B : Nat) (v : Value) (l : List Nu) (hs : a.eval s = v) (hb : nuRows W B v l) (y : Nu) (k c : Nat) (hx : a.eval x = .slice (some ⟨k, 0, none⟩) 1 c) (hk : k = W.heap.size)
    (hlen : l.length ≤ 1099511627776) (hB : B ≤ W.heap.size)
    (h : ∀ g cap w', nuRows w' B (.slice (some ⟨g, 0, none⟩) (l ++ [y]).length cap) (l ++ [y]) → W.grownBy w' v.ownBlock → (v.ownBlock = some g ∨ W.heap.size ≤ g) → K (a.put o.dst (.slice (some ⟨g, 0, none⟩) (l ++ [y]).length cap)) w') : if Region.wanted o (yielded ops a.tmps) = true then Oper.wp Tryz.prog o a (W.alloc (nuO y)) K Q else E := by
  have hw : Region.wanted o (yielded ops a.tmps) = true := by simp [Region.wanted, hgd]
  rw [if_pos hw]
  obtain ⟨i0, hi, hz0, hz1, hz2⟩ := info_of nu_info
  subst hk
  refine wp_append_lies _ s x 38 ho B 3 i0 _ 1 8 Tryz.underlying38 hi hz0 hz1 hz2 rfl (by decide) v l.length (l.flatMap nuc) hs (World.ownsRow.alloc hb _) ⟨W.heap.size, 0, none⟩ 1 c (nuc y) hx rfl ?_ ?_ (by omega) (by unfold maxLen; omega) (by omega) (by simp; omega) _ rfl ?_
  · intro j u hj
    match j, hj with
    | 0, hj => simp [nuc] at hj; subst hj; simp [Addr.add]
  · intro u hu
    simp [nuc] at hu
    rcases hu with rfl <;> rfl
  · intro g cap w' hown hg hat hlt
    rw [show l.length + 1 = (l ++ [y]).length by simp]
    refine h g cap w' ?_ (grown_then (World.grownBy_alloc W _ none) hg) (hat.imp id (fun e => by subst e; simp))
    unfold nuRows
    rw [List.length_append, List.flatMap_append]
    simpa using hown
theorem wp_appnu {ops : Array Oper} {rest : List Oper} {o : Oper} {a : Act} {Q : Exit → Act → World → Prop} {w : World} (hgd : o.guard = none) (s x : Operand)
    (ho : o.op = .call { callee := .builtin .append, args := #[s, x], argTypes := #[38, 38] })
    (B : Nat) (v : Value) (l : List Nu) (hs : a.eval s = v) (hb : nuRows w B v l) (y : Nu) (k c : Nat) (hx : a.eval x = .slice (some ⟨k, 0, none⟩) 1 c) (h0 : w.cell? ⟨k, 0, none⟩ = some (.int .i64 y.n))
    (hlen : l.length ≤ 1099511627776) (hB : B ≤ w.heap.size)
    (h : ∀ g cap w', nuRows w' B (.slice (some ⟨g, 0, none⟩) (l ++ [y]).length cap) (l ++ [y]) → w.grownBy w' v.ownBlock → (v.ownBlock = some g ∨ g = w.heap.size) → wpList Tryz.prog ops Q rest (a.put o.dst (.slice (some ⟨g, 0, none⟩) (l ++ [y]).length cap)) w') : wpList Tryz.prog ops Q (o :: rest) a w := by
  obtain ⟨i0, hi, hz0, hz1, hz2⟩ := info_of nu_info
  refine wpList_append_lies w hgd s x 38 ho B 3 i0 _ 1 8 Tryz.underlying38 hi hz0 hz1 hz2 rfl (by decide) v l.length (l.flatMap nuc) hs hb ⟨k, 0, none⟩ 1 c (nuc y) hx rfl ?_ ?_ (by omega) (by unfold maxLen; omega) (by omega) hB _ rfl ?_
  · intro j u hj
    match j, hj with
    | 0, hj => simp [nuc] at hj; subst hj; simpa [Addr.add] using h0
  · intro u hu
    simp [nuc] at hu
    rcases hu with rfl <;> rfl
  · intro g cap w' hown hg hat hlt
    rw [show l.length + 1 = (l ++ [y]).length by simp]
    refine h g cap w' ?_ hg hat
    unfold nuRows
    rw [List.length_append, List.flatMap_append]
    simpa using hown
end Go.Proofs.YtoejgkcaamkanaaGreatDoor
