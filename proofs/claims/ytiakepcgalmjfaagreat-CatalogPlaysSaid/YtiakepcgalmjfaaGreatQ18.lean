/- An empty tree's Get, Pages, Drop; what the methods are: New, Drop. (Written by gensrg.py.) -/
import Derived.Test.YtiakepcgalmjfaaGreatQ17
set_option linter.unusedVariables false
set_option linter.unusedSimpArgs false
namespace Go.Proofs.YtiakepcgalmjfaaGreat
open Go.RowKit

set_option maxRecDepth 100000 in
set_option maxHeartbeats 2000000 in
theorem Get_none {bs : Nat} {B : Base bs} {w : World} {tb ba k : Nat} {F : Nat → Prop} {R : Raw} (ht : w.heap[tb]? = some (treeO ba k)) (hA : ActIs B w ba F R) (hf : Fine B R) (htF : ¬ F tb) (hk : k < 16) (hr : R.root k = 0) (key : ByteArray) :
    Calls Tryz.prog 65 #[.pointer (some ⟨tb, 0, none⟩), .string key] w fun e w' => e = .returned (.tuple #[.string ⟨#[]⟩, .int .i64 3]) ∧ Step B ba w F R w' := by
  have HT := top_any ht hA hf.cov htF hk
  rw [hr] at HT
  have HTh := Lib.hid HT
  clear ht hA hf hr HT
  go_enter Tryz.func65, Tryz.ntmps65
  go_wp2_with fail
  refine HTh.out.mono ?_
  rintro e w1 ⟨rfl, hst⟩
  have HS := Lib.hid hst
  clear hst
  go_wp2
  go_loopw [6] (fun i wr => i = .int .i64 0 ∧ wr = w1) (fun i _ => 0)
  case atStart => exact ⟨rfl, rfl⟩
  case round =>
    obtain ⟨rfl, rfl⟩ := hrel
    go_wp2
    go_ret2
    exact ⟨rfl, HS.out⟩

theorem len64_zero (w : World) : Calls Tryz.prog 120 #[.int .u64 0] w fun e w' => e = .returned (.int .i64 0) ∧ w' = w := by
  go_enter Tryz.func120, Tryz.ntmps120
  go_wp2
  go_ret
  refine ⟨?_, rfl⟩
  show Ending.returned (.int .i64 (wrap64 (wrap64 (Lib.len8 0)))) = _
  rw [show wrap64 (wrap64 (Lib.len8 0)) = 0 by decide +kernel]
theorem len_zero (w : World) : Calls Tryz.prog 79 #[.int .u64 0] w fun e w' => e = .returned (.int .i64 0) ∧ w' = w := by
  have H := Lib.hid (len64_zero w)
  go_enter Tryz.func79, Tryz.ntmps79
  go_wp2_with fail
  refine H.out.mono ?_
  rintro e w1 ⟨rfl, rfl⟩
  go_wp2
  go_ret
  exact ⟨rfl, rfl⟩
theorem insSort_nil (w : World) : Calls Tryz.prog 110 #[.slice none 0 0, .int .i64 0, .int .i64 0] w fun e w' => e = .returned (.tuple #[]) ∧ w' = w := by
  go_enter Tryz.func110, Tryz.ntmps110
  go_wp2
  go_loopw [6] (fun i wr => i = .int .i64 1 ∧ wr = w) (fun i _ => 0)
  case atStart => exact ⟨rfl, rfl⟩
  case round =>
    obtain ⟨rfl, rfl⟩ := hrel
    go_wp2
    exact Great.bodyPost_end0 rfl rfl ⟨rfl, rfl⟩
theorem pdq_nil (w : World) (l : Int) : Calls Tryz.prog 78 #[.slice none 0 0, .int .i64 0, .int .i64 0, .int .i64 l] w fun e w' => e = .returned (.tuple #[]) ∧ w' = w := by
  have H := Lib.hid (insSort_nil w)
  go_enter Tryz.func78, Tryz.ntmps78
  go_wp2
  go_loopw [1, 2] (fun a b wr => a = .int .i64 0 ∧ b = .int .i64 0 ∧ wr = w) (fun _ _ _ => 0)
  case atStart => exact ⟨rfl, rfl, rfl⟩
  case round =>
    obtain ⟨rfl, rfl, rfl⟩ := hrel
    go_wp2_with fail
    refine H.out.mono ?_
    rintro e w1 ⟨rfl, rfl⟩
    go_wp2
    exact bodyPost_ret (v := .tuple #[]) (results_none rfl _ _ _) rfl ⟨rfl, rfl⟩
theorem sort_nil (w : World) : Calls Tryz.prog 36 #[.slice none 0 0] w fun e w' => e = .returned (.tuple #[]) ∧ w' = w := by
  have H := Lib.hid (And.intro (len_zero w) (fun l => pdq_nil w l))
  go_enter Tryz.func36, Tryz.ntmps36
  go_wp2_with fail
  refine H.out.1.mono ?_
  rintro e w1 ⟨rfl, rfl⟩
  go_wp2_with fail
  refine (H.out.2 _).mono ?_
  rintro e w1 ⟨rfl, rfl⟩
  go_wp2
  exact Great.bodyPost_end0 rfl rfl ⟨rfl, rfl⟩

set_option maxRecDepth 100000 in
set_option maxHeartbeats 2000000 in
theorem Pages_none {bs : Nat} {B : Base bs} {w : World} {tb ba k : Nat} {F : Nat → Prop} {R : Raw} (ht : w.heap[tb]? = some (treeO ba k)) (hA : ActIs B w ba F R) (hf : Fine B R) (htF : ¬ F tb) (hk : k < 16) (hr : R.root k = 0) :
    Calls Tryz.prog 192 #[.pointer (some ⟨tb, 0, none⟩)] w fun e w' => e = .returned (.slice none 0 0) ∧ Step B ba w F R w' := by
  have hltb : tb < w.heap.size := (Array.getElem?_eq_some_iff.1 ht).1
  have hb0 : Below w.heap.size w (w.alloc (.cells #[.slice none 0 0] 74)) := by go_grown
  have ht0 := (hb0.block tb hltb).trans ht
  have HT := top_any ht0 (hA.below hb0) hf.cov htF hk
  rw [hr] at HT
  have HTh := Lib.hid HT
  have hnF : ¬ F w.heap.size := fun e => by have := hA.1 _ e; omega
  have hx0 := hnew w (.cells #[.slice none 0 0] 74)
  have H := Lib.hid (And.intro hb0 (And.intro hnF hx0))
  clear ht hA hf hb0 hnF hx0 ht0 HT hr
  have HW := Lib.hid (show ∀ (w1 : World) (v : Value), Calls Tryz.prog 100 #[.pointer (some ⟨tb, 0, none⟩), .int .i64 0, .int .i64 0, v] w1 fun e w' => e = .returned (.tuple #[]) ∧ Below w1.heap.size w1 w' from by
    intro w1 v
    go_enter Tryz.func100, Tryz.ntmps100
    go_wp2
    exact bodyPost_ret (v := .tuple #[]) (results_none rfl _ _ _) rfl ⟨rfl, by first | exact Below.refl _ _ | go_grown⟩)
  have HSo := Lib.hid (fun W => sort_nil W)
  go_enter Tryz.func192, Tryz.ntmps192
  go_wp2_with fail
  refine HTh.out.mono ?_
  rintro e w1 ⟨rfl, hst⟩
  have hx1 := hst.block H.out.2.2 H.out.2.1
  have HS := Lib.hid (Step.trans (Off.of_below H.out.1 (F := F)) (fun _ _ h => h) hst)
  have hlt1 : w.heap.size < w1.heap.size := (Array.getElem?_eq_some_iff.1 hx1).1
  have HX := Lib.hid hx1
  clear hst hx1
  go_wp2_with fail
  refine (HW.out _ _).mono ?_
  rintro e w2 ⟨rfl, hb⟩
  have hx2 := (hb.block w.heap.size hlt1).trans HX.out
  have c0 : w2.cell? ⟨w.heap.size, 0, none⟩ = some (.slice none 0 0) := by unfold World.cell?; rw [hx2]; rfl
  have HB := Lib.hid hb
  clear hx2 hb
  go_wp2_with fail
  refine (HSo.out _).mono ?_
  rintro e w3 ⟨rfl, rfl⟩
  go_wp2
  go_ret
  exact ⟨rfl, HS.out.below HB.out⟩

set_option maxRecDepth 100000 in
set_option maxHeartbeats 4000000 in
theorem TDrop_none {bs : Nat} {B : Base bs} {w : World} {tb ba k : Nat} {F : Nat → Prop} {R : Raw} (ht : w.heap[tb]? = some (treeO ba k)) (hA : ActIs B w ba F R) (hf : Fine B R) (htF : ¬ F tb) (hk : k < 16) (hr : R.root k = 0) :
    Calls Tryz.prog 191 #[.pointer (some ⟨tb, 0, none⟩)] w fun e w' => e = .returned (.int .i64 0) ∧ Step B ba w F (R.put 0 (8 + 4 * k) (digL 0)) w' := by
  have hltb : tb < w.heap.size := (Array.getElem?_eq_some_iff.1 ht).1
  have HT := top_any ht hA hf.cov htF hk
  rw [hr] at HT
  have HTh := Lib.hid HT
  have H := Lib.hid (And.intro ht (And.intro hf (And.intro htF hr)))
  clear ht hA hf hr HT
  go_enter Tryz.func191, Tryz.ntmps191
  go_wp2_with fail
  refine HTh.out.mono ?_
  rintro e w1 ⟨rfl, hst⟩
  have ht1 := hst.block H.out.1 H.out.2.2.1
  obtain ⟨F1, h1A, hF1, ho1⟩ := hst
  have htF1 : ¬ F1 tb := fun e => H.out.2.2.1 (hF1 tb hltb e)
  have HP := Lib.hid (Pages_none ht1 h1A H.out.2.1 htF1 hk H.out.2.2.2)
  have H1 := Lib.hid (And.intro ht1 (And.intro htF1 (And.intro ho1 hF1)))
  clear ht1 h1A ho1 hF1 htF1 HTh
  go_wp2_with fail
  refine HP.out.mono ?_
  rintro e w2 ⟨rfl, hst⟩
  have ht2 := hst.block H1.out.1 H1.out.2.1
  obtain ⟨F2, h2A, hF2, ho2⟩ := hst
  have hlt1 : tb < w1.heap.size := (Array.getElem?_eq_some_iff.1 H1.out.1).1
  have htF2 : ¬ F2 tb := fun e => H1.out.2.1 (hF2 tb hlt1 e)
  obtain ⟨t0, t1⟩ := tree2 ht2
  have HSd := Lib.hid (setRoot_any (h2A.below ((Below.refl _ w2).drew)) H.out.2.1.cov k hk 0 ⟨by omega, by omega⟩)
  have H2 := Lib.hid (And.intro ht2 (And.intro htF2 (And.intro (H1.out.2.2.1.trans ho2 (fun k hk e => H1.out.2.2.2 k hk e)) (fun k (hk : k < w.heap.size) (e : F2 k) => H1.out.2.2.2 k hk (hF2 k (Nat.lt_of_lt_of_le hk H1.out.2.2.1.size) e)))))
  clear ht2 h2A hF2 ho2 htF2 HP
  go_wp2
  go_loopw [18] (fun i wr => i = .int .i64 0 ∧ wr = w2) (fun _ _ => 0)
  case atStart => exact ⟨rfl, rfl⟩
  case round =>
    obtain ⟨rfl, rfl⟩ := hrel
    go_wp2
    refine wp_region_noPanic ?_
    refine wp_region_held_drew (S := (fun w' => w'.cell? ⟨tb, 0, none⟩ = some (.pointer (some ⟨ba, 0, none⟩)) ∧ w'.cell? ⟨tb, 1, none⟩ = some (.int .i64 k))) (by kernel_rfl) ⟨t0, t1⟩ (fun hS => ?_)
    refine wpAnyH_take (i := 0) (v := ?_) rfl (by kernel_rfl) (by kernel_rfl) (by kernel_rfl) (fun _ _ _ h => h) (Or.inl ⟨by rfl, ?_⟩) hS ?_
    rotate_left
    · rintro w9 ⟨t0, t1⟩
      go_simp
      try with_reducible rfl
    try simp only [Act.put, List.getElem_toArray, List.getElem_cons_succ, List.getElem_cons_zero, List.setIfInBounds_toArray, List.set_cons_zero, List.set_cons_succ]
    refine wpAnyH_take (i := 1) (v := ?_) rfl (by kernel_rfl) (by kernel_rfl) (by kernel_rfl) (fun _ _ _ h => h) (Or.inl ⟨by rfl, ?_⟩) hS ?_
    rotate_left
    · rintro w9 ⟨t0, t1⟩
      go_simp
      try with_reducible rfl
    try simp only [Act.put, List.getElem_toArray, List.getElem_cons_succ, List.getElem_cons_zero, List.setIfInBounds_toArray, List.set_cons_zero, List.set_cons_succ]
    refine wpAnyH_take (i := 2) (v := ?_) rfl (by kernel_rfl) (by kernel_rfl) (by kernel_rfl) (fun _ _ _ h => h) (Or.inl ⟨by rfl, ?_⟩) hS ?_
    rotate_left
    · rintro w9 ⟨t0, t1⟩
      go_simp
      try with_reducible rfl
    try simp only [Act.put, List.getElem_toArray, List.getElem_cons_succ, List.getElem_cons_zero, List.setIfInBounds_toArray, List.set_cons_zero, List.set_cons_succ]
    refine wpAnyH_take (i := 3) (v := ?_) rfl (by kernel_rfl) (by kernel_rfl) (by kernel_rfl) (fun _ _ _ h => h) (Or.inl ⟨by rfl, ?_⟩) hS ?_
    rotate_left
    · rintro w9 ⟨t0, t1⟩
      go_simp
      try with_reducible rfl
    try simp only [Act.put, List.getElem_toArray, List.getElem_cons_succ, List.getElem_cons_zero, List.setIfInBounds_toArray, List.set_cons_zero, List.set_cons_succ]
    refine wpAnyH_take (i := 4) (v := ?_) rfl (by kernel_rfl) (by kernel_rfl) (by kernel_rfl) (fun _ _ _ h => h) (Or.inl ⟨by rfl, ?_⟩) hS ?_
    rotate_left
    · rintro w9 ⟨t0, t1⟩
      go_simp
      try with_reducible rfl
    try simp only [Act.put, List.getElem_toArray, List.getElem_cons_succ, List.getElem_cons_zero, List.setIfInBounds_toArray, List.set_cons_zero, List.set_cons_succ]
    refine wpAnyH_take (i := 5) (v := ?_) rfl (by kernel_rfl) (by kernel_rfl) (by kernel_rfl) (fun _ _ _ h => h) (Or.inl ⟨by rfl, ?_⟩) hS ?_
    rotate_left
    · rintro w9 ⟨t0, t1⟩
      go_simp
      try with_reducible rfl
    try simp only [Act.put, List.getElem_toArray, List.getElem_cons_succ, List.getElem_cons_zero, List.setIfInBounds_toArray, List.set_cons_zero, List.set_cons_succ]
    refine wpAnyH_take (i := 6) (v := ?_) rfl (by kernel_rfl) (by kernel_rfl) (by kernel_rfl) (fun _ _ _ h => h) (Or.inl ⟨by rfl, ?_⟩) hS ?_
    rotate_left
    · rintro w9 ⟨t0, t1⟩
      go_simp
      try with_reducible rfl
    try simp only [Act.put, List.getElem_toArray, List.getElem_cons_succ, List.getElem_cons_zero, List.setIfInBounds_toArray, List.set_cons_zero, List.set_cons_succ]
    refine wpAnyH_take (i := 7) (v := ?_) rfl (by kernel_rfl) (by kernel_rfl) (by kernel_rfl) (fun _ _ _ h => h) (Or.inl ⟨by rfl, ?_⟩) hS ?_
    rotate_left
    · rintro w9 ⟨t0, t1⟩
      go_simp
      try with_reducible rfl
    try simp only [Act.put, List.getElem_toArray, List.getElem_cons_succ, List.getElem_cons_zero, List.setIfInBounds_toArray, List.set_cons_zero, List.set_cons_succ]
    refine wpAnyH_ready (rs := [8]) (by kernel_rfl) (by simp) ?_
    refine AllReadyH.cons rfl (fun K hK => ?_) AllReadyH.nil
    go_simp
    refine HSd.out.mono ?_
    rintro e w5 ⟨rfl, hst⟩
    have hs5 := tree2 (hst.block (show wr.drew.heap[tb]? = some (treeO ba k) from H2.out.1) H2.out.2.1)
    have HS := Lib.hid (Step.trans (H2.out.2.2.1.trans (Off.of_below ((Below.refl _ wr).drew) (F := fun _ => False)) (fun _ _ e => e.elim)) H2.out.2.2.2 hst)
    clear hst
    refine hK.out _ _ hs5 (fun _ => ?_)
    clear hK K
    try simp only [Act.put, List.getElem_toArray, List.getElem_cons_succ, List.getElem_cons_zero, List.setIfInBounds_toArray, List.set_cons_zero, List.set_cons_succ]
    refine wpAnyH_take (i := 9) (v := ?_) rfl (by kernel_rfl) (by kernel_rfl) (by kernel_rfl) (fun _ _ _ h => h) (Or.inl ⟨by rfl, ?_⟩) hs5 ?_
    rotate_left
    · rintro w9 ⟨t0, t1⟩
      go_simp
      try with_reducible rfl
    try simp only [Act.put, List.getElem_toArray, List.getElem_cons_succ, List.getElem_cons_zero, List.setIfInBounds_toArray, List.set_cons_zero, List.set_cons_succ]
    refine wpAnyH_done (by kernel_rfl) ?_ _
    refine NoPanic.normal ?_
    go_wp2
    go_ret
    exact ⟨rfl, HS.out⟩

/-- What stands about a method that was opened: its blocks are apart from what the action holds. -/
structure MethIs {bs : Nat} (B : Base bs) (w : World) (ba mb tb r : Nat) (o : Obj) (F : Nat → Prop) (R : Raw) : Prop where
  meth : w.heap[mb]? = some o
  tree : w.heap[tb]? = some (treeO ba r)
  act : ActIs B w ba F R
  mF : ¬ F mb
  tF : ¬ F tb

abbrev bmO (tb : Nat) : Obj := .cells #[.pointer (some ⟨tb, 0, none⟩)] 184
set_option maxRecDepth 100000 in
set_option maxHeartbeats 2000000 in
theorem bmNew {bs : Nat} {B : Base bs} {w : World} {ba : Nat} {F : Nat → Prop} {R : Raw} (hA : ActIs B w ba F R) (hc : Cov B R) (k : Nat) (hk : k < 16) :
    Calls Tryz.prog 68 #[.pointer (some ⟨ba, 0, none⟩), .int .i64 k] w fun e w' => ∃ mb tb F', e = .returned (.tuple #[.pointer (some ⟨mb, 0, none⟩), .int .i64 0]) ∧ MethIs B w' ba mb tb k (bmO tb) F' R ∧ w.heap.size ≤ mb ∧ w.heap.size ≤ tb ∧ (∀ k, k < w.heap.size → F' k → F k) ∧ Off F w w' := by
  have HT := Lib.hid (treeNew_any hA hc k hk)
  clear hA
  go_enter Tryz.func68, Tryz.ntmps68
  go_wp2_with fail
  refine HT.out.mono ?_
  rintro e w1 ⟨tb, F1, rfl, ht1, hlt1, htF1, hA1, hF1, ho1⟩
  have hb : Below w1.heap.size w1 (w1.alloc (bmO tb)) := by go_grown
  have HR := Lib.hid (show MethIs B (w1.alloc (bmO tb)) ba w1.heap.size tb k (bmO tb) F1 R ∧ w.heap.size ≤ w1.heap.size ∧ w.heap.size ≤ tb ∧ (∀ k, k < w.heap.size → F1 k → F k) ∧ Off F w (w1.alloc (bmO tb)) from
    ⟨⟨hnew w1 _, (hb.block tb (Array.getElem?_eq_some_iff.1 ht1).1).trans ht1, hA1.below hb, fun e => by have := hA1.1 _ e; omega, htF1⟩, ho1.size, hlt1, hF1, ho1.trans (Off.of_below hb (F := fun _ => False)) (fun _ _ e => e.elim)⟩)
  clear ht1 hlt1 htF1 hA1 hF1 ho1 hb HT
  go_wp2
  go_ret2
  exact ⟨w1.heap.size, tb, F1, rfl, HR.out⟩
set_option maxRecDepth 100000 in
set_option maxHeartbeats 2000000 in
theorem bmGoing {bs : Nat} {B : Base bs} {w : World} {ba mb tb k : Nat} {F : Nat → Prop} {R : Raw} (h : MethIs B w ba mb tb k (bmO tb) F R) (hf : Fine B R) (hk : k < 16) (hr : R.root k = 0) :
    Calls Tryz.prog 203 #[.pointer (some ⟨mb, 0, none⟩)] w fun e w' => e = .returned (.int .i64 0) ∧ Step B ba w F R w' := by
  have HG := Lib.hid (Get_none h.tree h.act hf h.tF hk hr ⟨#[120]⟩)
  have c0 : w.cell? ⟨mb, 0, none⟩ = some (.pointer (some ⟨tb, 0, none⟩)) := by unfold World.cell?; rw [h.meth]; rfl
  clear h hf hr
  go_enter Tryz.func203, Tryz.ntmps203
  go_wp2_with fail
  refine HG.out.mono ?_
  rintro e w1 ⟨rfl, hst⟩
  have HS := Lib.hid hst
  clear hst
  go_wp2
  go_ret
  exact ⟨rfl, HS.out⟩
set_option maxRecDepth 100000 in
set_option maxHeartbeats 2000000 in
theorem bmDrop {bs : Nat} {B : Base bs} {w : World} {ba mb tb k : Nat} {F : Nat → Prop} {R : Raw} (h : MethIs B w ba mb tb k (bmO tb) F R) (hf : Fine B R) (hk : k < 16) (hr : R.root k = 0) :
    Calls Tryz.prog 197 #[.pointer (some ⟨mb, 0, none⟩)] w fun e w' => e = .returned (.int .i64 0) ∧ Step B ba w F (R.put 0 (8 + 4 * k) (digL 0)) w' := by
  have HG := Lib.hid (bmGoing h hf hk hr)
  have H := Lib.hid (And.intro h (And.intro hf hr))
  clear h hf hr
  go_enter Tryz.func197, Tryz.ntmps197
  go_wp2_with fail
  refine HG.out.mono ?_
  rintro e w1 ⟨rfl, hst⟩
  have hm1 := hst.block H.out.1.meth H.out.1.mF
  have ht1 := hst.block H.out.1.tree H.out.1.tF
  obtain ⟨F1, hA1, hF1, ho1⟩ := hst
  have htF1 : ¬ F1 tb := fun e => H.out.1.tF (hF1 tb (Array.getElem?_eq_some_iff.1 H.out.1.tree).1 e)
  have c0 : w1.cell? ⟨mb, 0, none⟩ = some (.pointer (some ⟨tb, 0, none⟩)) := by unfold World.cell?; rw [hm1]; rfl
  have HD := Lib.hid (TDrop_none ht1 hA1 H.out.2.1 htF1 hk H.out.2.2)
  have HO := Lib.hid (And.intro ho1 hF1)
  clear hm1 ht1 hA1 hF1 ho1 htF1 HG
  go_wp2_with fail
  refine HD.out.mono ?_
  rintro e w2 ⟨rfl, hst⟩
  have HS := Lib.hid (Step.trans HO.out.1 HO.out.2 hst)
  clear hst
  go_wp2
  go_ret
  exact ⟨rfl, HS.out⟩
theorem bmName (mb : Nat) (w : World) : Calls Tryz.prog 201 #[.pointer (some ⟨mb, 0, none⟩)] w fun e w' => e = .returned (.string ⟨#[98, 105, 116, 109, 97, 112]⟩) ∧ w' = w := by
  go_enter Tryz.func201, Tryz.ntmps201
  go_wp2
  go_ret
  exact ⟨rfl, rfl⟩

abbrev btO (tb : Nat) : Obj := .cells #[.pointer (some ⟨tb, 0, none⟩)] 186
set_option maxRecDepth 100000 in
set_option maxHeartbeats 2000000 in
theorem btNew {bs : Nat} {B : Base bs} {w : World} {ba : Nat} {F : Nat → Prop} {R : Raw} (hA : ActIs B w ba F R) (hc : Cov B R) (k : Nat) (hk : k < 16) :
    Calls Tryz.prog 71 #[.pointer (some ⟨ba, 0, none⟩), .int .i64 k] w fun e w' => ∃ mb tb F', e = .returned (.tuple #[.pointer (some ⟨mb, 0, none⟩), .int .i64 0]) ∧ MethIs B w' ba mb tb k (btO tb) F' R ∧ w.heap.size ≤ mb ∧ w.heap.size ≤ tb ∧ (∀ k, k < w.heap.size → F' k → F k) ∧ Off F w w' := by
  have HT := Lib.hid (treeNew_any hA hc k hk)
  clear hA
  go_enter Tryz.func71, Tryz.ntmps71
  go_wp2_with fail
  refine HT.out.mono ?_
  rintro e w1 ⟨tb, F1, rfl, ht1, hlt1, htF1, hA1, hF1, ho1⟩
  have hb : Below w1.heap.size w1 (w1.alloc (btO tb)) := by go_grown
  have HR := Lib.hid (show MethIs B (w1.alloc (btO tb)) ba w1.heap.size tb k (btO tb) F1 R ∧ w.heap.size ≤ w1.heap.size ∧ w.heap.size ≤ tb ∧ (∀ k, k < w.heap.size → F1 k → F k) ∧ Off F w (w1.alloc (btO tb)) from
    ⟨⟨hnew w1 _, (hb.block tb (Array.getElem?_eq_some_iff.1 ht1).1).trans ht1, hA1.below hb, fun e => by have := hA1.1 _ e; omega, htF1⟩, ho1.size, hlt1, hF1, ho1.trans (Off.of_below hb (F := fun _ => False)) (fun _ _ e => e.elim)⟩)
  clear ht1 hlt1 htF1 hA1 hF1 ho1 hb HT
  go_wp2
  go_ret2
  exact ⟨w1.heap.size, tb, F1, rfl, HR.out⟩
set_option maxRecDepth 100000 in
set_option maxHeartbeats 2000000 in
theorem btGoing {bs : Nat} {B : Base bs} {w : World} {ba mb tb k : Nat} {F : Nat → Prop} {R : Raw} (h : MethIs B w ba mb tb k (btO tb) F R) (hf : Fine B R) (hk : k < 16) (hr : R.root k = 0) :
    Calls Tryz.prog 212 #[.pointer (some ⟨mb, 0, none⟩)] w fun e w' => e = .returned (.int .i64 0) ∧ Step B ba w F R w' := by
  have HG := Lib.hid (Get_none h.tree h.act hf h.tF hk hr ⟨#[120]⟩)
  have c0 : w.cell? ⟨mb, 0, none⟩ = some (.pointer (some ⟨tb, 0, none⟩)) := by unfold World.cell?; rw [h.meth]; rfl
  clear h hf hr
  go_enter Tryz.func212, Tryz.ntmps212
  go_wp2_with fail
  refine HG.out.mono ?_
  rintro e w1 ⟨rfl, hst⟩
  have HS := Lib.hid hst
  clear hst
  go_wp2
  go_ret
  exact ⟨rfl, HS.out⟩
set_option maxRecDepth 100000 in
set_option maxHeartbeats 2000000 in
theorem btDrop {bs : Nat} {B : Base bs} {w : World} {ba mb tb k : Nat} {F : Nat → Prop} {R : Raw} (h : MethIs B w ba mb tb k (btO tb) F R) (hf : Fine B R) (hk : k < 16) (hr : R.root k = 0) :
    Calls Tryz.prog 206 #[.pointer (some ⟨mb, 0, none⟩)] w fun e w' => e = .returned (.int .i64 0) ∧ Step B ba w F (R.put 0 (8 + 4 * k) (digL 0)) w' := by
  have HG := Lib.hid (btGoing h hf hk hr)
  have H := Lib.hid (And.intro h (And.intro hf hr))
  clear h hf hr
  go_enter Tryz.func206, Tryz.ntmps206
  go_wp2_with fail
  refine HG.out.mono ?_
  rintro e w1 ⟨rfl, hst⟩
  have hm1 := hst.block H.out.1.meth H.out.1.mF
  have ht1 := hst.block H.out.1.tree H.out.1.tF
  obtain ⟨F1, hA1, hF1, ho1⟩ := hst
  have htF1 : ¬ F1 tb := fun e => H.out.1.tF (hF1 tb (Array.getElem?_eq_some_iff.1 H.out.1.tree).1 e)
  have c0 : w1.cell? ⟨mb, 0, none⟩ = some (.pointer (some ⟨tb, 0, none⟩)) := by unfold World.cell?; rw [hm1]; rfl
  have HD := Lib.hid (TDrop_none ht1 hA1 H.out.2.1 htF1 hk H.out.2.2)
  have HO := Lib.hid (And.intro ho1 hF1)
  clear hm1 ht1 hA1 hF1 ho1 htF1 HG
  go_wp2_with fail
  refine HD.out.mono ?_
  rintro e w2 ⟨rfl, hst⟩
  have HS := Lib.hid (Step.trans HO.out.1 HO.out.2 hst)
  clear hst
  go_wp2
  go_ret
  exact ⟨rfl, HS.out⟩
theorem btName (mb : Nat) (w : World) : Calls Tryz.prog 210 #[.pointer (some ⟨mb, 0, none⟩)] w fun e w' => e = .returned (.string ⟨#[98, 116, 114, 101, 101]⟩) ∧ w' = w := by
  go_enter Tryz.func210, Tryz.ntmps210
  go_wp2
  go_ret
  exact ⟨rfl, rfl⟩

abbrev ivO (tb : Nat) : Obj := .cells #[.pointer (some ⟨tb, 0, none⟩)] 190
set_option maxRecDepth 100000 in
set_option maxHeartbeats 2000000 in
theorem ivNew {bs : Nat} {B : Base bs} {w : World} {ba : Nat} {F : Nat → Prop} {R : Raw} (hA : ActIs B w ba F R) (hc : Cov B R) (k : Nat) (hk : k < 16) :
    Calls Tryz.prog 77 #[.pointer (some ⟨ba, 0, none⟩), .int .i64 k] w fun e w' => ∃ mb tb F', e = .returned (.tuple #[.pointer (some ⟨mb, 0, none⟩), .int .i64 0]) ∧ MethIs B w' ba mb tb k (ivO tb) F' R ∧ w.heap.size ≤ mb ∧ w.heap.size ≤ tb ∧ (∀ k, k < w.heap.size → F' k → F k) ∧ Off F w w' := by
  have HT := Lib.hid (treeNew_any hA hc k hk)
  clear hA
  go_enter Tryz.func77, Tryz.ntmps77
  go_wp2_with fail
  refine HT.out.mono ?_
  rintro e w1 ⟨tb, F1, rfl, ht1, hlt1, htF1, hA1, hF1, ho1⟩
  have hb : Below w1.heap.size w1 (w1.alloc (ivO tb)) := by go_grown
  have HR := Lib.hid (show MethIs B (w1.alloc (ivO tb)) ba w1.heap.size tb k (ivO tb) F1 R ∧ w.heap.size ≤ w1.heap.size ∧ w.heap.size ≤ tb ∧ (∀ k, k < w.heap.size → F1 k → F k) ∧ Off F w (w1.alloc (ivO tb)) from
    ⟨⟨hnew w1 _, (hb.block tb (Array.getElem?_eq_some_iff.1 ht1).1).trans ht1, hA1.below hb, fun e => by have := hA1.1 _ e; omega, htF1⟩, ho1.size, hlt1, hF1, ho1.trans (Off.of_below hb (F := fun _ => False)) (fun _ _ e => e.elim)⟩)
  clear ht1 hlt1 htF1 hA1 hF1 ho1 hb HT
  go_wp2
  go_ret2
  exact ⟨w1.heap.size, tb, F1, rfl, HR.out⟩
set_option maxRecDepth 100000 in
set_option maxHeartbeats 2000000 in
theorem ivGoing {bs : Nat} {B : Base bs} {w : World} {ba mb tb k : Nat} {F : Nat → Prop} {R : Raw} (h : MethIs B w ba mb tb k (ivO tb) F R) (hf : Fine B R) (hk : k < 16) (hr : R.root k = 0) :
    Calls Tryz.prog 233 #[.pointer (some ⟨mb, 0, none⟩)] w fun e w' => e = .returned (.int .i64 0) ∧ Step B ba w F R w' := by
  have HG := Lib.hid (Get_none h.tree h.act hf h.tF hk hr ⟨#[120]⟩)
  have c0 : w.cell? ⟨mb, 0, none⟩ = some (.pointer (some ⟨tb, 0, none⟩)) := by unfold World.cell?; rw [h.meth]; rfl
  clear h hf hr
  go_enter Tryz.func233, Tryz.ntmps233
  go_wp2_with fail
  refine HG.out.mono ?_
  rintro e w1 ⟨rfl, hst⟩
  have HS := Lib.hid hst
  clear hst
  go_wp2
  go_ret
  exact ⟨rfl, HS.out⟩
set_option maxRecDepth 100000 in
set_option maxHeartbeats 2000000 in
theorem ivDrop {bs : Nat} {B : Base bs} {w : World} {ba mb tb k : Nat} {F : Nat → Prop} {R : Raw} (h : MethIs B w ba mb tb k (ivO tb) F R) (hf : Fine B R) (hk : k < 16) (hr : R.root k = 0) :
    Calls Tryz.prog 227 #[.pointer (some ⟨mb, 0, none⟩)] w fun e w' => e = .returned (.int .i64 0) ∧ Step B ba w F (R.put 0 (8 + 4 * k) (digL 0)) w' := by
  have HG := Lib.hid (ivGoing h hf hk hr)
  have H := Lib.hid (And.intro h (And.intro hf hr))
  clear h hf hr
  go_enter Tryz.func227, Tryz.ntmps227
  go_wp2_with fail
  refine HG.out.mono ?_
  rintro e w1 ⟨rfl, hst⟩
  have hm1 := hst.block H.out.1.meth H.out.1.mF
  have ht1 := hst.block H.out.1.tree H.out.1.tF
  obtain ⟨F1, hA1, hF1, ho1⟩ := hst
  have htF1 : ¬ F1 tb := fun e => H.out.1.tF (hF1 tb (Array.getElem?_eq_some_iff.1 H.out.1.tree).1 e)
  have c0 : w1.cell? ⟨mb, 0, none⟩ = some (.pointer (some ⟨tb, 0, none⟩)) := by unfold World.cell?; rw [hm1]; rfl
  have HD := Lib.hid (TDrop_none ht1 hA1 H.out.2.1 htF1 hk H.out.2.2)
  have HO := Lib.hid (And.intro ho1 hF1)
  clear hm1 ht1 hA1 hF1 ho1 htF1 HG
  go_wp2_with fail
  refine HD.out.mono ?_
  rintro e w2 ⟨rfl, hst⟩
  have HS := Lib.hid (Step.trans HO.out.1 HO.out.2 hst)
  clear hst
  go_wp2
  go_ret
  exact ⟨rfl, HS.out⟩
theorem ivName (mb : Nat) (w : World) : Calls Tryz.prog 231 #[.pointer (some ⟨mb, 0, none⟩)] w fun e w' => e = .returned (.string ⟨#[105, 110, 118, 101, 114, 116, 101, 100]⟩) ∧ w' = w := by
  go_enter Tryz.func231, Tryz.ntmps231
  go_wp2
  go_ret
  exact ⟨rfl, rfl⟩
end Go.Proofs.YtiakepcgalmjfaaGreat
