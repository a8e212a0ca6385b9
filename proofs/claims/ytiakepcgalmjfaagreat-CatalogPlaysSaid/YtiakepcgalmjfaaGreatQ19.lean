/- The hash method on an empty root: New, Drop, Name. What the kinds open; catalog's Open. (Written by gensri.py.) -/
import Derived.Test.YtiakepcgalmjfaaGreatQ18
set_option linter.unusedVariables false
set_option linter.unusedSimpArgs false
namespace Go.Proofs.YtiakepcgalmjfaaGreat
open Go.RowKit

abbrev hxO (ba k : Nat) : Obj := .cells #[.pointer (some ⟨ba, 0, none⟩), .int .i64 k] 188
structure HashIs {bs : Nat} (B : Base bs) (w : World) (ba mb k : Nat) (F : Nat → Prop) (R : Raw) : Prop where
  meth : w.heap[mb]? = some (hxO ba k)
  act : ActIs B w ba F R
  mF : ¬ F mb
theorem hx2 {w : World} {mb ba k : Nat} (h : w.heap[mb]? = some (hxO ba k)) : w.cell? ⟨mb, 0, none⟩ = some (.pointer (some ⟨ba, 0, none⟩)) ∧ w.cell? ⟨mb, 1, none⟩ = some (.int .i64 k) := by
  refine ⟨?_, ?_⟩ <;> (unfold World.cell?; rw [h]; rfl)

set_option maxRecDepth 100000 in
set_option maxHeartbeats 2000000 in
theorem hxNew {bs : Nat} {B : Base bs} {w : World} {ba : Nat} {F : Nat → Prop} {R : Raw} (hA : ActIs B w ba F R) (hc : Cov B R) (k : Nat) (hk : k < 16) :
    Calls Tryz.prog 74 #[.pointer (some ⟨ba, 0, none⟩), .int .i64 k] w fun e w' => ∃ mb F', e = .returned (.tuple #[.pointer (some ⟨mb, 0, none⟩), .int .i64 0]) ∧ HashIs B w' ba mb k F' R ∧ w.heap.size ≤ mb ∧ (∀ k, k < w.heap.size → F' k → F k) ∧ Off F w w' := by
  have HT := Lib.hid (root_any hA hc k hk)
  clear hA
  go_enter Tryz.func74, Tryz.ntmps74
  go_wp2_with fail
  refine HT.out.mono ?_
  rintro e w1 ⟨rfl, F1, hA1, hF1, ho1⟩
  have hb : Below w1.heap.size w1 (w1.alloc (hxO ba k)) := by go_grown
  have HR := Lib.hid (show HashIs B (w1.alloc (hxO ba k)) ba w1.heap.size k F1 R ∧ w.heap.size ≤ w1.heap.size ∧ (∀ k, k < w.heap.size → F1 k → F k) ∧ Off F w (w1.alloc (hxO ba k)) from
    ⟨⟨hnew w1 _, hA1.below hb, fun e => by have := hA1.1 _ e; omega⟩, ho1.size, hF1, ho1.trans (Off.of_below hb (F := fun _ => False)) (fun _ _ e => e.elim)⟩)
  clear hA1 hF1 ho1 hb HT
  generalize num (R.page 0) (8 + 4 * k) = q
  go_wp2
  go_ret2
  exact ⟨w1.heap.size, F1, rfl, HR.out⟩

set_option maxRecDepth 100000 in
set_option maxHeartbeats 4000000 in
theorem hxHead {bs : Nat} {B : Base bs} {w : World} {ba mb k : Nat} {F : Nat → Prop} {R : Raw} (h : HashIs B w ba mb k F R) (hc : Cov B R) (hk : k < 16) (hr : R.root k = 0) :
    Calls Tryz.prog 221 #[.pointer (some ⟨mb, 0, none⟩)] w fun e w' => ∃ g, e = .returned (.tuple #[.agg #[.int .i64 0, .int .i64 0, .slice (some ⟨g, 0, none⟩) 1 1], .int .i64 0]) ∧ Step B ba w F R w' := by
  have hltm : mb < w.heap.size := (Array.getElem?_eq_some_iff.1 h.meth).1
  have hb0 : Below w.heap.size w ((w.alloc (.cells #[.int .i64 0, .int .i64 0, .slice none 0 0] 272)).drew) := ((Below.refl w.heap.size w).alloc (Nat.le_refl _) _).drew
  have hm0 := (hb0.block mb hltm).trans h.meth
  have HR0 := root_any (h.act.below hb0) hc k hk
  rw [show num (R.page 0) (8 + 4 * k) = 0 from hr] at HR0
  have HR := Lib.hid HR0
  have hnF : ¬ F w.heap.size := fun e => by have := h.act.1 _ e; omega
  obtain ⟨m0, m1⟩ := hx2 (show (w.alloc (.cells #[.int .i64 0, .int .i64 0, .slice none 0 0] 272)).heap[mb]? = some (hxO ba k) from hm0)
  have hx0 : ((w.alloc (.cells #[.int .i64 0, .int .i64 0, .slice none 0 0] 272)).drew).heap[w.heap.size]? = some (.cells #[.int .i64 0, .int .i64 0, .slice none 0 0] 272) := hnew w _
  have H := Lib.hid (And.intro hb0 (And.intro hnF (And.intro hx0 (And.intro hm0 h.mF))))
  clear h hc hr HR0 hb0 hnF hx0 hm0
  go_enter Tryz.func221, Tryz.ntmps221
  go_wp2
  refine wp_region_noPanic ?_
  refine wp_region_held_drew (S := (fun w' => w'.cell? ⟨mb, 0, none⟩ = some (.pointer (some ⟨ba, 0, none⟩)) ∧ w'.cell? ⟨mb, 1, none⟩ = some (.int .i64 k))) (by kernel_rfl) ⟨m0, m1⟩ (fun hS => ?_)
  refine wpAnyH_take (i := 0) (v := ?_) rfl (by kernel_rfl) (by kernel_rfl) (by kernel_rfl) (fun _ _ _ h => h) (Or.inl ⟨by rfl, ?_⟩) hS ?_
  rotate_left
  · rintro w9 ⟨t0, t1⟩
    go_simp
    try with_reducible rfl
  try simp only [Act.put, List.getElem_toArray, List.getElem_cons_succ, List.getElem_cons_zero, List.setIfInBounds_toArray, List.set_cons_zero, List.set_cons_succ]
  refine wpAnyH_take (i := 1) (v := ?_) rfl (by kernel_rfl) (by kernel_rfl) (by kernel_rfl) (fun _ _ _ h => h) (Or.inl ⟨by rfl, ?_⟩) hS ?_
  rotate_left
  · rintro w9 ⟨t0, t1⟩
    go_simp
    try with_reducible rfl
  try simp only [Act.put, List.getElem_toArray, List.getElem_cons_succ, List.getElem_cons_zero, List.setIfInBounds_toArray, List.set_cons_zero, List.set_cons_succ]
  refine wpAnyH_take (i := 2) (v := ?_) rfl (by kernel_rfl) (by kernel_rfl) (by kernel_rfl) (fun _ _ _ h => h) (Or.inl ⟨by rfl, ?_⟩) hS ?_
  rotate_left
  · rintro w9 ⟨t0, t1⟩
    go_simp
    try with_reducible rfl
  try simp only [Act.put, List.getElem_toArray, List.getElem_cons_succ, List.getElem_cons_zero, List.setIfInBounds_toArray, List.set_cons_zero, List.set_cons_succ]
  refine wpAnyH_take (i := 3) (v := ?_) rfl (by kernel_rfl) (by kernel_rfl) (by kernel_rfl) (fun _ _ _ h => h) (Or.inl ⟨by rfl, ?_⟩) hS ?_
  rotate_left
  · rintro w9 ⟨t0, t1⟩
    go_simp
    try with_reducible rfl
  try simp only [Act.put, List.getElem_toArray, List.getElem_cons_succ, List.getElem_cons_zero, List.setIfInBounds_toArray, List.set_cons_zero, List.set_cons_succ]
  refine wpAnyH_take (i := 4) (v := ?_) rfl (by kernel_rfl) (by kernel_rfl) (by kernel_rfl) (fun _ _ _ h => h) (Or.inl ⟨by rfl, ?_⟩) hS ?_
  rotate_left
  · rintro w9 ⟨t0, t1⟩
    go_simp
    try with_reducible rfl
  try simp only [Act.put, List.getElem_toArray, List.getElem_cons_succ, List.getElem_cons_zero, List.setIfInBounds_toArray, List.set_cons_zero, List.set_cons_succ]
  refine wpAnyH_take (i := 5) (v := ?_) rfl (by kernel_rfl) (by kernel_rfl) (by kernel_rfl) (fun _ _ _ h => h) (Or.inl ⟨by rfl, ?_⟩) hS ?_
  rotate_left
  · rintro w9 ⟨t0, t1⟩
    go_simp
    try with_reducible rfl
  try simp only [Act.put, List.getElem_toArray, List.getElem_cons_succ, List.getElem_cons_zero, List.setIfInBounds_toArray, List.set_cons_zero, List.set_cons_succ]
  refine wpAnyH_take (i := 6) (v := ?_) rfl (by kernel_rfl) (by kernel_rfl) (by kernel_rfl) (fun _ _ _ h => h) (Or.inl ⟨by rfl, ?_⟩) hS ?_
  rotate_left
  · rintro w9 ⟨t0, t1⟩
    go_simp
    try with_reducible rfl
  try simp only [Act.put, List.getElem_toArray, List.getElem_cons_succ, List.getElem_cons_zero, List.setIfInBounds_toArray, List.set_cons_zero, List.set_cons_succ]
  refine wpAnyH_take (i := 7) (v := ?_) rfl (by kernel_rfl) (by kernel_rfl) (by kernel_rfl) (fun _ _ _ h => h) (Or.inl ⟨by rfl, ?_⟩) hS ?_
  rotate_left
  · rintro w9 ⟨t0, t1⟩
    go_simp
    try with_reducible rfl
  try simp only [Act.put, List.getElem_toArray, List.getElem_cons_succ, List.getElem_cons_zero, List.setIfInBounds_toArray, List.set_cons_zero, List.set_cons_succ]
  refine wpAnyH_ready (rs := [8]) (by kernel_rfl) (by simp) ?_
  refine AllReadyH.cons rfl (fun K hK => ?_) AllReadyH.nil
  go_simp
  refine HR.out.mono ?_
  rintro e w5 ⟨rfl, hst⟩
  have hs5 := hx2 (hst.block H.out.2.2.2.1 H.out.2.2.2.2)
  have hx5 := hst.block H.out.2.2.1 H.out.2.1
  have hlt5 := (Array.getElem?_eq_some_iff.1 hx5).1
  have z0 : w5.cell? ⟨w.heap.size, 0, none⟩ = some (.int .i64 0) := by unfold World.cell?; rw [hx5]; rfl
  have z1 : w5.cell? ⟨w.heap.size, 1, none⟩ = some (.int .i64 0) := by unfold World.cell?; rw [hx5]; rfl
  have z2 : w5.cell? ⟨w.heap.size, 2, none⟩ = some (.slice none 0 0) := by unfold World.cell?; rw [hx5]; rfl
  have y0 : w5.frozen? ⟨w.heap.size, 0, none⟩ = false := by unfold World.frozen?; rw [hx5]; rfl
  have y1 : w5.frozen? ⟨w.heap.size, 1, none⟩ = false := by unfold World.frozen?; rw [hx5]; rfl
  have y2 : w5.frozen? ⟨w.heap.size, 2, none⟩ = false := by unfold World.frozen?; rw [hx5]; rfl
  have HS := Lib.hid hst
  clear hst hx5
  refine hK.out _ _ hs5 (fun _ => ?_)
  clear hK K
  try simp only [Act.put, List.getElem_toArray, List.getElem_cons_succ, List.getElem_cons_zero, List.setIfInBounds_toArray, List.set_cons_zero, List.set_cons_succ]
  refine wpAnyH_take (i := 9) (v := ?_) rfl (by kernel_rfl) (by kernel_rfl) (by kernel_rfl) (fun _ _ _ h => h) (Or.inl ⟨by rfl, ?_⟩) hs5 ?_
  rotate_left
  · rintro w9 ⟨t0, t1⟩
    go_simp
    try with_reducible rfl
  try simp only [Act.put, List.getElem_toArray, List.getElem_cons_succ, List.getElem_cons_zero, List.setIfInBounds_toArray, List.set_cons_zero, List.set_cons_succ]
  refine wpAnyH_take (i := 10) (v := ?_) rfl (by kernel_rfl) (by kernel_rfl) (by kernel_rfl) (fun _ _ _ h => h) (Or.inl ⟨by rfl, ?_⟩) hs5 ?_
  rotate_left
  · rintro w9 ⟨t0, t1⟩
    go_simp
    try with_reducible rfl
  try simp only [Act.put, List.getElem_toArray, List.getElem_cons_succ, List.getElem_cons_zero, List.setIfInBounds_toArray, List.set_cons_zero, List.set_cons_succ]
  refine wpAnyH_take (i := 11) (v := ?_) rfl (by kernel_rfl) (by kernel_rfl) (by kernel_rfl) (fun _ _ _ h => h) (Or.inl ⟨by rfl, ?_⟩) hs5 ?_
  rotate_left
  · rintro w9 ⟨t0, t1⟩
    go_simp
    try with_reducible rfl
  try simp only [Act.put, List.getElem_toArray, List.getElem_cons_succ, List.getElem_cons_zero, List.setIfInBounds_toArray, List.set_cons_zero, List.set_cons_succ]
  refine wpAnyH_take (i := 12) (v := ?_) rfl (by kernel_rfl) (by kernel_rfl) (by kernel_rfl) (fun _ _ _ h => h) (Or.inl ⟨by rfl, ?_⟩) hs5 ?_
  rotate_left
  · rintro w9 ⟨t0, t1⟩
    go_simp
    try with_reducible rfl
  try simp only [Act.put, List.getElem_toArray, List.getElem_cons_succ, List.getElem_cons_zero, List.setIfInBounds_toArray, List.set_cons_zero, List.set_cons_succ]
  refine wpAnyH_take (i := 13) (v := ?_) rfl (by kernel_rfl) (by kernel_rfl) (by kernel_rfl) (fun _ _ _ h => h) (Or.inl ⟨by rfl, ?_⟩) hs5 ?_
  rotate_left
  · rintro w9 ⟨t0, t1⟩
    go_simp
    try with_reducible rfl
  try simp only [Act.put, List.getElem_toArray, List.getElem_cons_succ, List.getElem_cons_zero, List.setIfInBounds_toArray, List.set_cons_zero, List.set_cons_succ]
  refine wpAnyH_done (by kernel_rfl) ?_ _
  refine NoPanic.normal ?_
  go_wp2
  (try simp only [Exit.inBlock, Exit.then])
  refine bodyPost_ret (v := .tuple #[.agg #[.int .i64 0, .int .i64 0, .slice (some ⟨w5.heap.size, 0, none⟩) 1 1], .int .i64 0]) ?_ rfl ⟨w5.heap.size, rfl, ?_⟩
  · rw [results_cell_tmp rfl]
    go_simp
    try rfl
  · have ho : Off (fun j => j = w.heap.size) w5 (((w5.setCell ⟨w.heap.size, 0, none⟩ (.int .i64 0)).setCell ⟨w.heap.size, 1, none⟩ (.int .i64 0)).setCell ⟨w.heap.size, 2, none⟩ (.slice (some ⟨w5.heap.size, 0, none⟩) 1 1)) :=
      (((Off.refl (fun j => j = w.heap.size) w5).set (k := w.heap.size) rfl _).set (k := w.heap.size) rfl _).set (k := w.heap.size) rfl _
    refine Step.young (G := fun j => j = w.heap.size) H.out.1 HS.out (ho.trans (Off.of_below (by go_grown) (F := fun _ => False)) (fun _ _ e => e.elim)) (fun j hj => ?_)
    have hj' : j = w.heap.size := hj
    rw [hj']
    exact ⟨Nat.le_refl _, by simp, H.out.2.1⟩

set_option maxRecDepth 100000 in
set_option maxHeartbeats 4000000 in
theorem hxPages {bs : Nat} {B : Base bs} {w : World} {ba mb k : Nat} {F : Nat → Prop} {R : Raw} (h : HashIs B w ba mb k F R) (hc : Cov B R) (hk : k < 16) (hr : R.root k = 0) :
    Calls Tryz.prog 220 #[.pointer (some ⟨mb, 0, none⟩)] w fun e w' => e = .returned (.slice none 0 0) ∧ Step B ba w F R w' := by
  have HH := Lib.hid (hxHead h hc hk hr)
  clear h hc hr
  go_enter Tryz.func220, Tryz.ntmps220
  go_wp2_with fail
  refine HH.out.mono ?_
  rintro e w1 ⟨g, rfl, hst⟩
  have HS := Lib.hid hst
  clear hst HH
  go_wp2
  go_ret
  exact ⟨rfl, HS.out.below (by go_grown)⟩

set_option maxRecDepth 100000 in
set_option maxHeartbeats 4000000 in
theorem hxDrop {bs : Nat} {B : Base bs} {w : World} {ba mb k : Nat} {F : Nat → Prop} {R : Raw} (h : HashIs B w ba mb k F R) (hc : Cov B R) (hk : k < 16) (hr : R.root k = 0) :
    Calls Tryz.prog 215 #[.pointer (some ⟨mb, 0, none⟩)] w fun e w' => e = .returned (.int .i64 0) ∧ Step B ba w F (R.put 0 (8 + 4 * k) (digL 0)) w' := by
  have HH := Lib.hid (hxHead h hc hk hr)
  have H := Lib.hid (And.intro h (And.intro hc hr))
  clear h hc hr
  go_enter Tryz.func215, Tryz.ntmps215
  go_wp2_with fail
  refine HH.out.mono ?_
  rintro e w1 ⟨g, rfl, hst⟩
  have hm1 := hst.block H.out.1.meth H.out.1.mF
  obtain ⟨F1, hA1, hF1, ho1⟩ := hst
  have hbA : Below w1.heap.size w1 (w1.alloc (.cells #[.int .i64 0, .int .i64 0, .slice (some ⟨g, 0, none⟩) 1 1] 272)) := by go_grown
  have hmF1 : ¬ F1 mb := fun e => H.out.1.mF (hF1 mb (Array.getElem?_eq_some_iff.1 H.out.1.meth).1 e)
  have h1 : HashIs B (w1.alloc (.cells #[.int .i64 0, .int .i64 0, .slice (some ⟨g, 0, none⟩) 1 1] 272)) ba mb k F1 R := ⟨(hbA.block mb (Array.getElem?_eq_some_iff.1 hm1).1).trans hm1, hA1.below hbA, hmF1⟩
  have HP := Lib.hid (hxPages h1 H.out.2.1 hk H.out.2.2)
  have H1 := Lib.hid (And.intro h1 (And.intro (ho1.trans (Off.of_below hbA (F := fun _ => False)) (fun _ _ e => e.elim)) hF1))
  clear hm1 hA1 hF1 ho1 hbA hmF1 h1 HH
  go_wp2_with fail
  refine HP.out.mono ?_
  rintro e w2 ⟨rfl, hst⟩
  have hm2 := hst.block H1.out.1.meth H1.out.1.mF
  obtain ⟨F2, hA2, hF2, ho2⟩ := hst
  have hlt1 : mb < (w1.alloc (.cells #[.int .i64 0, .int .i64 0, .slice (some ⟨g, 0, none⟩) 1 1] 272)).heap.size := (Array.getElem?_eq_some_iff.1 H1.out.1.meth).1
  have hmF2 : ¬ F2 mb := fun e => H1.out.1.mF (hF2 mb hlt1 e)
  obtain ⟨m0, m1⟩ := hx2 hm2
  have HSd := Lib.hid (setRoot_any (hA2.below ((Below.refl _ w2).drew)) H.out.2.1 k hk 0 ⟨by omega, by omega⟩)
  have H2 := Lib.hid (And.intro hm2 (And.intro hmF2 (And.intro (H1.out.2.1.trans ho2 (fun k hk e => H1.out.2.2 k hk e)) (fun k (hk : k < w.heap.size) (e : F2 k) => H1.out.2.2 k hk (hF2 k (Nat.lt_of_lt_of_le hk H1.out.2.1.size) e)))))
  clear hm2 hA2 hF2 ho2 hmF2 HP
  go_wp2
  go_loopw [18] (fun i wr => i = .int .i64 0 ∧ wr = w2) (fun _ _ => 0)
  case atStart => exact ⟨rfl, rfl⟩
  case round =>
    obtain ⟨rfl, rfl⟩ := hrel
    go_wp2
    refine wp_region_noPanic ?_
    refine wp_region_held_drew (S := (fun w' => w'.cell? ⟨mb, 0, none⟩ = some (.pointer (some ⟨ba, 0, none⟩)) ∧ w'.cell? ⟨mb, 1, none⟩ = some (.int .i64 k))) (by kernel_rfl) ⟨m0, m1⟩ (fun hS => ?_)
    refine wpAnyH_take (i := 0) (v := ?_) rfl (by kernel_rfl) (by kernel_rfl) (by kernel_rfl) (fun _ _ _ h => h) (Or.inl ⟨by rfl, ?_⟩) hS ?_
    rotate_left
    · rintro w9 ⟨t0, t1⟩
      go_simp
      try with_reducible rfl
    try simp only [Act.put, List.getElem_toArray, List.getElem_cons_succ, List.getElem_cons_zero, List.setIfInBounds_toArray, List.set_cons_zero, List.set_cons_succ]
    refine wpAnyH_take (i := 1) (v := ?_) rfl (by kernel_rfl) (by kernel_rfl) (by kernel_rfl) (fun _ _ _ h => h) (Or.inl ⟨by rfl, ?_⟩) hS ?_
    rotate_left
    · rintro w9 ⟨t0, t1⟩
      go_simp
      try with_reducible rfl
    try simp only [Act.put, List.getElem_toArray, List.getElem_cons_succ, List.getElem_cons_zero, List.setIfInBounds_toArray, List.set_cons_zero, List.set_cons_succ]
    refine wpAnyH_take (i := 2) (v := ?_) rfl (by kernel_rfl) (by kernel_rfl) (by kernel_rfl) (fun _ _ _ h => h) (Or.inl ⟨by rfl, ?_⟩) hS ?_
    rotate_left
    · rintro w9 ⟨t0, t1⟩
      go_simp
      try with_reducible rfl
    try simp only [Act.put, List.getElem_toArray, List.getElem_cons_succ, List.getElem_cons_zero, List.setIfInBounds_toArray, List.set_cons_zero, List.set_cons_succ]
    refine wpAnyH_take (i := 3) (v := ?_) rfl (by kernel_rfl) (by kernel_rfl) (by kernel_rfl) (fun _ _ _ h => h) (Or.inl ⟨by rfl, ?_⟩) hS ?_
    rotate_left
    · rintro w9 ⟨t0, t1⟩
      go_simp
      try with_reducible rfl
    try simp only [Act.put, List.getElem_toArray, List.getElem_cons_succ, List.getElem_cons_zero, List.setIfInBounds_toArray, List.set_cons_zero, List.set_cons_succ]
    refine wpAnyH_take (i := 4) (v := ?_) rfl (by kernel_rfl) (by kernel_rfl) (by kernel_rfl) (fun _ _ _ h => h) (Or.inl ⟨by rfl, ?_⟩) hS ?_
    rotate_left
    · rintro w9 ⟨t0, t1⟩
      go_simp
      try with_reducible rfl
    try simp only [Act.put, List.getElem_toArray, List.getElem_cons_succ, List.getElem_cons_zero, List.setIfInBounds_toArray, List.set_cons_zero, List.set_cons_succ]
    refine wpAnyH_take (i := 5) (v := ?_) rfl (by kernel_rfl) (by kernel_rfl) (by kernel_rfl) (fun _ _ _ h => h) (Or.inl ⟨by rfl, ?_⟩) hS ?_
    rotate_left
    · rintro w9 ⟨t0, t1⟩
      go_simp
      try with_reducible rfl
    try simp only [Act.put, List.getElem_toArray, List.getElem_cons_succ, List.getElem_cons_zero, List.setIfInBounds_toArray, List.set_cons_zero, List.set_cons_succ]
    refine wpAnyH_take (i := 6) (v := ?_) rfl (by kernel_rfl) (by kernel_rfl) (by kernel_rfl) (fun _ _ _ h => h) (Or.inl ⟨by rfl, ?_⟩) hS ?_
    rotate_left
    · rintro w9 ⟨t0, t1⟩
      go_simp
      try with_reducible rfl
    try simp only [Act.put, List.getElem_toArray, List.getElem_cons_succ, List.getElem_cons_zero, List.setIfInBounds_toArray, List.set_cons_zero, List.set_cons_succ]
    refine wpAnyH_take (i := 7) (v := ?_) rfl (by kernel_rfl) (by kernel_rfl) (by kernel_rfl) (fun _ _ _ h => h) (Or.inl ⟨by rfl, ?_⟩) hS ?_
    rotate_left
    · rintro w9 ⟨t0, t1⟩
      go_simp
      try with_reducible rfl
    try simp only [Act.put, List.getElem_toArray, List.getElem_cons_succ, List.getElem_cons_zero, List.setIfInBounds_toArray, List.set_cons_zero, List.set_cons_succ]
    refine wpAnyH_ready (rs := [8]) (by kernel_rfl) (by simp) ?_
    refine AllReadyH.cons rfl (fun K hK => ?_) AllReadyH.nil
    go_simp
    refine HSd.out.mono ?_
    rintro e w5 ⟨rfl, hst⟩
    have hs5 := hx2 (hst.block (show wr.drew.heap[mb]? = some (hxO ba k) from H2.out.1) H2.out.2.1)
    have HS := Lib.hid (Step.trans (H2.out.2.2.1.trans (Off.of_below ((Below.refl _ wr).drew) (F := fun _ => False)) (fun _ _ e => e.elim)) H2.out.2.2.2 hst)
    clear hst
    refine hK.out _ _ hs5 (fun _ => ?_)
    clear hK K
    try simp only [Act.put, List.getElem_toArray, List.getElem_cons_succ, List.getElem_cons_zero, List.setIfInBounds_toArray, List.set_cons_zero, List.set_cons_succ]
    refine wpAnyH_take (i := 9) (v := ?_) rfl (by kernel_rfl) (by kernel_rfl) (by kernel_rfl) (fun _ _ _ h => h) (Or.inl ⟨by rfl, ?_⟩) hs5 ?_
    rotate_left
    · rintro w9 ⟨t0, t1⟩
      go_simp
      try with_reducible rfl
    try simp only [Act.put, List.getElem_toArray, List.getElem_cons_succ, List.getElem_cons_zero, List.setIfInBounds_toArray, List.set_cons_zero, List.set_cons_succ]
    refine wpAnyH_done (by kernel_rfl) ?_ _
    refine NoPanic.normal ?_
    go_wp2
    go_ret
    exact ⟨rfl, HS.out⟩
theorem hxName (mb : Nat) (w : World) : Calls Tryz.prog 219 #[.pointer (some ⟨mb, 0, none⟩)] w fun e w' => e = .returned (.string ⟨#[104, 97, 115, 104]⟩) ∧ w' = w := by
  go_enter Tryz.func219, Tryz.ntmps219
  go_wp2
  go_ret
  exact ⟨rfl, rfl⟩
end Go.Proofs.YtiakepcgalmjfaaGreat

namespace Go.Proofs.YtiakepcgalmjfaaGreat
open Go.RowKit

/-- A method's own type. -/
def mtype (k : Nat) : TypeId := match k with
  | 0 => 122
  | 1 => 126
  | 2 => 130
  | _ => 134
def methV (k mb : Nat) : Value := .iface (mtype k) (.pointer (some ⟨mb, 0, none⟩))
/-- A method of a kind that was opened. -/
def OpIs {bs : Nat} (B : Base bs) (w : World) (ba k mb r : Nat) (F : Nat → Prop) (R : Raw) : Prop := match k with
  | 0 => ∃ tb, MethIs B w ba mb tb r (bmO tb) F R
  | 1 => ∃ tb, MethIs B w ba mb tb r (btO tb) F R
  | 2 => HashIs B w ba mb r F R
  | _ => ∃ tb, MethIs B w ba mb tb r (ivO tb) F R
theorem OpIs.act {bs : Nat} {B : Base bs} {w : World} {ba k mb r : Nat} {F : Nat → Prop} {R : Raw} (h : OpIs B w ba k mb r F R) : ActIs B w ba F R := by
  unfold OpIs at h
  split at h
  · exact h.choose_spec.act
  · exact h.choose_spec.act
  · exact h.act
  · exact h.choose_spec.act
def OpPost {bs : Nat} (B : Base bs) (w : World) (ba k r : Nat) (F : Nat → Prop) (R : Raw) (e : Ending) (w' : World) : Prop := ∃ mb F', e = .returned (.tuple #[methV k mb, .int .i64 0]) ∧ OpIs B w' ba k mb r F' R ∧ w.heap.size ≤ mb ∧ (∀ k, k < w.heap.size → F' k → F k) ∧ Off F w w'
theorem kopen_enters (i : Nat) (args : Array Value) (w : World) : (callFunc (kopen i) args).run Tryz.prog w = .ok (.enter (kopen i) args) w := by
  match i with
  | 0 => exact (show (callFunc 66 args).run Tryz.prog w = .ok (.enter 66 args) w by kernel_rfl)
  | 1 => exact (show (callFunc 69 args).run Tryz.prog w = .ok (.enter 69 args) w by kernel_rfl)
  | 2 => exact (show (callFunc 72 args).run Tryz.prog w = .ok (.enter 72 args) w by kernel_rfl)
  | n + 3 => exact (show (callFunc 75 args).run Tryz.prog w = .ok (.enter 75 args) w by kernel_rfl)

theorem opened0 (mb : Nat) (w : World) : Calls Tryz.prog 67 #[.pointer (some ⟨mb, 0, none⟩), .int .i64 0] w fun e w' => e = .returned (.tuple #[methV 0 mb, .int .i64 0]) ∧ w' = w := by
  go_enter Tryz.func67, Tryz.ntmps67
  go_wp2
  go_ret2
  exact ⟨rfl, rfl⟩
set_option maxRecDepth 100000 in
set_option maxHeartbeats 2000000 in
theorem kopen0 {bs : Nat} {B : Base bs} {w : World} {ba : Nat} {F : Nat → Prop} {R : Raw} (hA : ActIs B w ba F R) (hc : Cov B R) (r : Nat) (hr : r < 16) :
    Calls Tryz.prog 66 #[.pointer (some ⟨ba, 0, none⟩), .int .i64 r] w (OpPost B w ba 0 r F R) := by
  have HN := Lib.hid (bmNew hA hc r hr)
  clear hA
  go_enter Tryz.func66, Tryz.ntmps66
  go_wp2_with fail
  refine HN.out.mono ?_
  rintro e w1 ⟨mb, tb, F', rfl, hm, hlt, _, hF, ho⟩
  have HO := Lib.hid (opened0 mb w1)
  have H := Lib.hid (show OpIs B w1 ba 0 mb r F' R ∧ w.heap.size ≤ mb ∧ (∀ k, k < w.heap.size → F' k → F k) ∧ Off F w w1 from ⟨⟨tb, hm⟩, hlt, hF, ho⟩)
  clear hm hlt hF ho HN
  go_wp2_with fail
  refine HO.out.mono ?_
  rintro e w2 ⟨rfl, rfl⟩
  go_wp2
  go_ret2
  exact ⟨mb, F', rfl, H.out⟩

theorem opened1 (mb : Nat) (w : World) : Calls Tryz.prog 70 #[.pointer (some ⟨mb, 0, none⟩), .int .i64 0] w fun e w' => e = .returned (.tuple #[methV 1 mb, .int .i64 0]) ∧ w' = w := by
  go_enter Tryz.func70, Tryz.ntmps70
  go_wp2
  go_ret2
  exact ⟨rfl, rfl⟩
set_option maxRecDepth 100000 in
set_option maxHeartbeats 2000000 in
theorem kopen1 {bs : Nat} {B : Base bs} {w : World} {ba : Nat} {F : Nat → Prop} {R : Raw} (hA : ActIs B w ba F R) (hc : Cov B R) (r : Nat) (hr : r < 16) :
    Calls Tryz.prog 69 #[.pointer (some ⟨ba, 0, none⟩), .int .i64 r] w (OpPost B w ba 1 r F R) := by
  have HN := Lib.hid (btNew hA hc r hr)
  clear hA
  go_enter Tryz.func69, Tryz.ntmps69
  go_wp2_with fail
  refine HN.out.mono ?_
  rintro e w1 ⟨mb, tb, F', rfl, hm, hlt, _, hF, ho⟩
  have HO := Lib.hid (opened1 mb w1)
  have H := Lib.hid (show OpIs B w1 ba 1 mb r F' R ∧ w.heap.size ≤ mb ∧ (∀ k, k < w.heap.size → F' k → F k) ∧ Off F w w1 from ⟨⟨tb, hm⟩, hlt, hF, ho⟩)
  clear hm hlt hF ho HN
  go_wp2_with fail
  refine HO.out.mono ?_
  rintro e w2 ⟨rfl, rfl⟩
  go_wp2
  go_ret2
  exact ⟨mb, F', rfl, H.out⟩

theorem opened2 (mb : Nat) (w : World) : Calls Tryz.prog 73 #[.pointer (some ⟨mb, 0, none⟩), .int .i64 0] w fun e w' => e = .returned (.tuple #[methV 2 mb, .int .i64 0]) ∧ w' = w := by
  go_enter Tryz.func73, Tryz.ntmps73
  go_wp2
  go_ret2
  exact ⟨rfl, rfl⟩
set_option maxRecDepth 100000 in
set_option maxHeartbeats 2000000 in
theorem kopen2 {bs : Nat} {B : Base bs} {w : World} {ba : Nat} {F : Nat → Prop} {R : Raw} (hA : ActIs B w ba F R) (hc : Cov B R) (r : Nat) (hr : r < 16) :
    Calls Tryz.prog 72 #[.pointer (some ⟨ba, 0, none⟩), .int .i64 r] w (OpPost B w ba 2 r F R) := by
  have HN := Lib.hid (hxNew hA hc r hr)
  clear hA
  go_enter Tryz.func72, Tryz.ntmps72
  go_wp2_with fail
  refine HN.out.mono ?_
  rintro e w1 ⟨mb, F', rfl, hm, hlt, hF, ho⟩
  have HO := Lib.hid (opened2 mb w1)
  have H := Lib.hid (show OpIs B w1 ba 2 mb r F' R ∧ w.heap.size ≤ mb ∧ (∀ k, k < w.heap.size → F' k → F k) ∧ Off F w w1 from ⟨hm, hlt, hF, ho⟩)
  clear hm hlt hF ho HN
  go_wp2_with fail
  refine HO.out.mono ?_
  rintro e w2 ⟨rfl, rfl⟩
  go_wp2
  go_ret2
  exact ⟨mb, F', rfl, H.out⟩

theorem opened3 (mb : Nat) (w : World) : Calls Tryz.prog 76 #[.pointer (some ⟨mb, 0, none⟩), .int .i64 0] w fun e w' => e = .returned (.tuple #[methV 3 mb, .int .i64 0]) ∧ w' = w := by
  go_enter Tryz.func76, Tryz.ntmps76
  go_wp2
  go_ret2
  exact ⟨rfl, rfl⟩
set_option maxRecDepth 100000 in
set_option maxHeartbeats 2000000 in
theorem kopen3 {bs : Nat} {B : Base bs} {w : World} {ba : Nat} {F : Nat → Prop} {R : Raw} (hA : ActIs B w ba F R) (hc : Cov B R) (r : Nat) (hr : r < 16) :
    Calls Tryz.prog 75 #[.pointer (some ⟨ba, 0, none⟩), .int .i64 r] w (OpPost B w ba 3 r F R) := by
  have HN := Lib.hid (ivNew hA hc r hr)
  clear hA
  go_enter Tryz.func75, Tryz.ntmps75
  go_wp2_with fail
  refine HN.out.mono ?_
  rintro e w1 ⟨mb, tb, F', rfl, hm, hlt, _, hF, ho⟩
  have HO := Lib.hid (opened3 mb w1)
  have H := Lib.hid (show OpIs B w1 ba 3 mb r F' R ∧ w.heap.size ≤ mb ∧ (∀ k, k < w.heap.size → F' k → F k) ∧ Off F w w1 from ⟨⟨tb, hm⟩, hlt, hF, ho⟩)
  clear hm hlt hF ho HN
  go_wp2_with fail
  refine HO.out.mono ?_
  rintro e w2 ⟨rfl, rfl⟩
  go_wp2
  go_ret2
  exact ⟨mb, F', rfl, H.out⟩

theorem kopen_any {bs : Nat} {B : Base bs} {w : World} {ba : Nat} {F : Nat → Prop} {R : Raw} (hA : ActIs B w ba F R) (hc : Cov B R) (k : Nat) (hk : k < 4) (r : Nat) (hr : r < 16) :
    Calls Tryz.prog (kopen k) #[.pointer (some ⟨ba, 0, none⟩), .int .i64 r] w (OpPost B w ba k r F R) := by
  match k, hk with
  | 0, _ => exact kopen0 hA hc r hr
  | 1, _ => exact kopen1 hA hc r hr
  | 2, _ => exact kopen2 hA hc r hr
  | 3, _ => exact kopen3 hA hc r hr

set_option maxRecDepth 100000 in
set_option maxHeartbeats 8000000 in
theorem Open_any {bs : Nat} {B : Base bs} {w : World} {gb ba tb : Nat} {F : Nat → Prop} {R : Raw} {L : List KV} (h : CatIs B w gb ba tb F R L) (s : ByteArray) (h5 : ∀ y ∈ L, pre ⟨#[120]⟩ y = true → xOk y ∧ byteN y.v 4 < 16) :
    Calls Tryz.prog 10 #[.pointer (some ⟨gb, 0, none⟩), .string s] w fun e w' => ∃ i, Cut L (xkey s) i ∧
      ((hasX L s i = false ∧ e = .returned (.tuple #[Value.nilIface, .int .i64 3]) ∧ CStep B gb ba tb w F R L w') ∨
       (hasX L s i = true ∧ ∃ mb F', e = .returned (.tuple #[methV (byteN (yv L i).v 0).toNat mb, .int .i64 0]) ∧ OpIs B w' ba (byteN (yv L i).v 0).toNat mb (byteN (yv L i).v 4).toNat F' R ∧ CatIs B w' gb ba tb F' R L ∧ w.heap.size ≤ mb ∧ (∀ k, k < w.heap.size → F' k → F k) ∧ Off F w w')) := by
  have HG := Lib.hid (get_any h s)
  have H := Lib.hid h5
  clear h h5
  go_enter Tryz.func10, Tryz.ntmps10
  go_wp2_with fail
  refine HG.out.mono ?_
  rintro e w1 ⟨i, hcut, rfl, hs1⟩
  have HC := Lib.hid hcut
  have HS := Lib.hid hs1
  unfold getR
  cases hx : nameX s.data.toList with
  | false =>
    have HX := Lib.hid (show hasX L s i = false by unfold hasX; rw [hx]; rfl)
    rw [if_neg (by decide)]
    clear hcut hs1 hx HG
    go_wp2
    go_ret2
    exact ⟨i, HC.out, .inl ⟨HX.out, rfl, HS.out⟩⟩
  | true =>
    rw [if_pos rfl]
    cases hat : isAt L (xkey s) i with
    | false =>
      have HX := Lib.hid (show hasX L s i = false by unfold hasX; rw [hx, hat]; rfl)
      rw [show gotR L (xkey s) i = .tuple #[.string ⟨#[]⟩, .int .i64 3] by unfold gotR; rw [hat]; rfl]
      clear hcut hs1 hx hat HG
      go_wp2
      go_ret2
      exact ⟨i, HC.out, .inl ⟨HX.out, rfl, HS.out⟩⟩
    | true =>
      have HX := Lib.hid (show hasX L s i = true by unfold hasX; rw [hx, hat]; rfl)
      obtain ⟨hi, hkey⟩ := isAt_key hat
      have hyv : yv L i = L[i] := yv_at L i hi
      have hpre := pre_of_key hkey
      have hv5 : xOk (yv L i) ∧ byteN (yv L i).v 4 < 16 := by rw [hyv]; exact H.out _ (List.getElem_mem hi) hpre
      rw [show gotR L (xkey s) i = .tuple #[.string (yv L i).v, .int .i64 0] by unfold gotR; rw [hat]; rfl]
      obtain ⟨F1, hc1, hF1, ho1⟩ := hs1
      obtain ⟨c0, c1⟩ := hc1.cells
      obtain ⟨v, hv⟩ : ∃ v, (yv L i).v = v := ⟨_, rfl⟩
      have hvs : v.size = 5 := by rw [← hv]; exact hv5.1.1
      have hv0 : byteN v 0 < 4 := by rw [← hv]; exact hv5.1.2
      have hv4 : byteN v 4 < 16 := by rw [← hv]; exact hv5.2
      rw [hv]
      obtain ⟨q0, r0, s0⟩ := byteN_of v 0 (by omega)
      obtain ⟨q4, r4, s4⟩ := byteN_of v 4 (by omega)
      have t4 : IntKind.i64.wrap ((v[4]'(by omega)).toNat : Int) = byteN v 4 := by rw [q4, IntKind.wrap_i64]; omega
      obtain ⟨n0, hn0⟩ : ∃ n : Nat, byteN v 0 = n := ⟨(byteN v 0).toNat, by omega⟩
      obtain ⟨n4, hn4⟩ : ∃ n : Nat, byteN v 4 = n := ⟨(byteN v 4).toNat, by omega⟩
      have hk4 : n0 < 4 := by omega
      have hr16 : n4 < 16 := by omega
      have hk4' : (n0 : Int) < 4 := by omega
      have u0 : ((v[0]'(by omega)).toNat : Int) = n0 := by rw [← q0, hn0]
      have u4 : IntKind.i64.wrap ((v[4]'(by omega)).toNat : Int) = n4 := by rw [t4, hn4]
      have HV := Lib.hid (show (byteN (yv L i).v 0).toNat = n0 ∧ (byteN (yv L i).v 4).toNat = n4 by rw [hv, hn0, hn4]; simp)
      have HK := Lib.hid (fun W => kinds_any W)
      have HE := Lib.hid (kopen_enters n0)
      have H1 := Lib.hid (And.intro (hc1.below ((Below.refl _ w1).drew)) (And.intro hF1 (ho1.trans (Off.of_below ((Below.refl _ w1).drew) (F := fun _ => False)) (fun _ _ e => e.elim))))
      have hg1 : (1 : Int) ≤ v.size := by omega
      have hg5 : (4 : Int) < v.size := by omega
      have hg0 : (0 : Int) < v.size := by omega
      have en := HE.out
      clear hcut hx hat HG hkey hyv hpre hc1 hF1 ho1 hv5 hv q0 q4 t4 hv0 hv4 hn0 hn4 r0 s0 r4 s4
      go_wp2
      refine wp_region_noPanic ?_
      refine wp_region_held_drew (S := (fun w' => w'.cell? ⟨gb, 0, none⟩ = some (.pointer (some ⟨ba, 0, none⟩)))) (by kernel_rfl) c0 (fun hS => ?_)
      refine wpAnyH_take (i := 1) (v := ?_) rfl (by kernel_rfl) (by kernel_rfl) (by kernel_rfl) (fun _ _ _ h => h) (Or.inl ⟨by rfl, ?_⟩) hS ?_
      rotate_left
      · intro w9 t0
        go_simp
        try with_reducible rfl
      try simp only [Act.put, List.getElem_toArray, List.getElem_cons_succ, List.getElem_cons_zero, List.setIfInBounds_toArray, List.set_cons_zero, List.set_cons_succ]
      refine wpAnyH_take (i := 2) (v := ?_) rfl (by kernel_rfl) (by kernel_rfl) (by kernel_rfl) (fun _ _ _ h => h) (Or.inl ⟨by rfl, ?_⟩) hS ?_
      rotate_left
      · intro w9 t0
        go_simp
        try with_reducible rfl
      try simp only [Act.put, List.getElem_toArray, List.getElem_cons_succ, List.getElem_cons_zero, List.setIfInBounds_toArray, List.set_cons_zero, List.set_cons_succ]
      refine wpAnyH_take (i := 6) (v := ?_) rfl (by kernel_rfl) (by kernel_rfl) (by kernel_rfl) (fun _ _ _ h => h) (Or.inl ⟨by rfl, ?_⟩) hS ?_
      rotate_left
      · intro w9 t0
        go_simp
        try with_reducible rfl
      try simp only [Act.put, List.getElem_toArray, List.getElem_cons_succ, List.getElem_cons_zero, List.setIfInBounds_toArray, List.set_cons_zero, List.set_cons_succ]
      refine wpAnyH_take (i := 7) (v := ?_) rfl (by kernel_rfl) (by kernel_rfl) (by kernel_rfl) (fun _ _ _ h => h) (Or.inl ⟨by rfl, ?_⟩) hS ?_
      rotate_left
      · intro w9 t0
        go_simp
        try with_reducible rfl
      try simp only [Act.put, List.getElem_toArray, List.getElem_cons_succ, List.getElem_cons_zero, List.setIfInBounds_toArray, List.set_cons_zero, List.set_cons_succ]
      refine wpAnyH_take (i := 8) (v := ?_) rfl (by kernel_rfl) (by kernel_rfl) (by kernel_rfl) (fun _ _ _ h => h) (Or.inl ⟨by rfl, ?_⟩) hS ?_
      rotate_left
      · intro w9 t0
        go_simp
        try with_reducible rfl
      try simp only [Act.put, List.getElem_toArray, List.getElem_cons_succ, List.getElem_cons_zero, List.setIfInBounds_toArray, List.set_cons_zero, List.set_cons_succ]
      refine wpAnyH_take (i := 9) (v := ?_) rfl (by kernel_rfl) (by kernel_rfl) (by kernel_rfl) (fun _ _ _ h => h) (Or.inl ⟨by rfl, ?_⟩) hS ?_
      rotate_left
      · intro w9 t0
        go_simp
        try with_reducible rfl
      try simp only [Act.put, List.getElem_toArray, List.getElem_cons_succ, List.getElem_cons_zero, List.setIfInBounds_toArray, List.set_cons_zero, List.set_cons_succ]
      refine wpAnyH_take (i := 10) (v := ?_) rfl (by kernel_rfl) (by kernel_rfl) (by kernel_rfl) (fun _ _ _ h => h) (Or.inl ⟨by rfl, ?_⟩) hS ?_
      rotate_left
      · intro w9 t0
        go_simp
        try with_reducible rfl
      try simp only [Act.put, List.getElem_toArray, List.getElem_cons_succ, List.getElem_cons_zero, List.setIfInBounds_toArray, List.set_cons_zero, List.set_cons_succ]
      refine wpAnyH_take (i := 11) (v := ?_) rfl (by kernel_rfl) (by kernel_rfl) (by kernel_rfl) (fun _ _ _ h => h) (Or.inl ⟨by rfl, ?_⟩) hS ?_
      rotate_left
      · intro w9 t0
        go_simp
        try with_reducible rfl
      try simp only [Act.put, List.getElem_toArray, List.getElem_cons_succ, List.getElem_cons_zero, List.setIfInBounds_toArray, List.set_cons_zero, List.set_cons_succ]
      refine wpAnyH_take (i := 12) (v := ?_) rfl (by kernel_rfl) (by kernel_rfl) (by kernel_rfl) (fun _ _ _ h => h) (Or.inl ⟨by rfl, ?_⟩) hS ?_
      rotate_left
      · intro w9 t0
        go_simp
        try with_reducible rfl
      try simp only [Act.put, List.getElem_toArray, List.getElem_cons_succ, List.getElem_cons_zero, List.setIfInBounds_toArray, List.set_cons_zero, List.set_cons_succ]
      refine wpAnyH_ready (rs := [0]) (by kernel_rfl) (by simp) ?_
      refine AllReadyH.cons rfl (fun K hK => ?_) AllReadyH.nil
      go_simp
      refine (HK.out _).mono ?_
      rintro e w3 ⟨g, gp, gl, rfl, hka, -, -, -, hb3⟩
      obtain ⟨k0, k1, k2, k3⟩ := hka.cells n0 hk4
      have hc3 := H1.out.1.below hb3
      have c03 := hc3.cells.1
      have HOp := Lib.hid (kopen_any hc3.act hc3.fine.cov n0 hk4 n4 hr16)
      have H3 := Lib.hid (And.intro hc3 (And.intro H1.out.2.1 (H1.out.2.2.trans (Off.of_below hb3 (F := fun _ => False)) (fun _ _ e => e.elim))))
      clear hka hc3 hb3 k0 k1 k2
      obtain ⟨fo, hfo⟩ : ∃ fo, kopen n0 = fo := ⟨_, rfl⟩
      rw [hfo] at k3 en HOp
      refine hK.out _ _ c03 (fun _ => ?_)
      clear hK K
      try simp only [Act.put, List.getElem_toArray, List.getElem_cons_succ, List.getElem_cons_zero, List.setIfInBounds_toArray, List.set_cons_zero, List.set_cons_succ]
      refine wpAnyH_take (i := 3) (v := ?_) rfl (by kernel_rfl) (by kernel_rfl) (by kernel_rfl) (fun _ _ _ h => h) (Or.inl ⟨by rfl, ?_⟩) c03 ?_
      rotate_left
      · intro w9 t0
        go_simp
        try with_reducible rfl
      try simp only [Act.put, List.getElem_toArray, List.getElem_cons_succ, List.getElem_cons_zero, List.setIfInBounds_toArray, List.set_cons_zero, List.set_cons_succ]
      refine wpAnyH_take (i := 4) (v := ?_) rfl (by kernel_rfl) (by kernel_rfl) (by kernel_rfl) (fun _ _ _ h => h) (Or.inl ⟨by rfl, ?_⟩) c03 ?_
      rotate_left
      · intro w9 t0
        go_simp
        try with_reducible rfl
      try simp only [Act.put, List.getElem_toArray, List.getElem_cons_succ, List.getElem_cons_zero, List.setIfInBounds_toArray, List.set_cons_zero, List.set_cons_succ]
      refine wpAnyH_ready (rs := [5]) (by kernel_rfl) (by simp) ?_
      refine AllReadyH.cons rfl (fun K hK => ?_) AllReadyH.nil
      go_simp
      refine hK.out _ _ c03 (fun _ => ?_)
      clear hK K
      try simp only [Act.put, List.getElem_toArray, List.getElem_cons_succ, List.getElem_cons_zero, List.setIfInBounds_toArray, List.set_cons_zero, List.set_cons_succ]
      refine wpAnyH_ready (rs := [13]) (by kernel_rfl) (by simp) ?_
      refine AllReadyH.cons rfl (fun K hK => ?_) AllReadyH.nil
      go_simp
      refine HOp.out.mono ?_
      rintro e w4 ⟨mb, F4, rfl, hop, hlt, hF4, ho4⟩
      have hc4 : CatIs B w4 gb ba tb F4 R L := by
        have hh := H3.out.1
        exact ⟨(ho4.block gb hh.lt.1 hh.gF).trans hh.cat, (ho4.block tb hh.lt.2 hh.tF).trans hh.tree, hop.act, hh.fine, fun e => hh.tF (hF4 _ hh.lt.2 e), fun e => hh.gF (hF4 _ hh.lt.1 e), hh.leaf⟩
      have c04 := hc4.cells.1
      have HF := Lib.hid (show OpIs B w4 ba n0 mb n4 F4 R ∧ CatIs B w4 gb ba tb F4 R L ∧ w.heap.size ≤ mb ∧ (∀ k, k < w.heap.size → F4 k → F k) ∧ Off F w w4 from
        ⟨hop, hc4, Nat.le_trans H3.out.2.2.size hlt, fun k hk e => H3.out.2.1 k hk (hF4 k (Nat.lt_of_lt_of_le hk H3.out.2.2.size) e), H3.out.2.2.trans ho4 (fun k hk e => H3.out.2.1 k hk e)⟩)
      clear hop hlt hF4 ho4 hc4
      refine hK.out _ _ c04 (fun _ => ?_)
      clear hK K
      try simp only [Act.put, List.getElem_toArray, List.getElem_cons_succ, List.getElem_cons_zero, List.setIfInBounds_toArray, List.set_cons_zero, List.set_cons_succ]
      refine wpAnyH_take (i := 14) (v := ?_) rfl (by kernel_rfl) (by kernel_rfl) (by kernel_rfl) (fun _ _ _ h => h) (Or.inl ⟨by rfl, ?_⟩) c04 ?_
      rotate_left
      · intro w9 t0
        go_simp
        try with_reducible rfl
      try simp only [Act.put, List.getElem_toArray, List.getElem_cons_succ, List.getElem_cons_zero, List.setIfInBounds_toArray, List.set_cons_zero, List.set_cons_succ]
      refine wpAnyH_take (i := 15) (v := ?_) rfl (by kernel_rfl) (by kernel_rfl) (by kernel_rfl) (fun _ _ _ h => h) (Or.inl ⟨by rfl, ?_⟩) c04 ?_
      rotate_left
      · intro w9 t0
        go_simp
        try with_reducible rfl
      try simp only [Act.put, List.getElem_toArray, List.getElem_cons_succ, List.getElem_cons_zero, List.setIfInBounds_toArray, List.set_cons_zero, List.set_cons_succ]
      refine wpAnyH_take (i := 16) (v := ?_) rfl (by kernel_rfl) (by kernel_rfl) (by kernel_rfl) (fun _ _ _ h => h) (Or.inl ⟨by rfl, ?_⟩) c04 ?_
      rotate_left
      · intro w9 t0
        go_simp
        try with_reducible rfl
      try simp only [Act.put, List.getElem_toArray, List.getElem_cons_succ, List.getElem_cons_zero, List.setIfInBounds_toArray, List.set_cons_zero, List.set_cons_succ]
      refine wpAnyH_take (i := 17) (v := ?_) rfl (by kernel_rfl) (by kernel_rfl) (by kernel_rfl) (fun _ _ _ h => h) (Or.inl ⟨by rfl, ?_⟩) c04 ?_
      rotate_left
      · intro w9 t0
        go_simp
        try with_reducible rfl
      try simp only [Act.put, List.getElem_toArray, List.getElem_cons_succ, List.getElem_cons_zero, List.setIfInBounds_toArray, List.set_cons_zero, List.set_cons_succ]
      refine wpAnyH_done (by kernel_rfl) ?_ _
      refine NoPanic.normal ?_
      go_wp2
      go_ret2
      exact ⟨i, HC.out, .inr ⟨HX.out, mb, F4, by rw [HV.out.1]; rfl, by rw [HV.out.1, HV.out.2]; exact HF.out⟩⟩
end Go.Proofs.YtiakepcgalmjfaaGreat
