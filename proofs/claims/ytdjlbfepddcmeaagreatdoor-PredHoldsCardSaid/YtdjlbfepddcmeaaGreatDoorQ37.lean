/- PredHolds: the walk. -/
import Derived.Test.YtdjlbfepddcmeaaGreatDoorQ35
set_option linter.unusedVariables false
set_option linter.unusedSimpArgs false
namespace Go.Proofs.YtdjlbfepddcmeaaGreatDoor
open Go.RowKit

set_option maxRecDepth 100000 in
set_option maxHeartbeats 8000000 in
theorem holds_walk (m : Nat) (t : PT) (a : Option Addr) (c : Nat) (pa : Option Addr) (pc : Nat) (ac : Option Addr) (cols : List Co) (cc : Nat) (ca : Option Addr) (cells : List El) (ce : Nat) (w : World)
    (h : AskIs m w t a pa ac cols ca cells) (hG : GlobsM w) (h8 : 8 ≤ w.heap.size) :
    Calls Tryz.prog 3 #[askV t a c pa pc ac cols.length cc ca cells.length ce] w fun e w' => e = .returned (.bool true) ∧ Below w.heap.size w w' := by
  have hb0 : Below w.heap.size w (w.alloc (askO t a c pa pc ac cols.length cc ca cells.length ce)) := by go_grown
  have h1 := h.below hb0
  have HP := Lib.hid (Holds_any cols cells m t a c pa pc ac cc ca ce _ h1.p h1.co h.lc h1.el h.le (hG.below hb0) (by simp; omega))
  have hx := heap_alloc_new w (askO t a c pa pc ac cols.length cc ca cells.length ce)
  have HH := Lib.hid (And.intro h1 (And.intro hx (And.intro hb0 (And.intro h.lc (And.intro h.le hG)))))
  clear h1 hx hb0 h hG
  unfold pv at *
  go_enter Tryz.func3, Tryz.ntmps3
  go_wp2_with fail
  refine HP.out.mono ?_
  rintro e w1 ⟨rfl, hb1⟩
  have hz1 := hb1.size
  simp at hz1
  have hx1 := (hb1.block w.heap.size (by simp)).trans HH.out.2.1
  have hw1 : Below w.heap.size w w1 := HH.out.2.2.1.trans (hb1.mono (by simp))
  have h1 := HH.out.1.below hb1
  have HR := Lib.hid (rHolds_any cols cells m t a c pa pc ac cc ca ce w1 h1.p h1.co HH.out.2.2.2.1 h1.el HH.out.2.2.2.2.1)
  obtain ⟨e0, e1, e2, e3, e4, e5, e6, e7, e8⟩ := ask9 hx1
  have HW1 := Lib.hid (And.intro hw1 (And.intro h1 hx1))
  clear hx1 hw1 h1 hb1
  unfold pv at *
  go_wp2_with fail
  refine HR.out.mono ?_
  rintro e w2 ⟨rfl, hb2⟩
  have hw2 : Below w.heap.size w w2 := HW1.out.1.trans (hb2.mono (by omega))
  have h2 := HW1.out.2.1.below hb2
  have hx2 := (hb2.block w.heap.size (by omega)).trans HW1.out.2.2
  have hq : Below w2.heap.size w2 w2.drew := by go_grown
  have HA2 := Lib.hid (And.intro (hw2.trans (hq.mono hw2.size)) (h2.below hq))
  have hS0 := ask9 hx2
  have HL := Lib.hid (And.intro HH.out.2.2.2.1 (And.intro HH.out.2.2.2.2.1 HH.out.2.2.2.2.2))
  clear hw2 h2 hx2 hb2 hq e0 e1 e2 e3 e4 e5 e6 e7 e8
  generalize holdV cols cells t = V at *
  generalize holdE cols cells t = R at *
  go_wp2
  refine wp_region_noPanic ?_
  refine wp_region_held_drew (S := (fun w' => w'.cell? ⟨w.heap.size, 0, none⟩ = some (.int .i64 t.op) ∧ w'.cell? ⟨w.heap.size, 1, none⟩ = some (.int .i64 t.col) ∧ w'.cell? ⟨w.heap.size, 2, none⟩ = some (.int .i64 t.d.k) ∧ w'.cell? ⟨w.heap.size, 3, none⟩ = some (.int .i64 t.d.n) ∧ w'.cell? ⟨w.heap.size, 4, none⟩ = some (.string t.d.s) ∧ w'.cell? ⟨w.heap.size, 5, none⟩ = some (.slice a t.d.l.length c) ∧ w'.cell? ⟨w.heap.size, 6, none⟩ = some (.slice pa t.parts.length pc) ∧ w'.cell? ⟨w.heap.size, 7, none⟩ = some (.slice ac cols.length cc) ∧ w'.cell? ⟨w.heap.size, 8, none⟩ = some (.slice ca cells.length ce))) (by kernel_rfl) hS0 (fun hS => ?_)
  refine wpAnyH_take (i := 0) (v := ?_) rfl (by kernel_rfl) (by kernel_rfl) (by kernel_rfl) (fun _ _ _ h => h) (Or.inl ⟨by rfl, ?_⟩) hS ?_
  rotate_left
  · rintro w9 ⟨t0, t1, t2, t3, t4, t5, t6, t7, t8⟩
    go_simp
    try with_reducible rfl
  try simp only [Act.put, List.getElem_toArray, List.getElem_cons_succ, List.getElem_cons_zero, List.setIfInBounds_toArray, List.set_cons_zero, List.set_cons_succ]
  refine wpAnyH_take (i := 1) (v := ?_) rfl (by kernel_rfl) (by kernel_rfl) (by kernel_rfl) (fun _ _ _ h => h) (Or.inl ⟨by rfl, ?_⟩) hS ?_
  rotate_left
  · rintro w9 ⟨t0, t1, t2, t3, t4, t5, t6, t7, t8⟩
    go_simp
    try with_reducible rfl
  try simp only [Act.put, List.getElem_toArray, List.getElem_cons_succ, List.getElem_cons_zero, List.setIfInBounds_toArray, List.set_cons_zero, List.set_cons_succ]
  refine wpAnyH_take (i := 2) (v := ?_) rfl (by kernel_rfl) (by kernel_rfl) (by kernel_rfl) (fun _ _ _ h => h) (Or.inl ⟨by rfl, ?_⟩) hS ?_
  rotate_left
  · rintro w9 ⟨t0, t1, t2, t3, t4, t5, t6, t7, t8⟩
    go_simp
    try with_reducible rfl
  try simp only [Act.put, List.getElem_toArray, List.getElem_cons_succ, List.getElem_cons_zero, List.setIfInBounds_toArray, List.set_cons_zero, List.set_cons_succ]
  refine wpAnyH_take (i := 3) (v := ?_) rfl (by kernel_rfl) (by kernel_rfl) (by kernel_rfl) (fun _ _ _ h => h) (Or.inl ⟨by rfl, ?_⟩) hS ?_
  rotate_left
  · rintro w9 ⟨t0, t1, t2, t3, t4, t5, t6, t7, t8⟩
    go_simp
    try with_reducible rfl
  try simp only [Act.put, List.getElem_toArray, List.getElem_cons_succ, List.getElem_cons_zero, List.setIfInBounds_toArray, List.set_cons_zero, List.set_cons_succ]
  refine wpAnyH_take (i := 4) (v := ?_) rfl (by kernel_rfl) (by kernel_rfl) (by kernel_rfl) (fun _ _ _ h => h) (Or.inl ⟨by rfl, ?_⟩) hS ?_
  rotate_left
  · rintro w9 ⟨t0, t1, t2, t3, t4, t5, t6, t7, t8⟩
    go_simp
    try with_reducible rfl
  try simp only [Act.put, List.getElem_toArray, List.getElem_cons_succ, List.getElem_cons_zero, List.setIfInBounds_toArray, List.set_cons_zero, List.set_cons_succ]
  refine wpAnyH_take (i := 5) (v := ?_) rfl (by kernel_rfl) (by kernel_rfl) (by kernel_rfl) (fun _ _ _ h => h) (Or.inl ⟨by rfl, ?_⟩) hS ?_
  rotate_left
  · rintro w9 ⟨t0, t1, t2, t3, t4, t5, t6, t7, t8⟩
    go_simp
    try with_reducible rfl
  try simp only [Act.put, List.getElem_toArray, List.getElem_cons_succ, List.getElem_cons_zero, List.setIfInBounds_toArray, List.set_cons_zero, List.set_cons_succ]
  refine wpAnyH_take (i := 6) (v := ?_) rfl (by kernel_rfl) (by kernel_rfl) (by kernel_rfl) (fun _ _ _ h => h) (Or.inl ⟨by rfl, ?_⟩) hS ?_
  rotate_left
  · rintro w9 ⟨t0, t1, t2, t3, t4, t5, t6, t7, t8⟩
    go_simp
    try with_reducible rfl
  try simp only [Act.put, List.getElem_toArray, List.getElem_cons_succ, List.getElem_cons_zero, List.setIfInBounds_toArray, List.set_cons_zero, List.set_cons_succ]
  refine wpAnyH_take (i := 7) (v := ?_) rfl (by kernel_rfl) (by kernel_rfl) (by kernel_rfl) (fun _ _ _ h => h) (Or.inl ⟨by rfl, ?_⟩) hS ?_
  rotate_left
  · rintro w9 ⟨t0, t1, t2, t3, t4, t5, t6, t7, t8⟩
    go_simp
    try with_reducible rfl
  try simp only [Act.put, List.getElem_toArray, List.getElem_cons_succ, List.getElem_cons_zero, List.setIfInBounds_toArray, List.set_cons_zero, List.set_cons_succ]
  refine wpAnyH_take (i := 8) (v := ?_) rfl (by kernel_rfl) (by kernel_rfl) (by kernel_rfl) (fun _ _ _ h => h) (Or.inl ⟨by rfl, ?_⟩) hS ?_
  rotate_left
  · rintro w9 ⟨t0, t1, t2, t3, t4, t5, t6, t7, t8⟩
    go_simp
    try with_reducible rfl
  try simp only [Act.put, List.getElem_toArray, List.getElem_cons_succ, List.getElem_cons_zero, List.setIfInBounds_toArray, List.set_cons_zero, List.set_cons_succ]
  refine wpAnyH_take (i := 9) (v := ?_) rfl (by kernel_rfl) (by kernel_rfl) (by kernel_rfl) (fun _ _ _ h => h) (Or.inl ⟨by rfl, ?_⟩) hS ?_
  rotate_left
  · rintro w9 ⟨t0, t1, t2, t3, t4, t5, t6, t7, t8⟩
    go_simp
    try with_reducible rfl
  try simp only [Act.put, List.getElem_toArray, List.getElem_cons_succ, List.getElem_cons_zero, List.setIfInBounds_toArray, List.set_cons_zero, List.set_cons_succ]
  refine wpAnyH_take (i := 10) (v := ?_) rfl (by kernel_rfl) (by kernel_rfl) (by kernel_rfl) (fun _ _ _ h => h) (Or.inl ⟨by rfl, ?_⟩) hS ?_
  rotate_left
  · rintro w9 ⟨t0, t1, t2, t3, t4, t5, t6, t7, t8⟩
    go_simp
    try with_reducible rfl
  try simp only [Act.put, List.getElem_toArray, List.getElem_cons_succ, List.getElem_cons_zero, List.setIfInBounds_toArray, List.set_cons_zero, List.set_cons_succ]
  refine wpAnyH_take (i := 12) (v := ?_) rfl (by kernel_rfl) (by kernel_rfl) (by kernel_rfl) (fun _ _ _ h => h) (Or.inl ⟨by rfl, ?_⟩) hS ?_
  rotate_left
  · rintro w9 ⟨t0, t1, t2, t3, t4, t5, t6, t7, t8⟩
    go_simp
    try with_reducible rfl
  try simp only [Act.put, List.getElem_toArray, List.getElem_cons_succ, List.getElem_cons_zero, List.setIfInBounds_toArray, List.set_cons_zero, List.set_cons_succ]
  refine wpAnyH_take (i := 13) (v := ?_) rfl (by kernel_rfl) (by kernel_rfl) (by kernel_rfl) (fun _ _ _ h => h) (Or.inl ⟨by rfl, ?_⟩) hS ?_
  rotate_left
  · rintro w9 ⟨t0, t1, t2, t3, t4, t5, t6, t7, t8⟩
    go_simp
    try with_reducible rfl
  try simp only [Act.put, List.getElem_toArray, List.getElem_cons_succ, List.getElem_cons_zero, List.setIfInBounds_toArray, List.set_cons_zero, List.set_cons_succ]
  refine wpAnyH_ready (rs := [11]) (by kernel_rfl) (by simp) ?_
  refine AllReadyH.cons rfl (fun K hK => ?_) AllReadyH.nil
  go_simp
  refine (columns_any cols ac cc _ HA2.out.2.co HL.out.1).mono ?_
  rintro e w3 ⟨rfl, hb3⟩
  have HA3 := Lib.hid (And.intro (HA2.out.1.trans (hb3.mono HA2.out.1.size)) (HA2.out.2.below hb3))
  have hS3 : (fun w' => w'.cell? ⟨w.heap.size, 0, none⟩ = some (.int .i64 t.op) ∧ w'.cell? ⟨w.heap.size, 1, none⟩ = some (.int .i64 t.col) ∧ w'.cell? ⟨w.heap.size, 2, none⟩ = some (.int .i64 t.d.k) ∧ w'.cell? ⟨w.heap.size, 3, none⟩ = some (.int .i64 t.d.n) ∧ w'.cell? ⟨w.heap.size, 4, none⟩ = some (.string t.d.s) ∧ w'.cell? ⟨w.heap.size, 5, none⟩ = some (.slice a t.d.l.length c) ∧ w'.cell? ⟨w.heap.size, 6, none⟩ = some (.slice pa t.parts.length pc) ∧ w'.cell? ⟨w.heap.size, 7, none⟩ = some (.slice ac cols.length cc) ∧ w'.cell? ⟨w.heap.size, 8, none⟩ = some (.slice ca cells.length ce)) w3 := by
    obtain ⟨t0, t1, t2, t3, t4, t5, t6, t7, t8⟩ := hS
    exact ⟨(hb3.cell (World.block_lt_of_cell? _ _ t0)).trans t0, (hb3.cell (World.block_lt_of_cell? _ _ t1)).trans t1, (hb3.cell (World.block_lt_of_cell? _ _ t2)).trans t2, (hb3.cell (World.block_lt_of_cell? _ _ t3)).trans t3, (hb3.cell (World.block_lt_of_cell? _ _ t4)).trans t4, (hb3.cell (World.block_lt_of_cell? _ _ t5)).trans t5, (hb3.cell (World.block_lt_of_cell? _ _ t6)).trans t6, (hb3.cell (World.block_lt_of_cell? _ _ t7)).trans t7, (hb3.cell (World.block_lt_of_cell? _ _ t8)).trans t8⟩
  refine hK.out _ _ hS3 (fun _ => ?_)
  clear hK K
  try simp only [Act.put, List.getElem_toArray, List.getElem_cons_succ, List.getElem_cons_zero, List.setIfInBounds_toArray, List.set_cons_zero, List.set_cons_succ]
  refine wpAnyH_ready (rs := [14]) (by kernel_rfl) (by simp) ?_
  refine AllReadyH.cons rfl (fun K hK => ?_) AllReadyH.nil
  go_simp
  refine (rcolumns_any cols ac cc _ HA3.out.2.co HL.out.1).mono ?_
  rintro e w4 ⟨rfl, hb4⟩
  have HA4 := Lib.hid (And.intro (HA3.out.1.trans (hb4.mono HA3.out.1.size)) (HA3.out.2.below hb4))
  have hS4 : (fun w' => w'.cell? ⟨w.heap.size, 0, none⟩ = some (.int .i64 t.op) ∧ w'.cell? ⟨w.heap.size, 1, none⟩ = some (.int .i64 t.col) ∧ w'.cell? ⟨w.heap.size, 2, none⟩ = some (.int .i64 t.d.k) ∧ w'.cell? ⟨w.heap.size, 3, none⟩ = some (.int .i64 t.d.n) ∧ w'.cell? ⟨w.heap.size, 4, none⟩ = some (.string t.d.s) ∧ w'.cell? ⟨w.heap.size, 5, none⟩ = some (.slice a t.d.l.length c) ∧ w'.cell? ⟨w.heap.size, 6, none⟩ = some (.slice pa t.parts.length pc) ∧ w'.cell? ⟨w.heap.size, 7, none⟩ = some (.slice ac cols.length cc) ∧ w'.cell? ⟨w.heap.size, 8, none⟩ = some (.slice ca cells.length ce)) w4 := by
    obtain ⟨t0, t1, t2, t3, t4, t5, t6, t7, t8⟩ := hS3
    exact ⟨(hb4.cell (World.block_lt_of_cell? _ _ t0)).trans t0, (hb4.cell (World.block_lt_of_cell? _ _ t1)).trans t1, (hb4.cell (World.block_lt_of_cell? _ _ t2)).trans t2, (hb4.cell (World.block_lt_of_cell? _ _ t3)).trans t3, (hb4.cell (World.block_lt_of_cell? _ _ t4)).trans t4, (hb4.cell (World.block_lt_of_cell? _ _ t5)).trans t5, (hb4.cell (World.block_lt_of_cell? _ _ t6)).trans t6, (hb4.cell (World.block_lt_of_cell? _ _ t7)).trans t7, (hb4.cell (World.block_lt_of_cell? _ _ t8)).trans t8⟩
  refine hK.out _ _ hS4 (fun _ => ?_)
  clear hK K
  try simp only [Act.put, List.getElem_toArray, List.getElem_cons_succ, List.getElem_cons_zero, List.setIfInBounds_toArray, List.set_cons_zero, List.set_cons_succ]
  refine wpAnyH_take (i := 15) (v := ?_) rfl (by kernel_rfl) (by kernel_rfl) (by kernel_rfl) (fun _ _ _ h => h) (Or.inl ⟨by rfl, ?_⟩) hS4 ?_
  rotate_left
  · rintro w9 ⟨t0, t1, t2, t3, t4, t5, t6, t7, t8⟩
    go_simp
    try with_reducible rfl
  try simp only [Act.put, List.getElem_toArray, List.getElem_cons_succ, List.getElem_cons_zero, List.setIfInBounds_toArray, List.set_cons_zero, List.set_cons_succ]
  refine wpAnyH_take (i := 16) (v := ?_) rfl (by kernel_rfl) (by kernel_rfl) (by kernel_rfl) (fun _ _ _ h => h) (Or.inl ⟨by rfl, ?_⟩) hS4 ?_
  rotate_left
  · rintro w9 ⟨t0, t1, t2, t3, t4, t5, t6, t7, t8⟩
    go_simp
    try with_reducible rfl
  try simp only [Act.put, List.getElem_toArray, List.getElem_cons_succ, List.getElem_cons_zero, List.setIfInBounds_toArray, List.set_cons_zero, List.set_cons_succ]
  refine wpAnyH_take (i := 17) (v := ?_) rfl (by kernel_rfl) (by kernel_rfl) (by kernel_rfl) (fun _ _ _ h => h) (Or.inl ⟨by rfl, ?_⟩) hS4 ?_
  rotate_left
  · rintro w9 ⟨t0, t1, t2, t3, t4, t5, t6, t7, t8⟩
    go_simp
    try with_reducible rfl
  try simp only [Act.put, List.getElem_toArray, List.getElem_cons_succ, List.getElem_cons_zero, List.setIfInBounds_toArray, List.set_cons_zero, List.set_cons_succ]
  refine wpAnyH_take (i := 18) (v := ?_) rfl (by kernel_rfl) (by kernel_rfl) (by kernel_rfl) (fun _ _ _ h => h) (Or.inl ⟨by rfl, ?_⟩) hS4 ?_
  rotate_left
  · rintro w9 ⟨t0, t1, t2, t3, t4, t5, t6, t7, t8⟩
    go_simp
    try with_reducible rfl
  try simp only [Act.put, List.getElem_toArray, List.getElem_cons_succ, List.getElem_cons_zero, List.setIfInBounds_toArray, List.set_cons_zero, List.set_cons_succ]
  refine wpAnyH_take (i := 19) (v := ?_) rfl (by kernel_rfl) (by kernel_rfl) (by kernel_rfl) (fun _ _ _ h => h) (Or.inl ⟨by rfl, ?_⟩) hS4 ?_
  rotate_left
  · rintro w9 ⟨t0, t1, t2, t3, t4, t5, t6, t7, t8⟩
    go_simp
    try with_reducible rfl
  try simp only [Act.put, List.getElem_toArray, List.getElem_cons_succ, List.getElem_cons_zero, List.setIfInBounds_toArray, List.set_cons_zero, List.set_cons_succ]
  refine wpAnyH_take (i := 20) (v := ?_) rfl (by kernel_rfl) (by kernel_rfl) (by kernel_rfl) (fun _ _ _ h => h) (Or.inl ⟨by rfl, ?_⟩) hS4 ?_
  rotate_left
  · rintro w9 ⟨t0, t1, t2, t3, t4, t5, t6, t7, t8⟩
    go_simp
    try with_reducible rfl
  try simp only [Act.put, List.getElem_toArray, List.getElem_cons_succ, List.getElem_cons_zero, List.setIfInBounds_toArray, List.set_cons_zero, List.set_cons_succ]
  refine wpAnyH_take (i := 21) (v := ?_) rfl (by kernel_rfl) (by kernel_rfl) (by kernel_rfl) (fun _ _ _ h => h) (Or.inl ⟨by rfl, ?_⟩) hS4 ?_
  rotate_left
  · rintro w9 ⟨t0, t1, t2, t3, t4, t5, t6, t7, t8⟩
    go_simp
    try with_reducible rfl
  try simp only [Act.put, List.getElem_toArray, List.getElem_cons_succ, List.getElem_cons_zero, List.setIfInBounds_toArray, List.set_cons_zero, List.set_cons_succ]
  refine wpAnyH_take (i := 23) (v := ?_) rfl (by kernel_rfl) (by kernel_rfl) (by kernel_rfl) (fun _ _ _ h => h) (Or.inl ⟨by rfl, ?_⟩) hS4 ?_
  rotate_left
  · rintro w9 ⟨t0, t1, t2, t3, t4, t5, t6, t7, t8⟩
    go_simp
    try with_reducible rfl
  try simp only [Act.put, List.getElem_toArray, List.getElem_cons_succ, List.getElem_cons_zero, List.setIfInBounds_toArray, List.set_cons_zero, List.set_cons_succ]
  refine wpAnyH_take (i := 24) (v := ?_) rfl (by kernel_rfl) (by kernel_rfl) (by kernel_rfl) (fun _ _ _ h => h) (Or.inl ⟨by rfl, ?_⟩) hS4 ?_
  rotate_left
  · rintro w9 ⟨t0, t1, t2, t3, t4, t5, t6, t7, t8⟩
    go_simp
    try with_reducible rfl
  try simp only [Act.put, List.getElem_toArray, List.getElem_cons_succ, List.getElem_cons_zero, List.setIfInBounds_toArray, List.set_cons_zero, List.set_cons_succ]
  refine wpAnyH_take (i := 25) (v := ?_) rfl (by kernel_rfl) (by kernel_rfl) (by kernel_rfl) (fun _ _ _ h => h) (Or.inl ⟨by rfl, ?_⟩) hS4 ?_
  rotate_left
  · rintro w9 ⟨t0, t1, t2, t3, t4, t5, t6, t7, t8⟩
    go_simp
    try with_reducible rfl
  try simp only [Act.put, List.getElem_toArray, List.getElem_cons_succ, List.getElem_cons_zero, List.setIfInBounds_toArray, List.set_cons_zero, List.set_cons_succ]
  refine wpAnyH_take (i := 26) (v := ?_) rfl (by kernel_rfl) (by kernel_rfl) (by kernel_rfl) (fun _ _ _ h => h) (Or.inl ⟨by rfl, ?_⟩) hS4 ?_
  rotate_left
  · rintro w9 ⟨t0, t1, t2, t3, t4, t5, t6, t7, t8⟩
    go_simp
    try with_reducible rfl
  try simp only [Act.put, List.getElem_toArray, List.getElem_cons_succ, List.getElem_cons_zero, List.setIfInBounds_toArray, List.set_cons_zero, List.set_cons_succ]
  refine wpAnyH_ready (rs := [22]) (by kernel_rfl) (by simp) ?_
  refine AllReadyH.cons rfl (fun K hK => ?_) AllReadyH.nil
  go_simp
  refine (row_any cols ac cc cells ca ce _ HA4.out.2.co HL.out.1 HA4.out.2.el HL.out.2.1 (HL.out.2.2.belowB HA4.out.1 h8) (by have := HA4.out.1.size; omega)).mono ?_
  rintro e w5 ⟨rfl, hb5⟩
  have HA5 := Lib.hid (And.intro (HA4.out.1.trans (hb5.mono HA4.out.1.size)) (HA4.out.2.below hb5))
  have hS5 : (fun w' => w'.cell? ⟨w.heap.size, 0, none⟩ = some (.int .i64 t.op) ∧ w'.cell? ⟨w.heap.size, 1, none⟩ = some (.int .i64 t.col) ∧ w'.cell? ⟨w.heap.size, 2, none⟩ = some (.int .i64 t.d.k) ∧ w'.cell? ⟨w.heap.size, 3, none⟩ = some (.int .i64 t.d.n) ∧ w'.cell? ⟨w.heap.size, 4, none⟩ = some (.string t.d.s) ∧ w'.cell? ⟨w.heap.size, 5, none⟩ = some (.slice a t.d.l.length c) ∧ w'.cell? ⟨w.heap.size, 6, none⟩ = some (.slice pa t.parts.length pc) ∧ w'.cell? ⟨w.heap.size, 7, none⟩ = some (.slice ac cols.length cc) ∧ w'.cell? ⟨w.heap.size, 8, none⟩ = some (.slice ca cells.length ce)) w5 := by
    obtain ⟨t0, t1, t2, t3, t4, t5, t6, t7, t8⟩ := hS4
    exact ⟨(hb5.cell (World.block_lt_of_cell? _ _ t0)).trans t0, (hb5.cell (World.block_lt_of_cell? _ _ t1)).trans t1, (hb5.cell (World.block_lt_of_cell? _ _ t2)).trans t2, (hb5.cell (World.block_lt_of_cell? _ _ t3)).trans t3, (hb5.cell (World.block_lt_of_cell? _ _ t4)).trans t4, (hb5.cell (World.block_lt_of_cell? _ _ t5)).trans t5, (hb5.cell (World.block_lt_of_cell? _ _ t6)).trans t6, (hb5.cell (World.block_lt_of_cell? _ _ t7)).trans t7, (hb5.cell (World.block_lt_of_cell? _ _ t8)).trans t8⟩
  refine hK.out _ _ hS5 (fun _ => ?_)
  clear hK K
  try simp only [Act.put, List.getElem_toArray, List.getElem_cons_succ, List.getElem_cons_zero, List.setIfInBounds_toArray, List.set_cons_zero, List.set_cons_succ]
  refine wpAnyH_ready (rs := [27]) (by kernel_rfl) (by simp) ?_
  refine AllReadyH.cons rfl (fun K hK => ?_) AllReadyH.nil
  go_simp
  refine (rrow_any cols ac cc cells ca ce _ HA5.out.2.co HL.out.1 HA5.out.2.el HL.out.2.1).mono ?_
  rintro e w6 ⟨rfl, hb6⟩
  have HA6 := Lib.hid (And.intro (HA5.out.1.trans (hb6.mono HA5.out.1.size)) (HA5.out.2.below hb6))
  have hS6 : (fun w' => w'.cell? ⟨w.heap.size, 0, none⟩ = some (.int .i64 t.op) ∧ w'.cell? ⟨w.heap.size, 1, none⟩ = some (.int .i64 t.col) ∧ w'.cell? ⟨w.heap.size, 2, none⟩ = some (.int .i64 t.d.k) ∧ w'.cell? ⟨w.heap.size, 3, none⟩ = some (.int .i64 t.d.n) ∧ w'.cell? ⟨w.heap.size, 4, none⟩ = some (.string t.d.s) ∧ w'.cell? ⟨w.heap.size, 5, none⟩ = some (.slice a t.d.l.length c) ∧ w'.cell? ⟨w.heap.size, 6, none⟩ = some (.slice pa t.parts.length pc) ∧ w'.cell? ⟨w.heap.size, 7, none⟩ = some (.slice ac cols.length cc) ∧ w'.cell? ⟨w.heap.size, 8, none⟩ = some (.slice ca cells.length ce)) w6 := by
    obtain ⟨t0, t1, t2, t3, t4, t5, t6, t7, t8⟩ := hS5
    exact ⟨(hb6.cell (World.block_lt_of_cell? _ _ t0)).trans t0, (hb6.cell (World.block_lt_of_cell? _ _ t1)).trans t1, (hb6.cell (World.block_lt_of_cell? _ _ t2)).trans t2, (hb6.cell (World.block_lt_of_cell? _ _ t3)).trans t3, (hb6.cell (World.block_lt_of_cell? _ _ t4)).trans t4, (hb6.cell (World.block_lt_of_cell? _ _ t5)).trans t5, (hb6.cell (World.block_lt_of_cell? _ _ t6)).trans t6, (hb6.cell (World.block_lt_of_cell? _ _ t7)).trans t7, (hb6.cell (World.block_lt_of_cell? _ _ t8)).trans t8⟩
  refine hK.out _ _ hS6 (fun _ => ?_)
  clear hK K
  try simp only [Act.put, List.getElem_toArray, List.getElem_cons_succ, List.getElem_cons_zero, List.setIfInBounds_toArray, List.set_cons_zero, List.set_cons_succ]
  refine wpAnyH_take (i := 28) (v := ?_) rfl (by kernel_rfl) (by kernel_rfl) (by kernel_rfl) (fun _ _ _ h => h) (Or.inl ⟨by rfl, ?_⟩) hS6 ?_
  rotate_left
  · rintro w9 ⟨t0, t1, t2, t3, t4, t5, t6, t7, t8⟩
    go_simp
    try with_reducible rfl
  try simp only [Act.put, List.getElem_toArray, List.getElem_cons_succ, List.getElem_cons_zero, List.setIfInBounds_toArray, List.set_cons_zero, List.set_cons_succ]
  refine wpAnyH_take (i := 29) (v := ?_) rfl (by kernel_rfl) (by kernel_rfl) (by kernel_rfl) (fun _ _ _ h => h) (Or.inl ⟨by rfl, ?_⟩) hS6 ?_
  rotate_left
  · rintro w9 ⟨t0, t1, t2, t3, t4, t5, t6, t7, t8⟩
    go_simp
    try with_reducible rfl
  try simp only [Act.put, List.getElem_toArray, List.getElem_cons_succ, List.getElem_cons_zero, List.setIfInBounds_toArray, List.set_cons_zero, List.set_cons_succ]
  refine wpAnyH_take (i := 30) (v := ?_) rfl (by kernel_rfl) (by kernel_rfl) (by kernel_rfl) (fun _ _ _ h => h) (Or.inl ⟨by rfl, ?_⟩) hS6 ?_
  rotate_left
  · rintro w9 ⟨t0, t1, t2, t3, t4, t5, t6, t7, t8⟩
    go_simp
    try with_reducible rfl
  try simp only [Act.put, List.getElem_toArray, List.getElem_cons_succ, List.getElem_cons_zero, List.setIfInBounds_toArray, List.set_cons_zero, List.set_cons_succ]
  refine wpAnyH_take (i := 31) (v := ?_) rfl (by kernel_rfl) (by kernel_rfl) (by kernel_rfl) (fun _ _ _ h => h) (Or.inl ⟨by rfl, ?_⟩) hS6 ?_
  rotate_left
  · rintro w9 ⟨t0, t1, t2, t3, t4, t5, t6, t7, t8⟩
    go_simp
    try with_reducible rfl
  try simp only [Act.put, List.getElem_toArray, List.getElem_cons_succ, List.getElem_cons_zero, List.setIfInBounds_toArray, List.set_cons_zero, List.set_cons_succ]
  refine wpAnyH_take (i := 32) (v := ?_) rfl (by kernel_rfl) (by kernel_rfl) (by kernel_rfl) (fun _ _ _ h => h) (Or.inl ⟨by rfl, ?_⟩) hS6 ?_
  rotate_left
  · rintro w9 ⟨t0, t1, t2, t3, t4, t5, t6, t7, t8⟩
    go_simp
    try with_reducible rfl
  try simp only [Act.put, List.getElem_toArray, List.getElem_cons_succ, List.getElem_cons_zero, List.setIfInBounds_toArray, List.set_cons_zero, List.set_cons_succ]
  refine wpAnyH_take (i := 33) (v := ?_) rfl (by kernel_rfl) (by kernel_rfl) (by kernel_rfl) (fun _ _ _ h => h) (Or.inl ⟨by rfl, ?_⟩) hS6 ?_
  rotate_left
  · rintro w9 ⟨t0, t1, t2, t3, t4, t5, t6, t7, t8⟩
    go_simp
    try with_reducible rfl
  try simp only [Act.put, List.getElem_toArray, List.getElem_cons_succ, List.getElem_cons_zero, List.setIfInBounds_toArray, List.set_cons_zero, List.set_cons_succ]
  refine wpAnyH_take (i := 34) (v := ?_) rfl (by kernel_rfl) (by kernel_rfl) (by kernel_rfl) (fun _ _ _ h => h) (Or.inl ⟨by rfl, ?_⟩) hS6 ?_
  rotate_left
  · rintro w9 ⟨t0, t1, t2, t3, t4, t5, t6, t7, t8⟩
    go_simp
    try with_reducible rfl
  try simp only [Act.put, List.getElem_toArray, List.getElem_cons_succ, List.getElem_cons_zero, List.setIfInBounds_toArray, List.set_cons_zero, List.set_cons_succ]
  refine wpAnyH_take (i := 36) (v := ?_) rfl (by kernel_rfl) (by kernel_rfl) (by kernel_rfl) (fun _ _ _ h => h) (Or.inl ⟨by rfl, ?_⟩) hS6 ?_
  rotate_left
  · rintro w9 ⟨t0, t1, t2, t3, t4, t5, t6, t7, t8⟩
    go_simp
    try with_reducible rfl
  try simp only [Act.put, List.getElem_toArray, List.getElem_cons_succ, List.getElem_cons_zero, List.setIfInBounds_toArray, List.set_cons_zero, List.set_cons_succ]
  refine wpAnyH_take (i := 37) (v := ?_) rfl (by kernel_rfl) (by kernel_rfl) (by kernel_rfl) (fun _ _ _ h => h) (Or.inl ⟨by rfl, ?_⟩) hS6 ?_
  rotate_left
  · rintro w9 ⟨t0, t1, t2, t3, t4, t5, t6, t7, t8⟩
    go_simp
    try with_reducible rfl
  try simp only [Act.put, List.getElem_toArray, List.getElem_cons_succ, List.getElem_cons_zero, List.setIfInBounds_toArray, List.set_cons_zero, List.set_cons_succ]
  refine wpAnyH_take (i := 38) (v := ?_) rfl (by kernel_rfl) (by kernel_rfl) (by kernel_rfl) (fun _ _ _ h => h) (Or.inl ⟨by rfl, ?_⟩) hS6 ?_
  rotate_left
  · rintro w9 ⟨t0, t1, t2, t3, t4, t5, t6, t7, t8⟩
    go_simp
    try with_reducible rfl
  try simp only [Act.put, List.getElem_toArray, List.getElem_cons_succ, List.getElem_cons_zero, List.setIfInBounds_toArray, List.set_cons_zero, List.set_cons_succ]
  refine wpAnyH_take (i := 39) (v := ?_) rfl (by kernel_rfl) (by kernel_rfl) (by kernel_rfl) (fun _ _ _ h => h) (Or.inl ⟨by rfl, ?_⟩) hS6 ?_
  rotate_left
  · rintro w9 ⟨t0, t1, t2, t3, t4, t5, t6, t7, t8⟩
    go_simp
    try with_reducible rfl
  try simp only [Act.put, List.getElem_toArray, List.getElem_cons_succ, List.getElem_cons_zero, List.setIfInBounds_toArray, List.set_cons_zero, List.set_cons_succ]
  refine wpAnyH_ready (rs := [35]) (by kernel_rfl) (by simp) ?_
  refine AllReadyH.cons rfl (fun K hK => ?_) AllReadyH.nil
  go_simp
  refine (checkp_any cols m t a c pa pc ac cc _ HA6.out.2.p HA6.out.2.co HL.out.1).mono ?_
  rintro e w7 ⟨rfl, hb7⟩
  have HA7 := Lib.hid (And.intro (HA6.out.1.trans (hb7.mono HA6.out.1.size)) (HA6.out.2.below hb7))
  have hS7 : (fun w' => w'.cell? ⟨w.heap.size, 0, none⟩ = some (.int .i64 t.op) ∧ w'.cell? ⟨w.heap.size, 1, none⟩ = some (.int .i64 t.col) ∧ w'.cell? ⟨w.heap.size, 2, none⟩ = some (.int .i64 t.d.k) ∧ w'.cell? ⟨w.heap.size, 3, none⟩ = some (.int .i64 t.d.n) ∧ w'.cell? ⟨w.heap.size, 4, none⟩ = some (.string t.d.s) ∧ w'.cell? ⟨w.heap.size, 5, none⟩ = some (.slice a t.d.l.length c) ∧ w'.cell? ⟨w.heap.size, 6, none⟩ = some (.slice pa t.parts.length pc) ∧ w'.cell? ⟨w.heap.size, 7, none⟩ = some (.slice ac cols.length cc) ∧ w'.cell? ⟨w.heap.size, 8, none⟩ = some (.slice ca cells.length ce)) w7 := by
    obtain ⟨t0, t1, t2, t3, t4, t5, t6, t7, t8⟩ := hS6
    exact ⟨(hb7.cell (World.block_lt_of_cell? _ _ t0)).trans t0, (hb7.cell (World.block_lt_of_cell? _ _ t1)).trans t1, (hb7.cell (World.block_lt_of_cell? _ _ t2)).trans t2, (hb7.cell (World.block_lt_of_cell? _ _ t3)).trans t3, (hb7.cell (World.block_lt_of_cell? _ _ t4)).trans t4, (hb7.cell (World.block_lt_of_cell? _ _ t5)).trans t5, (hb7.cell (World.block_lt_of_cell? _ _ t6)).trans t6, (hb7.cell (World.block_lt_of_cell? _ _ t7)).trans t7, (hb7.cell (World.block_lt_of_cell? _ _ t8)).trans t8⟩
  refine hK.out _ _ hS7 (fun _ => ?_)
  clear hK K
  try simp only [Act.put, List.getElem_toArray, List.getElem_cons_succ, List.getElem_cons_zero, List.setIfInBounds_toArray, List.set_cons_zero, List.set_cons_succ]
  refine wpAnyH_ready (rs := [40]) (by kernel_rfl) (by simp) ?_
  refine AllReadyH.cons rfl (fun K hK => ?_) AllReadyH.nil
  go_simp
  refine (rcheckp_any cols m t a c pa pc ac cc _ HA7.out.2.p HA7.out.2.co HL.out.1).mono ?_
  rintro e w8 ⟨rfl, hb8⟩
  have HA8 := Lib.hid (HA7.out.1.trans (hb8.mono HA7.out.1.size))
  have hS8 : (fun w' => w'.cell? ⟨w.heap.size, 0, none⟩ = some (.int .i64 t.op) ∧ w'.cell? ⟨w.heap.size, 1, none⟩ = some (.int .i64 t.col) ∧ w'.cell? ⟨w.heap.size, 2, none⟩ = some (.int .i64 t.d.k) ∧ w'.cell? ⟨w.heap.size, 3, none⟩ = some (.int .i64 t.d.n) ∧ w'.cell? ⟨w.heap.size, 4, none⟩ = some (.string t.d.s) ∧ w'.cell? ⟨w.heap.size, 5, none⟩ = some (.slice a t.d.l.length c) ∧ w'.cell? ⟨w.heap.size, 6, none⟩ = some (.slice pa t.parts.length pc) ∧ w'.cell? ⟨w.heap.size, 7, none⟩ = some (.slice ac cols.length cc) ∧ w'.cell? ⟨w.heap.size, 8, none⟩ = some (.slice ca cells.length ce)) w8 := by
    obtain ⟨t0, t1, t2, t3, t4, t5, t6, t7, t8⟩ := hS7
    exact ⟨(hb8.cell (World.block_lt_of_cell? _ _ t0)).trans t0, (hb8.cell (World.block_lt_of_cell? _ _ t1)).trans t1, (hb8.cell (World.block_lt_of_cell? _ _ t2)).trans t2, (hb8.cell (World.block_lt_of_cell? _ _ t3)).trans t3, (hb8.cell (World.block_lt_of_cell? _ _ t4)).trans t4, (hb8.cell (World.block_lt_of_cell? _ _ t5)).trans t5, (hb8.cell (World.block_lt_of_cell? _ _ t6)).trans t6, (hb8.cell (World.block_lt_of_cell? _ _ t7)).trans t7, (hb8.cell (World.block_lt_of_cell? _ _ t8)).trans t8⟩
  refine hK.out _ _ hS8 (fun _ => ?_)
  clear hK K
  try simp only [Act.put, List.getElem_toArray, List.getElem_cons_succ, List.getElem_cons_zero, List.setIfInBounds_toArray, List.set_cons_zero, List.set_cons_succ]
  refine wpAnyH_take (i := 41) (v := ?_) rfl (by kernel_rfl) (by kernel_rfl) (by kernel_rfl) (fun _ _ _ h => h) (Or.inl ⟨by rfl, ?_⟩) hS8 ?_
  rotate_left
  · rintro w9 ⟨t0, t1, t2, t3, t4, t5, t6, t7, t8⟩
    go_simp
    try with_reducible rfl
  try simp only [Act.put, List.getElem_toArray, List.getElem_cons_succ, List.getElem_cons_zero, List.setIfInBounds_toArray, List.set_cons_zero, List.set_cons_succ]
  refine wpAnyH_take (i := 42) (v := ?_) rfl (by kernel_rfl) (by kernel_rfl) (by kernel_rfl) (fun _ _ _ h => h) (Or.inl ⟨by rfl, ?_⟩) hS8 ?_
  rotate_left
  · rintro w9 ⟨t0, t1, t2, t3, t4, t5, t6, t7, t8⟩
    go_simp
    try with_reducible rfl
  try simp only [Act.put, List.getElem_toArray, List.getElem_cons_succ, List.getElem_cons_zero, List.setIfInBounds_toArray, List.set_cons_zero, List.set_cons_succ]
  refine wpAnyH_take (i := 43) (v := ?_) rfl (by kernel_rfl) (by kernel_rfl) (by kernel_rfl) (fun _ _ _ h => h) (Or.inl ⟨by rfl, ?_⟩) hS8 ?_
  rotate_left
  · rintro w9 ⟨t0, t1, t2, t3, t4, t5, t6, t7, t8⟩
    go_simp
    try with_reducible rfl
  try simp only [Act.put, List.getElem_toArray, List.getElem_cons_succ, List.getElem_cons_zero, List.setIfInBounds_toArray, List.set_cons_zero, List.set_cons_succ]
  refine wpAnyH_ready (rs := [44]) (by kernel_rfl) (by simp) ?_
  refine AllReadyH.cons rfl (fun K hK => ?_) AllReadyH.nil
  go_simp
  refine (awake_any w8 (HL.out.2.2.belowB HA8.out h8) (by have := HA8.out.size; omega)).mono ?_
  rintro e w9 ⟨rfl, hb9⟩
  have HA9 := Lib.hid (HA8.out.trans (hb9.mono HA8.out.size))
  have hS9 : (fun w' => w'.cell? ⟨w.heap.size, 0, none⟩ = some (.int .i64 t.op) ∧ w'.cell? ⟨w.heap.size, 1, none⟩ = some (.int .i64 t.col) ∧ w'.cell? ⟨w.heap.size, 2, none⟩ = some (.int .i64 t.d.k) ∧ w'.cell? ⟨w.heap.size, 3, none⟩ = some (.int .i64 t.d.n) ∧ w'.cell? ⟨w.heap.size, 4, none⟩ = some (.string t.d.s) ∧ w'.cell? ⟨w.heap.size, 5, none⟩ = some (.slice a t.d.l.length c) ∧ w'.cell? ⟨w.heap.size, 6, none⟩ = some (.slice pa t.parts.length pc) ∧ w'.cell? ⟨w.heap.size, 7, none⟩ = some (.slice ac cols.length cc) ∧ w'.cell? ⟨w.heap.size, 8, none⟩ = some (.slice ca cells.length ce)) w9 := by
    obtain ⟨t0, t1, t2, t3, t4, t5, t6, t7, t8⟩ := hS8
    exact ⟨(hb9.cell (World.block_lt_of_cell? _ _ t0)).trans t0, (hb9.cell (World.block_lt_of_cell? _ _ t1)).trans t1, (hb9.cell (World.block_lt_of_cell? _ _ t2)).trans t2, (hb9.cell (World.block_lt_of_cell? _ _ t3)).trans t3, (hb9.cell (World.block_lt_of_cell? _ _ t4)).trans t4, (hb9.cell (World.block_lt_of_cell? _ _ t5)).trans t5, (hb9.cell (World.block_lt_of_cell? _ _ t6)).trans t6, (hb9.cell (World.block_lt_of_cell? _ _ t7)).trans t7, (hb9.cell (World.block_lt_of_cell? _ _ t8)).trans t8⟩
  refine hK.out _ _ hS9 (fun _ => ?_)
  clear hK K
  try simp only [Act.put, List.getElem_toArray, List.getElem_cons_succ, List.getElem_cons_zero, List.setIfInBounds_toArray, List.set_cons_zero, List.set_cons_succ]
  refine wpAnyH_take (i := 45) (v := ?_) rfl (by kernel_rfl) (by kernel_rfl) (by kernel_rfl) (fun _ _ _ h => h) (Or.inl ⟨by rfl, ?_⟩) hS9 ?_
  rotate_left
  · rintro w9 ⟨t0, t1, t2, t3, t4, t5, t6, t7, t8⟩
    go_simp
    try with_reducible rfl
  try simp only [Act.put, List.getElem_toArray, List.getElem_cons_succ, List.getElem_cons_zero, List.setIfInBounds_toArray, List.set_cons_zero, List.set_cons_succ]
  refine wpAnyH_take (i := 46) (v := ?_) rfl (by kernel_rfl) (by kernel_rfl) (by kernel_rfl) (fun _ _ _ h => h) (Or.inl ⟨by rfl, ?_⟩) hS9 ?_
  rotate_left
  · rintro w9 ⟨t0, t1, t2, t3, t4, t5, t6, t7, t8⟩
    go_simp
    try with_reducible rfl
  try simp only [Act.put, List.getElem_toArray, List.getElem_cons_succ, List.getElem_cons_zero, List.setIfInBounds_toArray, List.set_cons_zero, List.set_cons_succ]
  refine wpAnyH_done (by kernel_rfl) ?_ _
  refine NoPanic.normal ?_
  go_wp2
  go_ret
  exact ⟨rfl, HA9.out⟩
end Go.Proofs.YtdjlbfepddcmeaaGreatDoor
