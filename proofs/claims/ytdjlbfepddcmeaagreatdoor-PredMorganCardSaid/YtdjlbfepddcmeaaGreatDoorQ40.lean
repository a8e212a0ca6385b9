/- PredMorgan: the walk. -/
import Derived.Test.YtdjlbfepddcmeaaGreatDoorQ39
set_option linter.unusedVariables false
set_option linter.unusedSimpArgs false
namespace Go.Proofs.YtdjlbfepddcmeaaGreatDoor
open Go.RowKit

theorem AskIs.up {m k : Nat} {w : World} {t : PT} {a pa : Option Addr} {ac : Option Addr} {cols : List Co} {ca : Option Addr} {cells : List El} (h : AskIs m w t a pa ac cols ca cells) (hk : m ≤ k) : AskIs k w t a pa ac cols ca cells := ⟨h.p.upTo hk, h.co, h.el, h.lc, h.le⟩

set_option maxRecDepth 100000 in
set_option maxHeartbeats 16000000 in
theorem morgan_walk (m : Nat) (t : PT) (a : Option Addr) (c : Nat) (pa : Option Addr) (pc : Nat) (ac : Option Addr) (cols : List Co) (cc : Nat) (ca : Option Addr) (cells : List El) (ce : Nat) (m' : Nat) (q : PT) (a' : Option Addr) (c' : Nat) (pa' : Option Addr) (pc' : Nat) (w : World)
    (h : AskIs m w t a pa ac cols ca cells) (hq : PredIs m' w q a' pa') (hG : GlobsM w) (h8 : 8 ≤ w.heap.size) :
    Calls Tryz.prog 8 #[askV t a c pa pc ac cols.length cc ca cells.length ce, pv q a' c' pa' pc'] w fun e w' => e = .returned (.bool true) ∧ Below w.heap.size w w' := by
  obtain ⟨M, h, hq⟩ : ∃ M, AskIs M w t a pa ac cols ca cells ∧ PredIs M w q a' pa' := ⟨max m m', h.up (Nat.le_max_left _ _), hq.upTo (Nat.le_max_right _ _)⟩
  have hb0 : Below w.heap.size w ((w.alloc (askO t a c pa pc ac cols.length cc ca cells.length ce)).alloc (pbox q a' c' pa' pc')).drew := (by go_grown : Below w.heap.size w ((w.alloc (askO t a c pa pc ac cols.length cc ca cells.length ce)).alloc (pbox q a' c' pa' pc'))).drew
  have hx1 : ((w.alloc (askO t a c pa pc ac cols.length cc ca cells.length ce)).alloc (pbox q a' c' pa' pc')).heap[w.heap.size]? = some (askO t a c pa pc ac cols.length cc ca cells.length ce) := (Below.heap_alloc _ _ w.heap.size (by simp)).trans (heap_alloc_new w _)
  have hx2 : ((w.alloc (askO t a c pa pc ac cols.length cc ca cells.length ce)).alloc (pbox q a' c' pa' pc')).heap[w.heap.size + 1]? = some (pbox q a' c' pa' pc') := by
    have := heap_alloc_new (w.alloc (askO t a c pa pc ac cols.length cc ca cells.length ce)) (pbox q a' c' pa' pc')
    simpa using this
  obtain ⟨e0, e1, e2, e3, e4, e5, e6, e7, e8⟩ := ask9 hx1
  obtain ⟨⟨f0, f1, f2, f3, f4, f5, f6⟩, -⟩ := pbox7 hx2
  have hS0 := And.intro e0 (And.intro e1 (And.intro e2 (And.intro e3 (And.intro e4 (And.intro e5 (And.intro e6 (And.intro e7 (And.intro e8 (And.intro f0 (And.intro f1 (And.intro f2 (And.intro f3 (And.intro f4 (And.intro f5 f6))))))))))))))
  have HA0 := Lib.hid (And.intro hb0 (And.intro (h.below hb0) (hq.below hb0)))
  have HL := Lib.hid (And.intro h.lc (And.intro h.le hG))
  have HM := Lib.hid (morgan cols cells t q)
  clear e0 e1 e2 e3 e4 e5 e6 e7 e8 f0 f1 f2 f3 f4 f5 f6 hx1 hx2 hb0 h hq hG
  unfold pbox pv at *
  go_enter Tryz.func8, Tryz.ntmps8
  go_wp2
  refine wp_region_noPanic ?_
  refine wp_region_held_drew (S := (fun w' => w'.cell? ⟨w.heap.size, 0, none⟩ = some (.int .i64 t.op) ∧ w'.cell? ⟨w.heap.size, 1, none⟩ = some (.int .i64 t.col) ∧ w'.cell? ⟨w.heap.size, 2, none⟩ = some (.int .i64 t.d.k) ∧ w'.cell? ⟨w.heap.size, 3, none⟩ = some (.int .i64 t.d.n) ∧ w'.cell? ⟨w.heap.size, 4, none⟩ = some (.string t.d.s) ∧ w'.cell? ⟨w.heap.size, 5, none⟩ = some (.slice a t.d.l.length c) ∧ w'.cell? ⟨w.heap.size, 6, none⟩ = some (.slice pa t.parts.length pc) ∧ w'.cell? ⟨w.heap.size, 7, none⟩ = some (.slice ac cols.length cc) ∧ w'.cell? ⟨w.heap.size, 8, none⟩ = some (.slice ca cells.length ce) ∧ w'.cell? ⟨w.heap.size + 1, 0, none⟩ = some (.int .i64 q.op) ∧ w'.cell? ⟨w.heap.size + 1, 1, none⟩ = some (.int .i64 q.col) ∧ w'.cell? ⟨w.heap.size + 1, 2, none⟩ = some (.int .i64 q.d.k) ∧ w'.cell? ⟨w.heap.size + 1, 3, none⟩ = some (.int .i64 q.d.n) ∧ w'.cell? ⟨w.heap.size + 1, 4, none⟩ = some (.string q.d.s) ∧ w'.cell? ⟨w.heap.size + 1, 5, none⟩ = some (.slice a' q.d.l.length c') ∧ w'.cell? ⟨w.heap.size + 1, 6, none⟩ = some (.slice pa' q.parts.length pc'))) (by kernel_rfl) hS0 (fun hS => ?_)
  refine wpAnyH_take (i := 0) (v := ?_) rfl (by kernel_rfl) (by kernel_rfl) (by kernel_rfl) (fun _ _ _ h => h) (Or.inl ⟨by rfl, ?_⟩) hS ?_
  rotate_left
  · rintro w9 ⟨t0, t1, t2, t3, t4, t5, t6, t7, t8, t9, t10, t11, t12, t13, t14, t15⟩
    go_simp
    try with_reducible rfl
  try simp only [Act.put, List.getElem_toArray, List.getElem_cons_succ, List.getElem_cons_zero, List.setIfInBounds_toArray, List.set_cons_zero, List.set_cons_succ]
  refine wpAnyH_take (i := 1) (v := ?_) rfl (by kernel_rfl) (by kernel_rfl) (by kernel_rfl) (fun _ _ _ h => h) (Or.inl ⟨by rfl, ?_⟩) hS ?_
  rotate_left
  · rintro w9 ⟨t0, t1, t2, t3, t4, t5, t6, t7, t8, t9, t10, t11, t12, t13, t14, t15⟩
    go_simp
    try with_reducible rfl
  try simp only [Act.put, List.getElem_toArray, List.getElem_cons_succ, List.getElem_cons_zero, List.setIfInBounds_toArray, List.set_cons_zero, List.set_cons_succ]
  refine wpAnyH_take (i := 2) (v := ?_) rfl (by kernel_rfl) (by kernel_rfl) (by kernel_rfl) (fun _ _ _ h => h) (Or.inl ⟨by rfl, ?_⟩) hS ?_
  rotate_left
  · rintro w9 ⟨t0, t1, t2, t3, t4, t5, t6, t7, t8, t9, t10, t11, t12, t13, t14, t15⟩
    go_simp
    try with_reducible rfl
  try simp only [Act.put, List.getElem_toArray, List.getElem_cons_succ, List.getElem_cons_zero, List.setIfInBounds_toArray, List.set_cons_zero, List.set_cons_succ]
  refine wpAnyH_take (i := 3) (v := ?_) rfl (by kernel_rfl) (by kernel_rfl) (by kernel_rfl) (fun _ _ _ h => h) (Or.inl ⟨by rfl, ?_⟩) hS ?_
  rotate_left
  · rintro w9 ⟨t0, t1, t2, t3, t4, t5, t6, t7, t8, t9, t10, t11, t12, t13, t14, t15⟩
    go_simp
    try with_reducible rfl
  try simp only [Act.put, List.getElem_toArray, List.getElem_cons_succ, List.getElem_cons_zero, List.setIfInBounds_toArray, List.set_cons_zero, List.set_cons_succ]
  refine wpAnyH_take (i := 4) (v := ?_) rfl (by kernel_rfl) (by kernel_rfl) (by kernel_rfl) (fun _ _ _ h => h) (Or.inl ⟨by rfl, ?_⟩) hS ?_
  rotate_left
  · rintro w9 ⟨t0, t1, t2, t3, t4, t5, t6, t7, t8, t9, t10, t11, t12, t13, t14, t15⟩
    go_simp
    try with_reducible rfl
  try simp only [Act.put, List.getElem_toArray, List.getElem_cons_succ, List.getElem_cons_zero, List.setIfInBounds_toArray, List.set_cons_zero, List.set_cons_succ]
  refine wpAnyH_take (i := 7) (v := ?_) rfl (by kernel_rfl) (by kernel_rfl) (by kernel_rfl) (fun _ _ _ h => h) (Or.inl ⟨by rfl, ?_⟩) hS ?_
  rotate_left
  · rintro w9 ⟨t0, t1, t2, t3, t4, t5, t6, t7, t8, t9, t10, t11, t12, t13, t14, t15⟩
    go_simp
    try with_reducible rfl
  try simp only [Act.put, List.getElem_toArray, List.getElem_cons_succ, List.getElem_cons_zero, List.setIfInBounds_toArray, List.set_cons_zero, List.set_cons_succ]
  refine wpAnyH_take (i := 8) (v := ?_) rfl (by kernel_rfl) (by kernel_rfl) (by kernel_rfl) (fun _ _ _ h => h) (Or.inl ⟨by rfl, ?_⟩) hS ?_
  rotate_left
  · rintro w9 ⟨t0, t1, t2, t3, t4, t5, t6, t7, t8, t9, t10, t11, t12, t13, t14, t15⟩
    go_simp
    try with_reducible rfl
  try simp only [Act.put, List.getElem_toArray, List.getElem_cons_succ, List.getElem_cons_zero, List.setIfInBounds_toArray, List.set_cons_zero, List.set_cons_succ]
  refine wpAnyH_take (i := 9) (v := ?_) rfl (by kernel_rfl) (by kernel_rfl) (by kernel_rfl) (fun _ _ _ h => h) (Or.inl ⟨by rfl, ?_⟩) hS ?_
  rotate_left
  · rintro w9 ⟨t0, t1, t2, t3, t4, t5, t6, t7, t8, t9, t10, t11, t12, t13, t14, t15⟩
    go_simp
    try with_reducible rfl
  try simp only [Act.put, List.getElem_toArray, List.getElem_cons_succ, List.getElem_cons_zero, List.setIfInBounds_toArray, List.set_cons_zero, List.set_cons_succ]
  refine wpAnyH_take (i := 10) (v := ?_) rfl (by kernel_rfl) (by kernel_rfl) (by kernel_rfl) (fun _ _ _ h => h) (Or.inl ⟨by rfl, ?_⟩) hS ?_
  rotate_left
  · rintro w9 ⟨t0, t1, t2, t3, t4, t5, t6, t7, t8, t9, t10, t11, t12, t13, t14, t15⟩
    go_simp
    try with_reducible rfl
  try simp only [Act.put, List.getElem_toArray, List.getElem_cons_succ, List.getElem_cons_zero, List.setIfInBounds_toArray, List.set_cons_zero, List.set_cons_succ]
  refine wpAnyH_ready (rs := [5]) (by kernel_rfl) (by simp) ?_
  refine AllReadyH.cons rfl (fun K hK => ?_) AllReadyH.nil
  go_simp
  refine (two_fn M 7 ⟨by omega, by omega⟩ t a c pa pc q a' c' pa' pc' _ HA0.out.2.1.p HA0.out.2.2).mono ?_
  rintro e v1 ⟨g1, rfl, hp1, hb1⟩
  have HA1 := Lib.hid (And.intro (HA0.out.1.trans (hb1.mono HA0.out.1.size)) (And.intro (HA0.out.2.1.below hb1) (HA0.out.2.2.below hb1)))
  have HP1 := Lib.hid hp1
  clear hp1
  have hS1 : (fun w' => w'.cell? ⟨w.heap.size, 0, none⟩ = some (.int .i64 t.op) ∧ w'.cell? ⟨w.heap.size, 1, none⟩ = some (.int .i64 t.col) ∧ w'.cell? ⟨w.heap.size, 2, none⟩ = some (.int .i64 t.d.k) ∧ w'.cell? ⟨w.heap.size, 3, none⟩ = some (.int .i64 t.d.n) ∧ w'.cell? ⟨w.heap.size, 4, none⟩ = some (.string t.d.s) ∧ w'.cell? ⟨w.heap.size, 5, none⟩ = some (.slice a t.d.l.length c) ∧ w'.cell? ⟨w.heap.size, 6, none⟩ = some (.slice pa t.parts.length pc) ∧ w'.cell? ⟨w.heap.size, 7, none⟩ = some (.slice ac cols.length cc) ∧ w'.cell? ⟨w.heap.size, 8, none⟩ = some (.slice ca cells.length ce) ∧ w'.cell? ⟨w.heap.size + 1, 0, none⟩ = some (.int .i64 q.op) ∧ w'.cell? ⟨w.heap.size + 1, 1, none⟩ = some (.int .i64 q.col) ∧ w'.cell? ⟨w.heap.size + 1, 2, none⟩ = some (.int .i64 q.d.k) ∧ w'.cell? ⟨w.heap.size + 1, 3, none⟩ = some (.int .i64 q.d.n) ∧ w'.cell? ⟨w.heap.size + 1, 4, none⟩ = some (.string q.d.s) ∧ w'.cell? ⟨w.heap.size + 1, 5, none⟩ = some (.slice a' q.d.l.length c') ∧ w'.cell? ⟨w.heap.size + 1, 6, none⟩ = some (.slice pa' q.parts.length pc')) v1 := by
    obtain ⟨t0, t1, t2, t3, t4, t5, t6, t7, t8, t9, t10, t11, t12, t13, t14, t15⟩ := hS
    exact ⟨(hb1.cell (World.block_lt_of_cell? _ _ t0)).trans t0, (hb1.cell (World.block_lt_of_cell? _ _ t1)).trans t1, (hb1.cell (World.block_lt_of_cell? _ _ t2)).trans t2, (hb1.cell (World.block_lt_of_cell? _ _ t3)).trans t3, (hb1.cell (World.block_lt_of_cell? _ _ t4)).trans t4, (hb1.cell (World.block_lt_of_cell? _ _ t5)).trans t5, (hb1.cell (World.block_lt_of_cell? _ _ t6)).trans t6, (hb1.cell (World.block_lt_of_cell? _ _ t7)).trans t7, (hb1.cell (World.block_lt_of_cell? _ _ t8)).trans t8, (hb1.cell (World.block_lt_of_cell? _ _ t9)).trans t9, (hb1.cell (World.block_lt_of_cell? _ _ t10)).trans t10, (hb1.cell (World.block_lt_of_cell? _ _ t11)).trans t11, (hb1.cell (World.block_lt_of_cell? _ _ t12)).trans t12, (hb1.cell (World.block_lt_of_cell? _ _ t13)).trans t13, (hb1.cell (World.block_lt_of_cell? _ _ t14)).trans t14, (hb1.cell (World.block_lt_of_cell? _ _ t15)).trans t15⟩
  refine hK.out _ _ hS1 (fun _ => ?_)
  clear hK K
  try simp only [Act.put, List.getElem_toArray, List.getElem_cons_succ, List.getElem_cons_zero, List.setIfInBounds_toArray, List.set_cons_zero, List.set_cons_succ]
  refine wpAnyH_ready (rs := [6]) (by kernel_rfl) (by simp) ?_
  refine AllReadyH.cons rfl (fun K hK => ?_) AllReadyH.nil
  go_simp
  refine (not_fn (M + 1) (.node 7 0 zD [t, q]) none 0 (some ⟨g1, 0, none⟩) 2 _ HP1.out).mono ?_
  rintro e v2 ⟨g2, rfl, hp2, hb2⟩
  have HA2 := Lib.hid (And.intro (HA1.out.1.trans (hb2.mono HA1.out.1.size)) (And.intro (HA1.out.2.1.below hb2) (HA1.out.2.2.below hb2)))
  have HP2 := Lib.hid hp2
  clear hp2
  have hS2 : (fun w' => w'.cell? ⟨w.heap.size, 0, none⟩ = some (.int .i64 t.op) ∧ w'.cell? ⟨w.heap.size, 1, none⟩ = some (.int .i64 t.col) ∧ w'.cell? ⟨w.heap.size, 2, none⟩ = some (.int .i64 t.d.k) ∧ w'.cell? ⟨w.heap.size, 3, none⟩ = some (.int .i64 t.d.n) ∧ w'.cell? ⟨w.heap.size, 4, none⟩ = some (.string t.d.s) ∧ w'.cell? ⟨w.heap.size, 5, none⟩ = some (.slice a t.d.l.length c) ∧ w'.cell? ⟨w.heap.size, 6, none⟩ = some (.slice pa t.parts.length pc) ∧ w'.cell? ⟨w.heap.size, 7, none⟩ = some (.slice ac cols.length cc) ∧ w'.cell? ⟨w.heap.size, 8, none⟩ = some (.slice ca cells.length ce) ∧ w'.cell? ⟨w.heap.size + 1, 0, none⟩ = some (.int .i64 q.op) ∧ w'.cell? ⟨w.heap.size + 1, 1, none⟩ = some (.int .i64 q.col) ∧ w'.cell? ⟨w.heap.size + 1, 2, none⟩ = some (.int .i64 q.d.k) ∧ w'.cell? ⟨w.heap.size + 1, 3, none⟩ = some (.int .i64 q.d.n) ∧ w'.cell? ⟨w.heap.size + 1, 4, none⟩ = some (.string q.d.s) ∧ w'.cell? ⟨w.heap.size + 1, 5, none⟩ = some (.slice a' q.d.l.length c') ∧ w'.cell? ⟨w.heap.size + 1, 6, none⟩ = some (.slice pa' q.parts.length pc')) v2 := by
    obtain ⟨t0, t1, t2, t3, t4, t5, t6, t7, t8, t9, t10, t11, t12, t13, t14, t15⟩ := hS1
    exact ⟨(hb2.cell (World.block_lt_of_cell? _ _ t0)).trans t0, (hb2.cell (World.block_lt_of_cell? _ _ t1)).trans t1, (hb2.cell (World.block_lt_of_cell? _ _ t2)).trans t2, (hb2.cell (World.block_lt_of_cell? _ _ t3)).trans t3, (hb2.cell (World.block_lt_of_cell? _ _ t4)).trans t4, (hb2.cell (World.block_lt_of_cell? _ _ t5)).trans t5, (hb2.cell (World.block_lt_of_cell? _ _ t6)).trans t6, (hb2.cell (World.block_lt_of_cell? _ _ t7)).trans t7, (hb2.cell (World.block_lt_of_cell? _ _ t8)).trans t8, (hb2.cell (World.block_lt_of_cell? _ _ t9)).trans t9, (hb2.cell (World.block_lt_of_cell? _ _ t10)).trans t10, (hb2.cell (World.block_lt_of_cell? _ _ t11)).trans t11, (hb2.cell (World.block_lt_of_cell? _ _ t12)).trans t12, (hb2.cell (World.block_lt_of_cell? _ _ t13)).trans t13, (hb2.cell (World.block_lt_of_cell? _ _ t14)).trans t14, (hb2.cell (World.block_lt_of_cell? _ _ t15)).trans t15⟩
  refine hK.out _ _ hS2 (fun _ => ?_)
  clear hK K
  try simp only [Act.put, List.getElem_toArray, List.getElem_cons_succ, List.getElem_cons_zero, List.setIfInBounds_toArray, List.set_cons_zero, List.set_cons_succ]
  refine wpAnyH_ready (rs := [11]) (by kernel_rfl) (by simp) ?_
  refine AllReadyH.cons rfl (fun K hK => ?_) AllReadyH.nil
  go_simp
  refine (Holds_any cols cells (M + 1 + 1) (notP (.node 7 0 zD [t, q])) none 0 (some ⟨g2, 0, none⟩) 1 ac cc ca ce _ HP2.out HA2.out.2.1.co HL.out.1 HA2.out.2.1.el HL.out.2.1 (HL.out.2.2.belowB HA2.out.1 h8) (by have := HA2.out.1.size; omega)).mono ?_
  rintro e v3 ⟨rfl, hb3⟩
  have HA3 := Lib.hid (And.intro (HA2.out.1.trans (hb3.mono HA2.out.1.size)) (And.intro (HA2.out.2.1.below hb3) (HA2.out.2.2.below hb3)))
  have hS3 : (fun w' => w'.cell? ⟨w.heap.size, 0, none⟩ = some (.int .i64 t.op) ∧ w'.cell? ⟨w.heap.size, 1, none⟩ = some (.int .i64 t.col) ∧ w'.cell? ⟨w.heap.size, 2, none⟩ = some (.int .i64 t.d.k) ∧ w'.cell? ⟨w.heap.size, 3, none⟩ = some (.int .i64 t.d.n) ∧ w'.cell? ⟨w.heap.size, 4, none⟩ = some (.string t.d.s) ∧ w'.cell? ⟨w.heap.size, 5, none⟩ = some (.slice a t.d.l.length c) ∧ w'.cell? ⟨w.heap.size, 6, none⟩ = some (.slice pa t.parts.length pc) ∧ w'.cell? ⟨w.heap.size, 7, none⟩ = some (.slice ac cols.length cc) ∧ w'.cell? ⟨w.heap.size, 8, none⟩ = some (.slice ca cells.length ce) ∧ w'.cell? ⟨w.heap.size + 1, 0, none⟩ = some (.int .i64 q.op) ∧ w'.cell? ⟨w.heap.size + 1, 1, none⟩ = some (.int .i64 q.col) ∧ w'.cell? ⟨w.heap.size + 1, 2, none⟩ = some (.int .i64 q.d.k) ∧ w'.cell? ⟨w.heap.size + 1, 3, none⟩ = some (.int .i64 q.d.n) ∧ w'.cell? ⟨w.heap.size + 1, 4, none⟩ = some (.string q.d.s) ∧ w'.cell? ⟨w.heap.size + 1, 5, none⟩ = some (.slice a' q.d.l.length c') ∧ w'.cell? ⟨w.heap.size + 1, 6, none⟩ = some (.slice pa' q.parts.length pc')) v3 := by
    obtain ⟨t0, t1, t2, t3, t4, t5, t6, t7, t8, t9, t10, t11, t12, t13, t14, t15⟩ := hS2
    exact ⟨(hb3.cell (World.block_lt_of_cell? _ _ t0)).trans t0, (hb3.cell (World.block_lt_of_cell? _ _ t1)).trans t1, (hb3.cell (World.block_lt_of_cell? _ _ t2)).trans t2, (hb3.cell (World.block_lt_of_cell? _ _ t3)).trans t3, (hb3.cell (World.block_lt_of_cell? _ _ t4)).trans t4, (hb3.cell (World.block_lt_of_cell? _ _ t5)).trans t5, (hb3.cell (World.block_lt_of_cell? _ _ t6)).trans t6, (hb3.cell (World.block_lt_of_cell? _ _ t7)).trans t7, (hb3.cell (World.block_lt_of_cell? _ _ t8)).trans t8, (hb3.cell (World.block_lt_of_cell? _ _ t9)).trans t9, (hb3.cell (World.block_lt_of_cell? _ _ t10)).trans t10, (hb3.cell (World.block_lt_of_cell? _ _ t11)).trans t11, (hb3.cell (World.block_lt_of_cell? _ _ t12)).trans t12, (hb3.cell (World.block_lt_of_cell? _ _ t13)).trans t13, (hb3.cell (World.block_lt_of_cell? _ _ t14)).trans t14, (hb3.cell (World.block_lt_of_cell? _ _ t15)).trans t15⟩
  refine hK.out _ _ hS3 (fun _ => ?_)
  clear hK K
  try simp only [Act.put, List.getElem_toArray, List.getElem_cons_succ, List.getElem_cons_zero, List.setIfInBounds_toArray, List.set_cons_zero, List.set_cons_succ]
  refine wpAnyH_take (i := 12) (v := ?_) rfl (by kernel_rfl) (by kernel_rfl) (by kernel_rfl) (fun _ _ _ h => h) (Or.inl ⟨by rfl, ?_⟩) hS3 ?_
  rotate_left
  · rintro w9 ⟨t0, t1, t2, t3, t4, t5, t6, t7, t8, t9, t10, t11, t12, t13, t14, t15⟩
    go_simp
    try with_reducible rfl
  try simp only [Act.put, List.getElem_toArray, List.getElem_cons_succ, List.getElem_cons_zero, List.setIfInBounds_toArray, List.set_cons_zero, List.set_cons_succ]
  refine wpAnyH_take (i := 13) (v := ?_) rfl (by kernel_rfl) (by kernel_rfl) (by kernel_rfl) (fun _ _ _ h => h) (Or.inl ⟨by rfl, ?_⟩) hS3 ?_
  rotate_left
  · rintro w9 ⟨t0, t1, t2, t3, t4, t5, t6, t7, t8, t9, t10, t11, t12, t13, t14, t15⟩
    go_simp
    try with_reducible rfl
  try simp only [Act.put, List.getElem_toArray, List.getElem_cons_succ, List.getElem_cons_zero, List.setIfInBounds_toArray, List.set_cons_zero, List.set_cons_succ]
  refine wpAnyH_take (i := 14) (v := ?_) rfl (by kernel_rfl) (by kernel_rfl) (by kernel_rfl) (fun _ _ _ h => h) (Or.inl ⟨by rfl, ?_⟩) hS3 ?_
  rotate_left
  · rintro w9 ⟨t0, t1, t2, t3, t4, t5, t6, t7, t8, t9, t10, t11, t12, t13, t14, t15⟩
    go_simp
    try with_reducible rfl
  try simp only [Act.put, List.getElem_toArray, List.getElem_cons_succ, List.getElem_cons_zero, List.setIfInBounds_toArray, List.set_cons_zero, List.set_cons_succ]
  refine wpAnyH_take (i := 15) (v := ?_) rfl (by kernel_rfl) (by kernel_rfl) (by kernel_rfl) (fun _ _ _ h => h) (Or.inl ⟨by rfl, ?_⟩) hS3 ?_
  rotate_left
  · rintro w9 ⟨t0, t1, t2, t3, t4, t5, t6, t7, t8, t9, t10, t11, t12, t13, t14, t15⟩
    go_simp
    try with_reducible rfl
  try simp only [Act.put, List.getElem_toArray, List.getElem_cons_succ, List.getElem_cons_zero, List.setIfInBounds_toArray, List.set_cons_zero, List.set_cons_succ]
  refine wpAnyH_take (i := 16) (v := ?_) rfl (by kernel_rfl) (by kernel_rfl) (by kernel_rfl) (fun _ _ _ h => h) (Or.inl ⟨by rfl, ?_⟩) hS3 ?_
  rotate_left
  · rintro w9 ⟨t0, t1, t2, t3, t4, t5, t6, t7, t8, t9, t10, t11, t12, t13, t14, t15⟩
    go_simp
    try with_reducible rfl
  try simp only [Act.put, List.getElem_toArray, List.getElem_cons_succ, List.getElem_cons_zero, List.setIfInBounds_toArray, List.set_cons_zero, List.set_cons_succ]
  refine wpAnyH_done (by kernel_rfl) ?_ _
  refine NoPanic.normal ?_
  go_wp2
  have hb4 : Below v3.heap.size v3 v3.drew := by go_grown
  have HA4 := Lib.hid (And.intro (HA3.out.1.trans (hb4.mono HA3.out.1.size)) (And.intro (HA3.out.2.1.below hb4) (HA3.out.2.2.below hb4)))
  refine wp_region_noPanic ?_
  refine wp_region_held_drew (S := (fun w' => w'.cell? ⟨w.heap.size, 0, none⟩ = some (.int .i64 t.op) ∧ w'.cell? ⟨w.heap.size, 1, none⟩ = some (.int .i64 t.col) ∧ w'.cell? ⟨w.heap.size, 2, none⟩ = some (.int .i64 t.d.k) ∧ w'.cell? ⟨w.heap.size, 3, none⟩ = some (.int .i64 t.d.n) ∧ w'.cell? ⟨w.heap.size, 4, none⟩ = some (.string t.d.s) ∧ w'.cell? ⟨w.heap.size, 5, none⟩ = some (.slice a t.d.l.length c) ∧ w'.cell? ⟨w.heap.size, 6, none⟩ = some (.slice pa t.parts.length pc) ∧ w'.cell? ⟨w.heap.size, 7, none⟩ = some (.slice ac cols.length cc) ∧ w'.cell? ⟨w.heap.size, 8, none⟩ = some (.slice ca cells.length ce) ∧ w'.cell? ⟨w.heap.size + 1, 0, none⟩ = some (.int .i64 q.op) ∧ w'.cell? ⟨w.heap.size + 1, 1, none⟩ = some (.int .i64 q.col) ∧ w'.cell? ⟨w.heap.size + 1, 2, none⟩ = some (.int .i64 q.d.k) ∧ w'.cell? ⟨w.heap.size + 1, 3, none⟩ = some (.int .i64 q.d.n) ∧ w'.cell? ⟨w.heap.size + 1, 4, none⟩ = some (.string q.d.s) ∧ w'.cell? ⟨w.heap.size + 1, 5, none⟩ = some (.slice a' q.d.l.length c') ∧ w'.cell? ⟨w.heap.size + 1, 6, none⟩ = some (.slice pa' q.parts.length pc'))) (by kernel_rfl) hS3 (fun hS => ?_)
  refine wpAnyH_take (i := 0) (v := ?_) rfl (by kernel_rfl) (by kernel_rfl) (by kernel_rfl) (fun _ _ _ h => h) (Or.inl ⟨by rfl, ?_⟩) hS ?_
  rotate_left
  · rintro w9 ⟨t0, t1, t2, t3, t4, t5, t6, t7, t8, t9, t10, t11, t12, t13, t14, t15⟩
    go_simp
    try with_reducible rfl
  try simp only [Act.put, List.getElem_toArray, List.getElem_cons_succ, List.getElem_cons_zero, List.setIfInBounds_toArray, List.set_cons_zero, List.set_cons_succ]
  refine wpAnyH_take (i := 1) (v := ?_) rfl (by kernel_rfl) (by kernel_rfl) (by kernel_rfl) (fun _ _ _ h => h) (Or.inl ⟨by rfl, ?_⟩) hS ?_
  rotate_left
  · rintro w9 ⟨t0, t1, t2, t3, t4, t5, t6, t7, t8, t9, t10, t11, t12, t13, t14, t15⟩
    go_simp
    try with_reducible rfl
  try simp only [Act.put, List.getElem_toArray, List.getElem_cons_succ, List.getElem_cons_zero, List.setIfInBounds_toArray, List.set_cons_zero, List.set_cons_succ]
  refine wpAnyH_take (i := 2) (v := ?_) rfl (by kernel_rfl) (by kernel_rfl) (by kernel_rfl) (fun _ _ _ h => h) (Or.inl ⟨by rfl, ?_⟩) hS ?_
  rotate_left
  · rintro w9 ⟨t0, t1, t2, t3, t4, t5, t6, t7, t8, t9, t10, t11, t12, t13, t14, t15⟩
    go_simp
    try with_reducible rfl
  try simp only [Act.put, List.getElem_toArray, List.getElem_cons_succ, List.getElem_cons_zero, List.setIfInBounds_toArray, List.set_cons_zero, List.set_cons_succ]
  refine wpAnyH_take (i := 3) (v := ?_) rfl (by kernel_rfl) (by kernel_rfl) (by kernel_rfl) (fun _ _ _ h => h) (Or.inl ⟨by rfl, ?_⟩) hS ?_
  rotate_left
  · rintro w9 ⟨t0, t1, t2, t3, t4, t5, t6, t7, t8, t9, t10, t11, t12, t13, t14, t15⟩
    go_simp
    try with_reducible rfl
  try simp only [Act.put, List.getElem_toArray, List.getElem_cons_succ, List.getElem_cons_zero, List.setIfInBounds_toArray, List.set_cons_zero, List.set_cons_succ]
  refine wpAnyH_take (i := 5) (v := ?_) rfl (by kernel_rfl) (by kernel_rfl) (by kernel_rfl) (fun _ _ _ h => h) (Or.inl ⟨by rfl, ?_⟩) hS ?_
  rotate_left
  · rintro w9 ⟨t0, t1, t2, t3, t4, t5, t6, t7, t8, t9, t10, t11, t12, t13, t14, t15⟩
    go_simp
    try with_reducible rfl
  try simp only [Act.put, List.getElem_toArray, List.getElem_cons_succ, List.getElem_cons_zero, List.setIfInBounds_toArray, List.set_cons_zero, List.set_cons_succ]
  refine wpAnyH_take (i := 6) (v := ?_) rfl (by kernel_rfl) (by kernel_rfl) (by kernel_rfl) (fun _ _ _ h => h) (Or.inl ⟨by rfl, ?_⟩) hS ?_
  rotate_left
  · rintro w9 ⟨t0, t1, t2, t3, t4, t5, t6, t7, t8, t9, t10, t11, t12, t13, t14, t15⟩
    go_simp
    try with_reducible rfl
  try simp only [Act.put, List.getElem_toArray, List.getElem_cons_succ, List.getElem_cons_zero, List.setIfInBounds_toArray, List.set_cons_zero, List.set_cons_succ]
  refine wpAnyH_take (i := 9) (v := ?_) rfl (by kernel_rfl) (by kernel_rfl) (by kernel_rfl) (fun _ _ _ h => h) (Or.inl ⟨by rfl, ?_⟩) hS ?_
  rotate_left
  · rintro w9 ⟨t0, t1, t2, t3, t4, t5, t6, t7, t8, t9, t10, t11, t12, t13, t14, t15⟩
    go_simp
    try with_reducible rfl
  try simp only [Act.put, List.getElem_toArray, List.getElem_cons_succ, List.getElem_cons_zero, List.setIfInBounds_toArray, List.set_cons_zero, List.set_cons_succ]
  refine wpAnyH_take (i := 10) (v := ?_) rfl (by kernel_rfl) (by kernel_rfl) (by kernel_rfl) (fun _ _ _ h => h) (Or.inl ⟨by rfl, ?_⟩) hS ?_
  rotate_left
  · rintro w9 ⟨t0, t1, t2, t3, t4, t5, t6, t7, t8, t9, t10, t11, t12, t13, t14, t15⟩
    go_simp
    try with_reducible rfl
  try simp only [Act.put, List.getElem_toArray, List.getElem_cons_succ, List.getElem_cons_zero, List.setIfInBounds_toArray, List.set_cons_zero, List.set_cons_succ]
  refine wpAnyH_take (i := 11) (v := ?_) rfl (by kernel_rfl) (by kernel_rfl) (by kernel_rfl) (fun _ _ _ h => h) (Or.inl ⟨by rfl, ?_⟩) hS ?_
  rotate_left
  · rintro w9 ⟨t0, t1, t2, t3, t4, t5, t6, t7, t8, t9, t10, t11, t12, t13, t14, t15⟩
    go_simp
    try with_reducible rfl
  try simp only [Act.put, List.getElem_toArray, List.getElem_cons_succ, List.getElem_cons_zero, List.setIfInBounds_toArray, List.set_cons_zero, List.set_cons_succ]
  refine wpAnyH_take (i := 12) (v := ?_) rfl (by kernel_rfl) (by kernel_rfl) (by kernel_rfl) (fun _ _ _ h => h) (Or.inl ⟨by rfl, ?_⟩) hS ?_
  rotate_left
  · rintro w9 ⟨t0, t1, t2, t3, t4, t5, t6, t7, t8, t9, t10, t11, t12, t13, t14, t15⟩
    go_simp
    try with_reducible rfl
  try simp only [Act.put, List.getElem_toArray, List.getElem_cons_succ, List.getElem_cons_zero, List.setIfInBounds_toArray, List.set_cons_zero, List.set_cons_succ]
  refine wpAnyH_ready (rs := [4]) (by kernel_rfl) (by simp) ?_
  refine AllReadyH.cons rfl (fun K hK => ?_) AllReadyH.nil
  go_simp
  refine (not_fn M t a c pa pc _ HA4.out.2.1.p).mono ?_
  rintro e v5 ⟨g5, rfl, hp5, hb5⟩
  have HA5 := Lib.hid (And.intro (HA4.out.1.trans (hb5.mono HA4.out.1.size)) (And.intro (HA4.out.2.1.below hb5) (HA4.out.2.2.below hb5)))
  have HP5 := Lib.hid hp5
  clear hp5
  have hS5 : (fun w' => w'.cell? ⟨w.heap.size, 0, none⟩ = some (.int .i64 t.op) ∧ w'.cell? ⟨w.heap.size, 1, none⟩ = some (.int .i64 t.col) ∧ w'.cell? ⟨w.heap.size, 2, none⟩ = some (.int .i64 t.d.k) ∧ w'.cell? ⟨w.heap.size, 3, none⟩ = some (.int .i64 t.d.n) ∧ w'.cell? ⟨w.heap.size, 4, none⟩ = some (.string t.d.s) ∧ w'.cell? ⟨w.heap.size, 5, none⟩ = some (.slice a t.d.l.length c) ∧ w'.cell? ⟨w.heap.size, 6, none⟩ = some (.slice pa t.parts.length pc) ∧ w'.cell? ⟨w.heap.size, 7, none⟩ = some (.slice ac cols.length cc) ∧ w'.cell? ⟨w.heap.size, 8, none⟩ = some (.slice ca cells.length ce) ∧ w'.cell? ⟨w.heap.size + 1, 0, none⟩ = some (.int .i64 q.op) ∧ w'.cell? ⟨w.heap.size + 1, 1, none⟩ = some (.int .i64 q.col) ∧ w'.cell? ⟨w.heap.size + 1, 2, none⟩ = some (.int .i64 q.d.k) ∧ w'.cell? ⟨w.heap.size + 1, 3, none⟩ = some (.int .i64 q.d.n) ∧ w'.cell? ⟨w.heap.size + 1, 4, none⟩ = some (.string q.d.s) ∧ w'.cell? ⟨w.heap.size + 1, 5, none⟩ = some (.slice a' q.d.l.length c') ∧ w'.cell? ⟨w.heap.size + 1, 6, none⟩ = some (.slice pa' q.parts.length pc')) v5 := by
    obtain ⟨t0, t1, t2, t3, t4, t5, t6, t7, t8, t9, t10, t11, t12, t13, t14, t15⟩ := hS
    exact ⟨(hb5.cell (World.block_lt_of_cell? _ _ t0)).trans t0, (hb5.cell (World.block_lt_of_cell? _ _ t1)).trans t1, (hb5.cell (World.block_lt_of_cell? _ _ t2)).trans t2, (hb5.cell (World.block_lt_of_cell? _ _ t3)).trans t3, (hb5.cell (World.block_lt_of_cell? _ _ t4)).trans t4, (hb5.cell (World.block_lt_of_cell? _ _ t5)).trans t5, (hb5.cell (World.block_lt_of_cell? _ _ t6)).trans t6, (hb5.cell (World.block_lt_of_cell? _ _ t7)).trans t7, (hb5.cell (World.block_lt_of_cell? _ _ t8)).trans t8, (hb5.cell (World.block_lt_of_cell? _ _ t9)).trans t9, (hb5.cell (World.block_lt_of_cell? _ _ t10)).trans t10, (hb5.cell (World.block_lt_of_cell? _ _ t11)).trans t11, (hb5.cell (World.block_lt_of_cell? _ _ t12)).trans t12, (hb5.cell (World.block_lt_of_cell? _ _ t13)).trans t13, (hb5.cell (World.block_lt_of_cell? _ _ t14)).trans t14, (hb5.cell (World.block_lt_of_cell? _ _ t15)).trans t15⟩
  refine hK.out _ _ hS5 (fun _ => ?_)
  clear hK K
  try simp only [Act.put, List.getElem_toArray, List.getElem_cons_succ, List.getElem_cons_zero, List.setIfInBounds_toArray, List.set_cons_zero, List.set_cons_succ]
  refine wpAnyH_ready (rs := [7]) (by kernel_rfl) (by simp) ?_
  refine AllReadyH.cons rfl (fun K hK => ?_) AllReadyH.nil
  go_simp
  refine (not_fn M q a' c' pa' pc' _ HA5.out.2.2).mono ?_
  rintro e v6 ⟨g6, rfl, hp6, hb6⟩
  have HA6 := Lib.hid (And.intro (HA5.out.1.trans (hb6.mono HA5.out.1.size)) (And.intro (HA5.out.2.1.below hb6) (HA5.out.2.2.below hb6)))
  have HP6 := Lib.hid hp6
  have HPx6 := Lib.hid (HP5.out.below hb6)
  clear hp6
  have hS6 : (fun w' => w'.cell? ⟨w.heap.size, 0, none⟩ = some (.int .i64 t.op) ∧ w'.cell? ⟨w.heap.size, 1, none⟩ = some (.int .i64 t.col) ∧ w'.cell? ⟨w.heap.size, 2, none⟩ = some (.int .i64 t.d.k) ∧ w'.cell? ⟨w.heap.size, 3, none⟩ = some (.int .i64 t.d.n) ∧ w'.cell? ⟨w.heap.size, 4, none⟩ = some (.string t.d.s) ∧ w'.cell? ⟨w.heap.size, 5, none⟩ = some (.slice a t.d.l.length c) ∧ w'.cell? ⟨w.heap.size, 6, none⟩ = some (.slice pa t.parts.length pc) ∧ w'.cell? ⟨w.heap.size, 7, none⟩ = some (.slice ac cols.length cc) ∧ w'.cell? ⟨w.heap.size, 8, none⟩ = some (.slice ca cells.length ce) ∧ w'.cell? ⟨w.heap.size + 1, 0, none⟩ = some (.int .i64 q.op) ∧ w'.cell? ⟨w.heap.size + 1, 1, none⟩ = some (.int .i64 q.col) ∧ w'.cell? ⟨w.heap.size + 1, 2, none⟩ = some (.int .i64 q.d.k) ∧ w'.cell? ⟨w.heap.size + 1, 3, none⟩ = some (.int .i64 q.d.n) ∧ w'.cell? ⟨w.heap.size + 1, 4, none⟩ = some (.string q.d.s) ∧ w'.cell? ⟨w.heap.size + 1, 5, none⟩ = some (.slice a' q.d.l.length c') ∧ w'.cell? ⟨w.heap.size + 1, 6, none⟩ = some (.slice pa' q.parts.length pc')) v6 := by
    obtain ⟨t0, t1, t2, t3, t4, t5, t6, t7, t8, t9, t10, t11, t12, t13, t14, t15⟩ := hS5
    exact ⟨(hb6.cell (World.block_lt_of_cell? _ _ t0)).trans t0, (hb6.cell (World.block_lt_of_cell? _ _ t1)).trans t1, (hb6.cell (World.block_lt_of_cell? _ _ t2)).trans t2, (hb6.cell (World.block_lt_of_cell? _ _ t3)).trans t3, (hb6.cell (World.block_lt_of_cell? _ _ t4)).trans t4, (hb6.cell (World.block_lt_of_cell? _ _ t5)).trans t5, (hb6.cell (World.block_lt_of_cell? _ _ t6)).trans t6, (hb6.cell (World.block_lt_of_cell? _ _ t7)).trans t7, (hb6.cell (World.block_lt_of_cell? _ _ t8)).trans t8, (hb6.cell (World.block_lt_of_cell? _ _ t9)).trans t9, (hb6.cell (World.block_lt_of_cell? _ _ t10)).trans t10, (hb6.cell (World.block_lt_of_cell? _ _ t11)).trans t11, (hb6.cell (World.block_lt_of_cell? _ _ t12)).trans t12, (hb6.cell (World.block_lt_of_cell? _ _ t13)).trans t13, (hb6.cell (World.block_lt_of_cell? _ _ t14)).trans t14, (hb6.cell (World.block_lt_of_cell? _ _ t15)).trans t15⟩
  refine hK.out _ _ hS6 (fun _ => ?_)
  clear hK K
  try simp only [Act.put, List.getElem_toArray, List.getElem_cons_succ, List.getElem_cons_zero, List.setIfInBounds_toArray, List.set_cons_zero, List.set_cons_succ]
  refine wpAnyH_ready (rs := [8]) (by kernel_rfl) (by simp) ?_
  refine AllReadyH.cons rfl (fun K hK => ?_) AllReadyH.nil
  go_simp
  refine (two_fn (M + 1) 8 ⟨by omega, by omega⟩ (notP t) none 0 (some ⟨g5, 0, none⟩) 1 (notP q) none 0 (some ⟨g6, 0, none⟩) 1 _ HPx6.out HP6.out).mono ?_
  rintro e v7 ⟨g7, rfl, hp7, hb7⟩
  have HA7 := Lib.hid (And.intro (HA6.out.1.trans (hb7.mono HA6.out.1.size)) (And.intro (HA6.out.2.1.below hb7) (HA6.out.2.2.below hb7)))
  have HP7 := Lib.hid hp7
  clear hp7
  have hS7 : (fun w' => w'.cell? ⟨w.heap.size, 0, none⟩ = some (.int .i64 t.op) ∧ w'.cell? ⟨w.heap.size, 1, none⟩ = some (.int .i64 t.col) ∧ w'.cell? ⟨w.heap.size, 2, none⟩ = some (.int .i64 t.d.k) ∧ w'.cell? ⟨w.heap.size, 3, none⟩ = some (.int .i64 t.d.n) ∧ w'.cell? ⟨w.heap.size, 4, none⟩ = some (.string t.d.s) ∧ w'.cell? ⟨w.heap.size, 5, none⟩ = some (.slice a t.d.l.length c) ∧ w'.cell? ⟨w.heap.size, 6, none⟩ = some (.slice pa t.parts.length pc) ∧ w'.cell? ⟨w.heap.size, 7, none⟩ = some (.slice ac cols.length cc) ∧ w'.cell? ⟨w.heap.size, 8, none⟩ = some (.slice ca cells.length ce) ∧ w'.cell? ⟨w.heap.size + 1, 0, none⟩ = some (.int .i64 q.op) ∧ w'.cell? ⟨w.heap.size + 1, 1, none⟩ = some (.int .i64 q.col) ∧ w'.cell? ⟨w.heap.size + 1, 2, none⟩ = some (.int .i64 q.d.k) ∧ w'.cell? ⟨w.heap.size + 1, 3, none⟩ = some (.int .i64 q.d.n) ∧ w'.cell? ⟨w.heap.size + 1, 4, none⟩ = some (.string q.d.s) ∧ w'.cell? ⟨w.heap.size + 1, 5, none⟩ = some (.slice a' q.d.l.length c') ∧ w'.cell? ⟨w.heap.size + 1, 6, none⟩ = some (.slice pa' q.parts.length pc')) v7 := by
    obtain ⟨t0, t1, t2, t3, t4, t5, t6, t7, t8, t9, t10, t11, t12, t13, t14, t15⟩ := hS6
    exact ⟨(hb7.cell (World.block_lt_of_cell? _ _ t0)).trans t0, (hb7.cell (World.block_lt_of_cell? _ _ t1)).trans t1, (hb7.cell (World.block_lt_of_cell? _ _ t2)).trans t2, (hb7.cell (World.block_lt_of_cell? _ _ t3)).trans t3, (hb7.cell (World.block_lt_of_cell? _ _ t4)).trans t4, (hb7.cell (World.block_lt_of_cell? _ _ t5)).trans t5, (hb7.cell (World.block_lt_of_cell? _ _ t6)).trans t6, (hb7.cell (World.block_lt_of_cell? _ _ t7)).trans t7, (hb7.cell (World.block_lt_of_cell? _ _ t8)).trans t8, (hb7.cell (World.block_lt_of_cell? _ _ t9)).trans t9, (hb7.cell (World.block_lt_of_cell? _ _ t10)).trans t10, (hb7.cell (World.block_lt_of_cell? _ _ t11)).trans t11, (hb7.cell (World.block_lt_of_cell? _ _ t12)).trans t12, (hb7.cell (World.block_lt_of_cell? _ _ t13)).trans t13, (hb7.cell (World.block_lt_of_cell? _ _ t14)).trans t14, (hb7.cell (World.block_lt_of_cell? _ _ t15)).trans t15⟩
  refine hK.out _ _ hS7 (fun _ => ?_)
  clear hK K
  try simp only [Act.put, List.getElem_toArray, List.getElem_cons_succ, List.getElem_cons_zero, List.setIfInBounds_toArray, List.set_cons_zero, List.set_cons_succ]
  refine wpAnyH_ready (rs := [13]) (by kernel_rfl) (by simp) ?_
  refine AllReadyH.cons rfl (fun K hK => ?_) AllReadyH.nil
  go_simp
  refine (Holds_any cols cells (M + 1 + 1) (.node 8 0 zD [notP t, notP q]) none 0 (some ⟨g7, 0, none⟩) 2 ac cc ca ce _ HP7.out HA7.out.2.1.co HL.out.1 HA7.out.2.1.el HL.out.2.1 (HL.out.2.2.belowB HA7.out.1 h8) (by have := HA7.out.1.size; omega)).mono ?_
  rintro e v8 ⟨rfl, hb8⟩
  have HA8 := Lib.hid (And.intro (HA7.out.1.trans (hb8.mono HA7.out.1.size)) (And.intro (HA7.out.2.1.below hb8) (HA7.out.2.2.below hb8)))
  have hS8 : (fun w' => w'.cell? ⟨w.heap.size, 0, none⟩ = some (.int .i64 t.op) ∧ w'.cell? ⟨w.heap.size, 1, none⟩ = some (.int .i64 t.col) ∧ w'.cell? ⟨w.heap.size, 2, none⟩ = some (.int .i64 t.d.k) ∧ w'.cell? ⟨w.heap.size, 3, none⟩ = some (.int .i64 t.d.n) ∧ w'.cell? ⟨w.heap.size, 4, none⟩ = some (.string t.d.s) ∧ w'.cell? ⟨w.heap.size, 5, none⟩ = some (.slice a t.d.l.length c) ∧ w'.cell? ⟨w.heap.size, 6, none⟩ = some (.slice pa t.parts.length pc) ∧ w'.cell? ⟨w.heap.size, 7, none⟩ = some (.slice ac cols.length cc) ∧ w'.cell? ⟨w.heap.size, 8, none⟩ = some (.slice ca cells.length ce) ∧ w'.cell? ⟨w.heap.size + 1, 0, none⟩ = some (.int .i64 q.op) ∧ w'.cell? ⟨w.heap.size + 1, 1, none⟩ = some (.int .i64 q.col) ∧ w'.cell? ⟨w.heap.size + 1, 2, none⟩ = some (.int .i64 q.d.k) ∧ w'.cell? ⟨w.heap.size + 1, 3, none⟩ = some (.int .i64 q.d.n) ∧ w'.cell? ⟨w.heap.size + 1, 4, none⟩ = some (.string q.d.s) ∧ w'.cell? ⟨w.heap.size + 1, 5, none⟩ = some (.slice a' q.d.l.length c') ∧ w'.cell? ⟨w.heap.size + 1, 6, none⟩ = some (.slice pa' q.parts.length pc')) v8 := by
    obtain ⟨t0, t1, t2, t3, t4, t5, t6, t7, t8, t9, t10, t11, t12, t13, t14, t15⟩ := hS7
    exact ⟨(hb8.cell (World.block_lt_of_cell? _ _ t0)).trans t0, (hb8.cell (World.block_lt_of_cell? _ _ t1)).trans t1, (hb8.cell (World.block_lt_of_cell? _ _ t2)).trans t2, (hb8.cell (World.block_lt_of_cell? _ _ t3)).trans t3, (hb8.cell (World.block_lt_of_cell? _ _ t4)).trans t4, (hb8.cell (World.block_lt_of_cell? _ _ t5)).trans t5, (hb8.cell (World.block_lt_of_cell? _ _ t6)).trans t6, (hb8.cell (World.block_lt_of_cell? _ _ t7)).trans t7, (hb8.cell (World.block_lt_of_cell? _ _ t8)).trans t8, (hb8.cell (World.block_lt_of_cell? _ _ t9)).trans t9, (hb8.cell (World.block_lt_of_cell? _ _ t10)).trans t10, (hb8.cell (World.block_lt_of_cell? _ _ t11)).trans t11, (hb8.cell (World.block_lt_of_cell? _ _ t12)).trans t12, (hb8.cell (World.block_lt_of_cell? _ _ t13)).trans t13, (hb8.cell (World.block_lt_of_cell? _ _ t14)).trans t14, (hb8.cell (World.block_lt_of_cell? _ _ t15)).trans t15⟩
  refine hK.out _ _ hS8 (fun _ => ?_)
  clear hK K
  try simp only [Act.put, List.getElem_toArray, List.getElem_cons_succ, List.getElem_cons_zero, List.setIfInBounds_toArray, List.set_cons_zero, List.set_cons_succ]
  refine wpAnyH_take (i := 14) (v := ?_) rfl (by kernel_rfl) (by kernel_rfl) (by kernel_rfl) (fun _ _ _ h => h) (Or.inl ⟨by rfl, ?_⟩) hS8 ?_
  rotate_left
  · rintro w9 ⟨t0, t1, t2, t3, t4, t5, t6, t7, t8, t9, t10, t11, t12, t13, t14, t15⟩
    go_simp
    try with_reducible rfl
  try simp only [Act.put, List.getElem_toArray, List.getElem_cons_succ, List.getElem_cons_zero, List.setIfInBounds_toArray, List.set_cons_zero, List.set_cons_succ]
  refine wpAnyH_take (i := 15) (v := ?_) rfl (by kernel_rfl) (by kernel_rfl) (by kernel_rfl) (fun _ _ _ h => h) (Or.inl ⟨by rfl, ?_⟩) hS8 ?_
  rotate_left
  · rintro w9 ⟨t0, t1, t2, t3, t4, t5, t6, t7, t8, t9, t10, t11, t12, t13, t14, t15⟩
    go_simp
    try with_reducible rfl
  try simp only [Act.put, List.getElem_toArray, List.getElem_cons_succ, List.getElem_cons_zero, List.setIfInBounds_toArray, List.set_cons_zero, List.set_cons_succ]
  refine wpAnyH_take (i := 16) (v := ?_) rfl (by kernel_rfl) (by kernel_rfl) (by kernel_rfl) (fun _ _ _ h => h) (Or.inl ⟨by rfl, ?_⟩) hS8 ?_
  rotate_left
  · rintro w9 ⟨t0, t1, t2, t3, t4, t5, t6, t7, t8, t9, t10, t11, t12, t13, t14, t15⟩
    go_simp
    try with_reducible rfl
  try simp only [Act.put, List.getElem_toArray, List.getElem_cons_succ, List.getElem_cons_zero, List.setIfInBounds_toArray, List.set_cons_zero, List.set_cons_succ]
  refine wpAnyH_take (i := 17) (v := ?_) rfl (by kernel_rfl) (by kernel_rfl) (by kernel_rfl) (fun _ _ _ h => h) (Or.inl ⟨by rfl, ?_⟩) hS8 ?_
  rotate_left
  · rintro w9 ⟨t0, t1, t2, t3, t4, t5, t6, t7, t8, t9, t10, t11, t12, t13, t14, t15⟩
    go_simp
    try with_reducible rfl
  try simp only [Act.put, List.getElem_toArray, List.getElem_cons_succ, List.getElem_cons_zero, List.setIfInBounds_toArray, List.set_cons_zero, List.set_cons_succ]
  refine wpAnyH_take (i := 18) (v := ?_) rfl (by kernel_rfl) (by kernel_rfl) (by kernel_rfl) (fun _ _ _ h => h) (Or.inl ⟨by rfl, ?_⟩) hS8 ?_
  rotate_left
  · rintro w9 ⟨t0, t1, t2, t3, t4, t5, t6, t7, t8, t9, t10, t11, t12, t13, t14, t15⟩
    go_simp
    try with_reducible rfl
  try simp only [Act.put, List.getElem_toArray, List.getElem_cons_succ, List.getElem_cons_zero, List.setIfInBounds_toArray, List.set_cons_zero, List.set_cons_succ]
  refine wpAnyH_done (by kernel_rfl) ?_ _
  refine NoPanic.normal ?_
  go_wp2
  have hb9 : Below v8.heap.size v8 v8.drew := by go_grown
  have HA9 := Lib.hid (And.intro (HA8.out.1.trans (hb9.mono HA8.out.1.size)) (And.intro (HA8.out.2.1.below hb9) (HA8.out.2.2.below hb9)))
  refine wp_region_noPanic ?_
  refine wp_region_held_drew (S := (fun w' => w'.cell? ⟨w.heap.size, 0, none⟩ = some (.int .i64 t.op) ∧ w'.cell? ⟨w.heap.size, 1, none⟩ = some (.int .i64 t.col) ∧ w'.cell? ⟨w.heap.size, 2, none⟩ = some (.int .i64 t.d.k) ∧ w'.cell? ⟨w.heap.size, 3, none⟩ = some (.int .i64 t.d.n) ∧ w'.cell? ⟨w.heap.size, 4, none⟩ = some (.string t.d.s) ∧ w'.cell? ⟨w.heap.size, 5, none⟩ = some (.slice a t.d.l.length c) ∧ w'.cell? ⟨w.heap.size, 6, none⟩ = some (.slice pa t.parts.length pc) ∧ w'.cell? ⟨w.heap.size, 7, none⟩ = some (.slice ac cols.length cc) ∧ w'.cell? ⟨w.heap.size, 8, none⟩ = some (.slice ca cells.length ce) ∧ w'.cell? ⟨w.heap.size + 1, 0, none⟩ = some (.int .i64 q.op) ∧ w'.cell? ⟨w.heap.size + 1, 1, none⟩ = some (.int .i64 q.col) ∧ w'.cell? ⟨w.heap.size + 1, 2, none⟩ = some (.int .i64 q.d.k) ∧ w'.cell? ⟨w.heap.size + 1, 3, none⟩ = some (.int .i64 q.d.n) ∧ w'.cell? ⟨w.heap.size + 1, 4, none⟩ = some (.string q.d.s) ∧ w'.cell? ⟨w.heap.size + 1, 5, none⟩ = some (.slice a' q.d.l.length c') ∧ w'.cell? ⟨w.heap.size + 1, 6, none⟩ = some (.slice pa' q.parts.length pc'))) (by kernel_rfl) hS8 (fun hS => ?_)
  refine wpAnyH_take (i := 0) (v := ?_) rfl (by kernel_rfl) (by kernel_rfl) (by kernel_rfl) (fun _ _ _ h => h) (Or.inl ⟨by rfl, ?_⟩) hS ?_
  rotate_left
  · rintro w9 ⟨t0, t1, t2, t3, t4, t5, t6, t7, t8, t9, t10, t11, t12, t13, t14, t15⟩
    go_simp
    try with_reducible rfl
  try simp only [Act.put, List.getElem_toArray, List.getElem_cons_succ, List.getElem_cons_zero, List.setIfInBounds_toArray, List.set_cons_zero, List.set_cons_succ]
  refine wpAnyH_take (i := 1) (v := ?_) rfl (by kernel_rfl) (by kernel_rfl) (by kernel_rfl) (fun _ _ _ h => h) (Or.inl ⟨by rfl, ?_⟩) hS ?_
  rotate_left
  · rintro w9 ⟨t0, t1, t2, t3, t4, t5, t6, t7, t8, t9, t10, t11, t12, t13, t14, t15⟩
    go_simp
    try with_reducible rfl
  try simp only [Act.put, List.getElem_toArray, List.getElem_cons_succ, List.getElem_cons_zero, List.setIfInBounds_toArray, List.set_cons_zero, List.set_cons_succ]
  refine wpAnyH_take (i := 2) (v := ?_) rfl (by kernel_rfl) (by kernel_rfl) (by kernel_rfl) (fun _ _ _ h => h) (Or.inl ⟨by rfl, ?_⟩) hS ?_
  rotate_left
  · rintro w9 ⟨t0, t1, t2, t3, t4, t5, t6, t7, t8, t9, t10, t11, t12, t13, t14, t15⟩
    go_simp
    try with_reducible rfl
  try simp only [Act.put, List.getElem_toArray, List.getElem_cons_succ, List.getElem_cons_zero, List.setIfInBounds_toArray, List.set_cons_zero, List.set_cons_succ]
  refine wpAnyH_take (i := 3) (v := ?_) rfl (by kernel_rfl) (by kernel_rfl) (by kernel_rfl) (fun _ _ _ h => h) (Or.inl ⟨by rfl, ?_⟩) hS ?_
  rotate_left
  · rintro w9 ⟨t0, t1, t2, t3, t4, t5, t6, t7, t8, t9, t10, t11, t12, t13, t14, t15⟩
    go_simp
    try with_reducible rfl
  try simp only [Act.put, List.getElem_toArray, List.getElem_cons_succ, List.getElem_cons_zero, List.setIfInBounds_toArray, List.set_cons_zero, List.set_cons_succ]
  refine wpAnyH_take (i := 4) (v := ?_) rfl (by kernel_rfl) (by kernel_rfl) (by kernel_rfl) (fun _ _ _ h => h) (Or.inl ⟨by rfl, ?_⟩) hS ?_
  rotate_left
  · rintro w9 ⟨t0, t1, t2, t3, t4, t5, t6, t7, t8, t9, t10, t11, t12, t13, t14, t15⟩
    go_simp
    try with_reducible rfl
  try simp only [Act.put, List.getElem_toArray, List.getElem_cons_succ, List.getElem_cons_zero, List.setIfInBounds_toArray, List.set_cons_zero, List.set_cons_succ]
  refine wpAnyH_take (i := 7) (v := ?_) rfl (by kernel_rfl) (by kernel_rfl) (by kernel_rfl) (fun _ _ _ h => h) (Or.inl ⟨by rfl, ?_⟩) hS ?_
  rotate_left
  · rintro w9 ⟨t0, t1, t2, t3, t4, t5, t6, t7, t8, t9, t10, t11, t12, t13, t14, t15⟩
    go_simp
    try with_reducible rfl
  try simp only [Act.put, List.getElem_toArray, List.getElem_cons_succ, List.getElem_cons_zero, List.setIfInBounds_toArray, List.set_cons_zero, List.set_cons_succ]
  refine wpAnyH_take (i := 8) (v := ?_) rfl (by kernel_rfl) (by kernel_rfl) (by kernel_rfl) (fun _ _ _ h => h) (Or.inl ⟨by rfl, ?_⟩) hS ?_
  rotate_left
  · rintro w9 ⟨t0, t1, t2, t3, t4, t5, t6, t7, t8, t9, t10, t11, t12, t13, t14, t15⟩
    go_simp
    try with_reducible rfl
  try simp only [Act.put, List.getElem_toArray, List.getElem_cons_succ, List.getElem_cons_zero, List.setIfInBounds_toArray, List.set_cons_zero, List.set_cons_succ]
  refine wpAnyH_take (i := 9) (v := ?_) rfl (by kernel_rfl) (by kernel_rfl) (by kernel_rfl) (fun _ _ _ h => h) (Or.inl ⟨by rfl, ?_⟩) hS ?_
  rotate_left
  · rintro w9 ⟨t0, t1, t2, t3, t4, t5, t6, t7, t8, t9, t10, t11, t12, t13, t14, t15⟩
    go_simp
    try with_reducible rfl
  try simp only [Act.put, List.getElem_toArray, List.getElem_cons_succ, List.getElem_cons_zero, List.setIfInBounds_toArray, List.set_cons_zero, List.set_cons_succ]
  refine wpAnyH_take (i := 10) (v := ?_) rfl (by kernel_rfl) (by kernel_rfl) (by kernel_rfl) (fun _ _ _ h => h) (Or.inl ⟨by rfl, ?_⟩) hS ?_
  rotate_left
  · rintro w9 ⟨t0, t1, t2, t3, t4, t5, t6, t7, t8, t9, t10, t11, t12, t13, t14, t15⟩
    go_simp
    try with_reducible rfl
  try simp only [Act.put, List.getElem_toArray, List.getElem_cons_succ, List.getElem_cons_zero, List.setIfInBounds_toArray, List.set_cons_zero, List.set_cons_succ]
  refine wpAnyH_ready (rs := [5]) (by kernel_rfl) (by simp) ?_
  refine AllReadyH.cons rfl (fun K hK => ?_) AllReadyH.nil
  go_simp
  refine (two_fn M 8 ⟨by omega, by omega⟩ t a c pa pc q a' c' pa' pc' _ HA9.out.2.1.p HA9.out.2.2).mono ?_
  rintro e v10 ⟨g10, rfl, hp10, hb10⟩
  have HA10 := Lib.hid (And.intro (HA9.out.1.trans (hb10.mono HA9.out.1.size)) (And.intro (HA9.out.2.1.below hb10) (HA9.out.2.2.below hb10)))
  have HP10 := Lib.hid hp10
  clear hp10
  have hS10 : (fun w' => w'.cell? ⟨w.heap.size, 0, none⟩ = some (.int .i64 t.op) ∧ w'.cell? ⟨w.heap.size, 1, none⟩ = some (.int .i64 t.col) ∧ w'.cell? ⟨w.heap.size, 2, none⟩ = some (.int .i64 t.d.k) ∧ w'.cell? ⟨w.heap.size, 3, none⟩ = some (.int .i64 t.d.n) ∧ w'.cell? ⟨w.heap.size, 4, none⟩ = some (.string t.d.s) ∧ w'.cell? ⟨w.heap.size, 5, none⟩ = some (.slice a t.d.l.length c) ∧ w'.cell? ⟨w.heap.size, 6, none⟩ = some (.slice pa t.parts.length pc) ∧ w'.cell? ⟨w.heap.size, 7, none⟩ = some (.slice ac cols.length cc) ∧ w'.cell? ⟨w.heap.size, 8, none⟩ = some (.slice ca cells.length ce) ∧ w'.cell? ⟨w.heap.size + 1, 0, none⟩ = some (.int .i64 q.op) ∧ w'.cell? ⟨w.heap.size + 1, 1, none⟩ = some (.int .i64 q.col) ∧ w'.cell? ⟨w.heap.size + 1, 2, none⟩ = some (.int .i64 q.d.k) ∧ w'.cell? ⟨w.heap.size + 1, 3, none⟩ = some (.int .i64 q.d.n) ∧ w'.cell? ⟨w.heap.size + 1, 4, none⟩ = some (.string q.d.s) ∧ w'.cell? ⟨w.heap.size + 1, 5, none⟩ = some (.slice a' q.d.l.length c') ∧ w'.cell? ⟨w.heap.size + 1, 6, none⟩ = some (.slice pa' q.parts.length pc')) v10 := by
    obtain ⟨t0, t1, t2, t3, t4, t5, t6, t7, t8, t9, t10, t11, t12, t13, t14, t15⟩ := hS
    exact ⟨(hb10.cell (World.block_lt_of_cell? _ _ t0)).trans t0, (hb10.cell (World.block_lt_of_cell? _ _ t1)).trans t1, (hb10.cell (World.block_lt_of_cell? _ _ t2)).trans t2, (hb10.cell (World.block_lt_of_cell? _ _ t3)).trans t3, (hb10.cell (World.block_lt_of_cell? _ _ t4)).trans t4, (hb10.cell (World.block_lt_of_cell? _ _ t5)).trans t5, (hb10.cell (World.block_lt_of_cell? _ _ t6)).trans t6, (hb10.cell (World.block_lt_of_cell? _ _ t7)).trans t7, (hb10.cell (World.block_lt_of_cell? _ _ t8)).trans t8, (hb10.cell (World.block_lt_of_cell? _ _ t9)).trans t9, (hb10.cell (World.block_lt_of_cell? _ _ t10)).trans t10, (hb10.cell (World.block_lt_of_cell? _ _ t11)).trans t11, (hb10.cell (World.block_lt_of_cell? _ _ t12)).trans t12, (hb10.cell (World.block_lt_of_cell? _ _ t13)).trans t13, (hb10.cell (World.block_lt_of_cell? _ _ t14)).trans t14, (hb10.cell (World.block_lt_of_cell? _ _ t15)).trans t15⟩
  refine hK.out _ _ hS10 (fun _ => ?_)
  clear hK K
  try simp only [Act.put, List.getElem_toArray, List.getElem_cons_succ, List.getElem_cons_zero, List.setIfInBounds_toArray, List.set_cons_zero, List.set_cons_succ]
  refine wpAnyH_ready (rs := [6]) (by kernel_rfl) (by simp) ?_
  refine AllReadyH.cons rfl (fun K hK => ?_) AllReadyH.nil
  go_simp
  refine (not_fn (M + 1) (.node 8 0 zD [t, q]) none 0 (some ⟨g10, 0, none⟩) 2 _ HP10.out).mono ?_
  rintro e v11 ⟨g11, rfl, hp11, hb11⟩
  have HA11 := Lib.hid (And.intro (HA10.out.1.trans (hb11.mono HA10.out.1.size)) (And.intro (HA10.out.2.1.below hb11) (HA10.out.2.2.below hb11)))
  have HP11 := Lib.hid hp11
  clear hp11
  have hS11 : (fun w' => w'.cell? ⟨w.heap.size, 0, none⟩ = some (.int .i64 t.op) ∧ w'.cell? ⟨w.heap.size, 1, none⟩ = some (.int .i64 t.col) ∧ w'.cell? ⟨w.heap.size, 2, none⟩ = some (.int .i64 t.d.k) ∧ w'.cell? ⟨w.heap.size, 3, none⟩ = some (.int .i64 t.d.n) ∧ w'.cell? ⟨w.heap.size, 4, none⟩ = some (.string t.d.s) ∧ w'.cell? ⟨w.heap.size, 5, none⟩ = some (.slice a t.d.l.length c) ∧ w'.cell? ⟨w.heap.size, 6, none⟩ = some (.slice pa t.parts.length pc) ∧ w'.cell? ⟨w.heap.size, 7, none⟩ = some (.slice ac cols.length cc) ∧ w'.cell? ⟨w.heap.size, 8, none⟩ = some (.slice ca cells.length ce) ∧ w'.cell? ⟨w.heap.size + 1, 0, none⟩ = some (.int .i64 q.op) ∧ w'.cell? ⟨w.heap.size + 1, 1, none⟩ = some (.int .i64 q.col) ∧ w'.cell? ⟨w.heap.size + 1, 2, none⟩ = some (.int .i64 q.d.k) ∧ w'.cell? ⟨w.heap.size + 1, 3, none⟩ = some (.int .i64 q.d.n) ∧ w'.cell? ⟨w.heap.size + 1, 4, none⟩ = some (.string q.d.s) ∧ w'.cell? ⟨w.heap.size + 1, 5, none⟩ = some (.slice a' q.d.l.length c') ∧ w'.cell? ⟨w.heap.size + 1, 6, none⟩ = some (.slice pa' q.parts.length pc')) v11 := by
    obtain ⟨t0, t1, t2, t3, t4, t5, t6, t7, t8, t9, t10, t11, t12, t13, t14, t15⟩ := hS10
    exact ⟨(hb11.cell (World.block_lt_of_cell? _ _ t0)).trans t0, (hb11.cell (World.block_lt_of_cell? _ _ t1)).trans t1, (hb11.cell (World.block_lt_of_cell? _ _ t2)).trans t2, (hb11.cell (World.block_lt_of_cell? _ _ t3)).trans t3, (hb11.cell (World.block_lt_of_cell? _ _ t4)).trans t4, (hb11.cell (World.block_lt_of_cell? _ _ t5)).trans t5, (hb11.cell (World.block_lt_of_cell? _ _ t6)).trans t6, (hb11.cell (World.block_lt_of_cell? _ _ t7)).trans t7, (hb11.cell (World.block_lt_of_cell? _ _ t8)).trans t8, (hb11.cell (World.block_lt_of_cell? _ _ t9)).trans t9, (hb11.cell (World.block_lt_of_cell? _ _ t10)).trans t10, (hb11.cell (World.block_lt_of_cell? _ _ t11)).trans t11, (hb11.cell (World.block_lt_of_cell? _ _ t12)).trans t12, (hb11.cell (World.block_lt_of_cell? _ _ t13)).trans t13, (hb11.cell (World.block_lt_of_cell? _ _ t14)).trans t14, (hb11.cell (World.block_lt_of_cell? _ _ t15)).trans t15⟩
  refine hK.out _ _ hS11 (fun _ => ?_)
  clear hK K
  try simp only [Act.put, List.getElem_toArray, List.getElem_cons_succ, List.getElem_cons_zero, List.setIfInBounds_toArray, List.set_cons_zero, List.set_cons_succ]
  refine wpAnyH_ready (rs := [11]) (by kernel_rfl) (by simp) ?_
  refine AllReadyH.cons rfl (fun K hK => ?_) AllReadyH.nil
  go_simp
  refine (Holds_any cols cells (M + 1 + 1) (notP (.node 8 0 zD [t, q])) none 0 (some ⟨g11, 0, none⟩) 1 ac cc ca ce _ HP11.out HA11.out.2.1.co HL.out.1 HA11.out.2.1.el HL.out.2.1 (HL.out.2.2.belowB HA11.out.1 h8) (by have := HA11.out.1.size; omega)).mono ?_
  rintro e v12 ⟨rfl, hb12⟩
  have HA12 := Lib.hid (And.intro (HA11.out.1.trans (hb12.mono HA11.out.1.size)) (And.intro (HA11.out.2.1.below hb12) (HA11.out.2.2.below hb12)))
  have hS12 : (fun w' => w'.cell? ⟨w.heap.size, 0, none⟩ = some (.int .i64 t.op) ∧ w'.cell? ⟨w.heap.size, 1, none⟩ = some (.int .i64 t.col) ∧ w'.cell? ⟨w.heap.size, 2, none⟩ = some (.int .i64 t.d.k) ∧ w'.cell? ⟨w.heap.size, 3, none⟩ = some (.int .i64 t.d.n) ∧ w'.cell? ⟨w.heap.size, 4, none⟩ = some (.string t.d.s) ∧ w'.cell? ⟨w.heap.size, 5, none⟩ = some (.slice a t.d.l.length c) ∧ w'.cell? ⟨w.heap.size, 6, none⟩ = some (.slice pa t.parts.length pc) ∧ w'.cell? ⟨w.heap.size, 7, none⟩ = some (.slice ac cols.length cc) ∧ w'.cell? ⟨w.heap.size, 8, none⟩ = some (.slice ca cells.length ce) ∧ w'.cell? ⟨w.heap.size + 1, 0, none⟩ = some (.int .i64 q.op) ∧ w'.cell? ⟨w.heap.size + 1, 1, none⟩ = some (.int .i64 q.col) ∧ w'.cell? ⟨w.heap.size + 1, 2, none⟩ = some (.int .i64 q.d.k) ∧ w'.cell? ⟨w.heap.size + 1, 3, none⟩ = some (.int .i64 q.d.n) ∧ w'.cell? ⟨w.heap.size + 1, 4, none⟩ = some (.string q.d.s) ∧ w'.cell? ⟨w.heap.size + 1, 5, none⟩ = some (.slice a' q.d.l.length c') ∧ w'.cell? ⟨w.heap.size + 1, 6, none⟩ = some (.slice pa' q.parts.length pc')) v12 := by
    obtain ⟨t0, t1, t2, t3, t4, t5, t6, t7, t8, t9, t10, t11, t12, t13, t14, t15⟩ := hS11
    exact ⟨(hb12.cell (World.block_lt_of_cell? _ _ t0)).trans t0, (hb12.cell (World.block_lt_of_cell? _ _ t1)).trans t1, (hb12.cell (World.block_lt_of_cell? _ _ t2)).trans t2, (hb12.cell (World.block_lt_of_cell? _ _ t3)).trans t3, (hb12.cell (World.block_lt_of_cell? _ _ t4)).trans t4, (hb12.cell (World.block_lt_of_cell? _ _ t5)).trans t5, (hb12.cell (World.block_lt_of_cell? _ _ t6)).trans t6, (hb12.cell (World.block_lt_of_cell? _ _ t7)).trans t7, (hb12.cell (World.block_lt_of_cell? _ _ t8)).trans t8, (hb12.cell (World.block_lt_of_cell? _ _ t9)).trans t9, (hb12.cell (World.block_lt_of_cell? _ _ t10)).trans t10, (hb12.cell (World.block_lt_of_cell? _ _ t11)).trans t11, (hb12.cell (World.block_lt_of_cell? _ _ t12)).trans t12, (hb12.cell (World.block_lt_of_cell? _ _ t13)).trans t13, (hb12.cell (World.block_lt_of_cell? _ _ t14)).trans t14, (hb12.cell (World.block_lt_of_cell? _ _ t15)).trans t15⟩
  refine hK.out _ _ hS12 (fun _ => ?_)
  clear hK K
  try simp only [Act.put, List.getElem_toArray, List.getElem_cons_succ, List.getElem_cons_zero, List.setIfInBounds_toArray, List.set_cons_zero, List.set_cons_succ]
  refine wpAnyH_take (i := 12) (v := ?_) rfl (by kernel_rfl) (by kernel_rfl) (by kernel_rfl) (fun _ _ _ h => h) (Or.inl ⟨by rfl, ?_⟩) hS12 ?_
  rotate_left
  · rintro w9 ⟨t0, t1, t2, t3, t4, t5, t6, t7, t8, t9, t10, t11, t12, t13, t14, t15⟩
    go_simp
    try with_reducible rfl
  try simp only [Act.put, List.getElem_toArray, List.getElem_cons_succ, List.getElem_cons_zero, List.setIfInBounds_toArray, List.set_cons_zero, List.set_cons_succ]
  refine wpAnyH_take (i := 13) (v := ?_) rfl (by kernel_rfl) (by kernel_rfl) (by kernel_rfl) (fun _ _ _ h => h) (Or.inl ⟨by rfl, ?_⟩) hS12 ?_
  rotate_left
  · rintro w9 ⟨t0, t1, t2, t3, t4, t5, t6, t7, t8, t9, t10, t11, t12, t13, t14, t15⟩
    go_simp
    try with_reducible rfl
  try simp only [Act.put, List.getElem_toArray, List.getElem_cons_succ, List.getElem_cons_zero, List.setIfInBounds_toArray, List.set_cons_zero, List.set_cons_succ]
  refine wpAnyH_take (i := 14) (v := ?_) rfl (by kernel_rfl) (by kernel_rfl) (by kernel_rfl) (fun _ _ _ h => h) (Or.inl ⟨by rfl, ?_⟩) hS12 ?_
  rotate_left
  · rintro w9 ⟨t0, t1, t2, t3, t4, t5, t6, t7, t8, t9, t10, t11, t12, t13, t14, t15⟩
    go_simp
    try with_reducible rfl
  try simp only [Act.put, List.getElem_toArray, List.getElem_cons_succ, List.getElem_cons_zero, List.setIfInBounds_toArray, List.set_cons_zero, List.set_cons_succ]
  refine wpAnyH_take (i := 15) (v := ?_) rfl (by kernel_rfl) (by kernel_rfl) (by kernel_rfl) (fun _ _ _ h => h) (Or.inl ⟨by rfl, ?_⟩) hS12 ?_
  rotate_left
  · rintro w9 ⟨t0, t1, t2, t3, t4, t5, t6, t7, t8, t9, t10, t11, t12, t13, t14, t15⟩
    go_simp
    try with_reducible rfl
  try simp only [Act.put, List.getElem_toArray, List.getElem_cons_succ, List.getElem_cons_zero, List.setIfInBounds_toArray, List.set_cons_zero, List.set_cons_succ]
  refine wpAnyH_take (i := 16) (v := ?_) rfl (by kernel_rfl) (by kernel_rfl) (by kernel_rfl) (fun _ _ _ h => h) (Or.inl ⟨by rfl, ?_⟩) hS12 ?_
  rotate_left
  · rintro w9 ⟨t0, t1, t2, t3, t4, t5, t6, t7, t8, t9, t10, t11, t12, t13, t14, t15⟩
    go_simp
    try with_reducible rfl
  try simp only [Act.put, List.getElem_toArray, List.getElem_cons_succ, List.getElem_cons_zero, List.setIfInBounds_toArray, List.set_cons_zero, List.set_cons_succ]
  refine wpAnyH_done (by kernel_rfl) ?_ _
  refine NoPanic.normal ?_
  go_wp2
  have hb13 : Below v12.heap.size v12 v12.drew := by go_grown
  have HA13 := Lib.hid (And.intro (HA12.out.1.trans (hb13.mono HA12.out.1.size)) (And.intro (HA12.out.2.1.below hb13) (HA12.out.2.2.below hb13)))
  refine wp_region_noPanic ?_
  refine wp_region_held_drew (S := (fun w' => w'.cell? ⟨w.heap.size, 0, none⟩ = some (.int .i64 t.op) ∧ w'.cell? ⟨w.heap.size, 1, none⟩ = some (.int .i64 t.col) ∧ w'.cell? ⟨w.heap.size, 2, none⟩ = some (.int .i64 t.d.k) ∧ w'.cell? ⟨w.heap.size, 3, none⟩ = some (.int .i64 t.d.n) ∧ w'.cell? ⟨w.heap.size, 4, none⟩ = some (.string t.d.s) ∧ w'.cell? ⟨w.heap.size, 5, none⟩ = some (.slice a t.d.l.length c) ∧ w'.cell? ⟨w.heap.size, 6, none⟩ = some (.slice pa t.parts.length pc) ∧ w'.cell? ⟨w.heap.size, 7, none⟩ = some (.slice ac cols.length cc) ∧ w'.cell? ⟨w.heap.size, 8, none⟩ = some (.slice ca cells.length ce) ∧ w'.cell? ⟨w.heap.size + 1, 0, none⟩ = some (.int .i64 q.op) ∧ w'.cell? ⟨w.heap.size + 1, 1, none⟩ = some (.int .i64 q.col) ∧ w'.cell? ⟨w.heap.size + 1, 2, none⟩ = some (.int .i64 q.d.k) ∧ w'.cell? ⟨w.heap.size + 1, 3, none⟩ = some (.int .i64 q.d.n) ∧ w'.cell? ⟨w.heap.size + 1, 4, none⟩ = some (.string q.d.s) ∧ w'.cell? ⟨w.heap.size + 1, 5, none⟩ = some (.slice a' q.d.l.length c') ∧ w'.cell? ⟨w.heap.size + 1, 6, none⟩ = some (.slice pa' q.parts.length pc'))) (by kernel_rfl) hS12 (fun hS => ?_)
  refine wpAnyH_take (i := 0) (v := ?_) rfl (by kernel_rfl) (by kernel_rfl) (by kernel_rfl) (fun _ _ _ h => h) (Or.inl ⟨by rfl, ?_⟩) hS ?_
  rotate_left
  · rintro w9 ⟨t0, t1, t2, t3, t4, t5, t6, t7, t8, t9, t10, t11, t12, t13, t14, t15⟩
    go_simp
    try with_reducible rfl
  try simp only [Act.put, List.getElem_toArray, List.getElem_cons_succ, List.getElem_cons_zero, List.setIfInBounds_toArray, List.set_cons_zero, List.set_cons_succ]
  refine wpAnyH_take (i := 1) (v := ?_) rfl (by kernel_rfl) (by kernel_rfl) (by kernel_rfl) (fun _ _ _ h => h) (Or.inl ⟨by rfl, ?_⟩) hS ?_
  rotate_left
  · rintro w9 ⟨t0, t1, t2, t3, t4, t5, t6, t7, t8, t9, t10, t11, t12, t13, t14, t15⟩
    go_simp
    try with_reducible rfl
  try simp only [Act.put, List.getElem_toArray, List.getElem_cons_succ, List.getElem_cons_zero, List.setIfInBounds_toArray, List.set_cons_zero, List.set_cons_succ]
  refine wpAnyH_take (i := 2) (v := ?_) rfl (by kernel_rfl) (by kernel_rfl) (by kernel_rfl) (fun _ _ _ h => h) (Or.inl ⟨by rfl, ?_⟩) hS ?_
  rotate_left
  · rintro w9 ⟨t0, t1, t2, t3, t4, t5, t6, t7, t8, t9, t10, t11, t12, t13, t14, t15⟩
    go_simp
    try with_reducible rfl
  try simp only [Act.put, List.getElem_toArray, List.getElem_cons_succ, List.getElem_cons_zero, List.setIfInBounds_toArray, List.set_cons_zero, List.set_cons_succ]
  refine wpAnyH_take (i := 3) (v := ?_) rfl (by kernel_rfl) (by kernel_rfl) (by kernel_rfl) (fun _ _ _ h => h) (Or.inl ⟨by rfl, ?_⟩) hS ?_
  rotate_left
  · rintro w9 ⟨t0, t1, t2, t3, t4, t5, t6, t7, t8, t9, t10, t11, t12, t13, t14, t15⟩
    go_simp
    try with_reducible rfl
  try simp only [Act.put, List.getElem_toArray, List.getElem_cons_succ, List.getElem_cons_zero, List.setIfInBounds_toArray, List.set_cons_zero, List.set_cons_succ]
  refine wpAnyH_take (i := 5) (v := ?_) rfl (by kernel_rfl) (by kernel_rfl) (by kernel_rfl) (fun _ _ _ h => h) (Or.inl ⟨by rfl, ?_⟩) hS ?_
  rotate_left
  · rintro w9 ⟨t0, t1, t2, t3, t4, t5, t6, t7, t8, t9, t10, t11, t12, t13, t14, t15⟩
    go_simp
    try with_reducible rfl
  try simp only [Act.put, List.getElem_toArray, List.getElem_cons_succ, List.getElem_cons_zero, List.setIfInBounds_toArray, List.set_cons_zero, List.set_cons_succ]
  refine wpAnyH_take (i := 6) (v := ?_) rfl (by kernel_rfl) (by kernel_rfl) (by kernel_rfl) (fun _ _ _ h => h) (Or.inl ⟨by rfl, ?_⟩) hS ?_
  rotate_left
  · rintro w9 ⟨t0, t1, t2, t3, t4, t5, t6, t7, t8, t9, t10, t11, t12, t13, t14, t15⟩
    go_simp
    try with_reducible rfl
  try simp only [Act.put, List.getElem_toArray, List.getElem_cons_succ, List.getElem_cons_zero, List.setIfInBounds_toArray, List.set_cons_zero, List.set_cons_succ]
  refine wpAnyH_take (i := 9) (v := ?_) rfl (by kernel_rfl) (by kernel_rfl) (by kernel_rfl) (fun _ _ _ h => h) (Or.inl ⟨by rfl, ?_⟩) hS ?_
  rotate_left
  · rintro w9 ⟨t0, t1, t2, t3, t4, t5, t6, t7, t8, t9, t10, t11, t12, t13, t14, t15⟩
    go_simp
    try with_reducible rfl
  try simp only [Act.put, List.getElem_toArray, List.getElem_cons_succ, List.getElem_cons_zero, List.setIfInBounds_toArray, List.set_cons_zero, List.set_cons_succ]
  refine wpAnyH_take (i := 10) (v := ?_) rfl (by kernel_rfl) (by kernel_rfl) (by kernel_rfl) (fun _ _ _ h => h) (Or.inl ⟨by rfl, ?_⟩) hS ?_
  rotate_left
  · rintro w9 ⟨t0, t1, t2, t3, t4, t5, t6, t7, t8, t9, t10, t11, t12, t13, t14, t15⟩
    go_simp
    try with_reducible rfl
  try simp only [Act.put, List.getElem_toArray, List.getElem_cons_succ, List.getElem_cons_zero, List.setIfInBounds_toArray, List.set_cons_zero, List.set_cons_succ]
  refine wpAnyH_take (i := 11) (v := ?_) rfl (by kernel_rfl) (by kernel_rfl) (by kernel_rfl) (fun _ _ _ h => h) (Or.inl ⟨by rfl, ?_⟩) hS ?_
  rotate_left
  · rintro w9 ⟨t0, t1, t2, t3, t4, t5, t6, t7, t8, t9, t10, t11, t12, t13, t14, t15⟩
    go_simp
    try with_reducible rfl
  try simp only [Act.put, List.getElem_toArray, List.getElem_cons_succ, List.getElem_cons_zero, List.setIfInBounds_toArray, List.set_cons_zero, List.set_cons_succ]
  refine wpAnyH_take (i := 12) (v := ?_) rfl (by kernel_rfl) (by kernel_rfl) (by kernel_rfl) (fun _ _ _ h => h) (Or.inl ⟨by rfl, ?_⟩) hS ?_
  rotate_left
  · rintro w9 ⟨t0, t1, t2, t3, t4, t5, t6, t7, t8, t9, t10, t11, t12, t13, t14, t15⟩
    go_simp
    try with_reducible rfl
  try simp only [Act.put, List.getElem_toArray, List.getElem_cons_succ, List.getElem_cons_zero, List.setIfInBounds_toArray, List.set_cons_zero, List.set_cons_succ]
  refine wpAnyH_ready (rs := [4]) (by kernel_rfl) (by simp) ?_
  refine AllReadyH.cons rfl (fun K hK => ?_) AllReadyH.nil
  go_simp
  refine (not_fn M t a c pa pc _ HA13.out.2.1.p).mono ?_
  rintro e v14 ⟨g14, rfl, hp14, hb14⟩
  have HA14 := Lib.hid (And.intro (HA13.out.1.trans (hb14.mono HA13.out.1.size)) (And.intro (HA13.out.2.1.below hb14) (HA13.out.2.2.below hb14)))
  have HP14 := Lib.hid hp14
  clear hp14
  have hS14 : (fun w' => w'.cell? ⟨w.heap.size, 0, none⟩ = some (.int .i64 t.op) ∧ w'.cell? ⟨w.heap.size, 1, none⟩ = some (.int .i64 t.col) ∧ w'.cell? ⟨w.heap.size, 2, none⟩ = some (.int .i64 t.d.k) ∧ w'.cell? ⟨w.heap.size, 3, none⟩ = some (.int .i64 t.d.n) ∧ w'.cell? ⟨w.heap.size, 4, none⟩ = some (.string t.d.s) ∧ w'.cell? ⟨w.heap.size, 5, none⟩ = some (.slice a t.d.l.length c) ∧ w'.cell? ⟨w.heap.size, 6, none⟩ = some (.slice pa t.parts.length pc) ∧ w'.cell? ⟨w.heap.size, 7, none⟩ = some (.slice ac cols.length cc) ∧ w'.cell? ⟨w.heap.size, 8, none⟩ = some (.slice ca cells.length ce) ∧ w'.cell? ⟨w.heap.size + 1, 0, none⟩ = some (.int .i64 q.op) ∧ w'.cell? ⟨w.heap.size + 1, 1, none⟩ = some (.int .i64 q.col) ∧ w'.cell? ⟨w.heap.size + 1, 2, none⟩ = some (.int .i64 q.d.k) ∧ w'.cell? ⟨w.heap.size + 1, 3, none⟩ = some (.int .i64 q.d.n) ∧ w'.cell? ⟨w.heap.size + 1, 4, none⟩ = some (.string q.d.s) ∧ w'.cell? ⟨w.heap.size + 1, 5, none⟩ = some (.slice a' q.d.l.length c') ∧ w'.cell? ⟨w.heap.size + 1, 6, none⟩ = some (.slice pa' q.parts.length pc')) v14 := by
    obtain ⟨t0, t1, t2, t3, t4, t5, t6, t7, t8, t9, t10, t11, t12, t13, t14, t15⟩ := hS
    exact ⟨(hb14.cell (World.block_lt_of_cell? _ _ t0)).trans t0, (hb14.cell (World.block_lt_of_cell? _ _ t1)).trans t1, (hb14.cell (World.block_lt_of_cell? _ _ t2)).trans t2, (hb14.cell (World.block_lt_of_cell? _ _ t3)).trans t3, (hb14.cell (World.block_lt_of_cell? _ _ t4)).trans t4, (hb14.cell (World.block_lt_of_cell? _ _ t5)).trans t5, (hb14.cell (World.block_lt_of_cell? _ _ t6)).trans t6, (hb14.cell (World.block_lt_of_cell? _ _ t7)).trans t7, (hb14.cell (World.block_lt_of_cell? _ _ t8)).trans t8, (hb14.cell (World.block_lt_of_cell? _ _ t9)).trans t9, (hb14.cell (World.block_lt_of_cell? _ _ t10)).trans t10, (hb14.cell (World.block_lt_of_cell? _ _ t11)).trans t11, (hb14.cell (World.block_lt_of_cell? _ _ t12)).trans t12, (hb14.cell (World.block_lt_of_cell? _ _ t13)).trans t13, (hb14.cell (World.block_lt_of_cell? _ _ t14)).trans t14, (hb14.cell (World.block_lt_of_cell? _ _ t15)).trans t15⟩
  refine hK.out _ _ hS14 (fun _ => ?_)
  clear hK K
  try simp only [Act.put, List.getElem_toArray, List.getElem_cons_succ, List.getElem_cons_zero, List.setIfInBounds_toArray, List.set_cons_zero, List.set_cons_succ]
  refine wpAnyH_ready (rs := [7]) (by kernel_rfl) (by simp) ?_
  refine AllReadyH.cons rfl (fun K hK => ?_) AllReadyH.nil
  go_simp
  refine (not_fn M q a' c' pa' pc' _ HA14.out.2.2).mono ?_
  rintro e v15 ⟨g15, rfl, hp15, hb15⟩
  have HA15 := Lib.hid (And.intro (HA14.out.1.trans (hb15.mono HA14.out.1.size)) (And.intro (HA14.out.2.1.below hb15) (HA14.out.2.2.below hb15)))
  have HP15 := Lib.hid hp15
  have HPx15 := Lib.hid (HP14.out.below hb15)
  clear hp15
  have hS15 : (fun w' => w'.cell? ⟨w.heap.size, 0, none⟩ = some (.int .i64 t.op) ∧ w'.cell? ⟨w.heap.size, 1, none⟩ = some (.int .i64 t.col) ∧ w'.cell? ⟨w.heap.size, 2, none⟩ = some (.int .i64 t.d.k) ∧ w'.cell? ⟨w.heap.size, 3, none⟩ = some (.int .i64 t.d.n) ∧ w'.cell? ⟨w.heap.size, 4, none⟩ = some (.string t.d.s) ∧ w'.cell? ⟨w.heap.size, 5, none⟩ = some (.slice a t.d.l.length c) ∧ w'.cell? ⟨w.heap.size, 6, none⟩ = some (.slice pa t.parts.length pc) ∧ w'.cell? ⟨w.heap.size, 7, none⟩ = some (.slice ac cols.length cc) ∧ w'.cell? ⟨w.heap.size, 8, none⟩ = some (.slice ca cells.length ce) ∧ w'.cell? ⟨w.heap.size + 1, 0, none⟩ = some (.int .i64 q.op) ∧ w'.cell? ⟨w.heap.size + 1, 1, none⟩ = some (.int .i64 q.col) ∧ w'.cell? ⟨w.heap.size + 1, 2, none⟩ = some (.int .i64 q.d.k) ∧ w'.cell? ⟨w.heap.size + 1, 3, none⟩ = some (.int .i64 q.d.n) ∧ w'.cell? ⟨w.heap.size + 1, 4, none⟩ = some (.string q.d.s) ∧ w'.cell? ⟨w.heap.size + 1, 5, none⟩ = some (.slice a' q.d.l.length c') ∧ w'.cell? ⟨w.heap.size + 1, 6, none⟩ = some (.slice pa' q.parts.length pc')) v15 := by
    obtain ⟨t0, t1, t2, t3, t4, t5, t6, t7, t8, t9, t10, t11, t12, t13, t14, t15⟩ := hS14
    exact ⟨(hb15.cell (World.block_lt_of_cell? _ _ t0)).trans t0, (hb15.cell (World.block_lt_of_cell? _ _ t1)).trans t1, (hb15.cell (World.block_lt_of_cell? _ _ t2)).trans t2, (hb15.cell (World.block_lt_of_cell? _ _ t3)).trans t3, (hb15.cell (World.block_lt_of_cell? _ _ t4)).trans t4, (hb15.cell (World.block_lt_of_cell? _ _ t5)).trans t5, (hb15.cell (World.block_lt_of_cell? _ _ t6)).trans t6, (hb15.cell (World.block_lt_of_cell? _ _ t7)).trans t7, (hb15.cell (World.block_lt_of_cell? _ _ t8)).trans t8, (hb15.cell (World.block_lt_of_cell? _ _ t9)).trans t9, (hb15.cell (World.block_lt_of_cell? _ _ t10)).trans t10, (hb15.cell (World.block_lt_of_cell? _ _ t11)).trans t11, (hb15.cell (World.block_lt_of_cell? _ _ t12)).trans t12, (hb15.cell (World.block_lt_of_cell? _ _ t13)).trans t13, (hb15.cell (World.block_lt_of_cell? _ _ t14)).trans t14, (hb15.cell (World.block_lt_of_cell? _ _ t15)).trans t15⟩
  refine hK.out _ _ hS15 (fun _ => ?_)
  clear hK K
  try simp only [Act.put, List.getElem_toArray, List.getElem_cons_succ, List.getElem_cons_zero, List.setIfInBounds_toArray, List.set_cons_zero, List.set_cons_succ]
  refine wpAnyH_ready (rs := [8]) (by kernel_rfl) (by simp) ?_
  refine AllReadyH.cons rfl (fun K hK => ?_) AllReadyH.nil
  go_simp
  refine (two_fn (M + 1) 7 ⟨by omega, by omega⟩ (notP t) none 0 (some ⟨g14, 0, none⟩) 1 (notP q) none 0 (some ⟨g15, 0, none⟩) 1 _ HPx15.out HP15.out).mono ?_
  rintro e v16 ⟨g16, rfl, hp16, hb16⟩
  have HA16 := Lib.hid (And.intro (HA15.out.1.trans (hb16.mono HA15.out.1.size)) (And.intro (HA15.out.2.1.below hb16) (HA15.out.2.2.below hb16)))
  have HP16 := Lib.hid hp16
  clear hp16
  have hS16 : (fun w' => w'.cell? ⟨w.heap.size, 0, none⟩ = some (.int .i64 t.op) ∧ w'.cell? ⟨w.heap.size, 1, none⟩ = some (.int .i64 t.col) ∧ w'.cell? ⟨w.heap.size, 2, none⟩ = some (.int .i64 t.d.k) ∧ w'.cell? ⟨w.heap.size, 3, none⟩ = some (.int .i64 t.d.n) ∧ w'.cell? ⟨w.heap.size, 4, none⟩ = some (.string t.d.s) ∧ w'.cell? ⟨w.heap.size, 5, none⟩ = some (.slice a t.d.l.length c) ∧ w'.cell? ⟨w.heap.size, 6, none⟩ = some (.slice pa t.parts.length pc) ∧ w'.cell? ⟨w.heap.size, 7, none⟩ = some (.slice ac cols.length cc) ∧ w'.cell? ⟨w.heap.size, 8, none⟩ = some (.slice ca cells.length ce) ∧ w'.cell? ⟨w.heap.size + 1, 0, none⟩ = some (.int .i64 q.op) ∧ w'.cell? ⟨w.heap.size + 1, 1, none⟩ = some (.int .i64 q.col) ∧ w'.cell? ⟨w.heap.size + 1, 2, none⟩ = some (.int .i64 q.d.k) ∧ w'.cell? ⟨w.heap.size + 1, 3, none⟩ = some (.int .i64 q.d.n) ∧ w'.cell? ⟨w.heap.size + 1, 4, none⟩ = some (.string q.d.s) ∧ w'.cell? ⟨w.heap.size + 1, 5, none⟩ = some (.slice a' q.d.l.length c') ∧ w'.cell? ⟨w.heap.size + 1, 6, none⟩ = some (.slice pa' q.parts.length pc')) v16 := by
    obtain ⟨t0, t1, t2, t3, t4, t5, t6, t7, t8, t9, t10, t11, t12, t13, t14, t15⟩ := hS15
    exact ⟨(hb16.cell (World.block_lt_of_cell? _ _ t0)).trans t0, (hb16.cell (World.block_lt_of_cell? _ _ t1)).trans t1, (hb16.cell (World.block_lt_of_cell? _ _ t2)).trans t2, (hb16.cell (World.block_lt_of_cell? _ _ t3)).trans t3, (hb16.cell (World.block_lt_of_cell? _ _ t4)).trans t4, (hb16.cell (World.block_lt_of_cell? _ _ t5)).trans t5, (hb16.cell (World.block_lt_of_cell? _ _ t6)).trans t6, (hb16.cell (World.block_lt_of_cell? _ _ t7)).trans t7, (hb16.cell (World.block_lt_of_cell? _ _ t8)).trans t8, (hb16.cell (World.block_lt_of_cell? _ _ t9)).trans t9, (hb16.cell (World.block_lt_of_cell? _ _ t10)).trans t10, (hb16.cell (World.block_lt_of_cell? _ _ t11)).trans t11, (hb16.cell (World.block_lt_of_cell? _ _ t12)).trans t12, (hb16.cell (World.block_lt_of_cell? _ _ t13)).trans t13, (hb16.cell (World.block_lt_of_cell? _ _ t14)).trans t14, (hb16.cell (World.block_lt_of_cell? _ _ t15)).trans t15⟩
  refine hK.out _ _ hS16 (fun _ => ?_)
  clear hK K
  try simp only [Act.put, List.getElem_toArray, List.getElem_cons_succ, List.getElem_cons_zero, List.setIfInBounds_toArray, List.set_cons_zero, List.set_cons_succ]
  refine wpAnyH_ready (rs := [13]) (by kernel_rfl) (by simp) ?_
  refine AllReadyH.cons rfl (fun K hK => ?_) AllReadyH.nil
  go_simp
  refine (Holds_any cols cells (M + 1 + 1) (.node 7 0 zD [notP t, notP q]) none 0 (some ⟨g16, 0, none⟩) 2 ac cc ca ce _ HP16.out HA16.out.2.1.co HL.out.1 HA16.out.2.1.el HL.out.2.1 (HL.out.2.2.belowB HA16.out.1 h8) (by have := HA16.out.1.size; omega)).mono ?_
  rintro e v17 ⟨rfl, hb17⟩
  have HA17 := Lib.hid (And.intro (HA16.out.1.trans (hb17.mono HA16.out.1.size)) (And.intro (HA16.out.2.1.below hb17) (HA16.out.2.2.below hb17)))
  have hS17 : (fun w' => w'.cell? ⟨w.heap.size, 0, none⟩ = some (.int .i64 t.op) ∧ w'.cell? ⟨w.heap.size, 1, none⟩ = some (.int .i64 t.col) ∧ w'.cell? ⟨w.heap.size, 2, none⟩ = some (.int .i64 t.d.k) ∧ w'.cell? ⟨w.heap.size, 3, none⟩ = some (.int .i64 t.d.n) ∧ w'.cell? ⟨w.heap.size, 4, none⟩ = some (.string t.d.s) ∧ w'.cell? ⟨w.heap.size, 5, none⟩ = some (.slice a t.d.l.length c) ∧ w'.cell? ⟨w.heap.size, 6, none⟩ = some (.slice pa t.parts.length pc) ∧ w'.cell? ⟨w.heap.size, 7, none⟩ = some (.slice ac cols.length cc) ∧ w'.cell? ⟨w.heap.size, 8, none⟩ = some (.slice ca cells.length ce) ∧ w'.cell? ⟨w.heap.size + 1, 0, none⟩ = some (.int .i64 q.op) ∧ w'.cell? ⟨w.heap.size + 1, 1, none⟩ = some (.int .i64 q.col) ∧ w'.cell? ⟨w.heap.size + 1, 2, none⟩ = some (.int .i64 q.d.k) ∧ w'.cell? ⟨w.heap.size + 1, 3, none⟩ = some (.int .i64 q.d.n) ∧ w'.cell? ⟨w.heap.size + 1, 4, none⟩ = some (.string q.d.s) ∧ w'.cell? ⟨w.heap.size + 1, 5, none⟩ = some (.slice a' q.d.l.length c') ∧ w'.cell? ⟨w.heap.size + 1, 6, none⟩ = some (.slice pa' q.parts.length pc')) v17 := by
    obtain ⟨t0, t1, t2, t3, t4, t5, t6, t7, t8, t9, t10, t11, t12, t13, t14, t15⟩ := hS16
    exact ⟨(hb17.cell (World.block_lt_of_cell? _ _ t0)).trans t0, (hb17.cell (World.block_lt_of_cell? _ _ t1)).trans t1, (hb17.cell (World.block_lt_of_cell? _ _ t2)).trans t2, (hb17.cell (World.block_lt_of_cell? _ _ t3)).trans t3, (hb17.cell (World.block_lt_of_cell? _ _ t4)).trans t4, (hb17.cell (World.block_lt_of_cell? _ _ t5)).trans t5, (hb17.cell (World.block_lt_of_cell? _ _ t6)).trans t6, (hb17.cell (World.block_lt_of_cell? _ _ t7)).trans t7, (hb17.cell (World.block_lt_of_cell? _ _ t8)).trans t8, (hb17.cell (World.block_lt_of_cell? _ _ t9)).trans t9, (hb17.cell (World.block_lt_of_cell? _ _ t10)).trans t10, (hb17.cell (World.block_lt_of_cell? _ _ t11)).trans t11, (hb17.cell (World.block_lt_of_cell? _ _ t12)).trans t12, (hb17.cell (World.block_lt_of_cell? _ _ t13)).trans t13, (hb17.cell (World.block_lt_of_cell? _ _ t14)).trans t14, (hb17.cell (World.block_lt_of_cell? _ _ t15)).trans t15⟩
  refine hK.out _ _ hS17 (fun _ => ?_)
  clear hK K
  try simp only [Act.put, List.getElem_toArray, List.getElem_cons_succ, List.getElem_cons_zero, List.setIfInBounds_toArray, List.set_cons_zero, List.set_cons_succ]
  refine wpAnyH_take (i := 14) (v := ?_) rfl (by kernel_rfl) (by kernel_rfl) (by kernel_rfl) (fun _ _ _ h => h) (Or.inl ⟨by rfl, ?_⟩) hS17 ?_
  rotate_left
  · rintro w9 ⟨t0, t1, t2, t3, t4, t5, t6, t7, t8, t9, t10, t11, t12, t13, t14, t15⟩
    go_simp
    try with_reducible rfl
  try simp only [Act.put, List.getElem_toArray, List.getElem_cons_succ, List.getElem_cons_zero, List.setIfInBounds_toArray, List.set_cons_zero, List.set_cons_succ]
  refine wpAnyH_take (i := 15) (v := ?_) rfl (by kernel_rfl) (by kernel_rfl) (by kernel_rfl) (fun _ _ _ h => h) (Or.inl ⟨by rfl, ?_⟩) hS17 ?_
  rotate_left
  · rintro w9 ⟨t0, t1, t2, t3, t4, t5, t6, t7, t8, t9, t10, t11, t12, t13, t14, t15⟩
    go_simp
    try with_reducible rfl
  try simp only [Act.put, List.getElem_toArray, List.getElem_cons_succ, List.getElem_cons_zero, List.setIfInBounds_toArray, List.set_cons_zero, List.set_cons_succ]
  refine wpAnyH_take (i := 16) (v := ?_) rfl (by kernel_rfl) (by kernel_rfl) (by kernel_rfl) (fun _ _ _ h => h) (Or.inl ⟨by rfl, ?_⟩) hS17 ?_
  rotate_left
  · rintro w9 ⟨t0, t1, t2, t3, t4, t5, t6, t7, t8, t9, t10, t11, t12, t13, t14, t15⟩
    go_simp
    try with_reducible rfl
  try simp only [Act.put, List.getElem_toArray, List.getElem_cons_succ, List.getElem_cons_zero, List.setIfInBounds_toArray, List.set_cons_zero, List.set_cons_succ]
  refine wpAnyH_take (i := 17) (v := ?_) rfl (by kernel_rfl) (by kernel_rfl) (by kernel_rfl) (fun _ _ _ h => h) (Or.inl ⟨by rfl, ?_⟩) hS17 ?_
  rotate_left
  · rintro w9 ⟨t0, t1, t2, t3, t4, t5, t6, t7, t8, t9, t10, t11, t12, t13, t14, t15⟩
    go_simp
    try with_reducible rfl
  try simp only [Act.put, List.getElem_toArray, List.getElem_cons_succ, List.getElem_cons_zero, List.setIfInBounds_toArray, List.set_cons_zero, List.set_cons_succ]
  refine wpAnyH_take (i := 18) (v := ?_) rfl (by kernel_rfl) (by kernel_rfl) (by kernel_rfl) (fun _ _ _ h => h) (Or.inl ⟨by rfl, ?_⟩) hS17 ?_
  rotate_left
  · rintro w9 ⟨t0, t1, t2, t3, t4, t5, t6, t7, t8, t9, t10, t11, t12, t13, t14, t15⟩
    go_simp
    try with_reducible rfl
  try simp only [Act.put, List.getElem_toArray, List.getElem_cons_succ, List.getElem_cons_zero, List.setIfInBounds_toArray, List.set_cons_zero, List.set_cons_succ]
  refine wpAnyH_done (by kernel_rfl) ?_ _
  refine NoPanic.normal ?_
  have HMo := HM.out
  unfold andP orP at HMo
  obtain ⟨m1, m2, m3, m4, m5, m6⟩ := HMo
  rw [← m1, ← m2, ← m3, ← m4, ← m5]
  have HAW := Lib.hid (awake_any v17 (HL.out.2.2.belowB HA17.out.1 h8) (by have := HA17.out.1.size; omega))
  clear m1 m2 m3 m4 m5
  generalize holdE cols cells (notP (PT.node 7 0 zD [t, q])) = E1 at *
  generalize holdV cols cells (notP (PT.node 7 0 zD [t, q])) = V1 at *
  generalize holdV cols cells (notP (PT.node 8 0 zD [t, q])) = V3 at *
  have M6 := Lib.hid m6
  clear m6
  have hee : (E1 == E1) = true := by simp
  by_cases hE : E1 = 0
  · have hne : (E1 != 0) = false := by simp [hE]
    have M7 := Lib.hid (M6.out hE)
    clear hE
    cases V1 with
    | true =>
      go_wp2_with fail
      refine HAW.out.mono ?_
      rintro e w9 ⟨rfl, hb9⟩
      go_wp2
      go_ret
      exact ⟨rfl, HA17.out.1.trans (hb9.mono HA17.out.1.size)⟩
    | false =>
      obtain rfl : V3 = false := M7.out rfl
      go_wp2_with fail
      refine HAW.out.mono ?_
      rintro e w9 ⟨rfl, hb9⟩
      go_wp2
      go_ret
      exact ⟨rfl, HA17.out.1.trans (hb9.mono HA17.out.1.size)⟩
  · have hne : (E1 != 0) = true := by simpa using hE
    clear hE
    go_wp2_with fail
    refine HAW.out.mono ?_
    rintro e w9 ⟨rfl, hb9⟩
    go_wp2
    go_ret
    exact ⟨rfl, HA17.out.1.trans (hb9.mono HA17.out.1.size)⟩
end Go.Proofs.YtdjlbfepddcmeaaGreatDoor
