/- Whether a predicate is true: the program's, whole. -/
import Derived.Test.YtdjlbfepddcmeaaGreatDoorQ20
set_option linter.unusedVariables false
set_option linter.unusedSimpArgs false
namespace Go.Proofs.YtdjlbfepddcmeaaGreatDoor
open Go.RowKit

theorem mayP_parts {cols : List Co} {n : Nat} {t : PT} (h : mayP cols (n + 1) t = true) (ho : ¬ (1 ≤ t.op ∧ t.op ≤ 6)) : t.parts.all (mayP cols n) = true ∧ t.parts.length ≤ 8 ∧
    (t.op = 7 ∨ t.op = 8 ∨ (t.op = 9 ∧ t.parts.length = 1) ∨ (t.op = 10 ∧ t.parts.length = 0)) ∧ t.col = 0 ∧ t.d.zero = true := by
  rw [mayP, if_neg ho] at h
  by_cases hz : t.col ≠ 0 ∨ t.d.zero = false
  · rw [if_pos hz] at h; cases h
  · rw [if_neg hz] at h
    have hz' : t.col = 0 ∧ t.d.zero = true := by
      constructor
      · exact Decidable.byContradiction fun h => hz (.inl h)
      · cases h : t.d.zero
        · exact absurd (.inr h) hz
        · rfl
    by_cases h78 : t.op = 7 ∨ t.op = 8
    · rw [if_pos h78] at h
      simp only [Bool.and_eq_true, decide_eq_true_eq] at h
      exact ⟨h.2, h.1.2, by rcases h78 with h | h; exact .inl h; exact .inr (.inl h), hz'⟩
    · rw [if_neg h78] at h
      by_cases h9 : t.op = 9
      · rw [if_pos h9] at h
        simp only [Bool.and_eq_true, decide_eq_true_eq] at h
        exact ⟨h.2, by omega, .inr (.inr (.inl ⟨h9, h.1⟩)), hz'⟩
      · rw [if_neg h9] at h
        by_cases h10 : t.op = 10
        · rw [if_pos h10] at h
          simp only [decide_eq_true_eq] at h
          have h0 : t.parts = [] := List.eq_nil_of_length_eq_zero h
          exact ⟨by rw [h0]; rfl, by omega, .inr (.inr (.inr ⟨h10, h⟩)), hz'⟩
        · rw [if_neg h10] at h; cases h

theorem holds_true (cells : List El) (n : Nat) (t : PT) (a : Option Addr) (c : Nat) (pa : Option Addr) (pc : Nat) (ca : Option Addr) (cc : Nat) (w : World) (ho : t.op = 10) :
    Calls Tryz.prog 24 #[pv t a c pa pc, .slice ca cells.length cc] w fun e w' => e = .returned (.bool (trueP cells (n + 1) t)) ∧ Below w.heap.size w w' := by
  have HT := Lib.hid (show trueP cells (n + 1) t = true by rw [trueP, if_pos ho])
  have hb3 := box3_below w t a c pa pc ca cells.length cc
  unfold box3 at hb3
  unfold pv
  generalize t.op = op at *
  generalize t.col = col at *
  generalize t.d = d at *
  generalize t.parts = ps at *
  subst ho
  go_enter Tryz.func24, Tryz.ntmps24
  go_wp2
  go_ret
  exact ⟨ret_bool HT.out.symm, hb3⟩

set_option maxRecDepth 100000 in
set_option maxHeartbeats 4000000 in
theorem holds_and (cols : List Co) (cells : List El) (n m : Nat) (t : PT) (a : Option Addr) (c : Nat) (pa : Option Addr) (pc : Nat) (ca : Option Addr) (cc : Nat) (w : World) (hok : HoldsOK cols cells n)
    (hp : PredIs m w t a pa) (hall : t.parts.all (mayP cols n) = true) (hr : DeepIs w ca cells) (hG : GlobsM w) (h16 : 8 ≤ w.heap.size) (ho : t.op = 7) :
    Calls Tryz.prog 24 #[pv t a c pa pc, .slice ca cells.length cc] w fun e w' => e = .returned (.bool (trueP cells (n + 1) t)) ∧ Below w.heap.size w w' := by
  obtain ⟨m, rfl⟩ : ∃ k, m = k + 1 := by
    cases m with
    | zero => exact hp.elim
    | succ k => exact ⟨k, rfl⟩
  have HT := Lib.hid (show trueP cells (n + 1) t = t.parts.all (trueP cells n) by rw [trueP, if_neg (by omega), if_neg (by omega), if_pos ho])
  have hb3 := box3_below w t a c pa pc ca cells.length cc
  have hps := hp.parts.below hb3
  have hr3 := hr.below hb3
  have HP : Hid (PredPt 43 #[.pointer (some ⟨w.heap.size + 1 + 1, 0, none⟩)] m t.parts (fun x => !trueP cells n x) (box3 w t a c pa pc ca cells.length cc)) := by
    refine Lib.hid ?_
    intro W x a' c' pa' pc' hx hpi hb hz
    have hmx := List.all_eq_true.1 hall x hx
    have hzz := hb3.size
    refine isnot_pt cols cells n m x a' c' pa' pc' ca cc W (w.heap.size + 1) (w.heap.size + 1 + 1) hok hpi hmx (hr3.below hb) ((hG.below hb3).below hb) (by omega) ?_ ?_
    · exact (hb.cell (p := ⟨w.heap.size + 1, 0, none⟩) (by simp)).trans (by unfold box3; go_simp)
    · exact (hb.cell (p := ⟨w.heap.size + 1 + 1, 0, none⟩) (by simp)).trans (by unfold box3; go_simp)
  have HCF := Lib.hid (containsFunc_pt 43 _ _ m t.parts pa pc _ hps hp.len HP.out (fun _ _ => by kernel_rfl))
  have HB3 := Lib.hid hb3
  clear HP hps hr3 hp hall hb3
  unfold box3 at *
  unfold pv
  generalize t.op = op at *
  generalize t.col = col at *
  generalize t.d = d at *
  generalize t.parts = ps at *
  subst ho
  go_enter Tryz.func24, Tryz.ntmps24
  go_wp2_with fail
  refine HCF.out.mono ?_
  rintro e w' ⟨rfl, hb'⟩
  go_wp2
  go_ret
  exact ⟨ret_bool (by rw [HT.out]; exact not_any_not _ _), HB3.out.trans (hb'.mono (by simp; omega))⟩

set_option maxRecDepth 100000 in
set_option maxHeartbeats 4000000 in
theorem holds_or (cols : List Co) (cells : List El) (n m : Nat) (t : PT) (a : Option Addr) (c : Nat) (pa : Option Addr) (pc : Nat) (ca : Option Addr) (cc : Nat) (w : World) (hok : HoldsOK cols cells n)
    (hp : PredIs m w t a pa) (hall : t.parts.all (mayP cols n) = true) (hr : DeepIs w ca cells) (hG : GlobsM w) (h16 : 8 ≤ w.heap.size) (ho : t.op = 8) :
    Calls Tryz.prog 24 #[pv t a c pa pc, .slice ca cells.length cc] w fun e w' => e = .returned (.bool (trueP cells (n + 1) t)) ∧ Below w.heap.size w w' := by
  obtain ⟨m, rfl⟩ : ∃ k, m = k + 1 := by
    cases m with
    | zero => exact hp.elim
    | succ k => exact ⟨k, rfl⟩
  have HT := Lib.hid (show trueP cells (n + 1) t = t.parts.any (trueP cells n) by rw [trueP, if_neg (by omega), if_neg (by omega), if_neg (by omega), if_pos ho])
  have hb3 := box3_below w t a c pa pc ca cells.length cc
  have hps := hp.parts.below hb3
  have hr3 := hr.below hb3
  have HP : Hid (PredPt 41 #[.pointer (some ⟨w.heap.size + 1, 0, none⟩)] m t.parts (fun x => trueP cells n x) (box3 w t a c pa pc ca cells.length cc)) := by
    refine Lib.hid ?_
    intro W x a' c' pa' pc' hx hpi hb hz
    have hmx := List.all_eq_true.1 hall x hx
    have hzz := hb3.size
    refine is_pt cols cells n m x a' c' pa' pc' ca cc W (w.heap.size + 1) hok hpi hmx (hr3.below hb) ((hG.below hb3).below hb) (by omega) ?_
    exact (hb.cell (p := ⟨w.heap.size + 1, 0, none⟩) (by simp)).trans (by unfold box3; go_simp)
  have HCF := Lib.hid (containsFunc_pt 41 _ _ m t.parts pa pc _ hps hp.len HP.out (fun _ _ => by kernel_rfl))
  have HB3 := Lib.hid hb3
  clear HP hps hr3 hp hall hb3
  unfold box3 at *
  unfold pv
  generalize t.op = op at *
  generalize t.col = col at *
  generalize t.d = d at *
  generalize t.parts = ps at *
  subst ho
  go_enter Tryz.func24, Tryz.ntmps24
  go_wp2_with fail
  refine HCF.out.mono ?_
  rintro e w' ⟨rfl, hb'⟩
  go_wp2
  go_ret
  exact ⟨ret_bool HT.out.symm, HB3.out.trans (hb'.mono (by simp; omega))⟩

set_option maxRecDepth 100000 in
set_option maxHeartbeats 4000000 in
theorem holds_not (cols : List Co) (cells : List El) (n m : Nat) (t : PT) (a : Option Addr) (c : Nat) (pa : Option Addr) (pc : Nat) (ca : Option Addr) (cc : Nat) (w : World) (hok : HoldsOK cols cells n)
    (hp : PredIs m w t a pa) (hall : t.parts.all (mayP cols n) = true) (hr : DeepIs w ca cells) (hG : GlobsM w) (h16 : 8 ≤ w.heap.size) (ho : t.op = 9) (h1 : t.parts.length = 1) :
    Calls Tryz.prog 24 #[pv t a c pa pc, .slice ca cells.length cc] w fun e w' => e = .returned (.bool (trueP cells (n + 1) t)) ∧ Below w.heap.size w w' := by
  obtain ⟨m, rfl⟩ : ∃ k, m = k + 1 := by
    cases m with
    | zero => exact hp.elim
    | succ k => exact ⟨k, rfl⟩
  obtain ⟨x, hx⟩ : ∃ x, t.parts = [x] := List.length_eq_one_iff.1 h1
  have HT := Lib.hid (show trueP cells (n + 1) t = !trueP cells n x by rw [trueP, if_neg (by omega), if_pos ho, hx])
  have hb3 := (box3_below w t a c pa pc ca cells.length cc).drew
  have hps := hp.parts.below hb3
  rw [hx] at hps hall
  have hmx : mayP cols n x = true := by simpa using hall
  obtain ⟨b, off, rfl, a', c', pa', pc', hcell, hpi⟩ := hps.at_ 0 (by simp)
  simp only [List.getElem_cons_zero, Nat.zero_mul, Nat.add_zero] at hcell hpi
  have hr3 := hr.below hb3
  have HK := Lib.hid (is_pt cols cells n m x a' c' pa' pc' ca cc _ (w.heap.size + 1) hok hpi hmx hr3 (hG.below hb3) (by simp; omega) (by unfold box3; go_simp))
  have HB3 := Lib.hid hb3
  obtain ⟨g0, g1, g2, g3, g4, g5, g6⟩ := hcell
  clear hps hr3 hp hall hb3 hpi
  unfold box3 at *
  unfold pv at *
  rw [h1] at *
  generalize t.op = op at *
  generalize t.col = col at *
  generalize t.d = d at *
  subst ho
  go_enter Tryz.func24, Tryz.ntmps24
  go_wp2
  refine wp_region_noPanic ?_
  refine wp_region_held_drew (S := (fun w' => w'.cell? ⟨w.heap.size + 1 + 1, 0, none⟩ = some (.func (.func 41) #[] #[.pointer (some ⟨w.heap.size + 1, 0, none⟩)]) ∧ w'.cell? ⟨w.heap.size, 6, none⟩ = some (.slice (some ⟨b, off, none⟩) 1 pc) ∧ w'.cell? ⟨b, off, none⟩ = some (.int .i64 x.op) ∧ w'.cell? ⟨b, off + 1, none⟩ = some (.int .i64 x.col) ∧ w'.cell? ⟨b, off + 2, none⟩ = some (.int .i64 x.d.k) ∧ w'.cell? ⟨b, off + 3, none⟩ = some (.int .i64 x.d.n) ∧ w'.cell? ⟨b, off + 4, none⟩ = some (.string x.d.s) ∧ w'.cell? ⟨b, off + 5, none⟩ = some (.slice a' x.d.l.length c') ∧ w'.cell? ⟨b, off + 6, none⟩ = some (.slice pa' x.parts.length pc'))) (by kernel_rfl) ⟨by go_simp, by go_simp, g0, g1, g2, g3, g4, g5, g6⟩ (fun hS => ?_)
  refine wpAnyH_take (i := 0) (v := ?_) rfl (by kernel_rfl) (by kernel_rfl) (by kernel_rfl) (fun _ _ _ h => h) (Or.inl ⟨by rfl, ?_⟩) hS ?_
  rotate_left
  · rintro w9 ⟨t0, t1, t2, t3, t4, t5, t6, t7, t8⟩
    go_simp
    try with_reducible rfl
  try simp only [Act.put, List.getElem_toArray, List.getElem_cons_succ, List.getElem_cons_zero, List.setIfInBounds_toArray, List.set_cons_zero, List.set_cons_succ]
  refine wpAnyH_take (i := 1) (v := ?_) rfl (by kernel_rfl) (by kernel_rfl) (by kernel_rfl) (fun _ _ _ h => h) (Or.inl ⟨by rfl, ?_⟩) hS ?_
  rotate_left
  · rintro w9 ⟨t0, t1, t2, t3, t4, t5, t6, t7, t8⟩
    go_simp
    try with_reducible rfl
  try simp only [Act.put, List.getElem_toArray, List.getElem_cons_succ, List.getElem_cons_zero, List.setIfInBounds_toArray, List.set_cons_zero, List.set_cons_succ]
  refine wpAnyH_take (i := 2) (v := ?_) rfl (by kernel_rfl) (by kernel_rfl) (by kernel_rfl) (fun _ _ _ h => h) (Or.inl ⟨by rfl, ?_⟩) hS ?_
  rotate_left
  · rintro w9 ⟨t0, t1, t2, t3, t4, t5, t6, t7, t8⟩
    go_simp
    try with_reducible rfl
  try simp only [Act.put, List.getElem_toArray, List.getElem_cons_succ, List.getElem_cons_zero, List.setIfInBounds_toArray, List.set_cons_zero, List.set_cons_succ]
  refine wpAnyH_take (i := 3) (v := ?_) rfl (by kernel_rfl) (by kernel_rfl) (by kernel_rfl) (fun _ _ _ h => h) (Or.inl ⟨by rfl, ?_⟩) hS ?_
  rotate_left
  · rintro w9 ⟨t0, t1, t2, t3, t4, t5, t6, t7, t8⟩
    go_simp
    try with_reducible rfl
  try simp only [Act.put, List.getElem_toArray, List.getElem_cons_succ, List.getElem_cons_zero, List.setIfInBounds_toArray, List.set_cons_zero, List.set_cons_succ]
  refine wpAnyH_take (i := 4) (v := ?_) rfl (by kernel_rfl) (by kernel_rfl) (by kernel_rfl) (fun _ _ _ h => h) (Or.inl ⟨by rfl, ?_⟩) hS ?_
  rotate_left
  · rintro w9 ⟨t0, t1, t2, t3, t4, t5, t6, t7, t8⟩
    go_simp
    try with_reducible rfl
  try simp only [Act.put, List.getElem_toArray, List.getElem_cons_succ, List.getElem_cons_zero, List.setIfInBounds_toArray, List.set_cons_zero, List.set_cons_succ]
  refine wpAnyH_ready (rs := [5]) (by kernel_rfl) (by simp) ?_
  refine AllReadyH.cons rfl (fun K hK => ?_) AllReadyH.nil
  go_simp
  refine HK.out.mono ?_
  rintro e w1 ⟨rfl, hb1⟩
  have hS1 : (fun w' => w'.cell? ⟨w.heap.size + 1 + 1, 0, none⟩ = some (.func (.func 41) #[] #[.pointer (some ⟨w.heap.size + 1, 0, none⟩)]) ∧ w'.cell? ⟨w.heap.size, 6, none⟩ = some (.slice (some ⟨b, off, none⟩) 1 pc) ∧ w'.cell? ⟨b, off, none⟩ = some (.int .i64 x.op) ∧ w'.cell? ⟨b, off + 1, none⟩ = some (.int .i64 x.col) ∧ w'.cell? ⟨b, off + 2, none⟩ = some (.int .i64 x.d.k) ∧ w'.cell? ⟨b, off + 3, none⟩ = some (.int .i64 x.d.n) ∧ w'.cell? ⟨b, off + 4, none⟩ = some (.string x.d.s) ∧ w'.cell? ⟨b, off + 5, none⟩ = some (.slice a' x.d.l.length c') ∧ w'.cell? ⟨b, off + 6, none⟩ = some (.slice pa' x.parts.length pc')) w1 := by
    obtain ⟨t0, t1, t2, t3, t4, t5, t6, t7, t8⟩ := hS
    exact ⟨(hb1.cell (World.block_lt_of_cell? _ _ t0)).trans t0, (hb1.cell (World.block_lt_of_cell? _ _ t1)).trans t1, (hb1.cell (World.block_lt_of_cell? _ _ t2)).trans t2, (hb1.cell (World.block_lt_of_cell? _ _ t3)).trans t3, (hb1.cell (World.block_lt_of_cell? _ _ t4)).trans t4, (hb1.cell (World.block_lt_of_cell? _ _ t5)).trans t5, (hb1.cell (World.block_lt_of_cell? _ _ t6)).trans t6, (hb1.cell (World.block_lt_of_cell? _ _ t7)).trans t7, (hb1.cell (World.block_lt_of_cell? _ _ t8)).trans t8⟩
  refine hK.out _ _ hS1 (fun _ => ?_)
  clear hK K
  try simp only [Act.put, List.getElem_toArray, List.getElem_cons_succ, List.getElem_cons_zero, List.setIfInBounds_toArray, List.set_cons_zero, List.set_cons_succ]
  refine wpAnyH_take (i := 6) (v := ?_) rfl (by kernel_rfl) (by kernel_rfl) (by kernel_rfl) (fun _ _ _ h => h) (Or.inl ⟨by rfl, ?_⟩) hS1 ?_
  rotate_left
  · rintro w9 ⟨t0, t1, t2, t3, t4, t5, t6, t7, t8⟩
    go_simp
    try with_reducible rfl
  try simp only [Act.put, List.getElem_toArray, List.getElem_cons_succ, List.getElem_cons_zero, List.setIfInBounds_toArray, List.set_cons_zero, List.set_cons_succ]
  refine wpAnyH_take (i := 7) (v := ?_) rfl (by kernel_rfl) (by kernel_rfl) (by kernel_rfl) (fun _ _ _ h => h) (Or.inl ⟨by rfl, ?_⟩) hS1 ?_
  rotate_left
  · rintro w9 ⟨t0, t1, t2, t3, t4, t5, t6, t7, t8⟩
    go_simp
    try with_reducible rfl
  try simp only [Act.put, List.getElem_toArray, List.getElem_cons_succ, List.getElem_cons_zero, List.setIfInBounds_toArray, List.set_cons_zero, List.set_cons_succ]
  refine wpAnyH_done (by kernel_rfl) ?_ _
  refine NoPanic.normal ?_
  go_wp2
  go_ret
  exact ⟨ret_bool HT.out.symm, HB3.out.trans (hb1.mono (by simp; omega))⟩

theorem holds_ok (cols : List Co) (cells : List El) (hrow : RowOk cols cells) : ∀ n, HoldsOK cols cells n
  | 0 => fun _ _ _ _ _ _ _ _ _ _ hm => by cases hm
  | n + 1 => by
    have ih := holds_ok cols cells hrow n
    intro m t a c pa pc ca cc w hp hm hr hG h16
    by_cases ho : 1 ≤ t.op ∧ t.op ≤ 6
    · by_cases h6 : t.op = 6
      · exact holds_has cols cells n m t a c pa pc ca cc w hrow hp hm hr hG h16 h6
      · exact holds_cmp cols cells n m t a c pa pc ca cc w hrow hp hm hr hG h16 (by omega)
    · obtain ⟨hall, _, h | h | h | h, _⟩ := mayP_parts hm ho
      · exact holds_and cols cells n m t a c pa pc ca cc w ih hp hall hr hG h16 h
      · exact holds_or cols cells n m t a c pa pc ca cc w ih hp hall hr hG h16 h
      · exact holds_not cols cells n m t a c pa pc ca cc w ih hp hall hr hG h16 h.1 h.2
      · exact holds_true cells n t a c pa pc ca cc w h.1
end Go.Proofs.YtdjlbfepddcmeaaGreatDoor
