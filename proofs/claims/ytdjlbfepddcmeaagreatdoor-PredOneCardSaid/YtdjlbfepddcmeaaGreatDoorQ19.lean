/- Whether a predicate is true: the program's closures. -/
import Derived.Test.YtdjlbfepddcmeaaGreatDoorQ17
import Derived.Test.YtdjlbfepddcmeaaGreatDoorQ18
import Derived.Laws.EntriesVeiled
set_option linter.unusedVariables false
set_option linter.unusedSimpArgs false
namespace Go.Proofs.YtdjlbfepddcmeaaGreatDoor
open Go.RowKit

/-- pred.holds answers as it must, so deep. -/
def HoldsOK (cols : List Co) (cells : List El) (n : Nat) : Prop :=
  ∀ (m : Nat) (t : PT) (a : Option Addr) (c : Nat) (pa : Option Addr) (pc : Nat) (ca : Option Addr) (cc : Nat) (w : World), PredIs m w t a pa → mayP cols n t = true → DeepIs w ca cells → GlobsM w → 8 ≤ w.heap.size →
    Calls Tryz.prog 24 #[pv t a c pa pc, .slice ca cells.length cc] w fun e w' => e = .returned (.bool (trueP cells n t)) ∧ Below w.heap.size w w'

theorem pbytes_any (d : Da) (a : Option Addr) (c : Nat) (w : World) (hd : DaIs w d a) (hG : GlobsM w) (h16 : 8 ≤ w.heap.size) :
    Calls Tryz.prog 46 #[dv d.k d.n d.s a d.l.length c] w fun e w' => e = .returned (.string (bS d)) ∧ Below w.heap.size w w' := by
  have hb0 : Below w.heap.size w (w.alloc (.cells #[.int .i64 d.k, .int .i64 d.n, .string d.s, .slice a d.l.length c] 24)) := by go_grown
  have HB := Lib.hid (bytes_call d a c _ (hd.below hb0) (hG.below hb0) (by simp; omega))
  go_enter Tryz.func46, Tryz.ntmps46
  go_wp2_with fail
  refine HB.out.mono ?_
  rintro e w' ⟨rfl, hb⟩
  go_wp2
  go_ret
  exact ⟨rfl, hb0.trans (hb.mono (by simp))⟩

theorem is_pt (cols : List Co) (cells : List El) (n m : Nat) (t : PT) (a : Option Addr) (c : Nat) (pa : Option Addr) (pc : Nat) (ca : Option Addr) (cc : Nat) (w : World) (bc : Nat) (hok : HoldsOK cols cells n)
    (hp : PredIs m w t a pa) (hm : mayP cols n t = true) (hr : DeepIs w ca cells) (hG : GlobsM w) (h16 : 8 ≤ w.heap.size) (hc : w.cell? ⟨bc, 0, none⟩ = some (.slice ca cells.length cc)) :
    Calls Tryz.prog 41 #[pv t a c pa pc, .pointer (some ⟨bc, 0, none⟩)] w fun e w' => e = .returned (.bool (trueP cells n t)) ∧ Below w.heap.size w w' := by
  have hb : Below w.heap.size w (w.alloc (.cells #[.int .i64 t.op, .int .i64 t.col, .int .i64 t.d.k, .int .i64 t.d.n, .string t.d.s, .slice a t.d.l.length c, .slice pa t.parts.length pc] 27)) := by go_grown
  have hc' := cellA hc (.cells #[.int .i64 t.op, .int .i64 t.col, .int .i64 t.d.k, .int .i64 t.d.n, .string t.d.s, .slice a t.d.l.length c, .slice pa t.parts.length pc] 27)
  have HK := Lib.hid (hok m t a c pa pc ca cc _ (hp.below hb) hm (hr.below hb) (hG.below hb) (by simp; omega))
  go_enter Tryz.func41, Tryz.ntmps41
  go_wp2_with fail
  refine HK.out.mono ?_
  rintro e w' ⟨rfl, hb'⟩
  go_wp2
  go_ret
  exact ⟨rfl, hb.trans (hb'.mono (by simp))⟩

theorem isnot_pt (cols : List Co) (cells : List El) (n m : Nat) (t : PT) (a : Option Addr) (c : Nat) (pa : Option Addr) (pc : Nat) (ca : Option Addr) (cc : Nat) (w : World) (bc bi : Nat) (hok : HoldsOK cols cells n)
    (hp : PredIs m w t a pa) (hm : mayP cols n t = true) (hr : DeepIs w ca cells) (hG : GlobsM w) (h16 : 8 ≤ w.heap.size) (hc : w.cell? ⟨bc, 0, none⟩ = some (.slice ca cells.length cc))
    (hi : w.cell? ⟨bi, 0, none⟩ = some (.func (.func 41) #[] #[.pointer (some ⟨bc, 0, none⟩)])) :
    Calls Tryz.prog 43 #[pv t a c pa pc, .pointer (some ⟨bi, 0, none⟩)] w fun e w' => e = .returned (.bool (!trueP cells n t)) ∧ Below w.heap.size w w' := by
  have hb : Below w.heap.size w (w.alloc (.cells #[.int .i64 t.op, .int .i64 t.col, .int .i64 t.d.k, .int .i64 t.d.n, .string t.d.s, .slice a t.d.l.length c, .slice pa t.parts.length pc] 27)) := by go_grown
  have hc' := cellA hc (.cells #[.int .i64 t.op, .int .i64 t.col, .int .i64 t.d.k, .int .i64 t.d.n, .string t.d.s, .slice a t.d.l.length c, .slice pa t.parts.length pc] 27)
  have hi' := cellA hi (.cells #[.int .i64 t.op, .int .i64 t.col, .int .i64 t.d.k, .int .i64 t.d.n, .string t.d.s, .slice a t.d.l.length c, .slice pa t.parts.length pc] 27)
  have HK := Lib.hid (is_pt cols cells n m t a c pa pc ca cc _ bc hok (hp.below hb) hm (hr.below hb) (hG.below hb) (by simp; omega) hc')
  go_enter Tryz.func43, Tryz.ntmps43
  go_wp2_with fail
  refine HK.out.mono ?_
  rintro e w' ⟨rfl, hb'⟩
  go_wp2
  go_ret
  exact ⟨rfl, hb.trans (hb'.mono (by simp))⟩

set_option maxRecDepth 100000 in
set_option maxHeartbeats 4000000 in
/-- Does a datum have the predicate's datum's bytes? -/
theorem has_da (y : Da) (ya : Option Addr) (yc : Nat) (d : Da) (a : Option Addr) (c : Nat) (w : World) (bp : Nat) (hy : DaIs w y ya) (hym : y.may = true) (hd : DaIs w d a) (hdm : d.may = true) (hG : GlobsM w) (h16 : 8 ≤ w.heap.size)
    (h2 : w.cell? ⟨bp, 2, none⟩ = some (.int .i64 d.k)) (h3 : w.cell? ⟨bp, 3, none⟩ = some (.int .i64 d.n)) (h4 : w.cell? ⟨bp, 4, none⟩ = some (.string d.s)) (h5 : w.cell? ⟨bp, 5, none⟩ = some (.slice a d.l.length c)) :
    Calls Tryz.prog 45 #[dv y.k y.n y.s ya y.l.length yc, .pointer (some ⟨bp, 0, none⟩)] w fun e w' => e = .returned (.bool (y.same d)) ∧ Below w.heap.size w w' := by
  have HBQ := Lib.hid (bS_beq (hy.good hym) (hd.good hdm))
  have hb0 : Below w.heap.size w (w.alloc (.cells #[.int .i64 y.k, .int .i64 y.n, .string y.s, .slice ya y.l.length yc] 24)).drew := (by go_grown : Below w.heap.size w (w.alloc (.cells #[.int .i64 y.k, .int .i64 y.n, .string y.s, .slice ya y.l.length yc] 24))).drew
  have HY := Lib.hid (pbytes_any y ya yc _ (hy.below hb0) (hG.below hb0) (by simp; omega))
  have q2 := cellA h2 (.cells #[.int .i64 y.k, .int .i64 y.n, .string y.s, .slice ya y.l.length yc] 24)
  have q3 := cellA h3 (.cells #[.int .i64 y.k, .int .i64 y.n, .string y.s, .slice ya y.l.length yc] 24)
  have q4 := cellA h4 (.cells #[.int .i64 y.k, .int .i64 y.n, .string y.s, .slice ya y.l.length yc] 24)
  have q5 := cellA h5 (.cells #[.int .i64 y.k, .int .i64 y.n, .string y.s, .slice ya y.l.length yc] 24)
  go_enter Tryz.func45, Tryz.ntmps45
  go_wp2
  refine wp_region_noPanic ?_
  refine wp_region_held_drew (S := (fun w' => w'.cell? ⟨bp, 2, none⟩ = some (.int .i64 d.k) ∧ w'.cell? ⟨bp, 3, none⟩ = some (.int .i64 d.n) ∧ w'.cell? ⟨bp, 4, none⟩ = some (.string d.s) ∧ w'.cell? ⟨bp, 5, none⟩ = some (.slice a d.l.length c) ∧ w'.cell? ⟨w.heap.size, 0, none⟩ = some (.int .i64 y.k) ∧ w'.cell? ⟨w.heap.size, 1, none⟩ = some (.int .i64 y.n) ∧ w'.cell? ⟨w.heap.size, 2, none⟩ = some (.string y.s) ∧ w'.cell? ⟨w.heap.size, 3, none⟩ = some (.slice ya y.l.length yc))) (by kernel_rfl) ⟨q2, q3, q4, q5, by go_simp, by go_simp, by go_simp, by go_simp⟩ (fun hS => ?_)
  refine wpAnyH_take (i := 0) (v := ?_) rfl (by kernel_rfl) (by kernel_rfl) (by kernel_rfl) (fun _ _ _ h => h) (Or.inl ⟨by rfl, ?_⟩) hS ?_
  rotate_left
  · rintro w9 ⟨t0, t1, t2, t3, t4, t5, t6, t7⟩
    go_simp
    try with_reducible rfl
  try simp only [Act.put, List.getElem_toArray, List.getElem_cons_succ, List.getElem_cons_zero, List.setIfInBounds_toArray, List.set_cons_zero, List.set_cons_succ]
  refine wpAnyH_take (i := 2) (v := ?_) rfl (by kernel_rfl) (by kernel_rfl) (by kernel_rfl) (fun _ _ _ h => h) (Or.inl ⟨by rfl, ?_⟩) hS ?_
  rotate_left
  · rintro w9 ⟨t0, t1, t2, t3, t4, t5, t6, t7⟩
    go_simp
    try with_reducible rfl
  try simp only [Act.put, List.getElem_toArray, List.getElem_cons_succ, List.getElem_cons_zero, List.setIfInBounds_toArray, List.set_cons_zero, List.set_cons_succ]
  refine wpAnyH_take (i := 3) (v := ?_) rfl (by kernel_rfl) (by kernel_rfl) (by kernel_rfl) (fun _ _ _ h => h) (Or.inl ⟨by rfl, ?_⟩) hS ?_
  rotate_left
  · rintro w9 ⟨t0, t1, t2, t3, t4, t5, t6, t7⟩
    go_simp
    try with_reducible rfl
  try simp only [Act.put, List.getElem_toArray, List.getElem_cons_succ, List.getElem_cons_zero, List.setIfInBounds_toArray, List.set_cons_zero, List.set_cons_succ]
  clear q2 q3 q4 q5
  refine wpAnyH_ready (rs := [1]) (by kernel_rfl) (by simp) ?_
  refine AllReadyH.cons rfl (fun K hK => ?_) AllReadyH.nil
  go_simp
  refine HY.out.mono ?_
  rintro e w1 ⟨rfl, hb1⟩
  have hz1 := hb1.size
  simp at hz1
  have hb01 := hb0.trans (hb1.mono (by simp))
  have HD := Lib.hid (pbytes_any d a c w1 (hd.below hb01) (hG.below hb01) (by omega))
  have hS1 : (fun w' => w'.cell? ⟨bp, 2, none⟩ = some (.int .i64 d.k) ∧ w'.cell? ⟨bp, 3, none⟩ = some (.int .i64 d.n) ∧ w'.cell? ⟨bp, 4, none⟩ = some (.string d.s) ∧ w'.cell? ⟨bp, 5, none⟩ = some (.slice a d.l.length c) ∧ w'.cell? ⟨w.heap.size, 0, none⟩ = some (.int .i64 y.k) ∧ w'.cell? ⟨w.heap.size, 1, none⟩ = some (.int .i64 y.n) ∧ w'.cell? ⟨w.heap.size, 2, none⟩ = some (.string y.s) ∧ w'.cell? ⟨w.heap.size, 3, none⟩ = some (.slice ya y.l.length yc)) w1 := by
    obtain ⟨t0, t1, t2, t3, t4, t5, t6, t7⟩ := hS
    exact ⟨(hb1.cell (World.block_lt_of_cell? _ _ t0)).trans t0, (hb1.cell (World.block_lt_of_cell? _ _ t1)).trans t1, (hb1.cell (World.block_lt_of_cell? _ _ t2)).trans t2, (hb1.cell (World.block_lt_of_cell? _ _ t3)).trans t3, (hb1.cell (World.block_lt_of_cell? _ _ t4)).trans t4, (hb1.cell (World.block_lt_of_cell? _ _ t5)).trans t5, (hb1.cell (World.block_lt_of_cell? _ _ t6)).trans t6, (hb1.cell (World.block_lt_of_cell? _ _ t7)).trans t7⟩
  refine hK.out _ _ hS1 (fun _ => ?_)
  clear hK K
  try simp only [Act.put, List.getElem_toArray, List.getElem_cons_succ, List.getElem_cons_zero, List.setIfInBounds_toArray, List.set_cons_zero, List.set_cons_succ]
  refine wpAnyH_ready (rs := [4]) (by kernel_rfl) (by simp) ?_
  refine AllReadyH.cons rfl (fun K hK => ?_) AllReadyH.nil
  go_simp
  refine HD.out.mono ?_
  rintro e w2 ⟨rfl, hb2⟩
  have hb02 := hb01.trans (hb2.mono (by omega))
  have hS2 : (fun w' => w'.cell? ⟨bp, 2, none⟩ = some (.int .i64 d.k) ∧ w'.cell? ⟨bp, 3, none⟩ = some (.int .i64 d.n) ∧ w'.cell? ⟨bp, 4, none⟩ = some (.string d.s) ∧ w'.cell? ⟨bp, 5, none⟩ = some (.slice a d.l.length c) ∧ w'.cell? ⟨w.heap.size, 0, none⟩ = some (.int .i64 y.k) ∧ w'.cell? ⟨w.heap.size, 1, none⟩ = some (.int .i64 y.n) ∧ w'.cell? ⟨w.heap.size, 2, none⟩ = some (.string y.s) ∧ w'.cell? ⟨w.heap.size, 3, none⟩ = some (.slice ya y.l.length yc)) w2 := by
    obtain ⟨t0, t1, t2, t3, t4, t5, t6, t7⟩ := hS1
    exact ⟨(hb2.cell (World.block_lt_of_cell? _ _ t0)).trans t0, (hb2.cell (World.block_lt_of_cell? _ _ t1)).trans t1, (hb2.cell (World.block_lt_of_cell? _ _ t2)).trans t2, (hb2.cell (World.block_lt_of_cell? _ _ t3)).trans t3, (hb2.cell (World.block_lt_of_cell? _ _ t4)).trans t4, (hb2.cell (World.block_lt_of_cell? _ _ t5)).trans t5, (hb2.cell (World.block_lt_of_cell? _ _ t6)).trans t6, (hb2.cell (World.block_lt_of_cell? _ _ t7)).trans t7⟩
  refine hK.out _ _ hS2 (fun _ => ?_)
  clear hK K
  try simp only [Act.put, List.getElem_toArray, List.getElem_cons_succ, List.getElem_cons_zero, List.setIfInBounds_toArray, List.set_cons_zero, List.set_cons_succ]
  refine wpAnyH_take (i := 5) (v := ?_) rfl (by kernel_rfl) (by kernel_rfl) (by kernel_rfl) (fun _ _ _ h => h) (Or.inl ⟨by rfl, ?_⟩) hS2 ?_
  rotate_left
  · rintro w9 ⟨t0, t1, t2, t3, t4, t5, t6, t7⟩
    go_simp
    try with_reducible rfl
  try simp only [Act.put, List.getElem_toArray, List.getElem_cons_succ, List.getElem_cons_zero, List.setIfInBounds_toArray, List.set_cons_zero, List.set_cons_succ]
  refine wpAnyH_take (i := 6) (v := ?_) rfl (by kernel_rfl) (by kernel_rfl) (by kernel_rfl) (fun _ _ _ h => h) (Or.inl ⟨by rfl, ?_⟩) hS2 ?_
  rotate_left
  · rintro w9 ⟨t0, t1, t2, t3, t4, t5, t6, t7⟩
    go_simp
    try with_reducible rfl
  try simp only [Act.put, List.getElem_toArray, List.getElem_cons_succ, List.getElem_cons_zero, List.setIfInBounds_toArray, List.set_cons_zero, List.set_cons_succ]
  refine wpAnyH_done (by kernel_rfl) ?_ _
  refine NoPanic.normal ?_
  go_wp2
  go_ret
  exact ⟨ret_bool HBQ.out, hb02⟩
end Go.Proofs.YtdjlbfepddcmeaaGreatDoor
