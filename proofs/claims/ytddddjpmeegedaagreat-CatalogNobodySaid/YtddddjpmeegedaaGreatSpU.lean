/- A leaf is written. -/
import Derived.Test.YtddddjpmeegedaaGreatSpT
set_option linter.unusedVariables false
set_option linter.unusedSimpArgs false
namespace Go.Proofs.YtddddjpmeegedaaGreat
open Go.RowKit

theorem step_append_run {ops : Array Oper} {o : Oper} {a : Act} {K : Act → World → Prop} {Q : Exit → Act → World → Prop} {E : Prop} {w : World} (hgd : o.guard = none) (s x : Operand) (t tn : TypeId)
    (ho : o.op = .call { callee := .builtin .append, args := #[s, x], argTypes := #[t, tn] }) (vs vx : Value) (hs : a.eval s = vs) (hx : a.eval x = vx) (ty : TypeId) (hty : o.type = ty)
    (v' : Value) (w' : World) (hr : (Builtin.append_ #[t, tn] ty #[vs, vx]).run Tryz.prog w = .ok v' w') (h : K (a.put o.dst v') w') : if Region.wanted o (yielded ops a.tmps) = true then Oper.wp Tryz.prog o a w K Q else E := by
  have hw : Region.wanted o (yielded ops a.tmps) = true := by simp [Region.wanted, hgd]
  rw [if_pos hw]
  exact Go.Lib.wp_append_run w s x t tn ho vs vx hs hx v' w' (by rw [hty]; exact hr) h

set_option maxRecDepth 100000 in
set_option maxHeartbeats 2000000 in
theorem write_leaf {bs : Nat} {B : Base bs} {w : World} {tb ba root nb : Nat} {F : Nat → Prop} {R : Raw} {A : Option Addr} {c : Nat} {kv : Value} {L : List KV} (ht : w.heap[tb]? = some (treeO ba root)) (hA : ActIs B w ba F R) (hc : Cov B R) (htF : ¬ F tb) (p : Int) (hp : thereE R p = 0)
    (h : w.heap[nb]? = some (nodeO true (.slice A L.length c) kv)) (hr : ItemsR w A L) (hok : ∀ x ∈ L, x.ok) (hlen : (leafB L).length ≤ 512) (hn : L.length < 256) :
    Calls Tryz.prog 65 #[.pointer (some ⟨tb, 0, none⟩), .int .i64 p, .pointer (some ⟨nb, 0, none⟩)] w fun e w' => e = .returned (.tuple #[]) ∧ Step B ba w F (R.put p 0 (pageL (leafB L))) w' := by
  have hrng := thereE_rng hp
  have hpt : R.total < 4096 := hc.2
  have HB := Lib.hid (bytes_leaf h hr hok hn)
  obtain ⟨t0, t1⟩ := tree2 ht
  have H := Lib.hid (And.intro hA (And.intro hc (And.intro hp hlen)))
  clear hA hc hp h hr hok ht hlen
  go_enter Tryz.func65, Tryz.ntmps65
  go_wp2_with fail
  refine HB.out.mono ?_
  rintro e w1 ⟨v, rfl, hb1, hbel1⟩
  obtain ⟨A1, c1, rfl⟩ := hb1.slice
  have hlen := H.out.2.2.2
  obtain ⟨v2, w2, hap, hb2, hbel2⟩ := run_append_zeros (w := w1.drew) hb1.drew (by simp [leafB]) (512 - (leafB L).length) (by omega) (show w.heap.size ≤ w1.heap.size from hbel1.size) 74
  rw [show ((512 - (leafB L).length : Nat) : Int) = 512 - ((leafB L).length : Int) by omega] at hap
  have hs := hb2.string
  obtain ⟨A2, c2, rfl⟩ := hb2.slice
  have h512 : (leafB L ++ List.replicate (512 - (leafB L).length) (0 : UInt8)).length = 512 := by
    rw [List.length_append, List.length_replicate]
    omega
  rw [h512] at hap hs
  have hpz : (⟨(leafB L ++ List.replicate (512 - (leafB L).length) 0).toArray⟩ : ByteArray) = ⟨(pageL (leafB L)).toArray⟩ := rfl
  rw [hpz] at hs
  have hbel : Below w.heap.size w w2 := hbel1.drew.trans hbel2
  have s1 : w1.cell? ⟨tb, 0, none⟩ = some (.pointer (some ⟨ba, 0, none⟩)) := (hbel1.cell (World.block_lt_of_cell? w _ t0)).trans t0
  have s2 : w2.cell? ⟨tb, 0, none⟩ = some (.pointer (some ⟨ba, 0, none⟩)) := (hbel.cell (World.block_lt_of_cell? w _ t0)).trans t0
  have hsz : (⟨(pageL (leafB L)).toArray⟩ : ByteArray).size = 512 := by
    show (pageL (leafB L)).toArray.size = 512
    simpa using pageL_length hlen
  have HW := Lib.hid (write_any (H.out.1.below hbel) H.out.2.1 p ⟨by omega, by omega⟩ 0 ⟨(pageL (leafB L)).toArray⟩ (by omega) (by rw [hsz]; omega))
  have HBel := Lib.hid hbel
  generalize hnn : (leafB L).length = n at *
  have hn1 : ((n : Int)) ≤ 512 := by omega
  have hwn : IntKind.i64.wrap (512 - (n : Int)) = 512 - (n : Int) := by rw [IntKind.wrap_i64]; omega
  clear hb1 hbel1 hb2 hbel2 hbel HB hpz hsz t0 t1
  go_wp2
  refine wp_region_noPanic ?_
  refine wp_region_held_drew (S := (fun w' => w'.cell? ⟨tb, 0, none⟩ = some (.pointer (some ⟨ba, 0, none⟩)))) (by kernel_rfl) s1 (fun hS => ?_)
  refine wpAnyH_take (i := 0) (v := ?_) rfl (by kernel_rfl) (by kernel_rfl) (by kernel_rfl) (fun _ _ _ h => h) (Or.inl ⟨by rfl, ?_⟩) hS ?_
  rotate_left
  · intro w9 t0
    go_simp
    try with_reducible rfl
  try simp only [Act.put, List.getElem_toArray, List.getElem_cons_succ, List.getElem_cons_zero, List.setIfInBounds_toArray, List.set_cons_zero, List.set_cons_succ]
  refine wpAnyH_take (i := 1) (v := ?_) rfl (by kernel_rfl) (by kernel_rfl) (by kernel_rfl) (fun _ _ _ h => h) (Or.inl ⟨by rfl, ?_⟩) hS ?_
  rotate_left
  · intro w9 t0
    go_simp
    try with_reducible rfl
  try simp only [Act.put, List.getElem_toArray, List.getElem_cons_succ, List.getElem_cons_zero, List.setIfInBounds_toArray, List.set_cons_zero, List.set_cons_succ]
  refine wpAnyH_take (i := 2) (v := ?_) rfl (by kernel_rfl) (by kernel_rfl) (by kernel_rfl) (fun _ _ _ h => h) (Or.inl ⟨by rfl, ?_⟩) hS ?_
  rotate_left
  · intro w9 t0
    go_simp
    try with_reducible rfl
  try simp only [Act.put, List.getElem_toArray, List.getElem_cons_succ, List.getElem_cons_zero, List.setIfInBounds_toArray, List.set_cons_zero, List.set_cons_succ]
  refine wpAnyH_take (i := 3) (v := ?_) rfl (by kernel_rfl) (by kernel_rfl) (by kernel_rfl) (fun _ _ _ h => h) (Or.inl ⟨by rfl, ?_⟩) hS ?_
  rotate_left
  · intro w9 t0
    go_simp
    try with_reducible rfl
  try simp only [Act.put, List.getElem_toArray, List.getElem_cons_succ, List.getElem_cons_zero, List.setIfInBounds_toArray, List.set_cons_zero, List.set_cons_succ]
  refine wpAnyH_take (i := 4) (v := ?_) rfl (by kernel_rfl) (by kernel_rfl) (by kernel_rfl) (fun _ _ _ h => h) (Or.inl ⟨by rfl, ?_⟩) hS ?_
  rotate_left
  · intro w9 t0
    go_simp
    try with_reducible rfl
  try simp only [Act.put, List.getElem_toArray, List.getElem_cons_succ, List.getElem_cons_zero, List.setIfInBounds_toArray, List.set_cons_zero, List.set_cons_succ]
  refine wpAnyH_take (i := 5) (v := ?_) rfl (by kernel_rfl) (by kernel_rfl) (by kernel_rfl) (fun _ _ _ h => h) (Or.inl ⟨by rfl, ?_⟩) hS ?_
  rotate_left
  · intro w9 t0
    go_simp
    try with_reducible rfl
  try simp only [Act.put, List.getElem_toArray, List.getElem_cons_succ, List.getElem_cons_zero, List.setIfInBounds_toArray, List.set_cons_zero, List.set_cons_succ]
  refine wpAnyH_take (i := 6) (v := ?_) rfl (by kernel_rfl) (by kernel_rfl) (by kernel_rfl) (fun _ _ _ h => h) (Or.inl ⟨by rfl, ?_⟩) hS ?_
  rotate_left
  · intro w9 t0
    go_simp
    try with_reducible rfl
  try simp only [Act.put, List.getElem_toArray, List.getElem_cons_succ, List.getElem_cons_zero, List.setIfInBounds_toArray, List.set_cons_zero, List.set_cons_succ]
  refine wpAnyH_take (i := 7) (v := ?_) rfl (by kernel_rfl) (by kernel_rfl) (by kernel_rfl) (fun _ _ _ h => h) (Or.inl ⟨by rfl, ?_⟩) hS ?_
  rotate_left
  · intro w9 t0
    go_simp
    try with_reducible rfl
  try simp only [Act.put, List.getElem_toArray, List.getElem_cons_succ, List.getElem_cons_zero, List.setIfInBounds_toArray, List.set_cons_zero, List.set_cons_succ]
  refine wpAnyH_take (i := 8) (v := ?_) rfl (by kernel_rfl) (by kernel_rfl) (by kernel_rfl) (fun _ _ _ h => h) (Or.inl ⟨by rfl, ?_⟩) hS ?_
  rotate_left
  · intro w9 t0
    go_simp
    try with_reducible rfl
  try simp only [Act.put, List.getElem_toArray, List.getElem_cons_succ, List.getElem_cons_zero, List.setIfInBounds_toArray, List.set_cons_zero, List.set_cons_succ]
  refine wpAnyH_ready (rs := [9]) (by kernel_rfl) (by simp) ?_
  refine AllReadyH.cons rfl (fun K hK => ?_) AllReadyH.nil
  refine step_append_run (by rfl) (.tmp 14) (.tmp 17) 74 3 (by rfl) _ _ (by rfl) (by rfl) 74 (by rfl) _ _ hap ?_
  refine hK.out _ _ s2 (fun _ => ?_)
  clear hK K
  try simp only [Act.put, List.getElem_toArray, List.getElem_cons_succ, List.getElem_cons_zero, List.setIfInBounds_toArray, List.set_cons_zero, List.set_cons_succ]
  refine wpAnyH_ready (rs := [10]) (by kernel_rfl) (by simp) ?_
  refine AllReadyH.cons rfl (fun K hK => ?_) AllReadyH.nil
  go_simp
  refine hK.out _ _ s2 (fun _ => ?_)
  clear hK K
  try simp only [Act.put, List.getElem_toArray, List.getElem_cons_succ, List.getElem_cons_zero, List.setIfInBounds_toArray, List.set_cons_zero, List.set_cons_succ]
  refine wpAnyH_ready (rs := [11]) (by kernel_rfl) (by simp) ?_
  refine AllReadyH.cons rfl (fun K hK => ?_) AllReadyH.nil
  go_simp
  refine HW.out.mono ?_
  rintro e w3 ⟨rfl, hst⟩
  have s3 : w3.cell? ⟨tb, 0, none⟩ = some (.pointer (some ⟨ba, 0, none⟩)) := by
    obtain ⟨F', _, _, ho⟩ := hst
    exact ho.cell s2 htF
  have HS := Lib.hid (show Step B ba w F (R.put p 0 (pageL (leafB L))) w3 from by
    have h := hst
    rw [writeR, if_pos H.out.2.2.1] at h
    exact Step.trans (Off.of_below HBel.out) (fun _ _ h => h) h)
  clear hst
  refine hK.out _ _ s3 (fun _ => ?_)
  clear hK K
  try simp only [Act.put, List.getElem_toArray, List.getElem_cons_succ, List.getElem_cons_zero, List.setIfInBounds_toArray, List.set_cons_zero, List.set_cons_succ]
  refine wpAnyH_done (by kernel_rfl) ?_ _
  refine NoPanic.normal ?_
  go_wp2
  exact Great.bodyPost_end0 rfl rfl ⟨rfl, HS.out⟩
end Go.Proofs.YtddddjpmeegedaaGreat
