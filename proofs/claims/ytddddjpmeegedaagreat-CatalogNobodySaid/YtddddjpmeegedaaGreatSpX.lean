/- A key is put into a leaf, behind all others. -/
import Derived.Test.YtddddjpmeegedaaGreatSpW
set_option linter.unusedVariables false
set_option linter.unusedSimpArgs false
namespace Go.Proofs.YtddddjpmeegedaaGreat
open Go.RowKit

theorem Items.ne_block {w : World} {B : Nat} {v : Value} {L : List KV} (h : Items w B v L) {k : Nat} {cs : Array Value} {t : TypeId} {fr : Nat × Nat} (hk : w.heap[k]? = some (.cells cs t fr)) (ht : t ≠ 133) : v.ownBlock ≠ some k := by
  rcases h.2 with ⟨rfl, _⟩ | ⟨g, cap, cur, rfl, _, hh, _⟩
  · simp [Value.ownBlock]
  · simp only [Value.ownBlock]
    intro e
    simp only [Option.some.injEq] at e
    subst e
    rw [hk] at hh
    cases hh
    exact ht rfl
theorem Cut.end_ {L : List KV} {key : ByteArray} {i : Nat} (h : Cut L key i) (hend : ∀ t (ht : t < L.length), cmpK L[t] key < 0) : i = L.length := by
  by_cases hi : i < L.length
  · have := h.hi i hi (Nat.le_refl _)
    have := hend i hi
    omega
  · have := h.le
    omega

set_option maxRecDepth 100000 in
set_option maxHeartbeats 4000000 in
theorem put_end {bs : Nat} {B : Base bs} {w : World} {tb ba root : Nat} {F : Nat → Prop} {R : Raw} (ht : w.heap[tb]? = some (treeO ba root)) (hA : ActIs B w ba F R) (hc : Cov B R) (htF : ¬ F tb) (p : Int) (hp : thereE R p = 0) (L : List KV) (hL : R.page p = pageL (leafB L)) (hok : ∀ x ∈ L, x.ok)
    (hs : Sorted L) (x : KV) (hx : x.ok) (hend : ∀ t (h : t < L.length), cmpK L[t] x.k < 0) (hlen : (leafB (L ++ [x])).length ≤ 512) (hn : L.length + 1 < 256) :
    Calls Tryz.prog 67 #[.pointer (some ⟨tb, 0, none⟩), .int .i64 p, .agg #[.string x.k, .string x.v]] w fun e w' =>
      e = .returned (.tuple #[.bool true, .pointer none, .int .i64 0]) ∧ Step B ba w F (R.put p 0 (pageL (leafB (L ++ [x])))) w' := by
  have hA0F : ∀ k, F k → k < w.heap.size := hA.1
  have hltb : tb < w.heap.size := (Array.getElem?_eq_some_iff.1 ht).1
  have hb0 : Below w.heap.size w (w.alloc (itemO x)) := by go_grown
  have ht0 := (hb0.block tb hltb).trans ht
  have hlenL : (leafB L).length ≤ 512 := by
    have : (leafB (L ++ [x])).length = (leafB L).length + (itemB x).length := by simp [leafB]; omega
    omega
  have HR := Lib.hid (read_leaf ht0 (hA.below hb0) hc htF p hp L hL hok hlenL (by omega))
  have hx0 := hnew w (itemO x)
  have H := Lib.hid (And.intro ht0 (And.intro hc (And.intro hp (And.intro hok (And.intro hs (And.intro hend (And.intro hlen (And.intro hx0 hb0))))))))
  clear ht hA hc hp hL hok hs hend hlen hlenL ht0 hx0 hb0
  go_enter Tryz.func67, Tryz.ntmps67
  go_wp2_with fail
  refine HR.out.mono ?_
  rintro e w2 ⟨nb, v, F2, M, rfl, hnb2, hit2, hM, hMn, hA2, hF2M, hF2, ho2⟩
  simp at hM
  obtain ⟨A, c, rfl⟩ := hit2.slice
  have hsz2 : w.heap.size + 1 ≤ w2.heap.size := by have := ho2.size; simp at this; exact this
  have hMw : M ≤ nb := hMn
  have hnlt : nb < w2.heap.size := (Array.getElem?_eq_some_iff.1 hnb2).1
  have hx2 : w2.heap[w.heap.size]? = some (itemO x) := by
    obtain ⟨z, _⟩ := hA2
    by_cases hFx : F w.heap.size
    · exact absurd ((hA0F w.heap.size hFx)) (by omega)
    · exact (ho2.block w.heap.size (by simp) hFx).trans H.out.2.2.2.2.2.2.2.1
  have ht2 : w2.heap[tb]? = some (treeO ba root) := (ho2.block tb (by simp; omega) htF).trans H.out.1
  have HF := Lib.hid (find_any hnb2 hit2.read (by omega) H.out.2.2.2.2.1 x.k)
  obtain ⟨n0, n1, n2, nf⟩ := node3 hnb2
  obtain ⟨x0, x1⟩ := xcells hx2
  have H2 := Lib.hid (And.intro hnb2 (And.intro hit2 (And.intro hA2 (And.intro hF2M (And.intro hF2 (And.intro ho2 (And.intro hx2 ht2)))))))
  clear hnb2 hit2 hA2 hF2M hF2 ho2 hx2 ht2 HR nf hMn
  go_wp2_with fail
  refine HF.out.mono ?_
  rintro e w3 ⟨i, rfl, hcut, hb3⟩
  obtain rfl := hcut.end_ H.out.2.2.2.2.2.1
  have hat : isAt L x.k L.length = false := by rw [isAt, List.getElem?_eq_none (Nat.le_refl _)]
  rw [hat]
  have hnb3 := (hb3.block nb hnlt).trans H2.out.1
  have hx3 := (hb3.block w.heap.size (by omega)).trans H2.out.2.2.2.2.2.2.1
  obtain ⟨n0, n1, n2, nf⟩ := node3 hnb3
  have nf1 := nf 1
  obtain ⟨x0, x1⟩ := xcells hx3
  have hsz3 := hb3.size
  have hlw : w.heap.size < w3.heap.size := by omega
  have H3 := Lib.hid (And.intro hnb3 (And.intro hx3 (And.intro (H2.out.2.1.later hb3) hb3)))
  clear hcut hb3 hnb3 hx3 nf HF hat
  go_wp2
  have hnlt3 : nb < w3.heap.size := by omega
  have upW : ∀ k i u, w3.cell? ⟨k, i, none⟩ = some u → ((w3.alloc (itemO x)).drew).cell? ⟨k, i, none⟩ = some u := fun k i u hu => (((Below.refl w3.heap.size w3).alloc (Nat.le_refl _) (itemO x)).cell (p := ⟨k, i, none⟩) (World.block_lt_of_cell? w3 _ hu)).trans hu
  have hSa := And.intro (upW w.heap.size 0 _ x0) (upW w.heap.size 1 _ x1)
  have d1 := upW nb 1 _ n1
  have HSa := Lib.hid hSa
  have hitA : Items (w3.alloc (itemO x)).drew M (.slice A L.length c) L := H3.out.2.2.1.keep fun k _ hk => Below.heap_alloc _ _ k hk
  have hcx := xcells (show (w3.alloc (itemO x)).drew.heap[w3.heap.size]? = some (itemO x) from hnew w3 _)
  have HI := Lib.hid (insert_end (n := 0) hitA (by simp; omega) x w3.heap.size 1 hcx.1 hcx.2 (by omega))
  clear hSa upW hitA hcx
  refine wp_region_noPanic ?_
  refine wp_region_held_drew (S := (fun w' => w'.cell? ⟨w.heap.size, 0, none⟩ = some (.string x.k) ∧ w'.cell? ⟨w.heap.size, 1, none⟩ = some (.string x.v))) (by kernel_rfl) ⟨x0, x1⟩ (fun hS => ?_)
  refine wpAnyH_take (i := 0) (v := ?_) rfl (by kernel_rfl) (by kernel_rfl) (by kernel_rfl) (fun _ _ _ h => h) (Or.inl ⟨by rfl, ?_⟩) hS ?_
  rotate_left
  · rintro w9 ⟨t0, t1⟩
    go_simp
    try with_reducible rfl
  try simp only [Act.put, List.getElem_toArray, List.getElem_cons_succ, List.getElem_cons_zero, List.setIfInBounds_toArray, List.set_cons_zero, List.set_cons_succ]
  refine wpAnyH_take (i := 1) (v := ?_) rfl (by kernel_rfl) (by kernel_rfl) (by kernel_rfl) (fun _ _ _ h => h) (Or.inl ⟨by rfl, ?_⟩) hS ?_
  rotate_left
  · rintro w9 ⟨t0, t1⟩
    go_simp
    try with_reducible rfl
  try simp only [Act.put, List.getElem_toArray, List.getElem_cons_succ, List.getElem_cons_zero, List.setIfInBounds_toArray, List.set_cons_zero, List.set_cons_succ]
  refine wpAnyH_take (i := 2) (v := ?_) rfl (by kernel_rfl) (by kernel_rfl) (by kernel_rfl) (fun _ _ _ h => h) (Or.inl ⟨by rfl, ?_⟩) hS ?_
  rotate_left
  · rintro w9 ⟨t0, t1⟩
    go_simp
    try with_reducible rfl
  try simp only [Act.put, List.getElem_toArray, List.getElem_cons_succ, List.getElem_cons_zero, List.setIfInBounds_toArray, List.set_cons_zero, List.set_cons_succ]
  refine wpAnyH_take (i := 3) (v := ?_) rfl (by kernel_rfl) (by kernel_rfl) (by kernel_rfl) (fun _ _ _ h => h) (Or.inl ⟨by rfl, ?_⟩) hS ?_
  rotate_left
  · rintro w9 ⟨t0, t1⟩
    go_simp
    try with_reducible rfl
  try simp only [Act.put, List.getElem_toArray, List.getElem_cons_succ, List.getElem_cons_zero, List.setIfInBounds_toArray, List.set_cons_zero, List.set_cons_succ]
  refine wpAnyH_take (i := 5) (v := ?_) rfl (by kernel_rfl) (by kernel_rfl) (by kernel_rfl) (fun _ _ _ h => h) (Or.inl ⟨by rfl, ?_⟩) hS ?_
  rotate_left
  · rintro w9 ⟨t0, t1⟩
    go_simp
    try with_reducible rfl
  try simp only [Act.put, List.getElem_toArray, List.getElem_cons_succ, List.getElem_cons_zero, List.setIfInBounds_toArray, List.set_cons_zero, List.set_cons_succ]
  refine wpAnyH_take (i := 6) (v := ?_) rfl (by kernel_rfl) (by kernel_rfl) (by kernel_rfl) (fun _ _ _ h => h) (Or.inl ⟨by rfl, ?_⟩) hS ?_
  rotate_left
  · rintro w9 ⟨t0, t1⟩
    go_simp
    try with_reducible rfl
  try simp only [Act.put, List.getElem_toArray, List.getElem_cons_succ, List.getElem_cons_zero, List.setIfInBounds_toArray, List.set_cons_zero, List.set_cons_succ]
  refine wpAnyH_ready (rs := [4, 7]) (by kernel_rfl) (by simp) ?_
  refine AllReadyH.cons rfl (fun K hK => ?_) (AllReadyH.cons rfl (fun K hK => ?_) AllReadyH.nil)
  · go_simp
    refine hK.out _ _ hS (fun _ => ?_)
    clear hK K
    try simp only [Act.put, List.getElem_toArray, List.getElem_cons_succ, List.getElem_cons_zero, List.setIfInBounds_toArray, List.set_cons_zero, List.set_cons_succ]
    refine wpAnyH_ready (rs := [7]) (by kernel_rfl) (by simp) ?_
    refine AllReadyH.cons rfl (fun K hK => ?_) AllReadyH.nil
    go_simp
    refine hK.out _ _ HSa.out (fun _ => ?_)
    clear hK K
    try simp only [Act.put, List.getElem_toArray, List.getElem_cons_succ, List.getElem_cons_zero, List.setIfInBounds_toArray, List.set_cons_zero, List.set_cons_succ]
    refine wpAnyH_ready (rs := [8]) (by kernel_rfl) (by simp) ?_
    refine AllReadyH.cons rfl (fun K hK => ?_) AllReadyH.nil
    go_simp
    refine HI.out.mono ?_
    rintro e w8 ⟨v', rfl, hit8, hb8, hg8⟩
    obtain ⟨A8, c8, e8⟩ := hit8.slice
    rw [show (L ++ [x]).length = L.length + 1 by simp] at e8
    subst e8
    have far : ∀ k cs t fr, k < w3.heap.size → t ≠ 133 → w3.heap[k]? = some (.cells cs t fr) → w8.heap[k]? = some (.cells cs t fr) := fun k cs t fr hk htt hh => (hg8.block k (by simp; omega) (fun e => H3.out.2.2.1.ne_block hh htt e.symm)).trans ((Below.heap_alloc w3 _ k hk).trans hh)
    have hnb8 := far nb _ _ _ hnlt3 (by decide) H3.out.1
    obtain ⟨z0, z1, z2, zf⟩ := node3 hnb8
    have zf1 := zf 1
    have hx8 : w8.heap[w.heap.size]? = some (itemO x) := (hb8.block w.heap.size (by omega)).trans ((Below.heap_alloc w3 _ _ hlw).trans H3.out.2.1)
    have hSb := xcells hx8
    have ho8 : ∀ k, k ≠ nb → (w8.setCell ⟨nb, 1, none⟩ (.slice A8 (L.length + 1) c8)).heap[k]? = w8.heap[k]? := fun k hk => Below.heap_setCell _ _ _ _ hk
    have HSc := Lib.hid (xcells ((ho8 w.heap.size (by omega)).trans hx8))
    have hM8 : Below M w2 (w8.setCell ⟨nb, 1, none⟩ (.slice A8 (L.length + 1) c8)) := ((H3.out.2.2.2.mono (by omega)).trans ((((Below.refl M w3).alloc (by omega) (itemO x)).drew).trans hb8)).setCell hMw _
    have hnbW : (w8.setCell ⟨nb, 1, none⟩ (.slice A8 (L.length + 1) c8)).heap[nb]? = some (nodeO true (.slice A8 (L ++ [x]).length c8) (.slice none 0 0)) := by
      rw [show (L ++ [x]).length = L.length + 1 by simp]
      exact heap_set hnb8
    have hitW : Items (w8.setCell ⟨nb, 1, none⟩ (.slice A8 (L.length + 1) c8)) M (.slice A8 (L.length + 1) c8) (L ++ [x]) := by
      obtain ⟨q1, q2⟩ := hit8
      refine ⟨q1, ?_⟩
      rcases q2 with q2 | ⟨g, cap, cur, hv, hg, hh, r⟩
      · exact .inl q2
      · exact .inr ⟨g, cap, cur, hv, hg, (ho8 g (fun e => by
          subst e
          rw [hnb8] at hh
          cases hh)).trans hh, r⟩
    have hAW : ActIs B (w8.setCell ⟨nb, 1, none⟩ (.slice A8 (L.length + 1) c8)) ba F2 R := H2.out.2.2.1.keep (fun k hk => hM8.block k (H2.out.2.2.2.1 k hk)) hM8.size
    have htbM : tb < M := by omega
    have htW := (hM8.block tb htbM).trans H2.out.2.2.2.2.2.2.2
    have htF2 : ¬ F2 tb := fun e => htF (H2.out.2.2.2.2.1 tb (by simp; omega) e)
    have HST := Lib.hid (store_leaf htW hAW H.out.2.1 htF2 p H.out.2.2.1 hnbW hitW.read (fun y hy => by
      rcases List.mem_append.1 hy with hy | hy
      · exact H.out.2.2.2.1 y hy
      · obtain rfl := List.mem_singleton.1 hy
        exact hx) H.out.2.2.2.2.2.2.1 (by simp; omega))
    have HO := Lib.hid (show Off F w (w8.setCell ⟨nb, 1, none⟩ (.slice A8 (L.length + 1) c8)) from ((Off.of_below H.out.2.2.2.2.2.2.2.2).trans H2.out.2.2.2.2.2.1 (fun _ _ h => h)).trans (show Off (fun k => ¬ k < M) w2 (w8.setCell ⟨nb, 1, none⟩ (.slice A8 (L.length + 1) c8)) from ⟨hM8.os, hM8.tape, hM8.output, hM8.size, fun k hk hn => hM8.block k (by
      by_cases h : k < M
      · exact h
      · exact absurd h hn)⟩) (fun k hk e => by
        have e' : ¬ k < M := e
        omega))
    clear hit8 hb8 hg8 far hnb8 hx8 ho8 hM8 hnbW hitW hAW htW htF2 zf
    refine hK.out _ _ hSb (fun _ => ?_)
    clear hK K
    try simp only [Act.put, List.getElem_toArray, List.getElem_cons_succ, List.getElem_cons_zero, List.setIfInBounds_toArray, List.set_cons_zero, List.set_cons_succ]
    refine wpAnyH_take (i := 9) (v := ?_) rfl (by kernel_rfl) (by kernel_rfl) (by kernel_rfl) (fun _ _ _ h => h) (Or.inl ⟨by rfl, ?_⟩) hSb ?_
    rotate_left
    · rintro w9 ⟨t0, t1⟩
      go_simp
      try with_reducible rfl
    try simp only [Act.put, List.getElem_toArray, List.getElem_cons_succ, List.getElem_cons_zero, List.setIfInBounds_toArray, List.set_cons_zero, List.set_cons_succ]
    refine wpAnyH_take (i := 10) (v := ?_) rfl (by kernel_rfl) (by kernel_rfl) (by kernel_rfl) (fun _ _ _ h => h) (Or.inl ⟨by rfl, ?_⟩) hSb ?_
    rotate_left
    · rintro w9 ⟨t0, t1⟩
      go_simp
      try with_reducible rfl
    try simp only [Act.put, List.getElem_toArray, List.getElem_cons_succ, List.getElem_cons_zero, List.setIfInBounds_toArray, List.set_cons_zero, List.set_cons_succ]
    refine wpAnyH_ready (rs := [11]) (by kernel_rfl) (by simp) ?_
    refine AllReadyH.cons rfl (fun K hK => ?_) AllReadyH.nil
    go_simp
    refine hK.out _ _ HSc.out (fun _ => ?_)
    clear hK K
    try simp only [Act.put, List.getElem_toArray, List.getElem_cons_succ, List.getElem_cons_zero, List.setIfInBounds_toArray, List.set_cons_zero, List.set_cons_succ]
    refine wpAnyH_done (by kernel_rfl) ?_ _
    refine NoPanic.normal ?_
    go_wp2_with fail
    refine HST.out.mono ?_
    rintro e w9 ⟨rfl, hst⟩
    have HS := Lib.hid (Step.trans HO.out (fun k hk h => H2.out.2.2.2.2.1 k (by simp; omega) h) hst)
    clear hst
    go_wp2
    go_ret3
    exact ⟨rfl, HS.out⟩
  · go_simp
    refine hK.out _ _ HSa.out (fun _ => ?_)
    clear hK K
    try simp only [Act.put, List.getElem_toArray, List.getElem_cons_succ, List.getElem_cons_zero, List.setIfInBounds_toArray, List.set_cons_zero, List.set_cons_succ]
    refine wpAnyH_ready (rs := [4]) (by kernel_rfl) (by simp) ?_
    refine AllReadyH.cons rfl (fun K hK => ?_) AllReadyH.nil
    go_simp
    refine hK.out _ _ HSa.out (fun _ => ?_)
    clear hK K
    try simp only [Act.put, List.getElem_toArray, List.getElem_cons_succ, List.getElem_cons_zero, List.setIfInBounds_toArray, List.set_cons_zero, List.set_cons_succ]
    refine wpAnyH_ready (rs := [8]) (by kernel_rfl) (by simp) ?_
    refine AllReadyH.cons rfl (fun K hK => ?_) AllReadyH.nil
    go_simp
    refine HI.out.mono ?_
    rintro e w8 ⟨v', rfl, hit8, hb8, hg8⟩
    obtain ⟨A8, c8, e8⟩ := hit8.slice
    rw [show (L ++ [x]).length = L.length + 1 by simp] at e8
    subst e8
    have far : ∀ k cs t fr, k < w3.heap.size → t ≠ 133 → w3.heap[k]? = some (.cells cs t fr) → w8.heap[k]? = some (.cells cs t fr) := fun k cs t fr hk htt hh => (hg8.block k (by simp; omega) (fun e => H3.out.2.2.1.ne_block hh htt e.symm)).trans ((Below.heap_alloc w3 _ k hk).trans hh)
    have hnb8 := far nb _ _ _ hnlt3 (by decide) H3.out.1
    obtain ⟨z0, z1, z2, zf⟩ := node3 hnb8
    have zf1 := zf 1
    have hx8 : w8.heap[w.heap.size]? = some (itemO x) := (hb8.block w.heap.size (by omega)).trans ((Below.heap_alloc w3 _ _ hlw).trans H3.out.2.1)
    have hSb := xcells hx8
    have ho8 : ∀ k, k ≠ nb → (w8.setCell ⟨nb, 1, none⟩ (.slice A8 (L.length + 1) c8)).heap[k]? = w8.heap[k]? := fun k hk => Below.heap_setCell _ _ _ _ hk
    have HSc := Lib.hid (xcells ((ho8 w.heap.size (by omega)).trans hx8))
    have hM8 : Below M w2 (w8.setCell ⟨nb, 1, none⟩ (.slice A8 (L.length + 1) c8)) := ((H3.out.2.2.2.mono (by omega)).trans ((((Below.refl M w3).alloc (by omega) (itemO x)).drew).trans hb8)).setCell hMw _
    have hnbW : (w8.setCell ⟨nb, 1, none⟩ (.slice A8 (L.length + 1) c8)).heap[nb]? = some (nodeO true (.slice A8 (L ++ [x]).length c8) (.slice none 0 0)) := by
      rw [show (L ++ [x]).length = L.length + 1 by simp]
      exact heap_set hnb8
    have hitW : Items (w8.setCell ⟨nb, 1, none⟩ (.slice A8 (L.length + 1) c8)) M (.slice A8 (L.length + 1) c8) (L ++ [x]) := by
      obtain ⟨q1, q2⟩ := hit8
      refine ⟨q1, ?_⟩
      rcases q2 with q2 | ⟨g, cap, cur, hv, hg, hh, r⟩
      · exact .inl q2
      · exact .inr ⟨g, cap, cur, hv, hg, (ho8 g (fun e => by
          subst e
          rw [hnb8] at hh
          cases hh)).trans hh, r⟩
    have hAW : ActIs B (w8.setCell ⟨nb, 1, none⟩ (.slice A8 (L.length + 1) c8)) ba F2 R := H2.out.2.2.1.keep (fun k hk => hM8.block k (H2.out.2.2.2.1 k hk)) hM8.size
    have htbM : tb < M := by omega
    have htW := (hM8.block tb htbM).trans H2.out.2.2.2.2.2.2.2
    have htF2 : ¬ F2 tb := fun e => htF (H2.out.2.2.2.2.1 tb (by simp; omega) e)
    have HST := Lib.hid (store_leaf htW hAW H.out.2.1 htF2 p H.out.2.2.1 hnbW hitW.read (fun y hy => by
      rcases List.mem_append.1 hy with hy | hy
      · exact H.out.2.2.2.1 y hy
      · obtain rfl := List.mem_singleton.1 hy
        exact hx) H.out.2.2.2.2.2.2.1 (by simp; omega))
    have HO := Lib.hid (show Off F w (w8.setCell ⟨nb, 1, none⟩ (.slice A8 (L.length + 1) c8)) from ((Off.of_below H.out.2.2.2.2.2.2.2.2).trans H2.out.2.2.2.2.2.1 (fun _ _ h => h)).trans (show Off (fun k => ¬ k < M) w2 (w8.setCell ⟨nb, 1, none⟩ (.slice A8 (L.length + 1) c8)) from ⟨hM8.os, hM8.tape, hM8.output, hM8.size, fun k hk hn => hM8.block k (by
      by_cases h : k < M
      · exact h
      · exact absurd h hn)⟩) (fun k hk e => by
        have e' : ¬ k < M := e
        omega))
    clear hit8 hb8 hg8 far hnb8 hx8 ho8 hM8 hnbW hitW hAW htW htF2 zf
    refine hK.out _ _ hSb (fun _ => ?_)
    clear hK K
    try simp only [Act.put, List.getElem_toArray, List.getElem_cons_succ, List.getElem_cons_zero, List.setIfInBounds_toArray, List.set_cons_zero, List.set_cons_succ]
    refine wpAnyH_take (i := 9) (v := ?_) rfl (by kernel_rfl) (by kernel_rfl) (by kernel_rfl) (fun _ _ _ h => h) (Or.inl ⟨by rfl, ?_⟩) hSb ?_
    rotate_left
    · rintro w9 ⟨t0, t1⟩
      go_simp
      try with_reducible rfl
    try simp only [Act.put, List.getElem_toArray, List.getElem_cons_succ, List.getElem_cons_zero, List.setIfInBounds_toArray, List.set_cons_zero, List.set_cons_succ]
    refine wpAnyH_take (i := 10) (v := ?_) rfl (by kernel_rfl) (by kernel_rfl) (by kernel_rfl) (fun _ _ _ h => h) (Or.inl ⟨by rfl, ?_⟩) hSb ?_
    rotate_left
    · rintro w9 ⟨t0, t1⟩
      go_simp
      try with_reducible rfl
    try simp only [Act.put, List.getElem_toArray, List.getElem_cons_succ, List.getElem_cons_zero, List.setIfInBounds_toArray, List.set_cons_zero, List.set_cons_succ]
    refine wpAnyH_ready (rs := [11]) (by kernel_rfl) (by simp) ?_
    refine AllReadyH.cons rfl (fun K hK => ?_) AllReadyH.nil
    go_simp
    refine hK.out _ _ HSc.out (fun _ => ?_)
    clear hK K
    try simp only [Act.put, List.getElem_toArray, List.getElem_cons_succ, List.getElem_cons_zero, List.setIfInBounds_toArray, List.set_cons_zero, List.set_cons_succ]
    refine wpAnyH_done (by kernel_rfl) ?_ _
    refine NoPanic.normal ?_
    go_wp2_with fail
    refine HST.out.mono ?_
    rintro e w9 ⟨rfl, hst⟩
    have HS := Lib.hid (Step.trans HO.out (fun k hk h => H2.out.2.2.2.2.1 k (by simp; omega) h) hst)
    clear hst
    go_wp2
    go_ret3
    exact ⟨rfl, HS.out⟩
end Go.Proofs.YtddddjpmeegedaaGreat
