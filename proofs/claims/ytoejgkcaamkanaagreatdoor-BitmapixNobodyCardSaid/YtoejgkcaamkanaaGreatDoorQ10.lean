/- A new key is put into a leaf, wherever. (Written by genput2.py.) A key that is there is put anew; Put into a leaf. -/
import Derived.Test.YtoejgkcaamkanaaGreatDoorQ08
import Derived.Test.YtoejgkcaamkanaaGreatDoorQ09
set_option linter.unusedVariables false
set_option linter.unusedSimpArgs false
namespace Go.Proofs.YtoejgkcaamkanaaGreatDoor
open Go.RowKit

/-- A leaf with an item put in before the i-th. -/
def insL (L : List KV) (i : Nat) (x : KV) : List KV := L.take i ++ x :: L.drop i
theorem insL_length (L : List KV) (i : Nat) (x : KV) (h : i ≤ L.length) : (insL L i x).length = L.length + 1 := by
  unfold insL
  simp only [List.length_append, List.length_take, List.length_cons, List.length_drop]
  omega
theorem insL_end (L : List KV) (x : KV) : insL L L.length x = L ++ [x] := by
  unfold insL
  rw [List.take_of_length_le (Nat.le_refl _), List.drop_of_length_le (Nat.le_refl _)]
theorem insL_mem {L : List KV} {i : Nat} {x y : KV} (h : y ∈ insL L i x) : y = x ∨ y ∈ L := by
  unfold insL at h
  rcases List.mem_append.1 h with h | h
  · exact .inr (List.mem_of_mem_take h)
  · rcases List.mem_cons.1 h with h | h
    · exact .inl h
    · exact .inr (List.mem_of_mem_drop h)
theorem insL_bytes (L : List KV) (i : Nat) (x : KV) : (leafB (insL L i x)).length = (leafB L).length + (itemB x).length := by
  have e : (L.flatMap itemB).length = ((L.take i).flatMap itemB).length + ((L.drop i).flatMap itemB).length := by
    rw [← List.length_append, ← List.flatMap_append, List.take_append_drop]
  unfold leafB insL
  simp only [List.length_cons, List.flatMap_append, List.flatMap_cons, List.length_append]
  omega
theorem insL_at (L : List KV) (i : Nat) (x : KV) (h : i ≤ L.length) (t : Nat) (ht : t < (insL L i x).length) : (insL L i x)[t] = if h1 : t < i then L[t]'(by omega) else if h2 : t = i then x else L[t - 1]'(by rw [insL_length L i x h] at ht; omega) := by
  have ht' := ht
  rw [insL_length L i x h] at ht'
  have hh : t < (L.take i ++ x :: L.drop i).length := ht
  show (L.take i ++ x :: L.drop i)[t]'hh = _
  by_cases h1 : t < i
  · rw [dif_pos h1, List.getElem_append_left (by rw [List.length_take]; omega), List.getElem_take]
  · rw [dif_neg h1]
    rw [List.getElem_append_right (by rw [List.length_take]; omega)]
    have e : (L.take i).length = i := by rw [List.length_take]; omega
    by_cases h2 : t = i
    · subst h2
      rw [dif_pos rfl]
      simp only [e, Nat.sub_self, List.getElem_cons_zero]
    · rw [dif_neg h2]
      obtain ⟨m, rfl⟩ : ∃ m, t = i + 1 + m := ⟨t - (i + 1), by omega⟩
      have e2 : i + 1 + m - (L.take i).length = m + 1 := by omega
      simp only [e2, List.getElem_cons_succ, List.getElem_drop]
      congr 1
      omega
theorem cb_rev : ∀ a b : List UInt8, Go.Lib.compareBytes a b = - Go.Lib.compareBytes b a
  | [], [] => by simp [Go.Lib.compareBytes]
  | [], _ :: _ => by simp [Go.Lib.compareBytes]
  | _ :: _, [] => by simp [Go.Lib.compareBytes]
  | x :: a, y :: b => by
    have ih := cb_rev a b
    simp only [Go.Lib.compareBytes]
    by_cases h1 : x < y
    · have h2 : ¬ y < x := by rw [UInt8.lt_iff_toNat_lt] at *; omega
      simp [h1, h2]
    · by_cases h2 : y < x
      · simp [h1, h2]
      · simp [h1, h2, ih]
theorem cb_eq : ∀ a b : List UInt8, Go.Lib.compareBytes a b = 0 → a = b
  | [], [], _ => rfl
  | [], _ :: _, h => by simp [Go.Lib.compareBytes] at h
  | _ :: _, [], h => by simp [Go.Lib.compareBytes] at h
  | x :: a, y :: b, h => by
    simp only [Go.Lib.compareBytes] at h
    by_cases h1 : x < y
    · simp [h1] at h
    · by_cases h2 : y < x
      · simp [h1, h2] at h
      · simp only [h1, h2, if_false] at h
        have e : x = y := by
          rw [UInt8.lt_iff_toNat_lt] at h1 h2
          exact UInt8.toNat_inj.1 (by omega)
        rw [e, cb_eq a b h]
theorem isAt_none {L : List KV} {key : ByteArray} {i : Nat} (h : isAt L key i = false) (hi : i < L.length) : cmpK L[i] key ≠ 0 := by
  unfold isAt at h
  rw [List.getElem?_eq_getElem hi] at h
  simpa using h
theorem Sorted.ins {L : List KV} {x : KV} {i : Nat} (hs : Sorted L) (hc : Cut L x.k i) (hat : isAt L x.k i = false) : Sorted (insL L i x) := by
  have hle := hc.le
  have hgt : ∀ t (ht : t < L.length), i ≤ t → 0 < cmpK L[t] x.k := fun t ht hit => by
    have h0 := hc.hi t ht hit
    by_cases e : t = i
    · subst e
      have := isAt_none hat ht
      omega
    · have h1 := hc.hi i (by omega) (Nat.le_refl _)
      have h2 := isAt_none hat (show i < L.length by omega)
      by_cases e0 : cmpK L[t] x.k = 0
      · have h3 := hs i t (by omega) ht (by omega)
        have h4 : L[t].k.data.toList = x.k.data.toList := cb_eq _ _ e0
        rw [h4] at h3
        unfold cmpK at h1
        omega
      · omega
  intro s t hs' ht' hst
  have hs2 := hs'
  have ht2 := ht'
  rw [insL_length L i x hle] at hs2 ht2
  rw [insL_at L i x hle s hs', insL_at L i x hle t ht']
  by_cases a1 : s < i
  · rw [dif_pos a1]
    by_cases b1 : t < i
    · rw [dif_pos b1]
      exact hs s t (by omega) (by omega) hst
    · rw [dif_neg b1]
      by_cases b2 : t = i
      · rw [dif_pos b2]
        exact hc.lo s (by omega) a1
      · rw [dif_neg b2]
        exact hs s (t - 1) (by omega) (by omega) (by omega)
  · rw [dif_neg a1, dif_neg (show ¬ t < i by omega), dif_neg (show ¬ t = i by omega)]
    by_cases a2 : s = i
    · rw [dif_pos a2, cb_rev]
      have := hgt (t - 1) (by omega) (by omega)
      unfold cmpK at this
      omega
    · rw [dif_neg a2]
      exact hs (s - 1) (t - 1) (by omega) (by omega) (by omega)

theorem insert_any {w : World} {M c : Nat} {A : Option Addr} {L : List KV} (h : Items w M (.slice A L.length c) L) (hM : M ≤ w.heap.size) (y : KV) (k c' : Nat) (hk : w.heap[k]? = some (itemO y)) (hkA : Value.ownBlock (.slice A L.length c) ≠ some k) (i : Nat) (hi : i ≤ L.length) (hn : L.length ≤ 65536) :
    Calls Tryz.prog 134 #[.slice A L.length c, .int .i64 i, .slice (some ⟨k, 0, none⟩) 1 c'] w fun e w' => ∃ v', e = .returned v' ∧ Items w' M v' (insL L i y) ∧ Below M w w' ∧ w.grownBy w' (Value.ownBlock (.slice A L.length c)) := by
  by_cases hl : i = L.length
  · subst hl
    rw [insL_end]
    obtain ⟨x0, x1⟩ := xcells hk
    exact insert_end (n := 0) h hM y k c' x0 x1 hn
  · by_cases hr : L.length + 1 ≤ c
    · exact insert_room h hM y k c' hk hkA i (by omega) hn hr
    · exact insert_grow h hM y k c' hk i (by omega) hn (by omega)

set_option maxRecDepth 100000 in
set_option maxHeartbeats 4000000 in
theorem put_new {bs : Nat} {B : Base bs} {w : World} {tb ba root : Nat} {F : Nat → Prop} {R : Raw} (ht : w.heap[tb]? = some (treeO ba root)) (hA : ActIs B w ba F R) (hc : Cov B R) (htF : ¬ F tb) (p : Int) (hp : thereE R p = 0) (L : List KV) (hL : R.page p = pageL (leafB L)) (hok : ∀ x ∈ L, x.ok)
    (hs : Sorted L) (x : KV) (hx : x.ok) (i : Nat) (hend : Cut L x.k i ∧ isAt L x.k i = false) (hlen : (leafB (insL L i x)).length ≤ 512) (hn : L.length + 1 < 256) :
    Calls Tryz.prog 91 #[.pointer (some ⟨tb, 0, none⟩), .int .i64 p, .agg #[.string x.k, .string x.v]] w fun e w' =>
      e = .returned (.tuple #[.bool true, .pointer none, .int .i64 0]) ∧ Step B ba w F (R.put p 0 (pageL (leafB (insL L i x)))) w' := by
  have hA0F : ∀ k, F k → k < w.heap.size := hA.1
  have hltb : tb < w.heap.size := (Array.getElem?_eq_some_iff.1 ht).1
  have hb0 : Below w.heap.size w (w.alloc (itemO x)) := by go_grown
  have ht0 := (hb0.block tb hltb).trans ht
  have hlenL : (leafB L).length ≤ 512 := by
    have := insL_bytes L i x
    omega
  have HR := Lib.hid (read_leaf ht0 (hA.below hb0) hc htF p hp L hL hok hlenL (by omega))
  have hx0 := hnew w (itemO x)
  have H := Lib.hid (And.intro ht0 (And.intro hc (And.intro hp (And.intro hok (And.intro hs (And.intro hend (And.intro hlen (And.intro hx0 hb0))))))))
  clear ht hA hc hp hL hok hs hend hlen hlenL ht0 hx0 hb0
  go_enter Tryz.func91, Tryz.ntmps91
  go_wp2_with fail
  refine HR.out.mono ?_
  rintro e w2 ⟨nb, v, F2, M, rfl, hnb2, hit2, hM, hMn, hA2, hF2M, hF2, ho2⟩
  simp at hM
  obtain ⟨A, c, rfl⟩ := hit2.slice
  have hsz2 : w.heap.size + 1 ≤ w2.heap.size := by have := ho2.size; simp at this; exact this
  have hMw : M ≤ nb := hMn
  have hnlt : nb < w2.heap.size := (Array.getElem?_eq_some_iff.1 hnb2).1
  have hx2 : w2.heap[w.heap.size]? = some (itemO x) := by
    obtain ⟨z, _⟩ := hA2
    by_cases hFx : F w.heap.size
    · exact absurd ((hA0F w.heap.size hFx)) (by omega)
    · exact (ho2.block w.heap.size (by simp) hFx).trans H.out.2.2.2.2.2.2.2.1
  have ht2 : w2.heap[tb]? = some (treeO ba root) := (ho2.block tb (by simp; omega) htF).trans H.out.1
  have HF := Lib.hid (find_any hnb2 hit2.read (by omega) H.out.2.2.2.2.1 x.k)
  obtain ⟨n0, n1, n2, nf⟩ := node3 hnb2
  obtain ⟨x0, x1⟩ := xcells hx2
  have H2 := Lib.hid (And.intro hnb2 (And.intro hit2 (And.intro hA2 (And.intro hF2M (And.intro hF2 (And.intro ho2 (And.intro hx2 ht2)))))))
  clear hnb2 hit2 hA2 hF2M hF2 ho2 hx2 ht2 HR nf hMn
  go_wp2_with fail
  refine HF.out.mono ?_
  rintro e w3 ⟨i', rfl, hcut, hb3⟩
  obtain rfl := hcut.uniq H.out.2.2.2.2.2.1.1
  have hat := H.out.2.2.2.2.2.1.2
  have hile := hcut.le
  have hlnx := insL_length L i' x hile
  rw [hat]
  have hnb3 := (hb3.block nb hnlt).trans H2.out.1
  have hx3 := (hb3.block w.heap.size (by omega)).trans H2.out.2.2.2.2.2.2.1
  obtain ⟨n0, n1, n2, nf⟩ := node3 hnb3
  have nf1 := nf 1
  obtain ⟨x0, x1⟩ := xcells hx3
  have hsz3 := hb3.size
  have hlw : w.heap.size < w3.heap.size := by omega
  have H3 := Lib.hid (And.intro hnb3 (And.intro hx3 (And.intro (H2.out.2.1.later hb3) hb3)))
  clear hcut hb3 hnb3 hx3 nf HF hat
  go_wp2
  have hnlt3 : nb < w3.heap.size := by omega
  have upW : ∀ k i u, w3.cell? ⟨k, i, none⟩ = some u → ((w3.alloc (itemO x)).drew).cell? ⟨k, i, none⟩ = some u := fun k i u hu => (((Below.refl w3.heap.size w3).alloc (Nat.le_refl _) (itemO x)).cell (p := ⟨k, i, none⟩) (World.block_lt_of_cell? w3 _ hu)).trans hu
  have hSa := And.intro (upW w.heap.size 0 _ x0) (upW w.heap.size 1 _ x1)
  have d1 := upW nb 1 _ n1
  have HSa := Lib.hid hSa
  have hitA : Items (w3.alloc (itemO x)).drew M (.slice A L.length c) L := H3.out.2.2.1.keep fun k _ hk => Below.heap_alloc _ _ k hk
  have hcx := xcells (show (w3.alloc (itemO x)).drew.heap[w3.heap.size]? = some (itemO x) from hnew w3 _)
  have HI := Lib.hid (insert_any hitA (by simp; omega) x w3.heap.size 1 (show (w3.alloc (itemO x)).drew.heap[w3.heap.size]? = some (itemO x) from hnew w3 _) (fun e => by have := (World.ownsRow.lt H3.out.2.2.1 _ e).2; omega) i' hile (by omega))
  clear hSa upW hitA hcx
  refine wp_region_noPanic ?_
  refine wp_region_held_drew (S := (fun w' => w'.cell? ⟨w.heap.size, 0, none⟩ = some (.string x.k) ∧ w'.cell? ⟨w.heap.size, 1, none⟩ = some (.string x.v))) (by kernel_rfl) ⟨x0, x1⟩ (fun hS => ?_)
  refine wpAnyH_take (i := 0) (v := ?_) rfl (by kernel_rfl) (by kernel_rfl) (by kernel_rfl) (fun _ _ _ h => h) (Or.inl ⟨by rfl, ?_⟩) hS ?_
  rotate_left
  · rintro w9 ⟨t0, t1⟩
    go_simp
    try with_reducible rfl
  try simp only [Act.put, List.getElem_toArray, List.getElem_cons_succ, List.getElem_cons_zero, List.setIfInBounds_toArray, List.set_cons_zero, List.set_cons_succ]
  refine wpAnyH_take (i := 1) (v := ?_) rfl (by kernel_rfl) (by kernel_rfl) (by kernel_rfl) (fun _ _ _ h => h) (Or.inl ⟨by rfl, ?_⟩) hS ?_
  rotate_left
  · rintro w9 ⟨t0, t1⟩
    go_simp
    try with_reducible rfl
  try simp only [Act.put, List.getElem_toArray, List.getElem_cons_succ, List.getElem_cons_zero, List.setIfInBounds_toArray, List.set_cons_zero, List.set_cons_succ]
  refine wpAnyH_take (i := 2) (v := ?_) rfl (by kernel_rfl) (by kernel_rfl) (by kernel_rfl) (fun _ _ _ h => h) (Or.inl ⟨by rfl, ?_⟩) hS ?_
  rotate_left
  · rintro w9 ⟨t0, t1⟩
    go_simp
    try with_reducible rfl
  try simp only [Act.put, List.getElem_toArray, List.getElem_cons_succ, List.getElem_cons_zero, List.setIfInBounds_toArray, List.set_cons_zero, List.set_cons_succ]
  refine wpAnyH_take (i := 3) (v := ?_) rfl (by kernel_rfl) (by kernel_rfl) (by kernel_rfl) (fun _ _ _ h => h) (Or.inl ⟨by rfl, ?_⟩) hS ?_
  rotate_left
  · rintro w9 ⟨t0, t1⟩
    go_simp
    try with_reducible rfl
  try simp only [Act.put, List.getElem_toArray, List.getElem_cons_succ, List.getElem_cons_zero, List.setIfInBounds_toArray, List.set_cons_zero, List.set_cons_succ]
  refine wpAnyH_take (i := 5) (v := ?_) rfl (by kernel_rfl) (by kernel_rfl) (by kernel_rfl) (fun _ _ _ h => h) (Or.inl ⟨by rfl, ?_⟩) hS ?_
  rotate_left
  · rintro w9 ⟨t0, t1⟩
    go_simp
    try with_reducible rfl
  try simp only [Act.put, List.getElem_toArray, List.getElem_cons_succ, List.getElem_cons_zero, List.setIfInBounds_toArray, List.set_cons_zero, List.set_cons_succ]
  refine wpAnyH_take (i := 6) (v := ?_) rfl (by kernel_rfl) (by kernel_rfl) (by kernel_rfl) (fun _ _ _ h => h) (Or.inl ⟨by rfl, ?_⟩) hS ?_
  rotate_left
  · rintro w9 ⟨t0, t1⟩
    go_simp
    try with_reducible rfl
  try simp only [Act.put, List.getElem_toArray, List.getElem_cons_succ, List.getElem_cons_zero, List.setIfInBounds_toArray, List.set_cons_zero, List.set_cons_succ]
  refine wpAnyH_ready (rs := [4, 7]) (by kernel_rfl) (by simp) ?_
  refine AllReadyH.cons rfl (fun K hK => ?_) (AllReadyH.cons rfl (fun K hK => ?_) AllReadyH.nil)
  · go_simp
    refine hK.out _ _ hS (fun _ => ?_)
    clear hK K
    try simp only [Act.put, List.getElem_toArray, List.getElem_cons_succ, List.getElem_cons_zero, List.setIfInBounds_toArray, List.set_cons_zero, List.set_cons_succ]
    refine wpAnyH_ready (rs := [7]) (by kernel_rfl) (by simp) ?_
    refine AllReadyH.cons rfl (fun K hK => ?_) AllReadyH.nil
    go_simp
    refine hK.out _ _ HSa.out (fun _ => ?_)
    clear hK K
    try simp only [Act.put, List.getElem_toArray, List.getElem_cons_succ, List.getElem_cons_zero, List.setIfInBounds_toArray, List.set_cons_zero, List.set_cons_succ]
    refine wpAnyH_ready (rs := [8]) (by kernel_rfl) (by simp) ?_
    refine AllReadyH.cons rfl (fun K hK => ?_) AllReadyH.nil
    go_simp
    refine HI.out.mono ?_
    rintro e w8 ⟨v', rfl, hit8, hb8, hg8⟩
    obtain ⟨A8, c8, e8⟩ := hit8.slice
    rw [hlnx] at e8
    subst e8
    have far : ∀ k cs t fr, k < w3.heap.size → t ≠ 89 → w3.heap[k]? = some (.cells cs t fr) → w8.heap[k]? = some (.cells cs t fr) := fun k cs t fr hk htt hh => (hg8.block k (by simp; omega) (fun e => H3.out.2.2.1.ne_block hh htt e.symm)).trans ((Below.heap_alloc w3 _ k hk).trans hh)
    have hnb8 := far nb _ _ _ hnlt3 (by decide) H3.out.1
    obtain ⟨z0, z1, z2, zf⟩ := node3 hnb8
    have zf1 := zf 1
    have hx8 : w8.heap[w.heap.size]? = some (itemO x) := (hb8.block w.heap.size (by omega)).trans ((Below.heap_alloc w3 _ _ hlw).trans H3.out.2.1)
    have hSb := xcells hx8
    have ho8 : ∀ k, k ≠ nb → (w8.setCell ⟨nb, 1, none⟩ (.slice A8 (L.length + 1) c8)).heap[k]? = w8.heap[k]? := fun k hk => Below.heap_setCell _ _ _ _ hk
    have HSc := Lib.hid (xcells ((ho8 w.heap.size (by omega)).trans hx8))
    have hM8 : Below M w2 (w8.setCell ⟨nb, 1, none⟩ (.slice A8 (L.length + 1) c8)) := ((H3.out.2.2.2.mono (by omega)).trans ((((Below.refl M w3).alloc (by omega) (itemO x)).drew).trans hb8)).setCell hMw _
    have hnbW : (w8.setCell ⟨nb, 1, none⟩ (.slice A8 (L.length + 1) c8)).heap[nb]? = some (nodeO true (.slice A8 (insL L i' x).length c8) (.slice none 0 0)) := by
      rw [hlnx]
      exact heap_set hnb8
    have hitW : Items (w8.setCell ⟨nb, 1, none⟩ (.slice A8 (L.length + 1) c8)) M (.slice A8 (L.length + 1) c8) (insL L i' x) := by
      obtain ⟨q1, q2⟩ := hit8
      refine ⟨q1, ?_⟩
      rcases q2 with q2 | ⟨g, cap, cur, hv, hg, hh, r⟩
      · exact .inl q2
      · exact .inr ⟨g, cap, cur, hv, hg, (ho8 g (fun e => by
          subst e
          rw [hnb8] at hh
          cases hh)).trans hh, r⟩
    have hAW : ActIs B (w8.setCell ⟨nb, 1, none⟩ (.slice A8 (L.length + 1) c8)) ba F2 R := H2.out.2.2.1.keep (fun k hk => hM8.block k (H2.out.2.2.2.1 k hk)) hM8.size
    have htbM : tb < M := by omega
    have htW := (hM8.block tb htbM).trans H2.out.2.2.2.2.2.2.2
    have htF2 : ¬ F2 tb := fun e => htF (H2.out.2.2.2.2.1 tb (by simp; omega) e)
    have HST := Lib.hid (store_leaf htW hAW H.out.2.1 htF2 p H.out.2.2.1 hnbW hitW.read (fun y hy => by
      rcases insL_mem hy with hy | hy
      · rw [hy]; exact hx
      · exact H.out.2.2.2.1 y hy) H.out.2.2.2.2.2.2.1 (by rw [hlnx]; omega))
    have HO := Lib.hid (show Off F w (w8.setCell ⟨nb, 1, none⟩ (.slice A8 (L.length + 1) c8)) from ((Off.of_below H.out.2.2.2.2.2.2.2.2).trans H2.out.2.2.2.2.2.1 (fun _ _ h => h)).trans (show Off (fun k => ¬ k < M) w2 (w8.setCell ⟨nb, 1, none⟩ (.slice A8 (L.length + 1) c8)) from ⟨hM8.os, hM8.tape, hM8.output, hM8.size, fun k hk hn => hM8.block k (by
      by_cases h : k < M
      · exact h
      · exact absurd h hn)⟩) (fun k hk e => by
        have e' : ¬ k < M := e
        omega))
    clear hit8 hb8 hg8 far hnb8 hx8 ho8 hM8 hnbW hitW hAW htW htF2 zf
    refine hK.out _ _ hSb (fun _ => ?_)
    clear hK K
    try simp only [Act.put, List.getElem_toArray, List.getElem_cons_succ, List.getElem_cons_zero, List.setIfInBounds_toArray, List.set_cons_zero, List.set_cons_succ]
    refine wpAnyH_take (i := 9) (v := ?_) rfl (by kernel_rfl) (by kernel_rfl) (by kernel_rfl) (fun _ _ _ h => h) (Or.inl ⟨by rfl, ?_⟩) hSb ?_
    rotate_left
    · rintro w9 ⟨t0, t1⟩
      go_simp
      try with_reducible rfl
    try simp only [Act.put, List.getElem_toArray, List.getElem_cons_succ, List.getElem_cons_zero, List.setIfInBounds_toArray, List.set_cons_zero, List.set_cons_succ]
    refine wpAnyH_take (i := 10) (v := ?_) rfl (by kernel_rfl) (by kernel_rfl) (by kernel_rfl) (fun _ _ _ h => h) (Or.inl ⟨by rfl, ?_⟩) hSb ?_
    rotate_left
    · rintro w9 ⟨t0, t1⟩
      go_simp
      try with_reducible rfl
    try simp only [Act.put, List.getElem_toArray, List.getElem_cons_succ, List.getElem_cons_zero, List.setIfInBounds_toArray, List.set_cons_zero, List.set_cons_succ]
    refine wpAnyH_ready (rs := [11]) (by kernel_rfl) (by simp) ?_
    refine AllReadyH.cons rfl (fun K hK => ?_) AllReadyH.nil
    go_simp
    refine hK.out _ _ HSc.out (fun _ => ?_)
    clear hK K
    try simp only [Act.put, List.getElem_toArray, List.getElem_cons_succ, List.getElem_cons_zero, List.setIfInBounds_toArray, List.set_cons_zero, List.set_cons_succ]
    refine wpAnyH_done (by kernel_rfl) ?_ _
    refine NoPanic.normal ?_
    go_wp2_with fail
    refine HST.out.mono ?_
    rintro e w9 ⟨rfl, hst⟩
    have HS := Lib.hid (Step.trans HO.out (fun k hk h => H2.out.2.2.2.2.1 k (by simp; omega) h) hst)
    clear hst
    go_wp2
    go_ret3
    exact ⟨rfl, HS.out⟩
  · go_simp
    refine hK.out _ _ HSa.out (fun _ => ?_)
    clear hK K
    try simp only [Act.put, List.getElem_toArray, List.getElem_cons_succ, List.getElem_cons_zero, List.setIfInBounds_toArray, List.set_cons_zero, List.set_cons_succ]
    refine wpAnyH_ready (rs := [4]) (by kernel_rfl) (by simp) ?_
    refine AllReadyH.cons rfl (fun K hK => ?_) AllReadyH.nil
    go_simp
    refine hK.out _ _ HSa.out (fun _ => ?_)
    clear hK K
    try simp only [Act.put, List.getElem_toArray, List.getElem_cons_succ, List.getElem_cons_zero, List.setIfInBounds_toArray, List.set_cons_zero, List.set_cons_succ]
    refine wpAnyH_ready (rs := [8]) (by kernel_rfl) (by simp) ?_
    refine AllReadyH.cons rfl (fun K hK => ?_) AllReadyH.nil
    go_simp
    refine HI.out.mono ?_
    rintro e w8 ⟨v', rfl, hit8, hb8, hg8⟩
    obtain ⟨A8, c8, e8⟩ := hit8.slice
    rw [hlnx] at e8
    subst e8
    have far : ∀ k cs t fr, k < w3.heap.size → t ≠ 89 → w3.heap[k]? = some (.cells cs t fr) → w8.heap[k]? = some (.cells cs t fr) := fun k cs t fr hk htt hh => (hg8.block k (by simp; omega) (fun e => H3.out.2.2.1.ne_block hh htt e.symm)).trans ((Below.heap_alloc w3 _ k hk).trans hh)
    have hnb8 := far nb _ _ _ hnlt3 (by decide) H3.out.1
    obtain ⟨z0, z1, z2, zf⟩ := node3 hnb8
    have zf1 := zf 1
    have hx8 : w8.heap[w.heap.size]? = some (itemO x) := (hb8.block w.heap.size (by omega)).trans ((Below.heap_alloc w3 _ _ hlw).trans H3.out.2.1)
    have hSb := xcells hx8
    have ho8 : ∀ k, k ≠ nb → (w8.setCell ⟨nb, 1, none⟩ (.slice A8 (L.length + 1) c8)).heap[k]? = w8.heap[k]? := fun k hk => Below.heap_setCell _ _ _ _ hk
    have HSc := Lib.hid (xcells ((ho8 w.heap.size (by omega)).trans hx8))
    have hM8 : Below M w2 (w8.setCell ⟨nb, 1, none⟩ (.slice A8 (L.length + 1) c8)) := ((H3.out.2.2.2.mono (by omega)).trans ((((Below.refl M w3).alloc (by omega) (itemO x)).drew).trans hb8)).setCell hMw _
    have hnbW : (w8.setCell ⟨nb, 1, none⟩ (.slice A8 (L.length + 1) c8)).heap[nb]? = some (nodeO true (.slice A8 (insL L i' x).length c8) (.slice none 0 0)) := by
      rw [hlnx]
      exact heap_set hnb8
    have hitW : Items (w8.setCell ⟨nb, 1, none⟩ (.slice A8 (L.length + 1) c8)) M (.slice A8 (L.length + 1) c8) (insL L i' x) := by
      obtain ⟨q1, q2⟩ := hit8
      refine ⟨q1, ?_⟩
      rcases q2 with q2 | ⟨g, cap, cur, hv, hg, hh, r⟩
      · exact .inl q2
      · exact .inr ⟨g, cap, cur, hv, hg, (ho8 g (fun e => by
          subst e
          rw [hnb8] at hh
          cases hh)).trans hh, r⟩
    have hAW : ActIs B (w8.setCell ⟨nb, 1, none⟩ (.slice A8 (L.length + 1) c8)) ba F2 R := H2.out.2.2.1.keep (fun k hk => hM8.block k (H2.out.2.2.2.1 k hk)) hM8.size
    have htbM : tb < M := by omega
    have htW := (hM8.block tb htbM).trans H2.out.2.2.2.2.2.2.2
    have htF2 : ¬ F2 tb := fun e => htF (H2.out.2.2.2.2.1 tb (by simp; omega) e)
    have HST := Lib.hid (store_leaf htW hAW H.out.2.1 htF2 p H.out.2.2.1 hnbW hitW.read (fun y hy => by
      rcases insL_mem hy with hy | hy
      · rw [hy]; exact hx
      · exact H.out.2.2.2.1 y hy) H.out.2.2.2.2.2.2.1 (by rw [hlnx]; omega))
    have HO := Lib.hid (show Off F w (w8.setCell ⟨nb, 1, none⟩ (.slice A8 (L.length + 1) c8)) from ((Off.of_below H.out.2.2.2.2.2.2.2.2).trans H2.out.2.2.2.2.2.1 (fun _ _ h => h)).trans (show Off (fun k => ¬ k < M) w2 (w8.setCell ⟨nb, 1, none⟩ (.slice A8 (L.length + 1) c8)) from ⟨hM8.os, hM8.tape, hM8.output, hM8.size, fun k hk hn => hM8.block k (by
      by_cases h : k < M
      · exact h
      · exact absurd h hn)⟩) (fun k hk e => by
        have e' : ¬ k < M := e
        omega))
    clear hit8 hb8 hg8 far hnb8 hx8 ho8 hM8 hnbW hitW hAW htW htF2 zf
    refine hK.out _ _ hSb (fun _ => ?_)
    clear hK K
    try simp only [Act.put, List.getElem_toArray, List.getElem_cons_succ, List.getElem_cons_zero, List.setIfInBounds_toArray, List.set_cons_zero, List.set_cons_succ]
    refine wpAnyH_take (i := 9) (v := ?_) rfl (by kernel_rfl) (by kernel_rfl) (by kernel_rfl) (fun _ _ _ h => h) (Or.inl ⟨by rfl, ?_⟩) hSb ?_
    rotate_left
    · rintro w9 ⟨t0, t1⟩
      go_simp
      try with_reducible rfl
    try simp only [Act.put, List.getElem_toArray, List.getElem_cons_succ, List.getElem_cons_zero, List.setIfInBounds_toArray, List.set_cons_zero, List.set_cons_succ]
    refine wpAnyH_take (i := 10) (v := ?_) rfl (by kernel_rfl) (by kernel_rfl) (by kernel_rfl) (fun _ _ _ h => h) (Or.inl ⟨by rfl, ?_⟩) hSb ?_
    rotate_left
    · rintro w9 ⟨t0, t1⟩
      go_simp
      try with_reducible rfl
    try simp only [Act.put, List.getElem_toArray, List.getElem_cons_succ, List.getElem_cons_zero, List.setIfInBounds_toArray, List.set_cons_zero, List.set_cons_succ]
    refine wpAnyH_ready (rs := [11]) (by kernel_rfl) (by simp) ?_
    refine AllReadyH.cons rfl (fun K hK => ?_) AllReadyH.nil
    go_simp
    refine hK.out _ _ HSc.out (fun _ => ?_)
    clear hK K
    try simp only [Act.put, List.getElem_toArray, List.getElem_cons_succ, List.getElem_cons_zero, List.setIfInBounds_toArray, List.set_cons_zero, List.set_cons_succ]
    refine wpAnyH_done (by kernel_rfl) ?_ _
    refine NoPanic.normal ?_
    go_wp2_with fail
    refine HST.out.mono ?_
    rintro e w9 ⟨rfl, hst⟩
    have HS := Lib.hid (Step.trans HO.out (fun k hk h => H2.out.2.2.2.2.1 k (by simp; omega) h) hst)
    clear hst
    go_wp2
    go_ret3
    exact ⟨rfl, HS.out⟩
end Go.Proofs.YtoejgkcaamkanaaGreatDoor

namespace Go.Proofs.YtoejgkcaamkanaaGreatDoor
open Go.RowKit

theorem Sorted.set {L : List KV} {x : KV} {i : Nat} (hs : Sorted L) (hi : i < L.length) (e : L[i].k.data.toList = x.k.data.toList) : Sorted (L.set i x) := by
  have key : ∀ t (ht : t < (L.set i x).length), (L.set i x)[t].k.data.toList = (L[t]'(by simpa using ht)).k.data.toList := fun t ht => by
    rw [List.getElem_set]
    by_cases h : i = t
    · subst h; rw [if_pos rfl]; exact e.symm
    · rw [if_neg h]
  intro s t hs' ht' hst
  rw [key s hs', key t ht']
  exact hs s t _ _ hst
theorem isAt_key {L : List KV} {key : ByteArray} {i : Nat} (h : isAt L key i = true) : ∃ hi : i < L.length, L[i].k.data.toList = key.data.toList := by
  obtain ⟨hi, e⟩ := isAt_some h
  exact ⟨hi, cb_eq _ _ e⟩

set_option maxRecDepth 100000 in
set_option maxHeartbeats 4000000 in
theorem put_same {bs : Nat} {B : Base bs} {w : World} {tb ba root : Nat} {F : Nat → Prop} {R : Raw} (ht : w.heap[tb]? = some (treeO ba root)) (hA : ActIs B w ba F R) (hc : Cov B R) (htF : ¬ F tb) (p : Int) (hp : thereE R p = 0) (L : List KV) (hL : R.page p = pageL (leafB L)) (hok : ∀ x ∈ L, x.ok)
    (hs : Sorted L) (x : KV) (hx : x.ok) (i : Nat) (hend : Cut L x.k i ∧ isAt L x.k i = true) (hlenL : (leafB L).length ≤ 512) (hlen : (leafB (L.set i x)).length ≤ 512) (hn : L.length < 256) :
    Calls Tryz.prog 91 #[.pointer (some ⟨tb, 0, none⟩), .int .i64 p, .agg #[.string x.k, .string x.v]] w fun e w' =>
      e = .returned (.tuple #[.bool false, .pointer none, .int .i64 0]) ∧ Step B ba w F (R.put p 0 (pageL (leafB (L.set i x)))) w' := by
  have hA0F : ∀ k, F k → k < w.heap.size := hA.1
  have hltb : tb < w.heap.size := (Array.getElem?_eq_some_iff.1 ht).1
  have hb0 : Below w.heap.size w (w.alloc (itemO x)) := by go_grown
  have ht0 := (hb0.block tb hltb).trans ht
  have HR := Lib.hid (read_leaf ht0 (hA.below hb0) hc htF p hp L hL hok hlenL (by omega))
  have hx0 := hnew w (itemO x)
  have H := Lib.hid (And.intro ht0 (And.intro hc (And.intro hp (And.intro hok (And.intro hs (And.intro hend (And.intro hlen (And.intro hx0 hb0))))))))
  clear ht hA hc hp hL hok hs hend hlen hlenL ht0 hx0 hb0
  go_enter Tryz.func91, Tryz.ntmps91
  go_wp2_with fail
  refine HR.out.mono ?_
  rintro e w2 ⟨nb, v, F2, M, rfl, hnb2, hit2, hM, hMn, hA2, hF2M, hF2, ho2⟩
  simp at hM
  obtain ⟨A, c, rfl⟩ := hit2.slice
  have hsz2 : w.heap.size + 1 ≤ w2.heap.size := by have := ho2.size; simp at this; exact this
  have hMw : M ≤ nb := hMn
  have hnlt : nb < w2.heap.size := (Array.getElem?_eq_some_iff.1 hnb2).1
  have hx2 : w2.heap[w.heap.size]? = some (itemO x) := by
    obtain ⟨z, _⟩ := hA2
    by_cases hFx : F w.heap.size
    · exact absurd ((hA0F w.heap.size hFx)) (by omega)
    · exact (ho2.block w.heap.size (by simp) hFx).trans H.out.2.2.2.2.2.2.2.1
  have ht2 : w2.heap[tb]? = some (treeO ba root) := (ho2.block tb (by simp; omega) htF).trans H.out.1
  have HF := Lib.hid (find_any hnb2 hit2.read (by omega) H.out.2.2.2.2.1 x.k)
  obtain ⟨n0, n1, n2, nf⟩ := node3 hnb2
  obtain ⟨x0, x1⟩ := xcells hx2
  have H2 := Lib.hid (And.intro hnb2 (And.intro hit2 (And.intro hA2 (And.intro hF2M (And.intro hF2 (And.intro ho2 (And.intro hx2 ht2)))))))
  clear hnb2 hit2 hA2 hF2M hF2 ho2 hx2 ht2 HR nf hMn
  go_wp2_with fail
  refine HF.out.mono ?_
  rintro e w3 ⟨i', rfl, hcut, hb3⟩
  obtain rfl := hcut.uniq H.out.2.2.2.2.2.1.1
  have hat := H.out.2.2.2.2.2.1.2
  obtain ⟨hilt, hkey⟩ := isAt_key hat
  rw [hat]
  have hnb3 := (hb3.block nb hnlt).trans H2.out.1
  have hx3 := (hb3.block w.heap.size (by omega)).trans H2.out.2.2.2.2.2.2.1
  have hit3 := H2.out.2.1.later hb3
  obtain ⟨g, cur, rfl, hMg, hg, hle, hmax, hsz, htk⟩ := hit3.open (by intro e; rw [e] at hilt; simp at hilt)
  have hgn : g ≠ nb := fun e => by
    subst e
    rw [hnb3] at hg
    cases hg
  have hcell : ∀ p v, (L.flatMap kvCells)[p]? = some v → w3.cell? ⟨g, p, none⟩ = some v := fun p v hv => by
    have := World.ownsRow.cells hit3 (g := g) rfl p v hv
    have ha : (⟨g, 0, none⟩ : Addr).add p = ⟨g, p, none⟩ := by unfold Addr.add; split <;> simp_all
    rw [← ha]; exact this
  obtain ⟨gb', off', hA', hrd⟩ := hit3.read.resolve_left (by intro e; rw [e] at hilt; simp at hilt)
  simp only [Option.some.injEq, Addr.mk.injEq] at hA'
  obtain ⟨rfl, rfl, _⟩ := hA'
  have hrd' : ∀ t (h : t < L.length), w3.cell? ⟨g, t * 2, none⟩ = some (.string L[t].k) ∧ w3.cell? ⟨g, t * 2 + 1, none⟩ = some (.string L[t].v) := fun t h => by
    have := hrd t h
    simpa using this
  obtain ⟨g0, g1⟩ := hrd' i' hilt
  have gz0 : w3.frozen? ⟨g, i' * 2, none⟩ = false := World.ownsRow.frozenAt hit3 _
  have gz1 : w3.frozen? ⟨g, i' * 2 + 1, none⟩ = false := World.ownsRow.frozenAt hit3 _
  obtain ⟨n0, n1, n2, nf⟩ := node3 hnb3
  obtain ⟨x0, x1⟩ := xcells hx3
  have hsz3 := hb3.size
  have hlw : w.heap.size < w3.heap.size := by omega
  have hgw : w.heap.size ≠ g := by omega
  obtain ⟨W, hW⟩ : ∃ W, W = (w3.drew.setCell ⟨g, i' * 2, none⟩ (.string x.k)).setCell ⟨g, i' * 2 + 1, none⟩ (.string x.v) := ⟨_, rfl⟩
  have hWb : ∀ j, j ≠ g → W.heap[j]? = w3.heap[j]? := fun j hj => by
    rw [hW, Below.heap_setCell _ _ _ _ hj, Below.heap_setCell _ _ _ _ hj]; rfl
  have hWs : W.heap.size = w3.heap.size := by rw [hW, World.size_setCell, World.size_setCell]; rfl
  have hM8 : Below M w2 W := ((hb3.mono (by omega)).trans ((Below.refl M w3).drew)).trans (by
    rw [hW]
    exact ((Below.refl M _).setCell (p := ⟨g, i' * 2, none⟩) hMg _).setCell (p := ⟨g, i' * 2 + 1, none⟩) hMg _)
  have hnbW := (hWb nb (Ne.symm hgn)).trans hnb3
  have hitW : ItemsR W (some ⟨g, 0, none⟩) (L.set i' x) := .inr ⟨g, 0, rfl, fun t ht => by
    have ht' : t < L.length := by simpa using ht
    rw [Nat.zero_add, List.getElem_set]
    have hne : ∀ p q : Nat, p ≠ q → (⟨g, p, none⟩ : Addr) ≠ ⟨g, q, none⟩ := fun p q hpq e => hpq (Addr.mk.inj e).2.1
    by_cases e : i' = t
    · subst e
      rw [if_pos rfl, hW]
      have c1 : (w3.drew.setCell ⟨g, i' * 2, none⟩ (.string x.k)).cell? ⟨g, i' * 2 + 1, none⟩ = some (.string L[i'].v) := by
        rw [World.cell?_setCell_other (h := hne _ _ (by omega))]
        exact g1
      refine ⟨?_, World.cell?_setCell_same _ _ _ c1⟩
      rw [World.cell?_setCell_other (h := hne _ _ (by omega))]
      exact World.cell?_setCell_same _ _ _ (show w3.drew.cell? ⟨g, i' * 2, none⟩ = some (.string L[i'].k) from g0)
    · rw [if_neg e, hW, World.cell?_setCell_other (h := hne _ _ (by omega)), World.cell?_setCell_other (h := hne _ _ (by omega)), World.cell?_setCell_other (h := hne _ _ (by omega)), World.cell?_setCell_other (h := hne _ _ (by omega))]
      exact hrd' t ht'⟩
  have hAW : ActIs B W ba F2 R := H2.out.2.2.1.keep (fun k hk => hM8.block k (H2.out.2.2.2.1 k hk)) hM8.size
  have htbM : tb < M := by omega
  have htW := (hM8.block tb htbM).trans H2.out.2.2.2.2.2.2.2
  have htF2 : ¬ F2 tb := fun e => htF (H2.out.2.2.2.2.1 tb (by simp; omega) e)
  have hlset : (L.set i' x).length = L.length := by simp
  have HST := Lib.hid (store_leaf (L := L.set i' x) htW hAW H.out.2.1 htF2 p H.out.2.2.1 (by rw [hlset]; exact hnbW) hitW (fun y hy => by
    rcases List.mem_or_eq_of_mem_set hy with hy | hy
    · exact H.out.2.2.2.1 y hy
    · rw [hy]; exact hx) H.out.2.2.2.2.2.2.1 (by rw [hlset]; omega))
  have HO := Lib.hid (show Off F w W from ((Off.of_below H.out.2.2.2.2.2.2.2.2).trans H2.out.2.2.2.2.2.1 (fun _ _ h => h)).trans (show Off (fun k => ¬ k < M) w2 W from ⟨hM8.os, hM8.tape, hM8.output, hM8.size, fun k hk hn => hM8.block k (by
    by_cases h : k < M
    · exact h
    · exact absurd h hn)⟩) (fun k hk e => by
      have e' : ¬ k < M := e
      omega))
  have hSW : W.cell? ⟨w.heap.size, 0, none⟩ = some (.string x.k) ∧ W.cell? ⟨w.heap.size, 1, none⟩ = some (.string x.v) ∧ W.cell? ⟨nb, 1, none⟩ = some (.slice (some ⟨g, 0, none⟩) L.length c) := by
    have q := xcells ((hWb w.heap.size hgw).trans hx3)
    exact ⟨q.1, q.2, (node3 hnbW).2.1⟩
  have HSW := Lib.hid hSW
  rw [hW] at HST HSW
  have HWW := Lib.hid hW
  have hil : (i' : Int) < L.length := by omega
  clear hcut hb3 hnb3 hx3 nf HF hat hit3 hg hsz htk hle hmax hcell hrd hrd' hW hWb hWs hM8 hnbW hitW hAW htW htF2 hSW hlset
  go_wp2
  refine wp_region_noPanic ?_
  refine wp_region_held_drew (S := (fun w' => w'.cell? ⟨w.heap.size, 0, none⟩ = some (.string x.k) ∧ w'.cell? ⟨w.heap.size, 1, none⟩ = some (.string x.v) ∧ w'.cell? ⟨nb, 1, none⟩ = some (.slice (some ⟨g, 0, none⟩) L.length c))) (by kernel_rfl) ⟨x0, x1, n1⟩ (fun hS => ?_)
  refine wpAnyH_take (i := 0) (v := ?_) rfl (by kernel_rfl) (by kernel_rfl) (by kernel_rfl) (fun _ _ _ h => h) (Or.inl ⟨by rfl, ?_⟩) hS ?_
  rotate_left
  · rintro w9 ⟨t0, t1, t2⟩
    go_simp
    try with_reducible rfl
  try simp only [Act.put, List.getElem_toArray, List.getElem_cons_succ, List.getElem_cons_zero, List.setIfInBounds_toArray, List.set_cons_zero, List.set_cons_succ]
  refine wpAnyH_take (i := 1) (v := ?_) rfl (by kernel_rfl) (by kernel_rfl) (by kernel_rfl) (fun _ _ _ h => h) (Or.inl ⟨by rfl, ?_⟩) hS ?_
  rotate_left
  · rintro w9 ⟨t0, t1, t2⟩
    go_simp
    try with_reducible rfl
  try simp only [Act.put, List.getElem_toArray, List.getElem_cons_succ, List.getElem_cons_zero, List.setIfInBounds_toArray, List.set_cons_zero, List.set_cons_succ]
  refine wpAnyH_take (i := 2) (v := ?_) rfl (by kernel_rfl) (by kernel_rfl) (by kernel_rfl) (fun _ _ _ h => h) (Or.inl ⟨by rfl, ?_⟩) hS ?_
  rotate_left
  · rintro w9 ⟨t0, t1, t2⟩
    go_simp
    try with_reducible rfl
  try simp only [Act.put, List.getElem_toArray, List.getElem_cons_succ, List.getElem_cons_zero, List.setIfInBounds_toArray, List.set_cons_zero, List.set_cons_succ]
  refine wpAnyH_take (i := 3) (v := ?_) rfl (by kernel_rfl) (by kernel_rfl) (by kernel_rfl) (fun _ _ _ h => h) (Or.inl ⟨by rfl, ?_⟩) hS ?_
  rotate_left
  · rintro w9 ⟨t0, t1, t2⟩
    go_simp
    try with_reducible rfl
  try simp only [Act.put, List.getElem_toArray, List.getElem_cons_succ, List.getElem_cons_zero, List.setIfInBounds_toArray, List.set_cons_zero, List.set_cons_succ]
  refine wpAnyH_take (i := 4) (v := ?_) rfl (by kernel_rfl) (by kernel_rfl) (by kernel_rfl) (fun _ _ _ h => h) (Or.inl ⟨by rfl, ?_⟩) hS ?_
  rotate_left
  · rintro w9 ⟨t0, t1, t2⟩
    go_simp
    try with_reducible rfl
  try simp only [Act.put, List.getElem_toArray, List.getElem_cons_succ, List.getElem_cons_zero, List.setIfInBounds_toArray, List.set_cons_zero, List.set_cons_succ]
  refine wpAnyH_take (i := 5) (v := ?_) rfl (by kernel_rfl) (by kernel_rfl) (by kernel_rfl) (fun _ _ _ h => h) (Or.inl ⟨by rfl, ?_⟩) hS ?_
  rotate_left
  · rintro w9 ⟨t0, t1, t2⟩
    go_simp
    try with_reducible rfl
  try simp only [Act.put, List.getElem_toArray, List.getElem_cons_succ, List.getElem_cons_zero, List.setIfInBounds_toArray, List.set_cons_zero, List.set_cons_succ]
  refine wpAnyH_take (i := 6) (v := ?_) rfl (by kernel_rfl) (by kernel_rfl) (by kernel_rfl) (fun _ _ _ h => h) (Or.inl ⟨by rfl, ?_⟩) hS ?_
  rotate_left
  · rintro w9 ⟨t0, t1, t2⟩
    go_simp
    try with_reducible rfl
  try simp only [Act.put, List.getElem_toArray, List.getElem_cons_succ, List.getElem_cons_zero, List.setIfInBounds_toArray, List.set_cons_zero, List.set_cons_succ]
  refine wpAnyH_ready (rs := [7]) (by kernel_rfl) (by simp) ?_
  refine AllReadyH.cons rfl (fun K hK => ?_) AllReadyH.nil
  go_simp
  refine hK.out _ _ HSW.out (fun _ => ?_)
  clear hK K
  try simp only [Act.put, List.getElem_toArray, List.getElem_cons_succ, List.getElem_cons_zero, List.setIfInBounds_toArray, List.set_cons_zero, List.set_cons_succ]
  refine wpAnyH_done (by kernel_rfl) ?_ _
  refine NoPanic.normal ?_
  go_wp2_with fail
  refine HST.out.mono ?_
  rintro e w9 ⟨rfl, hst⟩
  have HS := Lib.hid (Step.trans HO.out (fun k hk h => H2.out.2.2.2.2.1 k (by simp; omega) h) (by rw [HWW.out]; exact hst))
  clear hst
  go_wp2
  go_ret3
  exact ⟨rfl, HS.out⟩

/-- A leaf in which a key was put. -/
def putL (L : List KV) (i : Nat) (x : KV) : List KV := if isAt L x.k i then L.set i x else insL L i x
theorem putL_laws {L : List KV} {i : Nat} {x : KV} (hok : ∀ y ∈ L, y.ok) (hs : Sorted L) (hx : x.ok) (hc : Cut L x.k i) : (∀ y ∈ putL L i x, y.ok) ∧ Sorted (putL L i x) ∧ (putL L i x).length ≤ L.length + 1 := by
  unfold putL
  by_cases h : isAt L x.k i = true
  · rw [if_pos h]
    obtain ⟨hi, e⟩ := isAt_key h
    refine ⟨fun y hy => ?_, hs.set hi e, by rw [List.length_set]; omega⟩
    rcases List.mem_or_eq_of_mem_set hy with hy | hy
    · exact hok y hy
    · rw [hy]; exact hx
  · rw [if_neg h]
    have h' : isAt L x.k i = false := by simpa using h
    refine ⟨fun y hy => ?_, hs.ins hc h', by rw [insL_length L i x hc.le]; omega⟩
    rcases insL_mem hy with hy | hy
    · rw [hy]; exact hx
    · exact hok y hy

set_option maxRecDepth 100000 in
set_option maxHeartbeats 2000000 in
theorem Put_leaf {bs : Nat} {B : Base bs} {w : World} {tb ba k : Nat} {F : Nat → Prop} {R : Raw} (ht : w.heap[tb]? = some (treeO ba k)) (hA : ActIs B w ba F R) (hf : Fine B R) (htF : ¬ F tb) (hk : k < 16) {L : List KV} (hL : Leaf R k L)
    (x : KV) (hx : x.ok) (hx0 : 0 < x.k.size) (i : Nat) (hcut : Cut L x.k i) (hlen : (leafB (putL L i x)).length ≤ 512) (hn : L.length + 1 < 256) :
    Calls Tryz.prog 39 #[.pointer (some ⟨tb, 0, none⟩), .string x.k, .string x.v] w fun e w' => e = .returned (.tuple #[.bool (!isAt L x.k i), .int .i64 0]) ∧ Step B ba w F (R.put (R.root k) 0 (pageL (leafB (putL L i x)))) w' := by
  obtain ⟨at_, hat⟩ : ∃ a, isAt L x.k i = a := ⟨_, rfl⟩
  rw [hat]
  have HAt := Lib.hid hat
  clear hat
  have HT := Lib.hid (top_any ht hA hf.cov htF hk)
  have h1 : ¬ R.root k = 0 := by have := hL.top.1; omega
  have h1' : (R.root k == 0) = false := by simpa using h1
  have hltb : tb < w.heap.size := (Array.getElem?_eq_some_iff.1 ht).1
  have H := Lib.hid (And.intro ht (And.intro hf (And.intro hL (And.intro hx (And.intro hcut (And.intro hlen hn))))))
  have f1 : (x.k.size : Int) ≤ 96 := by have := hx.1; omega
  have f2 : (x.v.size : Int) ≤ 32 := by have := hx.2; omega
  have f0 : x.k.toList.isEmpty = false := by
    rw [Go.Lib.toList_data]
    cases h : x.k.data.toList with
    | nil =>
      have e : x.k.size = x.k.data.toList.length := by simp
      rw [h] at e
      have e' : x.k.size = 0 := e
      omega
    | cons _ _ => rfl
  clear ht hA hf hL hx hcut hlen
  go_enter Tryz.func39, Tryz.ntmps39
  go_wp2_with fail
  refine HT.out.mono ?_
  rintro e w1 ⟨rfl, hst⟩
  have ht1 := hst.block H.out.1 htF
  obtain ⟨F1, h1A, hF1, ho1⟩ := hst
  have htF1 : ¬ F1 tb := fun e => htF (hF1 tb hltb e)
  have HP := Lib.hid (show Calls Tryz.prog 91 #[.pointer (some ⟨tb, 0, none⟩), .int .i64 (R.root k), .agg #[.string x.k, .string x.v]] w1 fun e w' =>
      e = .returned (.tuple #[.bool (!at_), .pointer none, .int .i64 0]) ∧ Step B ba w1 F1 (R.put (R.root k) 0 (pageL (leafB (putL L i x)))) w' from by
    have hlen' := H.out.2.2.2.2.2.1
    rw [← HAt.out]
    unfold putL at hlen' ⊢
    by_cases h : isAt L x.k i = true
    · rw [if_pos h] at hlen' ⊢
      rw [h]
      exact put_same ht1 h1A H.out.2.1.cov htF1 (R.root k) (H.out.2.1.there H.out.2.2.1.top) L H.out.2.2.1.page H.out.2.2.1.ok H.out.2.2.1.rises x H.out.2.2.2.1 i ⟨H.out.2.2.2.2.1, h⟩ H.out.2.2.1.len hlen' (by omega)
    · have h' : isAt L x.k i = false := by simpa using h
      rw [if_neg h] at hlen' ⊢
      rw [h']
      exact put_new ht1 h1A H.out.2.1.cov htF1 (R.root k) (H.out.2.1.there H.out.2.2.1.top) L H.out.2.2.1.page H.out.2.2.1.ok H.out.2.2.1.rises x H.out.2.2.2.1 i ⟨H.out.2.2.2.2.1, h'⟩ hlen' hn)
  have HO := Lib.hid (And.intro ho1 hF1)
  clear ht1 h1A ho1 hF1 htF1 HT
  go_wp2_with fail
  refine HP.out.mono ?_
  rintro e w2 ⟨rfl, hst⟩
  have HS := Lib.hid (Step.trans HO.out.1 HO.out.2 hst)
  clear hst
  cases at_ with
  | true =>
    go_wp2
    go_ret2
    exact ⟨rfl, HS.out⟩
  | false =>
    go_wp2
    go_ret2
    exact ⟨rfl, HS.out⟩
end Go.Proofs.YtoejgkcaamkanaaGreatDoor
