/- Columns. -/
import Derived.Test.YtddddjpmeegedaaGreatSqE
set_option linter.unusedVariables false
set_option linter.unusedSimpArgs false
namespace Go.Proofs.YtddddjpmeegedaaGreat
open Go.RowKit

/-- The items of L that begin so. -/
structure Span (L : List KV) (b : UInt8) (i n : Nat) : Prop where
  cut : Cut L ⟨#[b]⟩ i
  le : i + n ≤ L.length
  yes : ∀ t (ht : t < L.length), i ≤ t → t < i + n → pre ⟨#[b]⟩ L[t] = true
  no : ∀ ht : i + n < L.length, pre ⟨#[b]⟩ L[i + n] = false
def kindOf (s : ByteArray) : Int := (s.data.getD 0 0).toNat
def colOf (x : KV) : Co := ⟨x.v.extract 1 x.v.size, kindOf x.v⟩
/-- What Columns' closure keeps. -/
def coInv (cb : Nat) (l : List KV) (G : Nat → Prop) (w : World) : Prop := ∃ v, w.heap[cb]? = some (.cells #[v] 29) ∧ coRows w 0 v (l.map colOf) ∧ (∀ k, G k ↔ k = cb ∨ v.ownBlock = some k)
theorem co_ne {w : World} {cb B : Nat} {v u : Value} {L : List Co} (h : w.heap[cb]? = some (.cells #[u] 29)) (hr : coRows w B v L) : v.ownBlock ≠ some cb := by
  intro e
  obtain ⟨_, cs, fr, hh⟩ := hr.own e
  rw [h] at hh
  cases hh

theorem colc_end {w w8 : World} {cb g n cap c : Nat} {A : Option Addr} {l : List KV} {L2 : List Co} {x : KV} {G : Nat → Prop} (hL : L2 = l.map colOf) (hcb8 : w8.heap[cb]? = some (.cells #[.slice A L2.length c] 29))
    (hr8 : coRows w8 0 (.slice (some ⟨g, 0, none⟩) (L2 ++ [colOf x]).length cap) (L2 ++ [colOf x])) (hg8 : w.drew.grownBy w8 (Value.ownBlock (.slice A L2.length c))) (hat : Value.ownBlock (.slice A L2.length c) = some g ∨ w.drew.heap.size ≤ g)
    (hcb : w.heap[cb]? = some (.cells #[.slice A L2.length c] 29)) (hr : coRows w 0 (.slice A L2.length c) L2) (hG : ∀ k, G k ↔ k = cb ∨ Value.ownBlock (.slice A L2.length c) = some k) (hl : l.length < 256) {w9 : World}
    (hw : w9 = w8.setCell ⟨cb, 0, none⟩ (.slice (some ⟨g, 0, none⟩) n cap)) (hn : n = (L2 ++ [colOf x]).length) : ∃ G', coInv cb (l ++ [x]) G' w9 ∧ (∀ k, k < w.heap.size → G' k → G k) ∧ Off G w w9 := by
  subst hw hn
  have hlt := (Array.getElem?_eq_some_iff.1 hcb).1
  have hlt8 := (Array.getElem?_eq_some_iff.1 hcb8).1
  have hne : g ≠ cb := fun e => co_ne hcb8 hr8 (by subst e; rfl)
  refine ⟨fun k => k = cb ∨ k = g, ⟨_, heap_set hcb8, ?_, fun k => ?_⟩, fun k hk h => ?_, ?_⟩
  · rw [List.map_append, ← hL]
    refine hr8.keep fun k hk => ?_
    simp only [Value.ownBlock, Option.some.injEq] at hk
    subst hk
    exact Below.heap_setCell _ _ _ _ hne
  · simp only [Value.ownBlock, Option.some.injEq]
    exact ⟨fun h => h.imp id Eq.symm, fun h => h.imp id Eq.symm⟩
  · rw [hG]
    rcases h with h | h
    · exact .inl h
    · subst h
      rcases hat with h | h
      · exact .inr h
      · have : w.heap.size ≤ k := h
        omega
  · refine ⟨hg8.os, hg8.tape, hg8.output, by rw [World.size_setCell]; exact hg8.size, fun k hk hn => ?_⟩
    have h1 : k ≠ cb := fun e => hn ((hG k).2 (.inl e))
    have h2 : some k ≠ Value.ownBlock (.slice A L2.length c) := fun e => hn ((hG k).2 (.inr e.symm))
    exact (Below.heap_setCell _ _ _ _ h1).trans (hg8.block k hk h2)

set_option maxRecDepth 100000 in
set_option maxHeartbeats 2000000 in
theorem colc_any {cb : Nat} {l : List KV} {x : KV} {G : Nat → Prop} {w : World} (h : coInv cb l G w) (hx : 0 < x.v.size) (hl : l.length < 256) (s : ByteArray) :
    Calls Tryz.prog 38 #[.string s, .string x.v, .pointer (some ⟨cb, 0, none⟩)] w fun e w' => e = .returned (.tuple #[]) ∧ ∃ G', coInv cb (l ++ [x]) G' w' ∧ (∀ k, k < w.heap.size → G' k → G k) ∧ Off G w w' := by
  obtain ⟨v, hcb, hr, hG⟩ := h
  have hx1 : (1 : Int) ≤ x.v.size := by omega
  obtain ⟨L2, hL2⟩ : ∃ L2, L2 = l.map colOf := ⟨_, rfl⟩
  rw [← hL2] at hr
  have HL2 := Lib.hid hL2
  clear hL2
  obtain ⟨A, c, rfl⟩ := hr.slice
  have hkk : IntKind.i64.wrap ((x.v[0]'hx).toNat : Int) = kindOf x.v := by
    unfold kindOf
    have e : x.v.data.getD 0 0 = x.v[0]'hx := by
      rw [Array.getD_eq_getD_getElem?, Array.getElem?_eq_getElem (by exact hx)]; rfl
    rw [e, IntKind.wrap_i64]
    have := UInt8.toNat_lt (x.v[0]'hx)
    omega
  have c0 : w.cell? ⟨cb, 0, none⟩ = some (.slice A L2.length c) := by unfold World.cell?; rw [hcb]; rfl
  have z0 : w.frozen? ⟨cb, 0, none⟩ = false := by unfold World.frozen?; rw [hcb]; rfl
  have hltb := (Array.getElem?_eq_some_iff.1 hcb).1
  have HB := Lib.hid hltb
  have H := Lib.hid (And.intro hcb (And.intro hr hG))
  clear hcb hr hG
  go_enter Tryz.func38, Tryz.ntmps38
  go_wp2
  refine wp_region_noPanic ?_
  refine wp_region_held_drew (S := (fun w' => True)) (by kernel_rfl) trivial (fun hS => ?_)
  refine wpAnyH_take (i := 1) (v := ?_) rfl (by kernel_rfl) (by kernel_rfl) (by kernel_rfl) (fun _ _ _ h => h) (Or.inl ⟨by rfl, ?_⟩) hS ?_
  rotate_left
  · intro w9 t0
    go_simp
    try with_reducible rfl
  try simp only [Act.put, List.getElem_toArray, List.getElem_cons_succ, List.getElem_cons_zero, List.setIfInBounds_toArray, List.set_cons_zero, List.set_cons_succ]
  refine wpAnyH_take (i := 2) (v := ?_) rfl (by kernel_rfl) (by kernel_rfl) (by kernel_rfl) (fun _ _ _ h => h) (Or.inl ⟨by rfl, ?_⟩) hS ?_
  rotate_left
  · intro w9 t0
    go_simp
    try with_reducible rfl
  try simp only [Act.put, List.getElem_toArray, List.getElem_cons_succ, List.getElem_cons_zero, List.setIfInBounds_toArray, List.set_cons_zero, List.set_cons_succ]
  refine wpAnyH_take (i := 3) (v := ?_) rfl (by kernel_rfl) (by kernel_rfl) (by kernel_rfl) (fun _ _ _ h => h) (Or.inl ⟨by rfl, ?_⟩) hS ?_
  rotate_left
  · intro w9 t0
    go_simp
    try with_reducible rfl
  try simp only [Act.put, List.getElem_toArray, List.getElem_cons_succ, List.getElem_cons_zero, List.setIfInBounds_toArray, List.set_cons_zero, List.set_cons_succ]
  refine wpAnyH_take (i := 4) (v := ?_) rfl (by kernel_rfl) (by kernel_rfl) (by kernel_rfl) (fun _ _ _ h => h) (Or.inl ⟨by rfl, ?_⟩) hS ?_
  rotate_left
  · intro w9 t0
    go_simp
    try with_reducible rfl
  try simp only [Act.put, List.getElem_toArray, List.getElem_cons_succ, List.getElem_cons_zero, List.setIfInBounds_toArray, List.set_cons_zero, List.set_cons_succ]
  refine wpAnyH_take (i := 5) (v := ?_) rfl (by kernel_rfl) (by kernel_rfl) (by kernel_rfl) (fun _ _ _ h => h) (Or.inl ⟨by rfl, ?_⟩) hS ?_
  rotate_left
  · intro w9 t0
    go_simp
    try with_reducible rfl
  try simp only [Act.put, List.getElem_toArray, List.getElem_cons_succ, List.getElem_cons_zero, List.setIfInBounds_toArray, List.set_cons_zero, List.set_cons_succ]
  refine wpAnyH_take (i := 6) (v := ?_) rfl (by kernel_rfl) (by kernel_rfl) (by kernel_rfl) (fun _ _ _ h => h) (Or.inl ⟨by rfl, ?_⟩) hS ?_
  rotate_left
  · intro w9 t0
    go_simp
    try with_reducible rfl
  try simp only [Act.put, List.getElem_toArray, List.getElem_cons_succ, List.getElem_cons_zero, List.setIfInBounds_toArray, List.set_cons_zero, List.set_cons_succ]
  refine wpAnyH_ready (rs := [0, 7]) (by kernel_rfl) (by simp) ?_
  refine AllReadyH.cons rfl (fun K hK => ?_) (AllReadyH.cons rfl (fun K hK => ?_) AllReadyH.nil)
  · go_simp
    refine hK.out _ _ hS (fun _ => ?_)
    clear hK K
    try simp only [Act.put, List.getElem_toArray, List.getElem_cons_succ, List.getElem_cons_zero, List.setIfInBounds_toArray, List.set_cons_zero, List.set_cons_succ]
    refine wpAnyH_ready (rs := [7]) (by kernel_rfl) (by simp) ?_
    refine AllReadyH.cons rfl (fun K hK => ?_) AllReadyH.nil
    go_simp
    refine hK.out _ _ trivial (fun _ => ?_)
    clear hK K
    try simp only [Act.put, List.getElem_toArray, List.getElem_cons_succ, List.getElem_cons_zero, List.setIfInBounds_toArray, List.set_cons_zero, List.set_cons_succ]
    refine wpAnyH_ready (rs := [8]) (by kernel_rfl) (by simp) ?_
    refine AllReadyH.cons rfl (fun K hK => ?_) AllReadyH.nil
    refine step_appco (W := w.drew) (by rfl) (.tmp 5) (.tmp 12) (by rfl) 0 _ L2 (by rfl) (show coRows w.drew 0 _ _ from H.out.2.1) (colOf x) _ 1 (by rfl) (by first | rfl | simp) (by have := congrArg List.length HL2.out; rw [List.length_map] at this; omega) (Nat.zero_le _) ?_
    intro g cap w8 hr8 hg8 hat
    have hcb8 : w8.heap[cb]? = some (.cells #[.slice A L2.length c] 29) := (hg8.block cb HB.out (fun e => co_ne H.out.1 H.out.2.1 e.symm)).trans H.out.1
    have c8 : w8.cell? ⟨cb, 0, none⟩ = some (.slice A L2.length c) := by unfold World.cell?; rw [hcb8]; rfl
    have z8 : w8.frozen? ⟨cb, 0, none⟩ = false := by unfold World.frozen?; rw [hcb8]; rfl
    have H8 := Lib.hid (And.intro hr8 (And.intro hg8 (And.intro hat hcb8)))
    clear hr8 hg8 hat hcb8
    refine hK.out _ _ trivial (fun _ => ?_)
    clear hK K
    try simp only [Act.put, List.getElem_toArray, List.getElem_cons_succ, List.getElem_cons_zero, List.setIfInBounds_toArray, List.set_cons_zero, List.set_cons_succ]
    refine wpAnyH_ready (rs := [9]) (by kernel_rfl) (by simp) ?_
    refine AllReadyH.cons rfl (fun K hK => ?_) AllReadyH.nil
    go_simp
    refine hK.out _ _ trivial (fun _ => ?_)
    clear hK K
    try simp only [Act.put, List.getElem_toArray, List.getElem_cons_succ, List.getElem_cons_zero, List.setIfInBounds_toArray, List.set_cons_zero, List.set_cons_succ]
    refine wpAnyH_done (by kernel_rfl) ?_ _
    refine NoPanic.normal ?_
    go_wp2
    refine Great.bodyPost_end0 rfl rfl ⟨rfl, colc_end HL2.out H8.out.2.2.2 H8.out.1 H8.out.2.1 H8.out.2.2.1 H.out.1 H.out.2.1 H.out.2.2 hl (by first | rfl | simp) (by first | rfl | simp)⟩
  · go_simp
    refine hK.out _ _ trivial (fun _ => ?_)
    clear hK K
    try simp only [Act.put, List.getElem_toArray, List.getElem_cons_succ, List.getElem_cons_zero, List.setIfInBounds_toArray, List.set_cons_zero, List.set_cons_succ]
    refine wpAnyH_ready (rs := [0]) (by kernel_rfl) (by simp) ?_
    refine AllReadyH.cons rfl (fun K hK => ?_) AllReadyH.nil
    go_simp
    refine hK.out _ _ trivial (fun _ => ?_)
    clear hK K
    try simp only [Act.put, List.getElem_toArray, List.getElem_cons_succ, List.getElem_cons_zero, List.setIfInBounds_toArray, List.set_cons_zero, List.set_cons_succ]
    refine wpAnyH_ready (rs := [8]) (by kernel_rfl) (by simp) ?_
    refine AllReadyH.cons rfl (fun K hK => ?_) AllReadyH.nil
    refine step_appco (W := w.drew) (by rfl) (.tmp 5) (.tmp 12) (by rfl) 0 _ L2 (by rfl) (show coRows w.drew 0 _ _ from H.out.2.1) (colOf x) _ 1 (by rfl) (by first | rfl | simp) (by have := congrArg List.length HL2.out; rw [List.length_map] at this; omega) (Nat.zero_le _) ?_
    intro g cap w8 hr8 hg8 hat
    have hcb8 : w8.heap[cb]? = some (.cells #[.slice A L2.length c] 29) := (hg8.block cb HB.out (fun e => co_ne H.out.1 H.out.2.1 e.symm)).trans H.out.1
    have c8 : w8.cell? ⟨cb, 0, none⟩ = some (.slice A L2.length c) := by unfold World.cell?; rw [hcb8]; rfl
    have z8 : w8.frozen? ⟨cb, 0, none⟩ = false := by unfold World.frozen?; rw [hcb8]; rfl
    have H8 := Lib.hid (And.intro hr8 (And.intro hg8 (And.intro hat hcb8)))
    clear hr8 hg8 hat hcb8
    refine hK.out _ _ trivial (fun _ => ?_)
    clear hK K
    try simp only [Act.put, List.getElem_toArray, List.getElem_cons_succ, List.getElem_cons_zero, List.setIfInBounds_toArray, List.set_cons_zero, List.set_cons_succ]
    refine wpAnyH_ready (rs := [9]) (by kernel_rfl) (by simp) ?_
    refine AllReadyH.cons rfl (fun K hK => ?_) AllReadyH.nil
    go_simp
    refine hK.out _ _ trivial (fun _ => ?_)
    clear hK K
    try simp only [Act.put, List.getElem_toArray, List.getElem_cons_succ, List.getElem_cons_zero, List.setIfInBounds_toArray, List.set_cons_zero, List.set_cons_succ]
    refine wpAnyH_done (by kernel_rfl) ?_ _
    refine NoPanic.normal ?_
    go_wp2
    refine Great.bodyPost_end0 rfl rfl ⟨rfl, colc_end HL2.out H8.out.2.2.2 H8.out.1 H8.out.2.1 H8.out.2.2.1 H.out.1 H.out.2.1 H.out.2.2 hl (by first | rfl | simp) (by first | rfl | simp)⟩

theorem colc_clo (cb : Nat) : Clo 38 (.pointer (some ⟨cb, 0, none⟩)) (fun x => 0 < x.v.size) (coInv cb) where
  enters := fun _ _ => by kernel_rfl
  own := fun l G w ⟨v, hcb, hr, hG⟩ k hk => by
    rcases (hG k).1 hk with rfl | e
    · exact (Array.getElem?_eq_some_iff.1 hcb).1
    · exact (hr.own e).1
  keep := fun l G w w' ⟨v, hcb, hr, hG⟩ e _ => ⟨v, (e cb ((hG cb).2 (.inl rfl))).trans hcb, hr.keep fun k hk => e k ((hG k).2 (.inr hk)), hG⟩
  does := fun l x G w h hx hl => colc_any h hx hl _

set_option maxRecDepth 100000 in
set_option maxHeartbeats 2000000 in
theorem Columns_any {bs : Nat} {B : Base bs} {w : World} {gb ba tb : Nat} {F : Nat → Prop} {R : Raw} {L : List KV} (h : CatIs B w gb ba tb F R L) (hok : ∀ x ∈ L, pre ⟨#[99]⟩ x = true → 0 < x.v.size) :
    Calls Tryz.prog 13 #[.pointer (some ⟨gb, 0, none⟩)] w fun e w' => ∃ v i n, e = .returned v ∧ Span L 99 i n ∧ coRows w' 0 v (((L.drop i).take n).map colOf) ∧ (∀ k, v.ownBlock = some k → w.heap.size ≤ k) ∧
      ∃ F', CatIs B w' gb ba tb F' R L ∧ (∀ k, v.ownBlock = some k → ¬ F' k) ∧ (∀ k, k < w.heap.size → F' k → F k) ∧ Off F w w' := by
  have hb0 : Below w.heap.size w (w.alloc (.cells #[.slice none 0 0] 29)) := by go_grown
  have hnF : ¬ F w.heap.size := fun e => by have := h.act.1 _ e; omega
  have hlt := h.lt
  have HE := Lib.hid (each_any (h.below hb0) (colc_clo w.heap.size) (G := fun k => k = w.heap.size) (show coInv w.heap.size [] _ _ from ⟨_, hnew w _, coRows.nil _ _, fun k => by simp [Value.ownBlock]⟩) (fun k hk => by subst hk; exact ⟨hnF, by omega, by omega⟩) 99 hok)
  have H := Lib.hid (And.intro hb0 hnF)
  clear h hok hb0 hnF hlt
  go_enter Tryz.func13, Tryz.ntmps13
  go_wp2_with fail
  refine HE.out.mono ?_
  rintro e w2 ⟨rfl, i, n, G2, F2, hcut, hin, hp1, hp2, ⟨v, hcb, hr, hG⟩, hcat, hdis, hF2, hG2, ho⟩
  have c0 : w2.cell? ⟨w.heap.size, 0, none⟩ = some v := by unfold World.cell?; rw [hcb]; rfl
  have HF := Lib.hid (show Span L 99 i n ∧ coRows w2 0 v (((L.drop i).take n).map colOf) ∧ (∀ k, v.ownBlock = some k → w.heap.size ≤ k) ∧
      ∃ F', CatIs B w2 gb ba tb F' R L ∧ (∀ k, v.ownBlock = some k → ¬ F' k) ∧ (∀ k, k < w.heap.size → F' k → F k) ∧ Off F w w2 from by
    refine ⟨⟨hcut, hin, hp1, hp2⟩, hr, fun k hk => ?_, F2, hcat, fun k hk => (hdis k ((hG k).2 (.inr hk))).1, fun k hk e => hF2 k (by simp; omega) e, ?_⟩
    · by_cases hk' : k < w.heap.size
      · have := hG2 k (by simp; omega) ((hG k).2 (.inr hk))
        omega
      · omega
    · refine ⟨ho.os, ho.tape, ho.output, Nat.le_trans (by simp) ho.size, fun k hk hn => (ho.block k (by simp; omega) ?_).trans (H.out.1.block k hk)⟩
      rintro (e | e)
      · exact hn e
      · omega)
  clear hcut hin hp1 hp2 hcb hr hG hcat hdis hF2 hG2 ho HE
  go_wp2
  go_ret
  exact ⟨v, i, n, rfl, HF.out⟩
end Go.Proofs.YtddddjpmeegedaaGreat
