/- Columns. The kinds; what is held of an index; Indexes. Indexes. -/
import Derived.Test.YtiakepcgalmjfaaGreatQ12
set_option linter.unusedVariables false
set_option linter.unusedSimpArgs false
namespace Go.Proofs.YtiakepcgalmjfaaGreat
open Go.RowKit

/-- The items of L that begin so. -/
structure Span (L : List KV) (b : UInt8) (i n : Nat) : Prop where
  cut : Cut L ⟨#[b]⟩ i
  le : i + n ≤ L.length
  yes : ∀ t (ht : t < L.length), i ≤ t → t < i + n → pre ⟨#[b]⟩ L[t] = true
  no : ∀ ht : i + n < L.length, pre ⟨#[b]⟩ L[i + n] = false
def kindOf (s : ByteArray) : Int := (s.data.getD 0 0).toNat
def colOf (x : KV) : Co := ⟨x.v.extract 1 x.v.size, kindOf x.v⟩
/-- What Columns' closure keeps. -/
def coInv (cb : Nat) (l : List KV) (G : Nat → Prop) (w : World) : Prop := ∃ v, w.heap[cb]? = some (.cells #[v] 22) ∧ coRows w 0 v (l.map colOf) ∧ (∀ k, G k ↔ k = cb ∨ v.ownBlock = some k)
theorem co_ne {w : World} {cb B : Nat} {v u : Value} {L : List Co} (h : w.heap[cb]? = some (.cells #[u] 22)) (hr : coRows w B v L) : v.ownBlock ≠ some cb := by
  intro e
  obtain ⟨_, cs, fr, hh⟩ := hr.own e
  rw [h] at hh
  cases hh

theorem colc_end {w w8 : World} {cb g n cap c : Nat} {A : Option Addr} {l : List KV} {L2 : List Co} {x : KV} {G : Nat → Prop} (hL : L2 = l.map colOf) (hcb8 : w8.heap[cb]? = some (.cells #[.slice A L2.length c] 22))
    (hr8 : coRows w8 0 (.slice (some ⟨g, 0, none⟩) (L2 ++ [colOf x]).length cap) (L2 ++ [colOf x])) (hg8 : w.drew.grownBy w8 (Value.ownBlock (.slice A L2.length c))) (hat : Value.ownBlock (.slice A L2.length c) = some g ∨ w.drew.heap.size ≤ g)
    (hcb : w.heap[cb]? = some (.cells #[.slice A L2.length c] 22)) (hr : coRows w 0 (.slice A L2.length c) L2) (hG : ∀ k, G k ↔ k = cb ∨ Value.ownBlock (.slice A L2.length c) = some k) (hl : l.length < 256) {w9 : World}
    (hw : w9 = w8.setCell ⟨cb, 0, none⟩ (.slice (some ⟨g, 0, none⟩) n cap)) (hn : n = (L2 ++ [colOf x]).length) : ∃ G', coInv cb (l ++ [x]) G' w9 ∧ (∀ k, k < w.heap.size → G' k → G k) ∧ Off G w w9 := by
  subst hw hn
  have hlt := (Array.getElem?_eq_some_iff.1 hcb).1
  have hlt8 := (Array.getElem?_eq_some_iff.1 hcb8).1
  have hne : g ≠ cb := fun e => co_ne hcb8 hr8 (by subst e; rfl)
  refine ⟨fun k => k = cb ∨ k = g, ⟨_, heap_set hcb8, ?_, fun k => ?_⟩, fun k hk h => ?_, ?_⟩
  · rw [List.map_append, ← hL]
    refine hr8.keep fun k hk => ?_
    simp only [Value.ownBlock, Option.some.injEq] at hk
    subst hk
    exact Below.heap_setCell _ _ _ _ hne
  · simp only [Value.ownBlock, Option.some.injEq]
    exact ⟨fun h => h.imp id Eq.symm, fun h => h.imp id Eq.symm⟩
  · rw [hG]
    rcases h with h | h
    · exact .inl h
    · subst h
      rcases hat with h | h
      · exact .inr h
      · have : w.heap.size ≤ k := h
        omega
  · refine ⟨hg8.os, hg8.tape, hg8.output, by rw [World.size_setCell]; exact hg8.size, fun k hk hn => ?_⟩
    have h1 : k ≠ cb := fun e => hn ((hG k).2 (.inl e))
    have h2 : some k ≠ Value.ownBlock (.slice A L2.length c) := fun e => hn ((hG k).2 (.inr e.symm))
    exact (Below.heap_setCell _ _ _ _ h1).trans (hg8.block k hk h2)

set_option maxRecDepth 100000 in
set_option maxHeartbeats 2000000 in
theorem colc_any {cb : Nat} {l : List KV} {x : KV} {G : Nat → Prop} {w : World} (h : coInv cb l G w) (hx : 0 < x.v.size) (hl : l.length < 256) (s : ByteArray) :
    Calls Tryz.prog 34 #[.string s, .string x.v, .pointer (some ⟨cb, 0, none⟩)] w fun e w' => e = .returned (.tuple #[]) ∧ ∃ G', coInv cb (l ++ [x]) G' w' ∧ (∀ k, k < w.heap.size → G' k → G k) ∧ Off G w w' := by
  obtain ⟨v, hcb, hr, hG⟩ := h
  have hx1 : (1 : Int) ≤ x.v.size := by omega
  obtain ⟨L2, hL2⟩ : ∃ L2, L2 = l.map colOf := ⟨_, rfl⟩
  rw [← hL2] at hr
  have HL2 := Lib.hid hL2
  clear hL2
  obtain ⟨A, c, rfl⟩ := hr.slice
  have hkk : IntKind.i64.wrap ((x.v[0]'hx).toNat : Int) = kindOf x.v := by
    unfold kindOf
    have e : x.v.data.getD 0 0 = x.v[0]'hx := by
      rw [Array.getD_eq_getD_getElem?, Array.getElem?_eq_getElem (by exact hx)]; rfl
    rw [e, IntKind.wrap_i64]
    have := UInt8.toNat_lt (x.v[0]'hx)
    omega
  have c0 : w.cell? ⟨cb, 0, none⟩ = some (.slice A L2.length c) := by unfold World.cell?; rw [hcb]; rfl
  have z0 : w.frozen? ⟨cb, 0, none⟩ = false := by unfold World.frozen?; rw [hcb]; rfl
  have hltb := (Array.getElem?_eq_some_iff.1 hcb).1
  have HB := Lib.hid hltb
  have H := Lib.hid (And.intro hcb (And.intro hr hG))
  clear hcb hr hG
  go_enter Tryz.func34, Tryz.ntmps34
  go_wp2
  refine wp_region_noPanic ?_
  refine wp_region_held_drew (S := (fun w' => True)) (by kernel_rfl) trivial (fun hS => ?_)
  refine wpAnyH_take (i := 1) (v := ?_) rfl (by kernel_rfl) (by kernel_rfl) (by kernel_rfl) (fun _ _ _ h => h) (Or.inl ⟨by rfl, ?_⟩) hS ?_
  rotate_left
  · intro w9 t0
    go_simp
    try with_reducible rfl
  try simp only [Act.put, List.getElem_toArray, List.getElem_cons_succ, List.getElem_cons_zero, List.setIfInBounds_toArray, List.set_cons_zero, List.set_cons_succ]
  refine wpAnyH_take (i := 2) (v := ?_) rfl (by kernel_rfl) (by kernel_rfl) (by kernel_rfl) (fun _ _ _ h => h) (Or.inl ⟨by rfl, ?_⟩) hS ?_
  rotate_left
  · intro w9 t0
    go_simp
    try with_reducible rfl
  try simp only [Act.put, List.getElem_toArray, List.getElem_cons_succ, List.getElem_cons_zero, List.setIfInBounds_toArray, List.set_cons_zero, List.set_cons_succ]
  refine wpAnyH_take (i := 3) (v := ?_) rfl (by kernel_rfl) (by kernel_rfl) (by kernel_rfl) (fun _ _ _ h => h) (Or.inl ⟨by rfl, ?_⟩) hS ?_
  rotate_left
  · intro w9 t0
    go_simp
    try with_reducible rfl
  try simp only [Act.put, List.getElem_toArray, List.getElem_cons_succ, List.getElem_cons_zero, List.setIfInBounds_toArray, List.set_cons_zero, List.set_cons_succ]
  refine wpAnyH_take (i := 4) (v := ?_) rfl (by kernel_rfl) (by kernel_rfl) (by kernel_rfl) (fun _ _ _ h => h) (Or.inl ⟨by rfl, ?_⟩) hS ?_
  rotate_left
  · intro w9 t0
    go_simp
    try with_reducible rfl
  try simp only [Act.put, List.getElem_toArray, List.getElem_cons_succ, List.getElem_cons_zero, List.setIfInBounds_toArray, List.set_cons_zero, List.set_cons_succ]
  refine wpAnyH_take (i := 5) (v := ?_) rfl (by kernel_rfl) (by kernel_rfl) (by kernel_rfl) (fun _ _ _ h => h) (Or.inl ⟨by rfl, ?_⟩) hS ?_
  rotate_left
  · intro w9 t0
    go_simp
    try with_reducible rfl
  try simp only [Act.put, List.getElem_toArray, List.getElem_cons_succ, List.getElem_cons_zero, List.setIfInBounds_toArray, List.set_cons_zero, List.set_cons_succ]
  refine wpAnyH_take (i := 6) (v := ?_) rfl (by kernel_rfl) (by kernel_rfl) (by kernel_rfl) (fun _ _ _ h => h) (Or.inl ⟨by rfl, ?_⟩) hS ?_
  rotate_left
  · intro w9 t0
    go_simp
    try with_reducible rfl
  try simp only [Act.put, List.getElem_toArray, List.getElem_cons_succ, List.getElem_cons_zero, List.setIfInBounds_toArray, List.set_cons_zero, List.set_cons_succ]
  refine wpAnyH_ready (rs := [0, 7]) (by kernel_rfl) (by simp) ?_
  refine AllReadyH.cons rfl (fun K hK => ?_) (AllReadyH.cons rfl (fun K hK => ?_) AllReadyH.nil)
  · go_simp
    refine hK.out _ _ hS (fun _ => ?_)
    clear hK K
    try simp only [Act.put, List.getElem_toArray, List.getElem_cons_succ, List.getElem_cons_zero, List.setIfInBounds_toArray, List.set_cons_zero, List.set_cons_succ]
    refine wpAnyH_ready (rs := [7]) (by kernel_rfl) (by simp) ?_
    refine AllReadyH.cons rfl (fun K hK => ?_) AllReadyH.nil
    go_simp
    refine hK.out _ _ trivial (fun _ => ?_)
    clear hK K
    try simp only [Act.put, List.getElem_toArray, List.getElem_cons_succ, List.getElem_cons_zero, List.setIfInBounds_toArray, List.set_cons_zero, List.set_cons_succ]
    refine wpAnyH_ready (rs := [8]) (by kernel_rfl) (by simp) ?_
    refine AllReadyH.cons rfl (fun K hK => ?_) AllReadyH.nil
    refine step_appco (W := w.drew) (by rfl) (.tmp 5) (.tmp 12) (by rfl) 0 _ L2 (by rfl) (show coRows w.drew 0 _ _ from H.out.2.1) (colOf x) _ 1 (by rfl) (by first | rfl | simp) (by have := congrArg List.length HL2.out; rw [List.length_map] at this; omega) (Nat.zero_le _) ?_
    intro g cap w8 hr8 hg8 hat
    have hcb8 : w8.heap[cb]? = some (.cells #[.slice A L2.length c] 22) := (hg8.block cb HB.out (fun e => co_ne H.out.1 H.out.2.1 e.symm)).trans H.out.1
    have c8 : w8.cell? ⟨cb, 0, none⟩ = some (.slice A L2.length c) := by unfold World.cell?; rw [hcb8]; rfl
    have z8 : w8.frozen? ⟨cb, 0, none⟩ = false := by unfold World.frozen?; rw [hcb8]; rfl
    have H8 := Lib.hid (And.intro hr8 (And.intro hg8 (And.intro hat hcb8)))
    clear hr8 hg8 hat hcb8
    refine hK.out _ _ trivial (fun _ => ?_)
    clear hK K
    try simp only [Act.put, List.getElem_toArray, List.getElem_cons_succ, List.getElem_cons_zero, List.setIfInBounds_toArray, List.set_cons_zero, List.set_cons_succ]
    refine wpAnyH_ready (rs := [9]) (by kernel_rfl) (by simp) ?_
    refine AllReadyH.cons rfl (fun K hK => ?_) AllReadyH.nil
    go_simp
    refine hK.out _ _ trivial (fun _ => ?_)
    clear hK K
    try simp only [Act.put, List.getElem_toArray, List.getElem_cons_succ, List.getElem_cons_zero, List.setIfInBounds_toArray, List.set_cons_zero, List.set_cons_succ]
    refine wpAnyH_done (by kernel_rfl) ?_ _
    refine NoPanic.normal ?_
    go_wp2
    refine Great.bodyPost_end0 rfl rfl ⟨rfl, colc_end HL2.out H8.out.2.2.2 H8.out.1 H8.out.2.1 H8.out.2.2.1 H.out.1 H.out.2.1 H.out.2.2 hl (by first | rfl | simp) (by first | rfl | simp)⟩
  · go_simp
    refine hK.out _ _ trivial (fun _ => ?_)
    clear hK K
    try simp only [Act.put, List.getElem_toArray, List.getElem_cons_succ, List.getElem_cons_zero, List.setIfInBounds_toArray, List.set_cons_zero, List.set_cons_succ]
    refine wpAnyH_ready (rs := [0]) (by kernel_rfl) (by simp) ?_
    refine AllReadyH.cons rfl (fun K hK => ?_) AllReadyH.nil
    go_simp
    refine hK.out _ _ trivial (fun _ => ?_)
    clear hK K
    try simp only [Act.put, List.getElem_toArray, List.getElem_cons_succ, List.getElem_cons_zero, List.setIfInBounds_toArray, List.set_cons_zero, List.set_cons_succ]
    refine wpAnyH_ready (rs := [8]) (by kernel_rfl) (by simp) ?_
    refine AllReadyH.cons rfl (fun K hK => ?_) AllReadyH.nil
    refine step_appco (W := w.drew) (by rfl) (.tmp 5) (.tmp 12) (by rfl) 0 _ L2 (by rfl) (show coRows w.drew 0 _ _ from H.out.2.1) (colOf x) _ 1 (by rfl) (by first | rfl | simp) (by have := congrArg List.length HL2.out; rw [List.length_map] at this; omega) (Nat.zero_le _) ?_
    intro g cap w8 hr8 hg8 hat
    have hcb8 : w8.heap[cb]? = some (.cells #[.slice A L2.length c] 22) := (hg8.block cb HB.out (fun e => co_ne H.out.1 H.out.2.1 e.symm)).trans H.out.1
    have c8 : w8.cell? ⟨cb, 0, none⟩ = some (.slice A L2.length c) := by unfold World.cell?; rw [hcb8]; rfl
    have z8 : w8.frozen? ⟨cb, 0, none⟩ = false := by unfold World.frozen?; rw [hcb8]; rfl
    have H8 := Lib.hid (And.intro hr8 (And.intro hg8 (And.intro hat hcb8)))
    clear hr8 hg8 hat hcb8
    refine hK.out _ _ trivial (fun _ => ?_)
    clear hK K
    try simp only [Act.put, List.getElem_toArray, List.getElem_cons_succ, List.getElem_cons_zero, List.setIfInBounds_toArray, List.set_cons_zero, List.set_cons_succ]
    refine wpAnyH_ready (rs := [9]) (by kernel_rfl) (by simp) ?_
    refine AllReadyH.cons rfl (fun K hK => ?_) AllReadyH.nil
    go_simp
    refine hK.out _ _ trivial (fun _ => ?_)
    clear hK K
    try simp only [Act.put, List.getElem_toArray, List.getElem_cons_succ, List.getElem_cons_zero, List.setIfInBounds_toArray, List.set_cons_zero, List.set_cons_succ]
    refine wpAnyH_done (by kernel_rfl) ?_ _
    refine NoPanic.normal ?_
    go_wp2
    refine Great.bodyPost_end0 rfl rfl ⟨rfl, colc_end HL2.out H8.out.2.2.2 H8.out.1 H8.out.2.1 H8.out.2.2.1 H.out.1 H.out.2.1 H.out.2.2 hl (by first | rfl | simp) (by first | rfl | simp)⟩

theorem colc_clo (cb : Nat) : Clo 34 (.pointer (some ⟨cb, 0, none⟩)) (fun x => 0 < x.v.size) (coInv cb) where
  enters := fun _ _ => by kernel_rfl
  own := fun l G w ⟨v, hcb, hr, hG⟩ k hk => by
    rcases (hG k).1 hk with rfl | e
    · exact (Array.getElem?_eq_some_iff.1 hcb).1
    · exact (hr.own e).1
  keep := fun l G w w' ⟨v, hcb, hr, hG⟩ e _ => ⟨v, (e cb ((hG cb).2 (.inl rfl))).trans hcb, hr.keep fun k hk => e k ((hG k).2 (.inr hk)), hG⟩
  does := fun l x G w h hx hl => colc_any h hx hl _

set_option maxRecDepth 100000 in
set_option maxHeartbeats 2000000 in
theorem Columns_any {bs : Nat} {B : Base bs} {w : World} {gb ba tb : Nat} {F : Nat → Prop} {R : Raw} {L : List KV} (h : CatIs B w gb ba tb F R L) (hok : ∀ x ∈ L, pre ⟨#[99]⟩ x = true → 0 < x.v.size) :
    Calls Tryz.prog 13 #[.pointer (some ⟨gb, 0, none⟩)] w fun e w' => ∃ v i n, e = .returned v ∧ Span L 99 i n ∧ coRows w' 0 v (((L.drop i).take n).map colOf) ∧ (∀ k, v.ownBlock = some k → w.heap.size ≤ k) ∧
      ∃ F', CatIs B w' gb ba tb F' R L ∧ (∀ k, v.ownBlock = some k → ¬ F' k) ∧ (∀ k, k < w.heap.size → F' k → F k) ∧ Off F w w' := by
  have hb0 : Below w.heap.size w (w.alloc (.cells #[.slice none 0 0] 22)) := by go_grown
  have hnF : ¬ F w.heap.size := fun e => by have := h.act.1 _ e; omega
  have hlt := h.lt
  have HE := Lib.hid (each_any (h.below hb0) (colc_clo w.heap.size) (G := fun k => k = w.heap.size) (show coInv w.heap.size [] _ _ from ⟨_, hnew w _, coRows.nil _ _, fun k => by simp [Value.ownBlock]⟩) (fun k hk => by subst hk; exact ⟨hnF, by omega, by omega⟩) 99 hok)
  have H := Lib.hid (And.intro hb0 hnF)
  clear h hok hb0 hnF hlt
  go_enter Tryz.func13, Tryz.ntmps13
  go_wp2_with fail
  refine HE.out.mono ?_
  rintro e w2 ⟨rfl, i, n, G2, F2, hcut, hin, hp1, hp2, ⟨v, hcb, hr, hG⟩, hcat, hdis, hF2, hG2, ho⟩
  have c0 : w2.cell? ⟨w.heap.size, 0, none⟩ = some v := by unfold World.cell?; rw [hcb]; rfl
  have HF := Lib.hid (show Span L 99 i n ∧ coRows w2 0 v (((L.drop i).take n).map colOf) ∧ (∀ k, v.ownBlock = some k → w.heap.size ≤ k) ∧
      ∃ F', CatIs B w2 gb ba tb F' R L ∧ (∀ k, v.ownBlock = some k → ¬ F' k) ∧ (∀ k, k < w.heap.size → F' k → F k) ∧ Off F w w2 from by
    refine ⟨⟨hcut, hin, hp1, hp2⟩, hr, fun k hk => ?_, F2, hcat, fun k hk => (hdis k ((hG k).2 (.inr hk))).1, fun k hk e => hF2 k (by simp; omega) e, ?_⟩
    · by_cases hk' : k < w.heap.size
      · have := hG2 k (by simp; omega) ((hG k).2 (.inr hk))
        omega
      · omega
    · refine ⟨ho.os, ho.tape, ho.output, Nat.le_trans (by simp) ho.size, fun k hk hn => (ho.block k (by simp; omega) ?_).trans (H.out.1.block k hk)⟩
      rintro (e | e)
      · exact hn e
      · omega)
  clear hcut hin hp1 hp2 hcb hr hG hcat hdis hF2 hG2 ho HE
  go_wp2
  go_ret
  exact ⟨v, i, n, rfl, HF.out⟩
end Go.Proofs.YtiakepcgalmjfaaGreat

namespace Go.Proofs.YtiakepcgalmjfaaGreat
open Go.RowKit

def knames : List ByteArray := [⟨#[98, 105, 116, 109, 97, 112]⟩, ⟨#[98, 116, 114, 101, 101]⟩, ⟨#[104, 97, 115, 104]⟩, ⟨#[105, 110, 118, 101, 114, 116, 101, 100]⟩]
def kname (i : Nat) : ByteArray := knames.getD i ⟨#[]⟩
def kuniq (i : Nat) : Bool := i == 1 || i == 2
def kopen (i : Nat) : Nat := match i with
  | 0 => 66
  | 1 => 69
  | 2 => 72
  | _ => 75
def kcols (i : Nat) : List Int := if i = 3 then [3] else [1, 2]
abbrev kindsO (gp gl : Nat) : Obj := .cells #[.string ⟨#[98, 105, 116, 109, 97, 112]⟩, .slice (some ⟨gp, 0, none⟩) 2 2, .bool false, .func (.func 66) #[] #[],
  .string ⟨#[98, 116, 114, 101, 101]⟩, .slice (some ⟨gp, 0, none⟩) 2 2, .bool true, .func (.func 69) #[] #[],
  .string ⟨#[104, 97, 115, 104]⟩, .slice (some ⟨gp, 0, none⟩) 2 2, .bool true, .func (.func 72) #[] #[],
  .string ⟨#[105, 110, 118, 101, 114, 116, 101, 100]⟩, .slice (some ⟨gl, 0, none⟩) 1 1, .bool false, .func (.func 75) #[] #[]] 77
structure KindsAt (w : World) (g gp gl : Nat) : Prop where
  k : w.heap[g]? = some (kindsO gp gl)
  p : w.heap[gp]? = some (.cells #[.int .i64 1, .int .i64 2] 3)
  l : w.heap[gl]? = some (.cells #[.int .i64 3] 3)
def kg (gp gl i : Nat) : Nat := if i = 3 then gl else gp
def kn (i : Nat) : Nat := if i = 3 then 1 else 2
section
variable {w w' : World} {g gp gl : Nat}
theorem KindsAt.keep (h : KindsAt w g gp gl) (e : ∀ k, k = g ∨ k = gp ∨ k = gl → w'.heap[k]? = w.heap[k]?) : KindsAt w' g gp gl := ⟨(e g (.inl rfl)).trans h.k, (e gp (.inr (.inl rfl))).trans h.p, (e gl (.inr (.inr rfl))).trans h.l⟩
theorem KindsAt.lt (h : KindsAt w g gp gl) : g < w.heap.size ∧ gp < w.heap.size ∧ gl < w.heap.size := ⟨(Array.getElem?_eq_some_iff.1 h.k).1, (Array.getElem?_eq_some_iff.1 h.p).1, (Array.getElem?_eq_some_iff.1 h.l).1⟩
theorem KindsAt.below (h : KindsAt w g gp gl) (hb : Below w.heap.size w w') : KindsAt w' g gp gl := h.keep fun k hk => hb.block k (by have := h.lt; omega)
theorem KindsAt.cells (h : KindsAt w g gp gl) (i : Nat) (hi : i < 4) : w.cell? ⟨g, i * 4, none⟩ = some (.string (kname i)) ∧ w.cell? ⟨g, i * 4 + 1, none⟩ = some (.slice (some ⟨kg gp gl i, 0, none⟩) (kn i) (kn i)) ∧ w.cell? ⟨g, i * 4 + 2, none⟩ = some (.bool (kuniq i)) ∧ w.cell? ⟨g, i * 4 + 3, none⟩ = some (.func (.func (kopen i)) #[] #[]) := by
  have hk := h.k
  match i, hi with
  | 0, _ => refine ⟨?_, ?_, ?_, ?_⟩ <;> (unfold World.cell?; rw [hk]; rfl)
  | 1, _ => refine ⟨?_, ?_, ?_, ?_⟩ <;> (unfold World.cell?; rw [hk]; rfl)
  | 2, _ => refine ⟨?_, ?_, ?_, ?_⟩ <;> (unfold World.cell?; rw [hk]; rfl)
  | 3, _ => refine ⟨?_, ?_, ?_, ?_⟩ <;> (unfold World.cell?; rw [hk]; rfl)
theorem KindsAt.cols (h : KindsAt w g gp gl) (i : Nat) (hi : i < 4) : (kcols i).length = kn i ∧ ∀ j (hj : j < (kcols i).length), w.cell? ⟨kg gp gl i, j, none⟩ = some (.int .i64 (kcols i)[j]) := by
  have hp := h.p
  have hl := h.l
  have hP : ∀ j (hj : j < ([1, 2] : List Int).length), w.cell? ⟨gp, j, none⟩ = some (.int .i64 ([1, 2] : List Int)[j]) := fun j hj => by
    match j, hj with
    | 0, _ => unfold World.cell?; rw [hp]; rfl
    | 1, _ => unfold World.cell?; rw [hp]; rfl
  match i, hi with
  | 0, _ => exact ⟨rfl, hP⟩
  | 1, _ => exact ⟨rfl, hP⟩
  | 2, _ => exact ⟨rfl, hP⟩
  | 3, _ => exact ⟨rfl, fun j hj => by
      match j, hj with
      | 0, _ => unfold World.cell?; rw [show kg gp gl 3 = gl from rfl, hl]; rfl⟩
end
theorem kinds_any (w : World) :
    Calls Tryz.prog 33 #[] w fun e w' => ∃ g gp gl, e = .returned (.slice (some ⟨g, 0, none⟩) 4 4) ∧ KindsAt w' g gp gl ∧ w.heap.size ≤ g ∧ w.heap.size ≤ gp ∧ w.heap.size ≤ gl ∧ Below w.heap.size w w' := by
  go_enter Tryz.func33, Tryz.ntmps33
  go_wp2
  go_ret
  refine ⟨w.heap.size + 1 + 1, w.heap.size, w.heap.size + 1, rfl, ⟨?_, ?_, ?_⟩, by omega, by omega, by omega, by go_grown⟩
  · have := hnew ((w.alloc (.cells #[.int .i64 1, .int .i64 2] 3)).alloc (.cells #[.int .i64 3] 3)) (kindsO w.heap.size (w.heap.size + 1))
    simpa using this
  · rw [Below.heap_alloc _ _ _ (by simp; omega), Below.heap_alloc _ _ _ (by simp)]
    exact hnew w _
  · rw [Below.heap_alloc _ _ _ (by simp)]
    have := hnew (w.alloc (.cells #[.int .i64 1, .int .i64 2] 3)) (.cells #[.int .i64 3] 3)
    simpa using this

def byteN (s : ByteArray) (i : Nat) : Int := (s.data.getD i 0).toNat
theorem byteN_of (s : ByteArray) (i : Nat) (h : i < s.size) : byteN s i = ((s[i]'h).toNat : Int) ∧ byteN s i < 256 ∧ 0 ≤ byteN s i := by
  have e : s.data.getD i 0 = s[i]'h := by
    rw [Array.getD_eq_getD_getElem?, Array.getElem?_eq_getElem (by exact h)]; rfl
  have := UInt8.toNat_lt (s[i]'h)
  unfold byteN
  rw [e]
  exact ⟨rfl, by omega, by omega⟩
def xiOf (x : KV) : Xi := ⟨x.k.extract 1 x.k.size, kname (byteN x.v 0).toNat, byteN x.v 1, byteN x.v 2 == 1, byteN x.v 3⟩
def xOk (x : KV) : Prop := x.v.size = 5 ∧ byteN x.v 0 < 4

theorem xi5 {w : World} {g : Nat} {x : Xi} (h : w.heap[g]? = some (xiO x)) : w.cell? ⟨g, 0, none⟩ = some (.string x.name) ∧ w.cell? ⟨g, 1, none⟩ = some (.string x.meth) ∧ w.cell? ⟨g, 2, none⟩ = some (.int .i64 x.col) ∧ w.cell? ⟨g, 3, none⟩ = some (.bool x.uniq) ∧ w.cell? ⟨g, 4, none⟩ = some (.int .i64 x.state) := by
  refine ⟨?_, ?_, ?_, ?_, ?_⟩ <;> (unfold World.cell?; rw [h]; rfl)
theorem xi5z {w : World} {g : Nat} {x : Xi} (h : w.heap[g]? = some (xiO x)) : w.frozen? ⟨g, 0, none⟩ = false ∧ w.frozen? ⟨g, 1, none⟩ = false ∧ w.frozen? ⟨g, 2, none⟩ = false ∧ w.frozen? ⟨g, 3, none⟩ = false ∧ w.frozen? ⟨g, 4, none⟩ = false := by
  refine ⟨?_, ?_, ?_, ?_, ?_⟩ <;> (unfold World.frozen?; rw [h]; rfl)
abbrev xiV (x : Xi) : Value := .agg #[.string x.name, .string x.meth, .int .i64 x.col, .bool x.uniq, .int .i64 x.state]

set_option maxRecDepth 100000 in
set_option maxHeartbeats 2000000 in
theorem index_any (n v : ByteArray) (w : World) (hv : v.size = 5) (hk : byteN v 0 < 4) :
    Calls Tryz.prog 31 #[.string n, .string v] w fun e w' => e = .returned (.tuple #[xiV ⟨n, kname (byteN v 0).toNat, byteN v 1, byteN v 2 == 1, byteN v 3⟩, .int .i64 (byteN v 4)]) ∧ Below w.heap.size w w' := by
  have HK := Lib.hid fun w1 => kinds_any w1
  obtain ⟨q0, r0, s0⟩ := byteN_of v 0 (by omega)
  obtain ⟨q1, r1, s1⟩ := byteN_of v 1 (by omega)
  obtain ⟨q2, r2, s2⟩ := byteN_of v 2 (by omega)
  obtain ⟨q3, r3, s3⟩ := byteN_of v 3 (by omega)
  obtain ⟨q4, r4, s4⟩ := byteN_of v 4 (by omega)
  have t1 : IntKind.i64.wrap ((v[1]'(by omega)).toNat : Int) = byteN v 1 := by rw [q1, IntKind.wrap_i64]; omega
  have t3 : IntKind.i64.wrap ((v[3]'(by omega)).toNat : Int) = byteN v 3 := by rw [q3, IntKind.wrap_i64]; omega
  have t4 : IntKind.i64.wrap ((v[4]'(by omega)).toNat : Int) = byteN v 4 := by rw [q4, IntKind.wrap_i64]; omega
  obtain ⟨i, hi⟩ : ∃ i : Nat, byteN v 0 = i := ⟨(byteN v 0).toNat, by omega⟩
  have hi4 : i < 4 := by omega
  have hi4' : (i : Int) < 4 := by omega
  have u0 : ((v[0]'(by omega)).toNat : Int) = i := by rw [← q0, hi]
  have u2 : ((v[2]'(by omega)).toNat : Int) = byteN v 2 := q2.symm
  have hs5 : (v.size : Int) = 5 := by omega
  have HI := Lib.hid hi
  have HQ := Lib.hid q2
  clear q0 q1 q2 q3 q4 hi
  go_enter Tryz.func31, Tryz.ntmps31
  go_wp2
  refine wp_region_noPanic ?_
  refine wp_region_held_drew (S := (fun w' => True)) (by kernel_rfl) trivial (fun hS => ?_)
  refine wpAnyH_take (i := 0) (v := ?_) rfl (by kernel_rfl) (by kernel_rfl) (by kernel_rfl) (fun _ _ _ h => h) (Or.inl ⟨by rfl, ?_⟩) hS ?_
  rotate_left
  · intro w9 t0
    go_simp
    try with_reducible rfl
  try simp only [Act.put, List.getElem_toArray, List.getElem_cons_succ, List.getElem_cons_zero, List.setIfInBounds_toArray, List.set_cons_zero, List.set_cons_succ]
  refine wpAnyH_take (i := 2) (v := ?_) rfl (by kernel_rfl) (by kernel_rfl) (by kernel_rfl) (fun _ _ _ h => h) (Or.inl ⟨by rfl, ?_⟩) hS ?_
  rotate_left
  · intro w9 t0
    go_simp
    try with_reducible rfl
  try simp only [Act.put, List.getElem_toArray, List.getElem_cons_succ, List.getElem_cons_zero, List.setIfInBounds_toArray, List.set_cons_zero, List.set_cons_succ]
  refine wpAnyH_take (i := 3) (v := ?_) rfl (by kernel_rfl) (by kernel_rfl) (by kernel_rfl) (fun _ _ _ h => h) (Or.inl ⟨by rfl, ?_⟩) hS ?_
  rotate_left
  · intro w9 t0
    go_simp
    try with_reducible rfl
  try simp only [Act.put, List.getElem_toArray, List.getElem_cons_succ, List.getElem_cons_zero, List.setIfInBounds_toArray, List.set_cons_zero, List.set_cons_succ]
  refine wpAnyH_take (i := 7) (v := ?_) rfl (by kernel_rfl) (by kernel_rfl) (by kernel_rfl) (fun _ _ _ h => h) (Or.inl ⟨by rfl, ?_⟩) hS ?_
  rotate_left
  · intro w9 t0
    go_simp
    try with_reducible rfl
  try simp only [Act.put, List.getElem_toArray, List.getElem_cons_succ, List.getElem_cons_zero, List.setIfInBounds_toArray, List.set_cons_zero, List.set_cons_succ]
  refine wpAnyH_take (i := 8) (v := ?_) rfl (by kernel_rfl) (by kernel_rfl) (by kernel_rfl) (fun _ _ _ h => h) (Or.inl ⟨by rfl, ?_⟩) hS ?_
  rotate_left
  · intro w9 t0
    go_simp
    try with_reducible rfl
  try simp only [Act.put, List.getElem_toArray, List.getElem_cons_succ, List.getElem_cons_zero, List.setIfInBounds_toArray, List.set_cons_zero, List.set_cons_succ]
  refine wpAnyH_take (i := 9) (v := ?_) rfl (by kernel_rfl) (by kernel_rfl) (by kernel_rfl) (fun _ _ _ h => h) (Or.inl ⟨by rfl, ?_⟩) hS ?_
  rotate_left
  · intro w9 t0
    go_simp
    try with_reducible rfl
  try simp only [Act.put, List.getElem_toArray, List.getElem_cons_succ, List.getElem_cons_zero, List.setIfInBounds_toArray, List.set_cons_zero, List.set_cons_succ]
  refine wpAnyH_take (i := 10) (v := ?_) rfl (by kernel_rfl) (by kernel_rfl) (by kernel_rfl) (fun _ _ _ h => h) (Or.inl ⟨by rfl, ?_⟩) hS ?_
  rotate_left
  · intro w9 t0
    go_simp
    try with_reducible rfl
  try simp only [Act.put, List.getElem_toArray, List.getElem_cons_succ, List.getElem_cons_zero, List.setIfInBounds_toArray, List.set_cons_zero, List.set_cons_succ]
  refine wpAnyH_take (i := 11) (v := ?_) rfl (by kernel_rfl) (by kernel_rfl) (by kernel_rfl) (fun _ _ _ h => h) (Or.inl ⟨by rfl, ?_⟩) hS ?_
  rotate_left
  · intro w9 t0
    go_simp
    try with_reducible rfl
  try simp only [Act.put, List.getElem_toArray, List.getElem_cons_succ, List.getElem_cons_zero, List.setIfInBounds_toArray, List.set_cons_zero, List.set_cons_succ]
  refine wpAnyH_take (i := 12) (v := ?_) rfl (by kernel_rfl) (by kernel_rfl) (by kernel_rfl) (fun _ _ _ h => h) (Or.inl ⟨by rfl, ?_⟩) hS ?_
  rotate_left
  · intro w9 t0
    go_simp
    try with_reducible rfl
  try simp only [Act.put, List.getElem_toArray, List.getElem_cons_succ, List.getElem_cons_zero, List.setIfInBounds_toArray, List.set_cons_zero, List.set_cons_succ]
  refine wpAnyH_take (i := 13) (v := ?_) rfl (by kernel_rfl) (by kernel_rfl) (by kernel_rfl) (fun _ _ _ h => h) (Or.inl ⟨by rfl, ?_⟩) hS ?_
  rotate_left
  · intro w9 t0
    go_simp
    try with_reducible rfl
  try simp only [Act.put, List.getElem_toArray, List.getElem_cons_succ, List.getElem_cons_zero, List.setIfInBounds_toArray, List.set_cons_zero, List.set_cons_succ]
  refine wpAnyH_take (i := 14) (v := ?_) rfl (by kernel_rfl) (by kernel_rfl) (by kernel_rfl) (fun _ _ _ h => h) (Or.inl ⟨by rfl, ?_⟩) hS ?_
  rotate_left
  · intro w9 t0
    go_simp
    try with_reducible rfl
  try simp only [Act.put, List.getElem_toArray, List.getElem_cons_succ, List.getElem_cons_zero, List.setIfInBounds_toArray, List.set_cons_zero, List.set_cons_succ]
  refine wpAnyH_take (i := 15) (v := ?_) rfl (by kernel_rfl) (by kernel_rfl) (by kernel_rfl) (fun _ _ _ h => h) (Or.inl ⟨by rfl, ?_⟩) hS ?_
  rotate_left
  · intro w9 t0
    go_simp
    try with_reducible rfl
  try simp only [Act.put, List.getElem_toArray, List.getElem_cons_succ, List.getElem_cons_zero, List.setIfInBounds_toArray, List.set_cons_zero, List.set_cons_succ]
  refine wpAnyH_take (i := 17) (v := ?_) rfl (by kernel_rfl) (by kernel_rfl) (by kernel_rfl) (fun _ _ _ h => h) (Or.inl ⟨by rfl, ?_⟩) hS ?_
  rotate_left
  · intro w9 t0
    go_simp
    try with_reducible rfl
  try simp only [Act.put, List.getElem_toArray, List.getElem_cons_succ, List.getElem_cons_zero, List.setIfInBounds_toArray, List.set_cons_zero, List.set_cons_succ]
  refine wpAnyH_take (i := 18) (v := ?_) rfl (by kernel_rfl) (by kernel_rfl) (by kernel_rfl) (fun _ _ _ h => h) (Or.inl ⟨by rfl, ?_⟩) hS ?_
  rotate_left
  · intro w9 t0
    go_simp
    try with_reducible rfl
  try simp only [Act.put, List.getElem_toArray, List.getElem_cons_succ, List.getElem_cons_zero, List.setIfInBounds_toArray, List.set_cons_zero, List.set_cons_succ]
  refine wpAnyH_take (i := 19) (v := ?_) rfl (by kernel_rfl) (by kernel_rfl) (by kernel_rfl) (fun _ _ _ h => h) (Or.inl ⟨by rfl, ?_⟩) hS ?_
  rotate_left
  · intro w9 t0
    go_simp
    try with_reducible rfl
  try simp only [Act.put, List.getElem_toArray, List.getElem_cons_succ, List.getElem_cons_zero, List.setIfInBounds_toArray, List.set_cons_zero, List.set_cons_succ]
  refine wpAnyH_ready (rs := [1]) (by kernel_rfl) (by simp) ?_
  refine AllReadyH.cons rfl (fun K hK => ?_) AllReadyH.nil
  go_simp
  refine (HK.out _).mono ?_
  rintro e w1 ⟨g, gp, gl, rfl, hka, hg, hgp, hgl, hb1⟩
  have hz1 := hb1.size
  have hx1 := (hb1.block w.heap.size (by show w.heap.size < (w.alloc _).heap.size; simp)).trans (hnew w (xiO ⟨⟨#[]⟩, ⟨#[]⟩, 0, false, 0⟩))
  obtain ⟨k0, k1, k2, k3⟩ := hka.cells i hi4
  have hkn : kname i = kname (byteN v 0).toNat := by rw [HI.out]; simp
  rw [hkn] at k0
  have HB1 := Lib.hid hb1
  obtain ⟨x0, x1, x2, x3, x4⟩ := xi5 hx1
  obtain ⟨y0, y1, y2, y3, y4⟩ := xi5z hx1
  generalize hkk : kname (byteN v 0).toNat = kk at *
  have HKK := Lib.hid hkk
  clear hka hb1 hx1 hkn k1 k2 k3 hkk
  refine hK.out _ _ trivial (fun _ => ?_)
  clear hK K
  try simp only [Act.put, List.getElem_toArray, List.getElem_cons_succ, List.getElem_cons_zero, List.setIfInBounds_toArray, List.set_cons_zero, List.set_cons_succ]
  refine wpAnyH_take (i := 4) (v := ?_) rfl (by kernel_rfl) (by kernel_rfl) (by kernel_rfl) (fun _ _ _ h => h) (Or.inl ⟨by rfl, ?_⟩) trivial ?_
  rotate_left
  · intro w9 t0
    go_simp
    try with_reducible rfl
  try simp only [Act.put, List.getElem_toArray, List.getElem_cons_succ, List.getElem_cons_zero, List.setIfInBounds_toArray, List.set_cons_zero, List.set_cons_succ]
  refine wpAnyH_take (i := 5) (v := ?_) rfl (by kernel_rfl) (by kernel_rfl) (by kernel_rfl) (fun _ _ _ h => h) (Or.inl ⟨by rfl, ?_⟩) trivial ?_
  rotate_left
  · intro w9 t0
    go_simp
    try with_reducible rfl
  try simp only [Act.put, List.getElem_toArray, List.getElem_cons_succ, List.getElem_cons_zero, List.setIfInBounds_toArray, List.set_cons_zero, List.set_cons_succ]
  refine wpAnyH_ready (rs := [6]) (by kernel_rfl) (by simp) ?_
  refine AllReadyH.cons rfl (fun K hK => ?_) AllReadyH.nil
  go_simp
  refine hK.out _ _ trivial (fun _ => ?_)
  clear hK K
  try simp only [Act.put, List.getElem_toArray, List.getElem_cons_succ, List.getElem_cons_zero, List.setIfInBounds_toArray, List.set_cons_zero, List.set_cons_succ]
  refine wpAnyH_take (i := 16) (v := ?_) rfl (by kernel_rfl) (by kernel_rfl) (by kernel_rfl) (fun _ _ _ h => h) (Or.inl ⟨by rfl, ?_⟩) trivial ?_
  rotate_left
  · intro w9 t0
    go_simp
    try with_reducible rfl
  try simp only [Act.put, List.getElem_toArray, List.getElem_cons_succ, List.getElem_cons_zero, List.setIfInBounds_toArray, List.set_cons_zero, List.set_cons_succ]
  refine wpAnyH_ready (rs := [20]) (by kernel_rfl) (by simp) ?_
  refine AllReadyH.cons rfl (fun K hK => ?_) AllReadyH.nil
  go_simp
  refine hK.out _ _ trivial (fun _ => ?_)
  clear hK K
  try simp only [Act.put, List.getElem_toArray, List.getElem_cons_succ, List.getElem_cons_zero, List.setIfInBounds_toArray, List.set_cons_zero, List.set_cons_succ]
  refine wpAnyH_take (i := 21) (v := ?_) rfl (by kernel_rfl) (by kernel_rfl) (by kernel_rfl) (fun _ _ _ h => h) (Or.inl ⟨by rfl, ?_⟩) trivial ?_
  rotate_left
  · intro w9 t0
    go_simp
    try with_reducible rfl
  try simp only [Act.put, List.getElem_toArray, List.getElem_cons_succ, List.getElem_cons_zero, List.setIfInBounds_toArray, List.set_cons_zero, List.set_cons_succ]
  refine wpAnyH_done (by kernel_rfl) ?_ _
  refine NoPanic.normal ?_
  go_wp2
  (try simp only [Exit.inBlock, Exit.then])
  refine bodyPost_ret (v := .tuple #[xiV ⟨n, kk, byteN v 1, byteN v 2 == 1, byteN v 3⟩, .int .i64 (byteN v 4)]) ?_ rfl ⟨by rw [HKK.out], ?_⟩
  · rw [results_cell_tmp rfl]
    go_simp
    try rfl
  · have hb : Below w.heap.size w w1 := ((Below.refl w.heap.size w).alloc (Nat.le_refl _) _).drew.trans (HB1.out.mono (by show w.heap.size ≤ (w.alloc _).heap.size; simp))
    exact (((((hb.setCell (p := ⟨w.heap.size, 0, none⟩) (Nat.le_refl _) _).setCell (p := ⟨w.heap.size, 1, none⟩) (Nat.le_refl _) _).setCell (p := ⟨w.heap.size, 2, none⟩) (Nat.le_refl _) _).setCell (p := ⟨w.heap.size, 3, none⟩) (Nat.le_refl _) _).setCell (p := ⟨w.heap.size, 4, none⟩) (Nat.le_refl _) _)
end Go.Proofs.YtiakepcgalmjfaaGreat

namespace Go.Proofs.YtiakepcgalmjfaaGreat
open Go.RowKit

/-- What Indexes' closure keeps. -/
def xiInv (cb : Nat) (l : List KV) (G : Nat → Prop) (w : World) : Prop := ∃ v, w.heap[cb]? = some (.cells #[v] 31) ∧ xiRows w 0 v (l.map xiOf) ∧ (∀ k, G k ↔ k = cb ∨ v.ownBlock = some k)
theorem xi_ne {w : World} {cb B : Nat} {v u : Value} {L : List Xi} (h : w.heap[cb]? = some (.cells #[u] 31)) (hr : xiRows w B v L) : v.ownBlock ≠ some cb := by
  intro e
  obtain ⟨_, cs, fr, hh⟩ := hr.own e
  rw [h] at hh
  cases hh

theorem Below.trans' {a b c : World} (h' : Below b.heap.size b c) (h : Below a.heap.size a b) : Below a.heap.size a c := h.trans (h'.mono h.size)
theorem cell0 {w : World} {k : Nat} {v : Value} {t : TypeId} {fr : Nat × Nat} (h : w.heap[k]? = some (.cells #[v] t fr)) : w.cell? ⟨k, 0, none⟩ = some v := by unfold World.cell?; rw [h]; rfl
theorem froz0 {w : World} {k : Nat} {v : Value} {t : TypeId} (h : w.heap[k]? = some (.cells #[v] t)) : w.frozen? ⟨k, 0, none⟩ = false := by unfold World.frozen?; rw [h]; rfl
theorem xi_far {w w1 w2 w8 : World} {cb c : Nat} {A : Option Addr} {L2 : List Xi} (h12 : Below w1.heap.size w1 w2) (hcb1 : w1.heap[cb]? = some (.cells #[.slice A L2.length c] 31)) (h01 : Below w.heap.size w w1) (hcb : w.heap[cb]? = some (.cells #[.slice A L2.length c] 31)) (hr : xiRows w 0 (.slice A L2.length c) L2)
    (hg : w2.grownBy w8 (Value.ownBlock (.slice A L2.length c))) : w8.heap[cb]? = some (.cells #[.slice A L2.length c] 31) := by
  have hlt := (Array.getElem?_eq_some_iff.1 hcb1).1
  exact (hg.block cb (by have := h12.size; omega) (fun e => xi_ne hcb hr e.symm)).trans ((h12.block cb hlt).trans hcb1)
theorem xic_end {w w2 w8 : World} {cb g n cap c : Nat} {A : Option Addr} {l : List KV} {L2 : List Xi} {x : KV} {y : Xi} {G : Nat → Prop} (hy : xiOf x = y) (hL : L2 = l.map xiOf) (hcb8 : w8.heap[cb]? = some (.cells #[.slice A L2.length c] 31))
    (hr8 : xiRows w8 0 (.slice (some ⟨g, 0, none⟩) (L2 ++ [y]).length cap) (L2 ++ [y])) (hb : Below w.heap.size w w2) (hg8 : w2.grownBy w8 (Value.ownBlock (.slice A L2.length c))) (hat : Value.ownBlock (.slice A L2.length c) = some g ∨ g = w2.heap.size)
    (hcb : w.heap[cb]? = some (.cells #[.slice A L2.length c] 31)) (hr : xiRows w 0 (.slice A L2.length c) L2) (hG : ∀ k, G k ↔ k = cb ∨ Value.ownBlock (.slice A L2.length c) = some k) {w9 : World}
    (hw : w9 = w8.setCell ⟨cb, 0, none⟩ (.slice (some ⟨g, 0, none⟩) n cap)) (hn : n = (L2 ++ [y]).length) : ∃ G', xiInv cb (l ++ [x]) G' w9 ∧ (∀ k, k < w.heap.size → G' k → G k) ∧ Off G w w9 := by
  subst hw hn
  have hlt := (Array.getElem?_eq_some_iff.1 hcb).1
  have hlt8 := (Array.getElem?_eq_some_iff.1 hcb8).1
  have hne : g ≠ cb := fun e => xi_ne hcb8 hr8 (by subst e; rfl)
  refine ⟨fun k => k = cb ∨ k = g, ⟨_, heap_set hcb8, ?_, fun k => ?_⟩, fun k hk h => ?_, ?_⟩
  · rw [List.map_append, ← hL, List.map_cons, hy]
    refine hr8.keep fun k hk => ?_
    simp only [Value.ownBlock, Option.some.injEq] at hk
    subst hk
    exact Below.heap_setCell _ _ _ _ hne
  · simp only [Value.ownBlock, Option.some.injEq]
    exact ⟨fun h => h.imp id Eq.symm, fun h => h.imp id Eq.symm⟩
  · rw [hG]
    rcases h with h | h
    · exact .inl h
    · subst h
      rcases hat with h | h
      · exact .inr h
      · have := hb.size
        omega
  · refine ⟨hg8.os.trans hb.os, hg8.tape.trans hb.tape, hg8.output.trans hb.output, by rw [World.size_setCell]; exact Nat.le_trans hb.size hg8.size, fun k hk hn => ?_⟩
    have h1 : k ≠ cb := fun e => hn ((hG k).2 (.inl e))
    have h2 : some k ≠ Value.ownBlock (.slice A L2.length c) := fun e => hn ((hG k).2 (.inr e.symm))
    exact (Below.heap_setCell _ _ _ _ h1).trans ((hg8.block k (Nat.lt_of_lt_of_le hk hb.size) h2).trans (hb.block k hk))

set_option maxRecDepth 100000 in
set_option maxHeartbeats 2000000 in
theorem xic_any {cb : Nat} {l : List KV} {x : KV} {G : Nat → Prop} {w : World} (h : xiInv cb l G w) (hx : xOk x) (hl : l.length < 256) :
    Calls Tryz.prog 30 #[.string (x.k.extract 1 x.k.size), .string x.v, .pointer (some ⟨cb, 0, none⟩)] w fun e w' => e = .returned (.tuple #[]) ∧ ∃ G', xiInv cb (l ++ [x]) G' w' ∧ (∀ k, k < w.heap.size → G' k → G k) ∧ Off G w w' := by
  obtain ⟨v, hcb, hr, hG⟩ := h
  have hltb := (Array.getElem?_eq_some_iff.1 hcb).1
  obtain ⟨L2, hL2⟩ : ∃ L2, L2 = l.map xiOf := ⟨_, rfl⟩
  rw [← hL2] at hr
  have HL2 := Lib.hid hL2
  have hlen : L2.length ≤ 256 := by rw [hL2, List.length_map]; omega
  clear hL2
  obtain ⟨A, c, rfl⟩ := hr.slice
  have HX := Lib.hid (index_any (x.k.extract 1 x.k.size) x.v w hx.1 hx.2)
  have H := Lib.hid (And.intro hcb (And.intro hr (And.intro hG hltb)))
  have hxe : xiV ⟨x.k.extract 1 x.k.size, kname (byteN x.v 0).toNat, byteN x.v 1, byteN x.v 2 == 1, byteN x.v 3⟩ = xiV (xiOf x) := rfl
  rw [hxe] at HX
  clear hcb hr hG hx hxe
  generalize x.k.extract 1 x.k.size = nm at *
  generalize hy : xiOf x = y at *
  have HY := Lib.hid hy
  clear hy
  go_enter Tryz.func30, Tryz.ntmps30
  go_wp2_with fail
  refine HX.out.mono ?_
  rintro e w1 ⟨rfl, hb1⟩
  have hcb1 := (hb1.block cb hltb).trans H.out.1
  have c0 : w1.cell? ⟨cb, 0, none⟩ = some (.slice A L2.length c) := by unfold World.cell?; rw [hcb1]; rfl
  have z0 : w1.frozen? ⟨cb, 0, none⟩ = false := by unfold World.frozen?; rw [hcb1]; rfl
  have hlt1 : cb < w1.heap.size := by have := hb1.size; omega
  have HB := Lib.hid (And.intro hb1 hcb1)
  clear hb1 hcb1
  have hb9 : Below w1.heap.size w1 ((w1.alloc (xiO y)).alloc (xiO y)) := by go_grown
  have hr9 : xiRows ((w1.alloc (xiO y)).alloc (xiO y)) 0 (.slice A L2.length c) L2 := H.out.2.1.keep fun k hk => by
    have := (H.out.2.1.own hk).1
    exact (hb9.block k (by have := HB.out.1.size; omega)).trans (HB.out.1.block k this)
  have hx9 := xi5 (hnew (w1.alloc (xiO y)) (xiO y))
  simp only [World.size_alloc] at hx9
  have H9 := Lib.hid (And.intro hb9 (And.intro hr9 hx9))
  clear hb9 hr9 hx9
  go_wp2_with (at_builtin; refine wp_appxi rfl _ _ rfl 0 _ L2 rfl H9.out.2.1 y (w1.heap.size + 1) 1 rfl H9.out.2.2.1 H9.out.2.2.2.1 H9.out.2.2.2.2.1 H9.out.2.2.2.2.2.1 H9.out.2.2.2.2.2.2 (by omega) (Nat.zero_le _) ?_; intro g cap w8 hr8 hg8 hat; have hcb8 := xi_far H9.out.1 HB.out.2 HB.out.1 H.out.1 H.out.2.1 hg8; have c8 := cell0 hcb8; have z8 := froz0 hcb8; have H8 := Lib.hid (And.intro hr8 (And.intro hg8 (And.intro hat hcb8))); clear hr8 hg8 hat hcb8)
  exact Great.bodyPost_end0 rfl rfl ⟨rfl, xic_end HY.out HL2.out H8.out.2.2.2 H8.out.1 (Below.trans' H9.out.1 HB.out.1) H8.out.2.1 H8.out.2.2.1 H.out.1 H.out.2.1 H.out.2.2.1 (by first | rfl | simp) (by first | rfl | simp)⟩
theorem xic_clo (cb : Nat) : Clo 30 (.pointer (some ⟨cb, 0, none⟩)) (xOk) (xiInv cb) where
  enters := fun _ _ => by kernel_rfl
  own := fun l G w ⟨v, hcb, hr, hG⟩ k hk => by
    rcases (hG k).1 hk with rfl | e
    · exact (Array.getElem?_eq_some_iff.1 hcb).1
    · exact (hr.own e).1
  keep := fun l G w w' ⟨v, hcb, hr, hG⟩ e _ => ⟨v, (e cb ((hG cb).2 (.inl rfl))).trans hcb, hr.keep fun k hk => e k ((hG k).2 (.inr hk)), hG⟩
  does := fun l x G w h hx hl => xic_any h hx hl

set_option maxRecDepth 100000 in
set_option maxHeartbeats 2000000 in
theorem Indexes_any {bs : Nat} {B : Base bs} {w : World} {gb ba tb : Nat} {F : Nat → Prop} {R : Raw} {L : List KV} (h : CatIs B w gb ba tb F R L) (hok : ∀ x ∈ L, pre ⟨#[120]⟩ x = true → xOk x) :
    Calls Tryz.prog 9 #[.pointer (some ⟨gb, 0, none⟩)] w fun e w' => ∃ v i n, e = .returned v ∧ Span L 120 i n ∧ xiRows w' 0 v (((L.drop i).take n).map xiOf) ∧ (∀ k, v.ownBlock = some k → w.heap.size ≤ k) ∧
      ∃ F', CatIs B w' gb ba tb F' R L ∧ (∀ k, v.ownBlock = some k → ¬ F' k) ∧ (∀ k, k < w.heap.size → F' k → F k) ∧ Off F w w' := by
  have hb0 : Below w.heap.size w (w.alloc (.cells #[.slice none 0 0] 31)) := by go_grown
  have hnF : ¬ F w.heap.size := fun e => by have := h.act.1 _ e; omega
  have hlt := h.lt
  have HE := Lib.hid (each_any (h.below hb0) (xic_clo w.heap.size) (G := fun k => k = w.heap.size) (show xiInv w.heap.size [] _ _ from ⟨_, hnew w _, xiRows.nil _ _, fun k => by simp [Value.ownBlock]⟩) (fun k hk => by subst hk; exact ⟨hnF, by omega, by omega⟩) 120 hok)
  have H := Lib.hid (And.intro hb0 hnF)
  clear h hok hb0 hnF hlt
  go_enter Tryz.func9, Tryz.ntmps9
  go_wp2_with fail
  refine HE.out.mono ?_
  rintro e w2 ⟨rfl, i, n, G2, F2, hcut, hin, hp1, hp2, ⟨v, hcb, hr, hG⟩, hcat, hdis, hF2, hG2, ho⟩
  have c0 : w2.cell? ⟨w.heap.size, 0, none⟩ = some v := by unfold World.cell?; rw [hcb]; rfl
  have HF := Lib.hid (show Span L 120 i n ∧ xiRows w2 0 v (((L.drop i).take n).map xiOf) ∧ (∀ k, v.ownBlock = some k → w.heap.size ≤ k) ∧
      ∃ F', CatIs B w2 gb ba tb F' R L ∧ (∀ k, v.ownBlock = some k → ¬ F' k) ∧ (∀ k, k < w.heap.size → F' k → F k) ∧ Off F w w2 from by
    refine ⟨⟨hcut, hin, hp1, hp2⟩, hr, fun k hk => ?_, F2, hcat, fun k hk => (hdis k ((hG k).2 (.inr hk))).1, fun k hk e => hF2 k (by simp; omega) e, ?_⟩
    · by_cases hk' : k < w.heap.size
      · have := hG2 k (by simp; omega) ((hG k).2 (.inr hk))
        omega
      · omega
    · refine ⟨ho.os, ho.tape, ho.output, Nat.le_trans (by simp) ho.size, fun k hk hn => (ho.block k (by simp; omega) ?_).trans (H.out.1.block k hk)⟩
      rintro (e | e)
      · exact hn e
      · omega)
  clear hcut hin hp1 hp2 hcb hr hG hcat hdis hF2 hG2 ho HE
  go_wp2
  go_ret
  exact ⟨v, i, n, rfl, HF.out⟩
end Go.Proofs.YtiakepcgalmjfaaGreat
