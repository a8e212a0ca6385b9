/- Indexes. -/
import Derived.Test.YtddddjpmeegedaaGreatSqG
set_option linter.unusedVariables false
set_option linter.unusedSimpArgs false
namespace Go.Proofs.YtddddjpmeegedaaGreat
open Go.RowKit

/-- What Indexes' closure keeps. -/
def xiInv (cb : Nat) (l : List KV) (G : Nat → Prop) (w : World) : Prop := ∃ v, w.heap[cb]? = some (.cells #[v] 43) ∧ xiRows w 0 v (l.map xiOf) ∧ (∀ k, G k ↔ k = cb ∨ v.ownBlock = some k)
theorem xi_ne {w : World} {cb B : Nat} {v u : Value} {L : List Xi} (h : w.heap[cb]? = some (.cells #[u] 43)) (hr : xiRows w B v L) : v.ownBlock ≠ some cb := by
  intro e
  obtain ⟨_, cs, fr, hh⟩ := hr.own e
  rw [h] at hh
  cases hh

theorem Below.trans' {a b c : World} (h' : Below b.heap.size b c) (h : Below a.heap.size a b) : Below a.heap.size a c := h.trans (h'.mono h.size)
theorem cell0 {w : World} {k : Nat} {v : Value} {t : TypeId} {fr : Nat × Nat} (h : w.heap[k]? = some (.cells #[v] t fr)) : w.cell? ⟨k, 0, none⟩ = some v := by unfold World.cell?; rw [h]; rfl
theorem froz0 {w : World} {k : Nat} {v : Value} {t : TypeId} (h : w.heap[k]? = some (.cells #[v] t)) : w.frozen? ⟨k, 0, none⟩ = false := by unfold World.frozen?; rw [h]; rfl
theorem xi_far {w w1 w2 w8 : World} {cb c : Nat} {A : Option Addr} {L2 : List Xi} (h12 : Below w1.heap.size w1 w2) (hcb1 : w1.heap[cb]? = some (.cells #[.slice A L2.length c] 43)) (h01 : Below w.heap.size w w1) (hcb : w.heap[cb]? = some (.cells #[.slice A L2.length c] 43)) (hr : xiRows w 0 (.slice A L2.length c) L2)
    (hg : w2.grownBy w8 (Value.ownBlock (.slice A L2.length c))) : w8.heap[cb]? = some (.cells #[.slice A L2.length c] 43) := by
  have hlt := (Array.getElem?_eq_some_iff.1 hcb1).1
  exact (hg.block cb (by have := h12.size; omega) (fun e => xi_ne hcb hr e.symm)).trans ((h12.block cb hlt).trans hcb1)
theorem xic_end {w w2 w8 : World} {cb g n cap c : Nat} {A : Option Addr} {l : List KV} {L2 : List Xi} {x : KV} {y : Xi} {G : Nat → Prop} (hy : xiOf x = y) (hL : L2 = l.map xiOf) (hcb8 : w8.heap[cb]? = some (.cells #[.slice A L2.length c] 43))
    (hr8 : xiRows w8 0 (.slice (some ⟨g, 0, none⟩) (L2 ++ [y]).length cap) (L2 ++ [y])) (hb : Below w.heap.size w w2) (hg8 : w2.grownBy w8 (Value.ownBlock (.slice A L2.length c))) (hat : Value.ownBlock (.slice A L2.length c) = some g ∨ g = w2.heap.size)
    (hcb : w.heap[cb]? = some (.cells #[.slice A L2.length c] 43)) (hr : xiRows w 0 (.slice A L2.length c) L2) (hG : ∀ k, G k ↔ k = cb ∨ Value.ownBlock (.slice A L2.length c) = some k) {w9 : World}
    (hw : w9 = w8.setCell ⟨cb, 0, none⟩ (.slice (some ⟨g, 0, none⟩) n cap)) (hn : n = (L2 ++ [y]).length) : ∃ G', xiInv cb (l ++ [x]) G' w9 ∧ (∀ k, k < w.heap.size → G' k → G k) ∧ Off G w w9 := by
  subst hw hn
  have hlt := (Array.getElem?_eq_some_iff.1 hcb).1
  have hlt8 := (Array.getElem?_eq_some_iff.1 hcb8).1
  have hne : g ≠ cb := fun e => xi_ne hcb8 hr8 (by subst e; rfl)
  refine ⟨fun k => k = cb ∨ k = g, ⟨_, heap_set hcb8, ?_, fun k => ?_⟩, fun k hk h => ?_, ?_⟩
  · rw [List.map_append, ← hL, List.map_cons, hy]
    refine hr8.keep fun k hk => ?_
    simp only [Value.ownBlock, Option.some.injEq] at hk
    subst hk
    exact Below.heap_setCell _ _ _ _ hne
  · simp only [Value.ownBlock, Option.some.injEq]
    exact ⟨fun h => h.imp id Eq.symm, fun h => h.imp id Eq.symm⟩
  · rw [hG]
    rcases h with h | h
    · exact .inl h
    · subst h
      rcases hat with h | h
      · exact .inr h
      · have := hb.size
        omega
  · refine ⟨hg8.os.trans hb.os, hg8.tape.trans hb.tape, hg8.output.trans hb.output, by rw [World.size_setCell]; exact Nat.le_trans hb.size hg8.size, fun k hk hn => ?_⟩
    have h1 : k ≠ cb := fun e => hn ((hG k).2 (.inl e))
    have h2 : some k ≠ Value.ownBlock (.slice A L2.length c) := fun e => hn ((hG k).2 (.inr e.symm))
    exact (Below.heap_setCell _ _ _ _ h1).trans ((hg8.block k (Nat.lt_of_lt_of_le hk hb.size) h2).trans (hb.block k hk))

set_option maxRecDepth 100000 in
set_option maxHeartbeats 2000000 in
theorem xic_any {cb : Nat} {l : List KV} {x : KV} {G : Nat → Prop} {w : World} (h : xiInv cb l G w) (hx : xOk x) (hl : l.length < 256) :
    Calls Tryz.prog 39 #[.string (x.k.extract 1 x.k.size), .string x.v, .pointer (some ⟨cb, 0, none⟩)] w fun e w' => e = .returned (.tuple #[]) ∧ ∃ G', xiInv cb (l ++ [x]) G' w' ∧ (∀ k, k < w.heap.size → G' k → G k) ∧ Off G w w' := by
  obtain ⟨v, hcb, hr, hG⟩ := h
  have hltb := (Array.getElem?_eq_some_iff.1 hcb).1
  obtain ⟨L2, hL2⟩ : ∃ L2, L2 = l.map xiOf := ⟨_, rfl⟩
  rw [← hL2] at hr
  have HL2 := Lib.hid hL2
  have hlen : L2.length ≤ 256 := by rw [hL2, List.length_map]; omega
  clear hL2
  obtain ⟨A, c, rfl⟩ := hr.slice
  have HX := Lib.hid (index_any (x.k.extract 1 x.k.size) x.v w hx.1 hx.2)
  have H := Lib.hid (And.intro hcb (And.intro hr (And.intro hG hltb)))
  have hxe : xiV ⟨x.k.extract 1 x.k.size, kname (byteN x.v 0).toNat, byteN x.v 1, byteN x.v 2 == 1, byteN x.v 3⟩ = xiV (xiOf x) := rfl
  rw [hxe] at HX
  clear hcb hr hG hx hxe
  generalize x.k.extract 1 x.k.size = nm at *
  generalize hy : xiOf x = y at *
  have HY := Lib.hid hy
  clear hy
  go_enter Tryz.func39, Tryz.ntmps39
  go_wp2_with fail
  refine HX.out.mono ?_
  rintro e w1 ⟨rfl, hb1⟩
  have hcb1 := (hb1.block cb hltb).trans H.out.1
  have c0 : w1.cell? ⟨cb, 0, none⟩ = some (.slice A L2.length c) := by unfold World.cell?; rw [hcb1]; rfl
  have z0 : w1.frozen? ⟨cb, 0, none⟩ = false := by unfold World.frozen?; rw [hcb1]; rfl
  have hlt1 : cb < w1.heap.size := by have := hb1.size; omega
  have HB := Lib.hid (And.intro hb1 hcb1)
  clear hb1 hcb1
  have hb9 : Below w1.heap.size w1 ((w1.alloc (xiO y)).alloc (xiO y)) := by go_grown
  have hr9 : xiRows ((w1.alloc (xiO y)).alloc (xiO y)) 0 (.slice A L2.length c) L2 := H.out.2.1.keep fun k hk => by
    have := (H.out.2.1.own hk).1
    exact (hb9.block k (by have := HB.out.1.size; omega)).trans (HB.out.1.block k this)
  have hx9 := xi5 (hnew (w1.alloc (xiO y)) (xiO y))
  simp only [World.size_alloc] at hx9
  have H9 := Lib.hid (And.intro hb9 (And.intro hr9 hx9))
  clear hb9 hr9 hx9
  go_wp2_with (at_builtin; refine wp_appxi rfl _ _ rfl 0 _ L2 rfl H9.out.2.1 y (w1.heap.size + 1) 1 rfl H9.out.2.2.1 H9.out.2.2.2.1 H9.out.2.2.2.2.1 H9.out.2.2.2.2.2.1 H9.out.2.2.2.2.2.2 (by omega) (Nat.zero_le _) ?_; intro g cap w8 hr8 hg8 hat; have hcb8 := xi_far H9.out.1 HB.out.2 HB.out.1 H.out.1 H.out.2.1 hg8; have c8 := cell0 hcb8; have z8 := froz0 hcb8; have H8 := Lib.hid (And.intro hr8 (And.intro hg8 (And.intro hat hcb8))); clear hr8 hg8 hat hcb8)
  exact Great.bodyPost_end0 rfl rfl ⟨rfl, xic_end HY.out HL2.out H8.out.2.2.2 H8.out.1 (Below.trans' H9.out.1 HB.out.1) H8.out.2.1 H8.out.2.2.1 H.out.1 H.out.2.1 H.out.2.2.1 (by first | rfl | simp) (by first | rfl | simp)⟩
theorem xic_clo (cb : Nat) : Clo 39 (.pointer (some ⟨cb, 0, none⟩)) (xOk) (xiInv cb) where
  enters := fun _ _ => by kernel_rfl
  own := fun l G w ⟨v, hcb, hr, hG⟩ k hk => by
    rcases (hG k).1 hk with rfl | e
    · exact (Array.getElem?_eq_some_iff.1 hcb).1
    · exact (hr.own e).1
  keep := fun l G w w' ⟨v, hcb, hr, hG⟩ e _ => ⟨v, (e cb ((hG cb).2 (.inl rfl))).trans hcb, hr.keep fun k hk => e k ((hG k).2 (.inr hk)), hG⟩
  does := fun l x G w h hx hl => xic_any h hx hl

set_option maxRecDepth 100000 in
set_option maxHeartbeats 2000000 in
theorem Indexes_any {bs : Nat} {B : Base bs} {w : World} {gb ba tb : Nat} {F : Nat → Prop} {R : Raw} {L : List KV} (h : CatIs B w gb ba tb F R L) (hok : ∀ x ∈ L, pre ⟨#[120]⟩ x = true → xOk x) :
    Calls Tryz.prog 14 #[.pointer (some ⟨gb, 0, none⟩)] w fun e w' => ∃ v i n, e = .returned v ∧ Span L 120 i n ∧ xiRows w' 0 v (((L.drop i).take n).map xiOf) ∧ (∀ k, v.ownBlock = some k → w.heap.size ≤ k) ∧
      ∃ F', CatIs B w' gb ba tb F' R L ∧ (∀ k, v.ownBlock = some k → ¬ F' k) ∧ (∀ k, k < w.heap.size → F' k → F k) ∧ Off F w w' := by
  have hb0 : Below w.heap.size w (w.alloc (.cells #[.slice none 0 0] 43)) := by go_grown
  have hnF : ¬ F w.heap.size := fun e => by have := h.act.1 _ e; omega
  have hlt := h.lt
  have HE := Lib.hid (each_any (h.below hb0) (xic_clo w.heap.size) (G := fun k => k = w.heap.size) (show xiInv w.heap.size [] _ _ from ⟨_, hnew w _, xiRows.nil _ _, fun k => by simp [Value.ownBlock]⟩) (fun k hk => by subst hk; exact ⟨hnF, by omega, by omega⟩) 120 hok)
  have H := Lib.hid (And.intro hb0 hnF)
  clear h hok hb0 hnF hlt
  go_enter Tryz.func14, Tryz.ntmps14
  go_wp2_with fail
  refine HE.out.mono ?_
  rintro e w2 ⟨rfl, i, n, G2, F2, hcut, hin, hp1, hp2, ⟨v, hcb, hr, hG⟩, hcat, hdis, hF2, hG2, ho⟩
  have c0 : w2.cell? ⟨w.heap.size, 0, none⟩ = some v := by unfold World.cell?; rw [hcb]; rfl
  have HF := Lib.hid (show Span L 120 i n ∧ xiRows w2 0 v (((L.drop i).take n).map xiOf) ∧ (∀ k, v.ownBlock = some k → w.heap.size ≤ k) ∧
      ∃ F', CatIs B w2 gb ba tb F' R L ∧ (∀ k, v.ownBlock = some k → ¬ F' k) ∧ (∀ k, k < w.heap.size → F' k → F k) ∧ Off F w w2 from by
    refine ⟨⟨hcut, hin, hp1, hp2⟩, hr, fun k hk => ?_, F2, hcat, fun k hk => (hdis k ((hG k).2 (.inr hk))).1, fun k hk e => hF2 k (by simp; omega) e, ?_⟩
    · by_cases hk' : k < w.heap.size
      · have := hG2 k (by simp; omega) ((hG k).2 (.inr hk))
        omega
      · omega
    · refine ⟨ho.os, ho.tape, ho.output, Nat.le_trans (by simp) ho.size, fun k hk hn => (ho.block k (by simp; omega) ?_).trans (H.out.1.block k hk)⟩
      rintro (e | e)
      · exact hn e
      · omega)
  clear hcut hin hp1 hp2 hcb hr hG hcat hdis hF2 hG2 ho HE
  go_wp2
  go_ret
  exact ⟨v, i, n, rfl, HF.out⟩
end Go.Proofs.YtddddjpmeegedaaGreat
