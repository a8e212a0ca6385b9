/- CatalogPlays: what holds while the loop goes. -/
import Derived.Test.YtiakepcgalmjfaaGreatQ25
set_option linter.unusedVariables false
set_option linter.unusedSimpArgs false
namespace Go.Proofs.YtiakepcgalmjfaaGreat
open Go.RowKit

/-- Calls that came in. -/
def OpsIs (w : World) (o : Option Addr) (l : List (Int × Xi)) : Prop :=
  l = [] ∨ ∃ b off, o = some ⟨b, off, none⟩ ∧ ∀ i (h : i < l.length),
    w.cell? ⟨b, off + i * 6, none⟩ = some (.int .i64 l[i].1) ∧ w.cell? ⟨b, off + i * 6 + 1, none⟩ = some (.string l[i].2.name) ∧ w.cell? ⟨b, off + i * 6 + 2, none⟩ = some (.string l[i].2.meth) ∧
    w.cell? ⟨b, off + i * 6 + 3, none⟩ = some (.int .i64 l[i].2.col) ∧ w.cell? ⟨b, off + i * 6 + 4, none⟩ = some (.bool l[i].2.uniq) ∧ w.cell? ⟨b, off + i * 6 + 5, none⟩ = some (.int .i64 l[i].2.state) ∧ l[i].2.name.size ≤ 9223372036854775807
theorem OpsIs.at_ {w wr : World} {o : Option Addr} {l : List (Int × Xi)} (h : OpsIs w o l) (hb : Below w.heap.size w wr) (i : Nat) (hi : i < l.length) : ∃ b off, o = some ⟨b, off, none⟩ ∧
    wr.cell? ⟨b, off + i * 6, none⟩ = some (.int .i64 l[i].1) ∧ wr.cell? ⟨b, off + i * 6 + 1, none⟩ = some (.string l[i].2.name) ∧ wr.cell? ⟨b, off + i * 6 + 2, none⟩ = some (.string l[i].2.meth) ∧
    wr.cell? ⟨b, off + i * 6 + 3, none⟩ = some (.int .i64 l[i].2.col) ∧ wr.cell? ⟨b, off + i * 6 + 4, none⟩ = some (.bool l[i].2.uniq) ∧ wr.cell? ⟨b, off + i * 6 + 5, none⟩ = some (.int .i64 l[i].2.state) ∧ l[i].2.name.size ≤ 9223372036854775807 := by
  rcases h with h | ⟨b, off, ha, h⟩
  · subst h; simp at hi
  · obtain ⟨h0, h1, h2, h3, h4, h5, h6⟩ := h i hi
    exact ⟨b, off, ha, (hb.cell (World.block_lt_of_cell? w _ h0)).trans h0, (hb.cell (World.block_lt_of_cell? w _ h1)).trans h1, (hb.cell (World.block_lt_of_cell? w _ h2)).trans h2, (hb.cell (World.block_lt_of_cell? w _ h3)).trans h3, (hb.cell (World.block_lt_of_cell? w _ h4)).trans h4, (hb.cell (World.block_lt_of_cell? w _ h5)).trans h5, h6⟩
/-- While the loop goes. -/
structure Lp {bs : Nat} (B : Base bs) (w wi : World) (gb ba tb : Nat) (cols : List Co) (A : Option Addr) (l : List Xi) (X : List KV) (F : Nat → Prop) (R : Raw) : Prop where
  pl : Pl B wi gb ba tb F cols X R
  lo : ∀ k, F k → w.heap.size ≤ k
  size : w.heap.size ≤ wi.heap.size
  bel : Below w.heap.size w wi
  eq : X.map xiOf = l
  li : Li wi F A l
section
variable {bs : Nat} {B : Base bs} {w wi wj : World} {gb ba tb : Nat} {F Fi : Nat → Prop} {cols : List Co} {x : Xi} {ac A : Option Addr} {l : List Xi} {X : List KV} {R : Raw}
theorem Lp.below (h : Lp B w wi gb ba tb cols A l X F R) (hb : Below wi.heap.size wi wj) : Lp B w wj gb ba tb cols A l X F R :=
  ⟨h.pl.below hb, h.lo, Nat.le_trans h.size hb.size, Below.trans' hb h.bel, h.eq, h.li.below hb⟩
theorem Lp.step (h : Lp B w wi gb ba tb cols A l X F R) (hs : PlS B gb ba tb wi F cols X wj) : ∃ Fj Rj, Lp B w wj gb ba tb cols A l X Fj Rj := by
  obtain ⟨Fj, Rj, hp, hF, ho⟩ := hs
  obtain ⟨h1, h2, h3⟩ := young_step h.lo h.size h.bel hF ho
  exact ⟨Fj, Rj, hp, h1, h2, h3, h.eq, h.li.off ho hF⟩
theorem Lp.does (h : Lp B w wi gb ba tb cols A l X F R) {e : Ending} (hd : DoesP B wi gb ba tb F cols e wj) : ∃ A' c' l' X' Fj Rj, e = .returned (.tuple #[.slice A' l'.length c', .bool true]) ∧ Lp B w wj gb ba tb cols A' l' X' Fj Rj := by
  obtain ⟨A', c', X', F', R', he, hp, hF, ho, hl⟩ := hd
  obtain ⟨h1, h2, h3⟩ := young_step h.lo h.size h.bel hF ho
  exact ⟨A', c', _, X', F', R', he, hp, h1, h2, h3, rfl, hl⟩
theorem Lp.par (h : Lp B w wi gb ba tb cols A l X F R) (hc : ColIs w ac cols) (hcb : ∀ b off, ac = some ⟨b, off, none⟩ → b < w.heap.size) : ColIs wi ac cols ∧ ∀ b off, ac = some ⟨b, off, none⟩ → ¬ F b :=
  ⟨hc.below h.bel, fun b off e hF => by have := hcb b off e; have := h.lo b hF; omega⟩
theorem Lp.len (h : Lp B w wi gb ba tb cols A l X F R) : l.length ≤ 6 := by
  rw [← h.eq, List.length_map]
  exact h.pl.ok.six
end
end Go.Proofs.YtiakepcgalmjfaaGreat
