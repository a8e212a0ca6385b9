/- What lies beside what: worlds that differ in a footprint alone; maps by whole numbers, with values of whatever kind. -/
import Derived.Test.YtddddjpmeegedaaGreatChecked
import Derived.WalkKit
import Derived.WalkLawsBesides
import Derived.WalkSpells
import Derived.Outline
import Derived.Handy
import Derived.BigQuiet
import Derived.Deep.QuietTactic
import Derived.BigRegion
import Derived.Deep.Light
import Derived.Lib.Strings
import Derived.Lib.Hide
import Derived.Lib.ConvBytes
import Derived.Maps.Own
import Derived.Maps.OwnOps
import Derived.Maps.OwnSet
import Derived.Maps.Views
set_option linter.unusedVariables false
set_option linter.unusedSimpArgs false
namespace Go.Proofs.YtddddjpmeegedaaGreat
open Go.RowKit
open Go.Maps (Keyed)

/-- Outside F, of the blocks that were, the world w' is as w was. -/
structure Off (F : Nat → Prop) (w w' : World) : Prop where
  os : w'.os = w.os
  tape : w'.tape = w.tape
  output : w'.output = w.output
  size : w.heap.size ≤ w'.heap.size
  block : ∀ k, k < w.heap.size → ¬ F k → w'.heap[k]? = w.heap[k]?
theorem Off.refl (F : Nat → Prop) (w : World) : Off F w w := ⟨rfl, rfl, rfl, Nat.le_refl _, fun _ _ _ => rfl⟩
theorem Off.trans {F F' : Nat → Prop} {a b c : World} (h : Off F a b) (h' : Off F' b c) (hF : ∀ k, k < a.heap.size → F' k → F k) : Off F a c :=
  ⟨h'.os.trans h.os, h'.tape.trans h.tape, h'.output.trans h.output, Nat.le_trans h.size h'.size, fun k hk hn => (h'.block k (Nat.lt_of_lt_of_le hk h.size) fun e => hn (hF k hk e)).trans (h.block k hk hn)⟩
theorem Off.mono {F F' : Nat → Prop} {a b : World} (h : Off F a b) (hF : ∀ k, F k → F' k) : Off F' a b := ⟨h.os, h.tape, h.output, h.size, fun k hk hn => h.block k hk fun e => hn (hF k e)⟩
theorem Off.of_below {F : Nat → Prop} {w w' : World} (h : Below w.heap.size w w') : Off F w w' := ⟨h.os, h.tape, h.output, h.size, fun k hk _ => h.block k hk⟩
theorem Off.below {F : Nat → Prop} {B : Nat} {w w' : World} (h : Off F w w') (hF : ∀ k, F k → B ≤ k) (hB : B ≤ w.heap.size) : Below B w w' :=
  ⟨h.os, h.tape, h.output, h.size, fun k hk => h.block k (by omega) fun e => by have := hF k e; omega⟩
theorem Off.young {F : Nat → Prop} {w w1 w' : World} (h1 : Below w.heap.size w w1) (h : Off F w1 w') (hF : ∀ k, k < w.heap.size → ¬ F k) : Below w.heap.size w w' :=
  h1.trans ⟨h.os, h.tape, h.output, h.size, fun k hk => h.block k (Nat.lt_of_lt_of_le hk h1.size) (hF k hk)⟩
theorem Off.cell {F : Nat → Prop} {w w' : World} (h : Off F w w') {p : Addr} {v : Value} (hv : w.cell? p = some v) (hF : ¬ F p.block) : w'.cell? p = some v := by
  rw [World.cell?_of_block (h.block p.block (World.block_lt_of_cell? w p hv) hF)]
  exact hv

theorem ret_i {k : IntKind} {a b : Int} (h : a = b) : Ending.returned (.int k a) = .returned (.int k b) := by rw [h]

theorem ret_two {a a' b b' : Value} (h : a = a') (h' : b = b') : Ending.returned (.tuple #[a, b]) = .returned (.tuple #[a', b']) := by rw [h, h']

/-! ### maps by whole numbers -/

def anyE (v : Value) : Option (DataW Value × List MemPlace) := some (.held v, [])
/-- Block b is a map: what it holds. -/
def MapIs (w : World) (b : Nat) (f : Int → Option Value) : Prop :=
  ∃ (D : DataW Value) (L : List Int), w.ownsMap Tryz.prog 3 anyE b (Maps.size D) D ∧ Maps.Tidy D ∧ L.Nodup ∧ (∀ i, i ∈ L ↔ f i ≠ none) ∧ Maps.size D = L.length ∧
    (∀ i z, D.atKey (.int .i64 i) (.held z) = .held ((f i).getD z)) ∧ ∀ i, Maps.has D (.int .i64 i) = (f i).isSome
theorem lawI : Keyed Tryz.prog 3 := Maps.int_keyed Tryz.underlying3
theorem keyI {i : Int} (hi : (Lit.int .i64 i).wf = true) : keyOf Tryz.prog 3 (.int .i64 i) = some (.int .i64 i) := Maps.keyOf_int_mk Tryz.underlying3 hi
theorem wfI {i : Int} (h : -9223372036854775808 ≤ i ∧ i ≤ 9223372036854775807) : (Lit.int .i64 i).wf = true := by
  have e1 : IntKind.i64.min = -9223372036854775808 := by decide
  have e2 : IntKind.i64.max = 9223372036854775807 := by decide
  simp only [Lit.wf, e1, e2, Bool.and_eq_true, decide_eq_true_eq]
  exact h

theorem MapIs.lt {w : World} {b : Nat} {f : Int → Option Value} (h : MapIs w b f) : b < w.heap.size := by
  obtain ⟨D, L, h, _⟩ := h
  exact h.lt
theorem MapIs.keep {w w' : World} {b : Nat} {f : Int → Option Value} (h : MapIs w b f) (e : w'.heap[b]? = w.heap[b]?) : MapIs w' b f := by
  obtain ⟨D, L, ⟨es, clock, hb, r⟩, h'⟩ := h
  exact ⟨D, L, ⟨es, clock, e.trans hb, r⟩, h'⟩
theorem MapIs.made (w : World) : MapIs (w.alloc (.map #[] 0)) w.heap.size (fun _ => none) :=
  ⟨.map [], [], World.ownsMap_made _ _ _ _, Maps.tidy_empty, List.nodup_nil, by simp, rfl, fun i z => rfl, fun i => rfl⟩
theorem ownsMap_resize {w : World} {P : Program} {k : TypeId} {R : Value → Option (DataW Value × List MemPlace)} {b n : Nat} {D : DataW Value} (h : w.ownsMap P k R b n D) : w.ownsMap P k R b (Maps.size D) D := by
  obtain ⟨es, clock, hb, F, hs, rfl⟩ := h
  refine ⟨es, clock, hb, F, ?_, rfl⟩
  simp [Maps.size, length_sorted]

theorem MapIs.look {w : World} {b : Nat} {f : Int → Option Value} (h : MapIs w b f) {t e : TypeId} (ht : Tryz.prog.underlying t = some (.map 3 e)) {z : Value} (hz : (zeroValue e).run Tryz.prog w = .ok z w) {i : Int} (hi : (Lit.int .i64 i).wf = true) :
    (Instr.lookup t (.map (some b)) (.int .i64 i) false).run Tryz.prog w = .ok ((f i).getD z) w := by
  obtain ⟨D, L, ho, _, _, _, _, hat, _⟩ := h
  obtain ⟨v, ps, hrun, hv⟩ := ho.lookup lawI ht hz (zd := .held z) (zp := []) rfl (keyI hi)
  rw [hat] at hv
  simp only [anyE, Option.some.injEq, Prod.mk.injEq, DataW.held.injEq] at hv
  rw [hrun, hv.1]
theorem MapIs.look_ok {w : World} {b : Nat} {f : Int → Option Value} (h : MapIs w b f) {t e : TypeId} (ht : Tryz.prog.underlying t = some (.map 3 e)) {z : Value} (hz : (zeroValue e).run Tryz.prog w = .ok z w) {i : Int} (hi : (Lit.int .i64 i).wf = true) :
    (Instr.lookup t (.map (some b)) (.int .i64 i) true).run Tryz.prog w = .ok (.tuple #[(f i).getD z, .bool (f i).isSome]) w := by
  obtain ⟨D, L, ho, _, _, _, _, hat, hhas⟩ := h
  obtain ⟨v, ps, hrun, hv⟩ := ho.look_ok lawI ht hz (zd := .held z) (zp := []) rfl (keyI hi)
  rw [hat] at hv
  simp only [anyE, Option.some.injEq, Prod.mk.injEq, DataW.held.injEq] at hv
  rw [hrun, hv.1, hhas]

theorem nodup_short : ∀ (n : Nat) (L : List Int), L.Nodup → (∀ i ∈ L, 0 ≤ i ∧ i < n) → L.length ≤ n
  | 0, L, _, h => by
    cases L with
    | nil => simp
    | cons x l => have := h x List.mem_cons_self; omega
  | n + 1, L, hn, h => by
    have ih := nodup_short n (L.erase (n : Int)) (hn.erase _) (fun i hi => by
      have h1 := h i (List.mem_of_mem_erase hi)
      have h2 : i ≠ (n : Int) := ((List.Nodup.mem_erase_iff hn).1 hi).1
      omega)
    by_cases hm : (n : Int) ∈ L
    · rw [List.length_erase_of_mem hm] at ih; omega
    · rw [List.erase_of_not_mem hm] at ih; omega

theorem MapIs.set {w : World} {b : Nat} {f : Int → Option Value} (h : MapIs w b f) (hf : ∀ i, f i ≠ none → 0 ≤ i ∧ i < 65536) {t e : TypeId} (ht : Tryz.prog.underlying t = some (.map 3 e)) {i : Int} (hi : (Lit.int .i64 i).wf = true) (v : Value) :
    ∃ w', (Instr.mapUpdate t (.map (some b)) (.int .i64 i) v).run Tryz.prog w = .ok () w' ∧ MapIs w' b (fun j => if j = i then some v else f j) ∧ Off (· = b) w w' ∧ w'.heap.size = w.heap.size := by
  obtain ⟨D, L, ho, ht', hn, hL, hs, hat, hhas⟩ := h
  have hlen := nodup_short 65536 L hn (fun j hj => hf j ((hL j).1 hj))
  obtain ⟨w', hrun, ho', hturn⟩ := ho.store lawI ht (by unfold maxLen; omega) (keyI hi) (val := v) (d := .held v) (ps := []) rfl
  have hk : WideAt.IsKeyLit (.int .i64 i) := lawI.key (keyI hi)
  refine ⟨w', hrun, ⟨D.put (.int .i64 i) (.held v), if f i = none then i :: L else L, ownsMap_resize ho', ht'.put hk _, ?_, ?_, ?_, ?_, ?_⟩, ?_, ?_⟩
  · by_cases h0 : f i = none
    · rw [if_pos h0]
      exact List.nodup_cons.2 ⟨fun hm => (hL i).1 hm h0, hn⟩
    · rw [if_neg h0]; exact hn
  · intro j
    by_cases e : j = i
    · subst e
      by_cases h0 : f j = none
      · simp [h0]
      · simp [h0, hL]
    · by_cases h0 : f i = none
      · simp [h0, e, hL]
      · simp [h0, e, hL]
  · rw [Maps.size_put ht', hhas, hs]
    by_cases h0 : f i = none
    · simp [h0]
    · have : (f i).isSome = true := by
        cases hh : f i with
        | none => exact absurd hh h0
        | some _ => rfl
      simp [h0, this]
  · intro j z
    by_cases e : j = i
    · subst e
      rw [Maps.atKey_put_same ht'.isMap hk]; simp
    · rw [Maps.atKey_put_other (fun h => e (by cases h; rfl)), hat]; simp [e]
  · intro j
    by_cases e : j = i
    · subst e
      rw [Maps.has_put_same ht'.isMap hk]; simp
    · rw [Maps.has_put_other (fun h => e (by cases h; rfl)), hhas]; simp [e]
  · have hg := hturn.grown
    exact ⟨hg.os, hg.tape, hg.output, hg.size, fun k hk hne => hg.block k hk (fun e => hne (by simpa using e))⟩
  · obtain ⟨es, clock, es', clock', _, rfl⟩ := hturn
    simp [ChangeMaps.setBlock]
theorem MapIs.del {w : World} {b : Nat} {f : Int → Option Value} (h : MapIs w b f) {t e : TypeId} (ht : Tryz.prog.underlying t = some (.map 3 e)) {i : Int} (hi : (Lit.int .i64 i).wf = true) (ty : TypeId) :
    ∃ w', (Builtin.delete_ #[t, 3] ty #[.map (some b), .int .i64 i]).run Tryz.prog w = .ok (.tuple #[]) w' ∧ MapIs w' b (fun j => if j = i then none else f j) ∧ Off (· = b) w w' ∧ w'.heap.size = w.heap.size := by
  obtain ⟨D, L, ho, ht', hn, hL, hs, hat, hhas⟩ := h
  obtain ⟨w', hrun, ho', hturn⟩ := ho.drop lawI ht (keyI hi) ty
  have hk : WideAt.IsKeyLit (.int .i64 i) := lawI.key (keyI hi)
  refine ⟨w', hrun, ⟨D.del (.int .i64 i), L.erase i, ownsMap_resize ho', ht'.del _, hn.erase _, ?_, ?_, ?_, ?_⟩, ?_, ?_⟩
  · intro j
    rw [List.Nodup.mem_erase_iff hn, hL]
    by_cases e : j = i <;> simp [e]
  · have := Maps.size_del ht' (k := .int .i64 i)
    rw [hhas, hs] at this
    by_cases h0 : f i = none
    · rw [List.erase_of_not_mem (fun hm => (hL i).1 hm h0)]
      simp [h0] at this
      exact this
    · have h1 : (f i).isSome = true := by
        cases hh : f i with
        | none => exact absurd hh h0
        | some _ => rfl
      rw [List.length_erase_of_mem ((hL i).2 h0)]
      simp [h1] at this
      omega
  · intro j z
    by_cases e : j = i
    · subst e
      rw [Maps.atKey_del_same]; simp
    · rw [Maps.atKey_del_other (fun h => e (by cases h; rfl)), hat]; simp [e]
  · intro j
    by_cases e : j = i
    · subst e
      rw [Maps.has_del_same]; simp
    · rw [Maps.has_del_other (fun h => e (by cases h; rfl)), hhas]; simp [e]
  · have hg := hturn.grown
    exact ⟨hg.os, hg.tape, hg.output, hg.size, fun k hk hne => hg.block k hk (fun e => hne (by simpa using e))⟩
  · obtain ⟨es, clock, es', clock', _, rfl⟩ := hturn
    simp [ChangeMaps.setBlock]
end Go.Proofs.YtddddjpmeegedaaGreat
