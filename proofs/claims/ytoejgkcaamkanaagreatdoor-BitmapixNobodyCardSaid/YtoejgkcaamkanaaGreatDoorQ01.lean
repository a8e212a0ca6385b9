/- What lies beside what: worlds that differ in a footprint alone; maps by whole numbers, with values of whatever kind. A list of bytes that a call of its own has made, and appending to it. Pages: rows of 512 bytes, written from texts. Numbers: bits and bytes. Numbers of four bytes. -/
import Derived.Test.YtoejgkcaamkanaaGreatDoorChecked
import Derived.WalkKit
import Derived.WalkLawsBesides
import Derived.WalkSpells
import Derived.Outline
import Derived.Handy
import Derived.BigQuiet
import Derived.Deep.QuietTactic
import Derived.BigRegion
import Derived.Deep.Light
import Derived.Lib.Strings
import Derived.Lib.Hide
import Derived.Lib.ConvBytes
import Derived.Maps.Own
import Derived.Maps.OwnOps
import Derived.Maps.OwnSet
import Derived.Maps.Views
import Derived.Lib.AppendStr
import Derived.Lib.UnsafeStr
import Derived.Laws.BytesArg
import Derived.Laws.OwnMore
import Derived.Laws.CopyOwn
import Derived.Test.YtoejgkcaamkanaaGreatDoorShelf
import Derived.Laws.BitsAllLaws
import Derived.Laws.Bits64
import Derived.RowKit
import Derived.Laws.BitsLemmas
set_option linter.unusedVariables false
set_option linter.unusedSimpArgs false
namespace Go.Proofs.YtoejgkcaamkanaaGreatDoor
open Go.RowKit
open Go.Maps (Keyed)

/-- Outside F, of the blocks that were, the world w' is as w was. -/
structure Off (F : Nat → Prop) (w w' : World) : Prop where
  os : w'.os = w.os
  tape : w'.tape = w.tape
  output : w'.output = w.output
  size : w.heap.size ≤ w'.heap.size
  block : ∀ k, k < w.heap.size → ¬ F k → w'.heap[k]? = w.heap[k]?
theorem Off.refl (F : Nat → Prop) (w : World) : Off F w w := ⟨rfl, rfl, rfl, Nat.le_refl _, fun _ _ _ => rfl⟩
theorem Off.trans {F F' : Nat → Prop} {a b c : World} (h : Off F a b) (h' : Off F' b c) (hF : ∀ k, k < a.heap.size → F' k → F k) : Off F a c :=
  ⟨h'.os.trans h.os, h'.tape.trans h.tape, h'.output.trans h.output, Nat.le_trans h.size h'.size, fun k hk hn => (h'.block k (Nat.lt_of_lt_of_le hk h.size) fun e => hn (hF k hk e)).trans (h.block k hk hn)⟩
theorem Off.mono {F F' : Nat → Prop} {a b : World} (h : Off F a b) (hF : ∀ k, F k → F' k) : Off F' a b := ⟨h.os, h.tape, h.output, h.size, fun k hk hn => h.block k hk fun e => hn (hF k e)⟩
theorem Off.of_below {F : Nat → Prop} {w w' : World} (h : Below w.heap.size w w') : Off F w w' := ⟨h.os, h.tape, h.output, h.size, fun k hk _ => h.block k hk⟩
theorem Off.below {F : Nat → Prop} {B : Nat} {w w' : World} (h : Off F w w') (hF : ∀ k, F k → B ≤ k) (hB : B ≤ w.heap.size) : Below B w w' :=
  ⟨h.os, h.tape, h.output, h.size, fun k hk => h.block k (by omega) fun e => by have := hF k e; omega⟩
theorem Off.young {F : Nat → Prop} {w w1 w' : World} (h1 : Below w.heap.size w w1) (h : Off F w1 w') (hF : ∀ k, k < w.heap.size → ¬ F k) : Below w.heap.size w w' :=
  h1.trans ⟨h.os, h.tape, h.output, h.size, fun k hk => h.block k (Nat.lt_of_lt_of_le hk h1.size) (hF k hk)⟩
theorem Off.cell {F : Nat → Prop} {w w' : World} (h : Off F w w') {p : Addr} {v : Value} (hv : w.cell? p = some v) (hF : ¬ F p.block) : w'.cell? p = some v := by
  rw [World.cell?_of_block (h.block p.block (World.block_lt_of_cell? w p hv) hF)]
  exact hv

theorem ret_i {k : IntKind} {a b : Int} (h : a = b) : Ending.returned (.int k a) = .returned (.int k b) := by rw [h]

theorem ret_two {a a' b b' : Value} (h : a = a') (h' : b = b') : Ending.returned (.tuple #[a, b]) = .returned (.tuple #[a', b']) := by rw [h, h']

/-! ### maps by whole numbers -/

def anyE (v : Value) : Option (DataW Value × List MemPlace) := some (.held v, [])
/-- Block b is a map: what it holds. -/
def MapIs (w : World) (b : Nat) (f : Int → Option Value) : Prop :=
  ∃ (D : DataW Value) (L : List Int), w.ownsMap Tryz.prog 3 anyE b (Maps.size D) D ∧ Maps.Tidy D ∧ L.Nodup ∧ (∀ i, i ∈ L ↔ f i ≠ none) ∧ Maps.size D = L.length ∧
    (∀ i z, D.atKey (.int .i64 i) (.held z) = .held ((f i).getD z)) ∧ ∀ i, Maps.has D (.int .i64 i) = (f i).isSome
theorem lawI : Keyed Tryz.prog 3 := Maps.int_keyed Tryz.underlying3
theorem keyI {i : Int} (hi : (Lit.int .i64 i).wf = true) : keyOf Tryz.prog 3 (.int .i64 i) = some (.int .i64 i) := Maps.keyOf_int_mk Tryz.underlying3 hi
theorem wfI {i : Int} (h : -9223372036854775808 ≤ i ∧ i ≤ 9223372036854775807) : (Lit.int .i64 i).wf = true := by
  have e1 : IntKind.i64.min = -9223372036854775808 := by decide
  have e2 : IntKind.i64.max = 9223372036854775807 := by decide
  simp only [Lit.wf, e1, e2, Bool.and_eq_true, decide_eq_true_eq]
  exact h

theorem MapIs.lt {w : World} {b : Nat} {f : Int → Option Value} (h : MapIs w b f) : b < w.heap.size := by
  obtain ⟨D, L, h, _⟩ := h
  exact h.lt
theorem MapIs.keep {w w' : World} {b : Nat} {f : Int → Option Value} (h : MapIs w b f) (e : w'.heap[b]? = w.heap[b]?) : MapIs w' b f := by
  obtain ⟨D, L, ⟨es, clock, hb, r⟩, h'⟩ := h
  exact ⟨D, L, ⟨es, clock, e.trans hb, r⟩, h'⟩
theorem MapIs.made (w : World) : MapIs (w.alloc (.map #[] 0)) w.heap.size (fun _ => none) :=
  ⟨.map [], [], World.ownsMap_made _ _ _ _, Maps.tidy_empty, List.nodup_nil, by simp, rfl, fun i z => rfl, fun i => rfl⟩
theorem ownsMap_resize {w : World} {P : Program} {k : TypeId} {R : Value → Option (DataW Value × List MemPlace)} {b n : Nat} {D : DataW Value} (h : w.ownsMap P k R b n D) : w.ownsMap P k R b (Maps.size D) D := by
  obtain ⟨es, clock, hb, F, hs, rfl⟩ := h
  refine ⟨es, clock, hb, F, ?_, rfl⟩
  simp [Maps.size, length_sorted]

theorem MapIs.look {w : World} {b : Nat} {f : Int → Option Value} (h : MapIs w b f) {t e : TypeId} (ht : Tryz.prog.underlying t = some (.map 3 e)) {z : Value} (hz : (zeroValue e).run Tryz.prog w = .ok z w) {i : Int} (hi : (Lit.int .i64 i).wf = true) :
    (Instr.lookup t (.map (some b)) (.int .i64 i) false).run Tryz.prog w = .ok ((f i).getD z) w := by
  obtain ⟨D, L, ho, _, _, _, _, hat, _⟩ := h
  obtain ⟨v, ps, hrun, hv⟩ := ho.lookup lawI ht hz (zd := .held z) (zp := []) rfl (keyI hi)
  rw [hat] at hv
  simp only [anyE, Option.some.injEq, Prod.mk.injEq, DataW.held.injEq] at hv
  rw [hrun, hv.1]
theorem MapIs.look_ok {w : World} {b : Nat} {f : Int → Option Value} (h : MapIs w b f) {t e : TypeId} (ht : Tryz.prog.underlying t = some (.map 3 e)) {z : Value} (hz : (zeroValue e).run Tryz.prog w = .ok z w) {i : Int} (hi : (Lit.int .i64 i).wf = true) :
    (Instr.lookup t (.map (some b)) (.int .i64 i) true).run Tryz.prog w = .ok (.tuple #[(f i).getD z, .bool (f i).isSome]) w := by
  obtain ⟨D, L, ho, _, _, _, _, hat, hhas⟩ := h
  obtain ⟨v, ps, hrun, hv⟩ := ho.look_ok lawI ht hz (zd := .held z) (zp := []) rfl (keyI hi)
  rw [hat] at hv
  simp only [anyE, Option.some.injEq, Prod.mk.injEq, DataW.held.injEq] at hv
  rw [hrun, hv.1, hhas]

theorem nodup_short : ∀ (n : Nat) (L : List Int), L.Nodup → (∀ i ∈ L, 0 ≤ i ∧ i < n) → L.length ≤ n
  | 0, L, _, h => by
    cases L with
    | nil => simp
    | cons x l => have := h x List.mem_cons_self; omega
  | n + 1, L, hn, h => by
    have ih := nodup_short n (L.erase (n : Int)) (hn.erase _) (fun i hi => by
      have h1 := h i (List.mem_of_mem_erase hi)
      have h2 : i ≠ (n : Int) := ((List.Nodup.mem_erase_iff hn).1 hi).1
      omega)
    by_cases hm : (n : Int) ∈ L
    · rw [List.length_erase_of_mem hm] at ih; omega
    · rw [List.erase_of_not_mem hm] at ih; omega

theorem MapIs.set {w : World} {b : Nat} {f : Int → Option Value} (h : MapIs w b f) (hf : ∀ i, f i ≠ none → 0 ≤ i ∧ i < 65536) {t e : TypeId} (ht : Tryz.prog.underlying t = some (.map 3 e)) {i : Int} (hi : (Lit.int .i64 i).wf = true) (v : Value) :
    ∃ w', (Instr.mapUpdate t (.map (some b)) (.int .i64 i) v).run Tryz.prog w = .ok () w' ∧ MapIs w' b (fun j => if j = i then some v else f j) ∧ Off (· = b) w w' ∧ w'.heap.size = w.heap.size := by
  obtain ⟨D, L, ho, ht', hn, hL, hs, hat, hhas⟩ := h
  have hlen := nodup_short 65536 L hn (fun j hj => hf j ((hL j).1 hj))
  obtain ⟨w', hrun, ho', hturn⟩ := ho.store lawI ht (by unfold maxLen; omega) (keyI hi) (val := v) (d := .held v) (ps := []) rfl
  have hk : WideAt.IsKeyLit (.int .i64 i) := lawI.key (keyI hi)
  refine ⟨w', hrun, ⟨D.put (.int .i64 i) (.held v), if f i = none then i :: L else L, ownsMap_resize ho', ht'.put hk _, ?_, ?_, ?_, ?_, ?_⟩, ?_, ?_⟩
  · by_cases h0 : f i = none
    · rw [if_pos h0]
      exact List.nodup_cons.2 ⟨fun hm => (hL i).1 hm h0, hn⟩
    · rw [if_neg h0]; exact hn
  · intro j
    by_cases e : j = i
    · subst e
      by_cases h0 : f j = none
      · simp [h0]
      · simp [h0, hL]
    · by_cases h0 : f i = none
      · simp [h0, e, hL]
      · simp [h0, e, hL]
  · rw [Maps.size_put ht', hhas, hs]
    by_cases h0 : f i = none
    · simp [h0]
    · have : (f i).isSome = true := by
        cases hh : f i with
        | none => exact absurd hh h0
        | some _ => rfl
      simp [h0, this]
  · intro j z
    by_cases e : j = i
    · subst e
      rw [Maps.atKey_put_same ht'.isMap hk]; simp
    · rw [Maps.atKey_put_other (fun h => e (by cases h; rfl)), hat]; simp [e]
  · intro j
    by_cases e : j = i
    · subst e
      rw [Maps.has_put_same ht'.isMap hk]; simp
    · rw [Maps.has_put_other (fun h => e (by cases h; rfl)), hhas]; simp [e]
  · have hg := hturn.grown
    exact ⟨hg.os, hg.tape, hg.output, hg.size, fun k hk hne => hg.block k hk (fun e => hne (by simpa using e))⟩
  · obtain ⟨es, clock, es', clock', _, rfl⟩ := hturn
    simp [ChangeMaps.setBlock]
theorem MapIs.del {w : World} {b : Nat} {f : Int → Option Value} (h : MapIs w b f) {t e : TypeId} (ht : Tryz.prog.underlying t = some (.map 3 e)) {i : Int} (hi : (Lit.int .i64 i).wf = true) (ty : TypeId) :
    ∃ w', (Builtin.delete_ #[t, 3] ty #[.map (some b), .int .i64 i]).run Tryz.prog w = .ok (.tuple #[]) w' ∧ MapIs w' b (fun j => if j = i then none else f j) ∧ Off (· = b) w w' ∧ w'.heap.size = w.heap.size := by
  obtain ⟨D, L, ho, ht', hn, hL, hs, hat, hhas⟩ := h
  obtain ⟨w', hrun, ho', hturn⟩ := ho.drop lawI ht (keyI hi) ty
  have hk : WideAt.IsKeyLit (.int .i64 i) := lawI.key (keyI hi)
  refine ⟨w', hrun, ⟨D.del (.int .i64 i), L.erase i, ownsMap_resize ho', ht'.del _, hn.erase _, ?_, ?_, ?_, ?_⟩, ?_, ?_⟩
  · intro j
    rw [List.Nodup.mem_erase_iff hn, hL]
    by_cases e : j = i <;> simp [e]
  · have := Maps.size_del ht' (k := .int .i64 i)
    rw [hhas, hs] at this
    by_cases h0 : f i = none
    · rw [List.erase_of_not_mem (fun hm => (hL i).1 hm h0)]
      simp [h0] at this
      exact this
    · have h1 : (f i).isSome = true := by
        cases hh : f i with
        | none => exact absurd hh h0
        | some _ => rfl
      rw [List.length_erase_of_mem ((hL i).2 h0)]
      simp [h1] at this
      omega
  · intro j z
    by_cases e : j = i
    · subst e
      rw [Maps.atKey_del_same]; simp
    · rw [Maps.atKey_del_other (fun h => e (by cases h; rfl)), hat]; simp [e]
  · intro j
    by_cases e : j = i
    · subst e
      rw [Maps.has_del_same]; simp
    · rw [Maps.has_del_other (fun h => e (by cases h; rfl)), hhas]; simp [e]
  · have hg := hturn.grown
    exact ⟨hg.os, hg.tape, hg.output, hg.size, fun k hk hne => hg.block k hk (fun e => hne (by simpa using e))⟩
  · obtain ⟨es, clock, es', clock', _, rfl⟩ := hturn
    simp [ChangeMaps.setBlock]
end Go.Proofs.YtoejgkcaamkanaaGreatDoor

namespace Go.Proofs.YtoejgkcaamkanaaGreatDoor
open Go.RowKit

theorem info_u8 : (Tryz.prog.info? 5).map (fun i => (i.zero, i.size, i.bytes)) = some (some (.int .u8 0), 1, 1) := by kernel_rfl

/-- v owns just the bytes l, in a row from block B on (or is nil). -/
def Buf (w : World) (B : Nat) (v : Value) (l : List UInt8) : Prop := w.ownsRow B 5 1 v l.length (Lib.byteCells l)

theorem Buf.nil (w : World) (B : Nat) : Buf w B (.slice none 0 0) [] := World.ownsRow_nil _ _ _ _

theorem Buf.alloc {w : World} {B : Nat} {v : Value} {l : List UInt8} (h : Buf w B v l) (o : Obj) : Buf (w.alloc o) B v l := World.ownsRow.alloc h o

theorem Buf.drew {w : World} {B : Nat} {v : Value} {l : List UInt8} (h : Buf w B v l) : Buf w.drew B v l := World.ownsRow.drew h

theorem Buf.later {w w1 : World} {B : Nat} {v : Value} {l : List UInt8} (h : Buf w B v l) (hb : Below w.heap.size w w1) : Buf w1 B v l :=
  World.ownsRow.kept h (row := none) ⟨hb.os, hb.tape, hb.output, hb.size, fun i hi _ => hb.block i hi⟩ (by cases v.ownBlock <;> simp)

theorem Buf.slice {w : World} {B : Nat} {v : Value} {l : List UInt8} (h : Buf w B v l) : ∃ A c, v = .slice A l.length c := by
  rcases h.2 with ⟨rfl, h0⟩ | ⟨g, cap, cur, rfl, _⟩
  · rw [h0]; exact ⟨none, 0, rfl⟩
  · exact ⟨_, cap, rfl⟩

/-- What is written is the row's own block or new: below B all stands. -/
theorem Buf.below {w w1 : World} {B : Nat} {v : Value} {l : List UInt8} (h : Buf w B v l) (hB : B ≤ w.heap.size) (hg : w.grownBy w1 v.ownBlock) : Below B w w1 :=
  (Below.refl B w).grown hg hB fun k hk => by
    rcases h.2 with ⟨rfl, _⟩ | ⟨g, cap, cur, rfl, hb, _⟩
    · simp [Value.ownBlock] at hk
    · have : g = k := by simpa [Value.ownBlock] using hk
      omega

theorem byteCells_one (b : UInt8) : Lib.byteCells [b] = [.int .u8 b.toNat] := rfl

theorem byteCells_oneCell (l : List UInt8) : ∀ u ∈ Lib.byteCells l, u.oneCell' = true := by
  intro u hu
  simp only [Lib.byteCells, List.mem_map] at hu
  obtain ⟨b, _, rfl⟩ := hu
  rfl

theorem byteCells_append (l m : List UInt8) : Lib.byteCells (l ++ m) = Lib.byteCells l ++ Lib.byteCells m := by simp [Lib.byteCells]
theorem byteCells_length (l : List UInt8) : (Lib.byteCells l).length = l.length := by simp [Lib.byteCells]

/-- append of bytes that lie at an address. -/
theorem wp_appB {ops : Array Oper} {rest : List Oper} {o : Oper} {a : Act} {Q : Exit → Act → World → Prop} {w : World} (hgd : o.guard = none) (s x : Operand)
    (ho : o.op = .call { callee := .builtin .append, args := #[s, x], argTypes := #[84, 84] })
    (B : Nat) (v : Value) (l : List UInt8) (hs : a.eval s = v) (hb : Buf w B v l) (ad : Addr) (m c : Nat) (new : List UInt8) (hx : a.eval x = .slice (some ad) m c) (hm : new.length = m)
    (hnew : ∀ j u, (Lib.byteCells new)[j]? = some u → w.cell? (ad.add j) = some u) (hlen : l.length + new.length ≤ 70368744177664) (hB : B ≤ w.heap.size)
    (h : ∀ v' w', Buf w' B v' (l ++ new) → Below B w w' → w.grownBy w' v.ownBlock → wpList Tryz.prog ops Q rest (a.put o.dst v') w') : wpList Tryz.prog ops Q (o :: rest) a w := by
  obtain ⟨i0, hi, hz0, hz1, hz2⟩ := info_parts info_u8
  subst hm
  refine wpList_append_own w hgd s x 84 ho B 5 i0 (.int .u8 0) 1 1 Tryz.underlying84 hi hz0 hz1 hz2 rfl (by decide) v l.length (Lib.byteCells l) hs hb ad new.length c (Lib.byteCells new) hx (by simp [byteCells_length]) hnew (byteCells_oneCell _) (by unfold maxLen; omega) (by omega) hB ?_
  intro v' w' hown hg _
  exact h v' w' (by unfold Buf; rw [List.length_append, byteCells_append]; exact hown) (hb.below hB hg) hg

/-- append of bytes that lie at an address, in a region that draws its order. -/
theorem step_appB {ops : Array Oper} {o : Oper} {a : Act} {K : Act → World → Prop} {Q : Exit → Act → World → Prop} {E : Prop} {w : World} (hgd : o.guard = none) (s x : Operand)
    (ho : o.op = .call { callee := .builtin .append, args := #[s, x], argTypes := #[84, 84] })
    (B : Nat) (v : Value) (l : List UInt8) (hs : a.eval s = v) (hb : Buf w B v l) (ad : Addr) (m c : Nat) (new : List UInt8) (hx : a.eval x = .slice (some ad) m c) (hm : new.length = m)
    (hnew : ∀ j u, (Lib.byteCells new)[j]? = some u → w.cell? (ad.add j) = some u) (hlen : l.length + new.length ≤ 70368744177664) (hB : B ≤ w.heap.size)
    (h : ∀ v' w', Buf w' B v' (l ++ new) → Below B w w' → w.grownBy w' v.ownBlock → K (a.put o.dst v') w') : if Region.wanted o (yielded ops a.tmps) = true then Oper.wp Tryz.prog o a w K Q else E := by
  have hw : Region.wanted o (yielded ops a.tmps) = true := by simp [Region.wanted, hgd]
  rw [if_pos hw]
  obtain ⟨i0, hi, hz0, hz1, hz2⟩ := info_parts info_u8
  subst hm
  refine wp_append_own w s x 84 ho B 5 i0 (.int .u8 0) 1 1 Tryz.underlying84 hi hz0 hz1 hz2 rfl (by decide) v l.length (Lib.byteCells l) hs hb ad new.length c (Lib.byteCells new) hx (by simp [byteCells_length]) hnew (byteCells_oneCell _) (by unfold maxLen; omega) (by omega) hB ?_
  intro v' w' hown hg _
  exact h v' w' (by unfold Buf; rw [List.length_append, byteCells_append]; exact hown) (hb.below hB hg) hg

theorem grown_alloc {W w' : World} {o : Obj} {r : Option Nat} (h : (W.alloc o).grownBy w' r) : W.grownBy w' r := by
  obtain ⟨h1, h2, h3, h4, h5⟩ := h
  refine ⟨h1, h2, h3, by simp at h4; omega, fun i hi hr => ?_⟩
  rw [h5 i (by simp; omega) hr]
  exact heap_alloc_old W o hi

/-- append of one byte that has just been laid. -/
theorem wp_app1 {ops : Array Oper} {rest : List Oper} {o : Oper} {a : Act} {Q : Exit → Act → World → Prop} {W : World} (hgd : o.guard = none) (s x : Operand)
    (ho : o.op = .call { callee := .builtin .append, args := #[s, x], argTypes := #[84, 84] })
    (B : Nat) (v : Value) (l : List UInt8) (hs : a.eval s = v) (hb : Buf W B v l) (x0 : Int) (b : UInt8) (hx0 : x0 = (b.toNat : Int)) (k c : Nat) (hx : a.eval x = .slice (some ⟨k, 0, none⟩) 1 c) (hk : k = W.heap.size)
    (hlen : l.length ≤ 35184372088832) (hB : B ≤ W.heap.size)
    (h : ∀ v' w', Buf w' B v' (l ++ [b]) → Below B W w' → W.grownBy w' v.ownBlock → W.heap.size ≤ w'.heap.size → wpList Tryz.prog ops Q rest (a.put o.dst v') w') : wpList Tryz.prog ops Q (o :: rest) a (W.alloc (.cells #[.int .u8 x0] 5)) := by
  subst hx0 hk
  refine wp_appB hgd s x ho B v l hs (hb.alloc _) ⟨W.heap.size, 0, none⟩ 1 c [b] hx rfl ?_ (by simp; omega) (by simp; omega) ?_
  · intro j u hj
    match j, hj with
    | 0, hj => simp [Lib.byteCells] at hj; subst hj; simp [Addr.add]
  · intro v' w' h1 h2 h3
    exact h v' w' h1 (((Below.refl B W).alloc hB _).trans h2) (grown_alloc h3) (by have := h2.size; simp at this; omega)

/-- append of two bytes that have just been laid. -/
theorem wp_app2 {ops : Array Oper} {rest : List Oper} {o : Oper} {a : Act} {Q : Exit → Act → World → Prop} {W : World} (hgd : o.guard = none) (s x : Operand)
    (ho : o.op = .call { callee := .builtin .append, args := #[s, x], argTypes := #[84, 84] })
    (B : Nat) (v : Value) (l : List UInt8) (hs : a.eval s = v) (hb : Buf W B v l) (x0 x1 : Int) (b0 b1 : UInt8) (hx0 : x0 = (b0.toNat : Int)) (hx1 : x1 = (b1.toNat : Int)) (k c : Nat) (hx : a.eval x = .slice (some ⟨k, 0, none⟩) 2 c) (hk : k = W.heap.size)
    (hlen : l.length ≤ 35184372088832) (hB : B ≤ W.heap.size)
    (h : ∀ v' w', Buf w' B v' (l ++ [b0, b1]) → Below B W w' → W.grownBy w' v.ownBlock → W.heap.size ≤ w'.heap.size → wpList Tryz.prog ops Q rest (a.put o.dst v') w') : wpList Tryz.prog ops Q (o :: rest) a (W.alloc (.cells #[.int .u8 x0, .int .u8 x1] 5)) := by
  subst hx0 hx1 hk
  refine wp_appB hgd s x ho B v l hs (hb.alloc _) ⟨W.heap.size, 0, none⟩ 2 c [b0, b1] hx rfl ?_ (by simp; omega) (by simp; omega) ?_
  · intro j u hj
    match j, hj with
    | 0, hj => simp [Lib.byteCells] at hj; subst hj; simp [Addr.add]
    | 1, hj => simp [Lib.byteCells] at hj; subst hj; simp [Addr.add]
  · intro v' w' h1 h2 h3
    exact h v' w' h1 (((Below.refl B W).alloc hB _).trans h2) (grown_alloc h3) (by have := h2.size; simp at this; omega)

/-- A block of another type stands where bytes are appended. -/
theorem Buf.keep {w w1 : World} {B : Nat} {v : Value} {l : List UInt8} {k : Nat} {cs : Array Value} {T : TypeId} {fr : Nat × Nat} (h : Buf w B v l) (hg : w.grownBy w1 v.ownBlock)
    (hk : w.heap[k]? = some (.cells cs T fr)) (hT : (T == 5) = false) : w1.heap[k]? = some (.cells cs T fr) := by
  have hlt : k < w.heap.size := (Array.getElem?_eq_some_iff.1 hk).1
  rw [hg.block k hlt ?_]
  · exact hk
  · rcases h.2 with ⟨rfl, _⟩ | ⟨g, cap, cur, rfl, _, hh, _⟩
    · simp [Value.ownBlock]
    · simp only [Value.ownBlock]
      intro e
      simp only [Option.some.injEq] at e
      subst e
      rw [hk] at hh
      simp only [Option.some.injEq, Obj.cells.injEq] at hh
      rw [hh.2.1] at hT
      simp at hT

/-- append of a text's bytes. -/
theorem wp_appS {ops : Array Oper} {rest : List Oper} {o : Oper} {a : Act} {Q : Exit → Act → World → Prop} {w : World} (hgd : o.guard = none) (s x : Operand)
    (ho : o.op = .call { callee := .builtin .append, args := #[s, x], argTypes := #[84, 9] })
    (B : Nat) (v : Value) (l : List UInt8) (hs : a.eval s = v) (hb : Buf w B v l) (t : ByteArray) (hx : a.eval x = .string t) (hlen : l.length + t.size ≤ 70368744177664) (hB : B ≤ w.heap.size)
    (h : ∀ v' w', Buf w' B v' (l ++ t.data.toList) → Below B w w' → w.grownBy w' v.ownBlock → wpList Tryz.prog ops Q rest (a.put o.dst v') w') : wpList Tryz.prog ops Q (o :: rest) a w := by
  obtain ⟨i0, hi, hz0, hz1, hz2⟩ := info_parts info_u8
  have hsz : t.data.toList.length = t.size := by simp
  refine Go.Lib.wpList_append_own_string w hgd s x 84 9 ho B 5 i0 Tryz.underlying84 Tryz.underlying9 hi hz0 hz1 hz2 v l.length (Lib.byteCells l) hs hb t hx (by unfold maxLen; omega) (by omega) hB ?_
  intro v' w' hown hg _
  exact h v' w' (by unfold Buf; rw [List.length_append, byteCells_append, hsz]; exact hown) (hb.below hB hg) hg

theorem strOf_bytes (l : List UInt8) : strOfNums (l.map fun b => (b.toNat : Int)) = ⟨l.toArray⟩ := by
  unfold strOfNums
  rw [List.map_map]
  have : (l.map ((fun n : Int => UInt8.ofNat n.toNat) ∘ fun b : UInt8 => (b.toNat : Int))) = l := by
    induction l with
    | nil => rfl
    | cons b l ih => simp only [List.map_cons, ih, Function.comp, Int.toNat_natCast, UInt8.ofNat_toNat]
  rw [this]

/-- Its bytes as a text. -/
theorem Buf.string {w : World} {B : Nat} {v : Value} {l : List UInt8} (h : Buf w B v l) : (convert 84 9 v).run Tryz.prog w = .ok (.string ⟨l.toArray⟩) w := by
  rcases h.2 with ⟨rfl, h0⟩ | ⟨g, cap, cur, rfl, _⟩
  · obtain rfl : l = [] := List.eq_nil_of_length_eq_zero h0
    exact run_convert_bytes_nil w 84 5 Tryz.underlying84 Tryz.underlying5 0 0 9 Tryz.underlying9
  · have := run_convert_bytes_arg w 84 5 Tryz.underlying84 Tryz.underlying5 g 0 l.length cap (l.map fun b => (b.toNat : Int)) (by simp) (fun i hi => by
      have hc := World.ownsRow.cells h (g := g) rfl i (.int .u8 ((l.map fun b => (b.toNat : Int)).getD i 0)) (by simp [Lib.byteCells, hi])
      have ha : (⟨g, 0, none⟩ : Addr).add i = ⟨g, 0 + i, none⟩ := by unfold Addr.add; split <;> simp_all
      rw [← ha]; exact hc) 9 Tryz.underlying9
    rw [this, strOf_bytes]
end Go.Proofs.YtoejgkcaamkanaaGreatDoor

namespace Go.Proofs.YtoejgkcaamkanaaGreatDoor
open Go.RowKit

section
variable (P : Program)
theorem run_store_at (g o : Nat) (t : TypeId) (fr : Nat × Nat) : ∀ (vs : List Value) (i : Nat) (cur : Array Value) (w : World), w.heap[g]? = some (.cells cur t fr) → (fr = (0, 0) ∨ o + i + vs.length ≤ fr.1) → o + i + vs.length ≤ cur.size → (∀ v ∈ vs, v.oneCell' = true) →
    (storeCells ⟨g, o, none⟩ vs i).run P w = .ok () (w.setRow g (cur.toList.take (o + i) ++ vs ++ cur.toList.drop (o + i + vs.length)).toArray)
  | [], i, cur, w, hg, _, _, _ => by
    simp only [storeCells, List.append_nil, List.length_nil, Nat.add_zero, List.take_append_drop, Array.toArray_toList]
    rw [setRow_self w g cur t fr hg]
    rfl
  | v :: rest, i, cur, w, hg, hr, hl, h1 => by
    have hi : o + i < cur.size := by simp at hl; omega
    have hadd : (⟨g, o, none⟩ : Addr).add i = ⟨g, o + i, none⟩ := by unfold Addr.add; split <;> simp_all
    have hcell : w.cell? ⟨g, o + i, none⟩ = some cur[o + i] := by simp [World.cell?, hg, hi]
    have hfro : w.frozen? ⟨g, o + i, none⟩ = false := by
      simp only [World.frozen?, hg]
      rcases hr with rfl | hr
      · simp
      · simp at hr ⊢; omega
    have hst : (store ((⟨g, o, none⟩ : Addr).add i) v).run P w = .ok () (w.setRow g (cur.setIfInBounds (o + i) v)) := by
      rw [hadd, run_store P w _ v _ (h1 v (by simp)), hcell]
      simp [hfro, setCell_eq_setRow w g (o + i) cur t fr v hg]
    have ih := run_store_at g o t fr rest (i + 1) (cur.setIfInBounds (o + i) v) (w.setRow g (cur.setIfInBounds (o + i) v)) (setRow_heap w g cur _ t _ hg) (by
      rcases hr with h | h
      · exact .inl h
      · exact .inr (by simp at h; omega)) (by simp at hl ⊢; omega) (fun x hx => h1 x (by simp [hx]))
    simp only [storeCells, Sem.run_bind, hst, Result.andThen_ok, ih, setRow_setRow]
    congr 3
    have e := list_seg_step cur.toList (o + i) v rest (by simp at hl ⊢; omega)
    simpa [Array.toList_setIfInBounds, Nat.add_assoc] using e

theorem run_copy_str (w : World) (dT sT ty elem : TypeId) (g o dLen dCap : Nat) (s : ByteArray) (cur : Array Value) (t : TypeId) (fr : Nat × Nat)
    (hu : P.underlying dT = some (.slice elem)) (hs : (P.info? elem).map (·.size) = some 1) (hg : w.heap[g]? = some (.cells cur t fr)) (hn : s.size ≤ dLen) (hfit : o + s.size ≤ cur.size) (hr : fr = (0, 0) ∨ o + s.size ≤ fr.1) :
    (Builtin.copy_ #[dT, sT] ty #[.slice (some ⟨g, o, none⟩) dLen dCap, .string s]).run P w =
      .ok (goInt s.size) (w.setRow g (splice cur.toList o (Lib.byteCells s.data.toList)).toArray) := by
  have hlen : (Lib.byteCells s.data.toList).length = s.size := by rw [byteCells_length]; simp
  have hst := run_store_at P g o t fr (Lib.byteCells s.data.toList) 0 cur w hg (by rw [hlen]; simpa using hr) (by rw [hlen]; simpa using hfit) (byteCells_oneCell _)
  cases hq : P.info? elem with
  | none => simp [hq] at hs
  | some i =>
    have hi : i.size = 1 := by simpa [hq] using hs
    have hmin : Nat.min s.size dLen = s.size := Nat.min_eq_left hn
    simp [Builtin.copy_, run_underlying hu, Builtin.lenOf, Builtin.firstCells, sizeOf, typeInfo, hq, hmin]
    have e : List.take s.size (List.map (fun b => Value.int IntKind.u8 b.toNat) s.data.toList) = Lib.byteCells s.data.toList := by
      rw [List.take_of_length_le (by simp)]
      rfl
    rw [e, hst]
    simp [splice, List.append_assoc, hlen]
end
theorem splice_map {α β : Type} (f : α → β) (l s : List α) (o : Nat) : (splice l o s).map f = splice (l.map f) o (s.map f) := by
  simp [splice]
theorem splice_append {α : Type} (A R s : List α) (o : Nat) (h : o + s.length ≤ A.length) : splice (A ++ R) o s = splice A o s ++ R := by
  unfold splice
  rw [List.take_append_of_le_length (by omega), List.drop_append_of_le_length h]
  simp [List.append_assoc]

/-- A page: 512 bytes that may be written. -/
def PageAt (w : World) (b cap : Nat) (l : List UInt8) : Prop :=
  l.length = 512 ∧ ∃ cur fr, w.heap[b]? = some (.cells cur 5 fr) ∧ cur.size = cap ∧ 512 ≤ cap ∧ cap ≤ maxLen ∧ cur.toList.take 512 = Lib.byteCells l ∧ (fr = (0, 0) ∨ 512 ≤ fr.1)
theorem PageAt.lt {w : World} {b cap : Nat} {l : List UInt8} (h : PageAt w b cap l) : b < w.heap.size := by
  obtain ⟨_, cur, fr, hb, _⟩ := h
  exact (Array.getElem?_eq_some_iff.1 hb).1
theorem PageAt.keep {w w' : World} {b cap : Nat} {l : List UInt8} (h : PageAt w b cap l) (e : w'.heap[b]? = w.heap[b]?) : PageAt w' b cap l := by
  obtain ⟨hl, cur, fr, hb, r⟩ := h
  exact ⟨hl, cur, fr, e.trans hb, r⟩
theorem PageAt.cell {w : World} {b cap : Nat} {l : List UInt8} (h : PageAt w b cap l) (i : Nat) (hi : i < 512) : w.cell? ⟨b, i, none⟩ = some (.int .u8 (l.getD i 0).toNat) := by
  obtain ⟨hl, cur, fr, hb, hc, h5, hm, ht, _⟩ := h
  have h1 : (cur.toList.take 512)[i]? = (Lib.byteCells l)[i]? := by rw [ht]
  rw [List.getElem?_take, if_pos hi] at h1
  unfold World.cell?
  simp only [hb]
  have h2 : cur[i]? = (Lib.byteCells l)[i]? := by simpa using h1
  rw [h2]
  simp [Lib.byteCells, List.getElem?_map, hl, hi]
theorem PageAt.string {w : World} {b cap : Nat} {l : List UInt8} (h : PageAt w b cap l) : (convert 84 9 (.slice (some ⟨b, 0, none⟩) 512 cap)).run Tryz.prog w = .ok (.string ⟨l.toArray⟩) w := by
  have hl := h.1
  have := run_convert_bytes_arg w 84 5 Tryz.underlying84 Tryz.underlying5 b 0 512 cap (l.map fun b => (b.toNat : Int)) (by simp [hl]) (fun i hi => by
    have hc := h.cell i hi
    rw [show (0 + i) = i by omega]
    rw [hc]
    simp [List.getD, hl, hi]) 9 Tryz.underlying9
  rw [this, strOf_bytes]
/-- A text over a page's bytes. -/
theorem PageAt.put {w : World} {b cap : Nat} {l : List UInt8} (h : PageAt w b cap l) (o : Nat) (s : ByteArray) (ho : o + s.size ≤ 512) (dCap : Nat) (ty : TypeId) :
    ∃ w', (Builtin.copy_ #[84, 9] ty #[.slice (some ⟨b, o, none⟩) (512 - o) dCap, .string s]).run Tryz.prog w = .ok (goInt s.size) w' ∧ PageAt w' b cap (splice l o s.data.toList) ∧ Off (· = b) w w' ∧ w'.heap.size = w.heap.size := by
  obtain ⟨hl, cur, fr, hb, hc, h5, hm, ht, hr⟩ := h
  refine ⟨_, run_copy_str Tryz.prog w 84 9 ty 5 b o (512 - o) dCap s cur 5 fr Tryz.underlying84 (by have := info_u8; cases hq : Tryz.prog.info? 5 with | none => rw [hq] at this; cases this | some i => rw [hq] at this; simp at this; simp [this]) hb (by omega) (by omega) (by
    rcases hr with h | h
    · exact .inl h
    · exact .inr (by omega)), ⟨?_, ?_⟩, ⟨rfl, rfl, rfl, by simp [World.setRow], fun k hk hne => setRow_other w b k _ hne⟩, by simp [World.setRow]⟩
  · rw [length_splice _ _ _ (by rw [hl]; simpa using ho), hl]
  · refine ⟨_, fr, setRow_heap w b cur _ 5 fr hb, ?_, h5, hm, ?_, hr⟩
    · have : (splice cur.toList o (Lib.byteCells s.data.toList)).length = cur.toList.length := length_splice _ _ _ (by rw [byteCells_length]; simp; omega)
      simpa [hc] using this
    · have e : cur.toList = Lib.byteCells l ++ cur.toList.drop 512 := by rw [← ht, List.take_append_drop]
      have h1 : o + (Lib.byteCells s.data.toList).length ≤ (Lib.byteCells l).length := by
        rw [byteCells_length, byteCells_length, hl]; simpa using ho
      rw [List.toList_toArray, e, splice_append _ _ _ _ h1]
      have h2 : (splice (Lib.byteCells l) o (Lib.byteCells s.data.toList)).length = 512 := by
        rw [length_splice _ _ _ h1, byteCells_length, hl]
      rw [List.take_append_of_le_length (by omega), List.take_of_length_le (by omega)]
      unfold Lib.byteCells
      rw [splice_map]
end Go.Proofs.YtoejgkcaamkanaaGreatDoor

namespace Go.Proofs.YtoejgkcaamkanaaGreatDoor
open Go Go.RowKit

theorem i64_and255 (n : Int) : bits .and .i64 n 255 = n % 256 := by
  have h255 : (BitVec.ofInt 64 255).toNat = 2 ^ 8 - 1 := by decide
  have key : (BitVec.ofInt 64 n &&& BitVec.ofInt 64 255).toNat = (n % ((2 ^ 64 : Nat) : Int)).toNat % 2 ^ 8 := by
    rw [BitVec.toNat_and, BitVec.toNat_ofInt, h255, Nat.and_two_pow_sub_one_eq_mod]
  show IntKind.i64.wrap ((BitVec.ofInt 64 n &&& BitVec.ofInt 64 255).toNat : Nat) = n % 256
  rw [key, IntKind.wrap_i64]
  omega

set_option maxRecDepth 100000 in
theorem xor128_nat : ∀ a : Fin 256, (a.val ^^^ 128) = (a.val + 128) % 256 := by decide

theorem u8_xor128 (y : Int) (h1 : 0 ≤ y) (h2 : y < 256) : bits .xor .u8 y 128 = (y + 128) % 256 := by
  rw [u8_xor y 128 h1 h2 (by decide) (by decide)]
  have := xor128_nat ⟨y.toNat, by omega⟩
  simp only at this
  rw [show ((128 : Int).toNat) = 128 from rfl, this]
  omega

theorem xor_top_low (Y : Nat) (h : Y < 2 ^ 63) : Y ^^^ 2 ^ 63 = Y + 2 ^ 63 := by
  have e : Y + 2 ^ 63 = 2 ^ 63 * 1 ||| Y := by rw [← Nat.two_pow_add_eq_or_of_lt h]; omega
  rw [e]
  apply Nat.eq_of_testBit_eq
  intro i
  simp only [Nat.testBit_xor, Nat.testBit_or, Nat.mul_one, Nat.testBit_two_pow]
  by_cases hi : 63 = i
  · subst hi
    simp [Nat.testBit_lt_two_pow h]
  · simp [hi]

theorem xor_top (X : Nat) (h : X < 2 ^ 64) : X ^^^ 2 ^ 63 = (X + 2 ^ 63) % 2 ^ 64 := by
  by_cases hl : X < 2 ^ 63
  · rw [xor_top_low X hl]; omega
  · obtain ⟨Y, rfl⟩ : ∃ Y, X = Y + 2 ^ 63 := ⟨X - 2 ^ 63, by omega⟩
    have hy : Y < 2 ^ 63 := by omega
    rw [← xor_top_low Y hy, Nat.xor_assoc, Nat.xor_self, Nat.xor_zero, xor_top_low Y hy]
    omega

theorem u64_xor_top (x : Int) (h1 : 0 ≤ x) (h2 : x < 18446744073709551616) : bits .xor .u64 x 9223372036854775808 = (x + 9223372036854775808) % 18446744073709551616 := by
  rw [u64_xor x 9223372036854775808 h1 h2 (by decide) (by decide)]
  have := xor_top x.toNat (by omega)
  rw [show ((9223372036854775808 : Int).toNat) = 2 ^ 63 from rfl, this]
  omega

/-- The k-th of the eight bytes of an integer, the highest first. -/
def byteAt (n : Int) (k : Nat) : UInt8 := UInt8.ofNat (((n + 9223372036854775808) / (256 ^ (7 - k) : Nat)) % 256).toNat
def be8 (n : Int) : List UInt8 := (List.range 8).map (byteAt n)

theorem byteAt_toNat (n : Int) (k : Nat) : ((byteAt n k).toNat : Int) = ((n + 9223372036854775808) / (256 ^ (7 - k) : Nat)) % 256 := by
  unfold byteAt
  have h : 0 ≤ ((n + 9223372036854775808) / ((256 ^ (7 - k) : Nat) : Int)) % 256 := Int.emod_nonneg _ (by decide)
  have h2 : ((n + 9223372036854775808) / ((256 ^ (7 - k) : Nat) : Int)) % 256 < 256 := Int.emod_lt_of_pos _ (by decide)
  generalize ((n + 9223372036854775808) / ((256 ^ (7 - k) : Nat) : Int)) % 256 = x at *
  simp only [UInt8.toNat_ofNat']
  omega

theorem rbyte0 (n : Int) : bits .xor .u8 (bits .and .i64 (n / 72057594037927936) 255 % 256) 128 = ((byteAt n 0).toNat : Int) := by
  rw [byteAt_toNat, i64_and255, u8_xor128 _ (by omega) (by omega)]
  show _ = ((n + 9223372036854775808) / 72057594037927936) % 256
  omega
theorem rbyte1 (n : Int) : bits .and .i64 (n / 281474976710656) 255 % 256 = ((byteAt n 1).toNat : Int) := by
  rw [byteAt_toNat, i64_and255]
  show _ = ((n + 9223372036854775808) / 281474976710656) % 256
  omega
theorem rbyte2 (n : Int) : bits .and .i64 (n / 1099511627776) 255 % 256 = ((byteAt n 2).toNat : Int) := by
  rw [byteAt_toNat, i64_and255]
  show _ = ((n + 9223372036854775808) / 1099511627776) % 256
  omega
theorem rbyte3 (n : Int) : bits .and .i64 (n / 4294967296) 255 % 256 = ((byteAt n 3).toNat : Int) := by
  rw [byteAt_toNat, i64_and255]
  show _ = ((n + 9223372036854775808) / 4294967296) % 256
  omega
theorem rbyte4 (n : Int) : bits .and .i64 (n / 16777216) 255 % 256 = ((byteAt n 4).toNat : Int) := by
  rw [byteAt_toNat, i64_and255]
  show _ = ((n + 9223372036854775808) / 16777216) % 256
  omega
theorem rbyte5 (n : Int) : bits .and .i64 (n / 65536) 255 % 256 = ((byteAt n 5).toNat : Int) := by
  rw [byteAt_toNat, i64_and255]
  show _ = ((n + 9223372036854775808) / 65536) % 256
  omega
theorem rbyte6 (n : Int) : bits .and .i64 (n / 256) 255 % 256 = ((byteAt n 6).toNat : Int) := by
  rw [byteAt_toNat, i64_and255]
  show _ = ((n + 9223372036854775808) / 256) % 256
  omega
theorem rbyte7 (n : Int) : bits .and .i64 n 255 % 256 = ((byteAt n 7).toNat : Int) := by
  rw [byteAt_toNat, i64_and255]
  show _ = ((n + 9223372036854775808) / 1) % 256
  omega

/-- What the program holds: uint64(n) with the highest bit turned. -/
def top (n : Int) : Int := n + 9223372036854775808
theorem top_eq (n : Int) (h : -9223372036854775808 ≤ n ∧ n ≤ 9223372036854775807) : bits .xor .u64 (n % 18446744073709551616) 9223372036854775808 = top n := by
  rw [u64_xor_top _ (by omega) (by omega)]
  unfold top
  omega
theorem top_eq' (n : Int) (h : -9223372036854775808 ≤ n ∧ n ≤ 9223372036854775807) : bits .xor .u64 (IntKind.u64.wrap n) 9223372036854775808 = top n := by
  rw [IntKind.wrap_u64]; exact top_eq n h
theorem top_pos (n : Int) (h : -9223372036854775808 ≤ n ∧ n ≤ 9223372036854775807) : 0 ≤ top n := by unfold top; omega
theorem top_bd (n : Int) (h : -9223372036854775808 ≤ n ∧ n ≤ 9223372036854775807) : 0 ≤ top n ∧ top n < 18446744073709551616 := by
  unfold top; omega
theorem be8_take_succ (n : Int) (j : Nat) (h : j < 8) : (be8 n).take (j + 1) = (be8 n).take j ++ [byteAt n j] := by
  rw [List.take_succ_eq_append_getElem (by simp [be8]; omega)]
  simp [be8]
theorem be8_length (n : Int) : (be8 n).length = 8 := by simp [be8]
theorem pbyte0 (n : Int) : top n / 72057594037927936 % 256 = ((byteAt n 0).toNat : Int) := by
  rw [byteAt_toNat]
  show _ = ((n + 9223372036854775808) / 72057594037927936) % 256
  unfold top
  omega
theorem pbyte1 (n : Int) : top n / 281474976710656 % 256 = ((byteAt n 1).toNat : Int) := by
  rw [byteAt_toNat]
  show _ = ((n + 9223372036854775808) / 281474976710656) % 256
  unfold top
  omega
theorem pbyte2 (n : Int) : top n / 1099511627776 % 256 = ((byteAt n 2).toNat : Int) := by
  rw [byteAt_toNat]
  show _ = ((n + 9223372036854775808) / 1099511627776) % 256
  unfold top
  omega
theorem pbyte3 (n : Int) : top n / 4294967296 % 256 = ((byteAt n 3).toNat : Int) := by
  rw [byteAt_toNat]
  show _ = ((n + 9223372036854775808) / 4294967296) % 256
  unfold top
  omega
theorem pbyte4 (n : Int) : top n / 16777216 % 256 = ((byteAt n 4).toNat : Int) := by
  rw [byteAt_toNat]
  show _ = ((n + 9223372036854775808) / 16777216) % 256
  unfold top
  omega
theorem pbyte5 (n : Int) : top n / 65536 % 256 = ((byteAt n 5).toNat : Int) := by
  rw [byteAt_toNat]
  show _ = ((n + 9223372036854775808) / 65536) % 256
  unfold top
  omega
theorem pbyte6 (n : Int) : top n / 256 % 256 = ((byteAt n 6).toNat : Int) := by
  rw [byteAt_toNat]
  show _ = ((n + 9223372036854775808) / 256) % 256
  unfold top
  omega
theorem pbyte7 (n : Int) : top n % 256 = ((byteAt n 7).toNat : Int) := by
  rw [byteAt_toNat]
  show _ = ((n + 9223372036854775808) / 1) % 256
  unfold top
  omega
end Go.Proofs.YtoejgkcaamkanaaGreatDoor

namespace Go.Proofs.YtoejgkcaamkanaaGreatDoor
open Go.RowKit

theorem i64_or (a b : Nat) (ha : a < 2 ^ 63) (hb : b < 2 ^ 63) : bits .or .i64 (a : Int) (b : Int) = ((a ||| b : Nat) : Int) := by
  have key : (BitVec.ofInt 64 (a : Int) ||| BitVec.ofInt 64 (b : Int)).toNat = a ||| b := by
    rw [BitVec.toNat_or, BitVec.toNat_ofInt, BitVec.toNat_ofInt]
    have e1 : ((a : Int) % ((2 ^ 64 : Nat) : Int)).toNat = a := by omega
    have e2 : ((b : Int) % ((2 ^ 64 : Nat) : Int)).toNat = b := by omega
    rw [e1, e2]
  have hlt : a ||| b < 2 ^ 63 := Nat.or_lt_two_pow ha hb
  show IntKind.i64.wrap ((BitVec.ofInt 64 (a : Int) ||| BitVec.ofInt 64 (b : Int)).toNat : Nat) = _
  rw [key, IntKind.wrap_i64]
  omega
def num4 (x0 x1 x2 x3 : UInt8) : Nat := x0.toNat * 16777216 + x1.toNat * 65536 + x2.toNat * 256 + x3.toNat
theorem num4_lt (x0 x1 x2 x3 : UInt8) : num4 x0 x1 x2 x3 < 4294967296 := by
  have b0 := x0.toNat_lt
  have b1 := x1.toNat_lt
  have b2 := x2.toNat_lt
  have b3 := x3.toNat_lt
  unfold num4
  omega
theorem or_num4 (x0 x1 x2 x3 : UInt8) : bits .or .i64 (bits .or .i64 (bits .or .i64 ((x0.toNat : Int) * 16777216) ((x1.toNat : Int) * 65536)) ((x2.toNat : Int) * 256)) (x3.toNat : Int) = (num4 x0 x1 x2 x3 : Nat) := by
  have b0 := x0.toNat_lt
  have b1 := x1.toNat_lt
  have b2 := x2.toNat_lt
  have b3 := x3.toNat_lt
  unfold num4
  generalize x0.toNat = a at *
  generalize x1.toNat = b at *
  generalize x2.toNat = c at *
  generalize x3.toNat = d at *
  have e1 : bits .or .i64 ((a : Int) * 16777216) ((b : Int) * 65536) = ((a * 16777216 + b * 65536 : Nat) : Int) := by
    rw [show (a : Int) * 16777216 = ((a * 16777216 : Nat) : Int) by omega, show (b : Int) * 65536 = ((b * 65536 : Nat) : Int) by omega, i64_or _ _ (by omega) (by omega)]
    have := Nat.two_pow_add_eq_or_of_lt (i := 24) (b := b * 65536) (by omega) a
    rw [show a * 16777216 = 2 ^ 24 * a by omega, ← this]
  have e2 : bits .or .i64 ((a * 16777216 + b * 65536 : Nat) : Int) ((c : Int) * 256) = ((a * 16777216 + b * 65536 + c * 256 : Nat) : Int) := by
    rw [show (c : Int) * 256 = ((c * 256 : Nat) : Int) by omega, i64_or _ _ (by omega) (by omega)]
    have := Nat.two_pow_add_eq_or_of_lt (i := 16) (b := c * 256) (by omega) (a * 256 + b)
    rw [show a * 16777216 + b * 65536 = 2 ^ 16 * (a * 256 + b) by omega, ← this]
  have e3 : bits .or .i64 ((a * 16777216 + b * 65536 + c * 256 : Nat) : Int) (d : Int) = ((a * 16777216 + b * 65536 + c * 256 + d : Nat) : Int) := by
    rw [i64_or _ _ (by omega) (by omega)]
    have := Nat.two_pow_add_eq_or_of_lt (i := 8) (b := d) (by omega) (a * 65536 + b * 256 + c)
    rw [show a * 16777216 + b * 65536 + c * 256 = 2 ^ 8 * (a * 65536 + b * 256 + c) by omega, ← this]
  rw [e1, e2, e3]

set_option maxHeartbeats 1000000 in
theorem number_any (b o len cap : Nat) (x0 x1 x2 x3 : UInt8) (w : World) (h0 : w.cell? ⟨b, o, none⟩ = some (.int .u8 x0.toNat)) (h1 : w.cell? ⟨b, o + 1, none⟩ = some (.int .u8 x1.toNat))
    (h2 : w.cell? ⟨b, o + 2, none⟩ = some (.int .u8 x2.toNat)) (h3 : w.cell? ⟨b, o + 3, none⟩ = some (.int .u8 x3.toNat)) (hl : 4 ≤ len) :
    Calls Tryz.prog 86 #[.slice (some ⟨b, o, none⟩) len cap] w fun e w' => e = .returned (.int .i64 (num4 x0 x1 x2 x3 : Nat)) ∧ Below w.heap.size w w' := by
  have b0 := x0.toNat_lt
  have b1 := x1.toNat_lt
  have b2 := x2.toNat_lt
  have b3 := x3.toNat_lt
  go_enter Tryz.func86, Tryz.ntmps86
  go_wp2
  go_quiet (fail)
  rw [or_num4]
  go_wp2
  go_ret
  exact ⟨rfl, by exact ⟨rfl, rfl, rfl, Nat.le_refl _, fun _ _ => rfl⟩⟩

def dig (n : Int) (d : Int) : UInt8 := UInt8.ofNat ((n / d) % 256).toNat
def digL (n : Int) : List UInt8 := [dig n 16777216, dig n 65536, dig n 256, dig n 1]
theorem dig_toNat (n d : Int) : ((dig n d).toNat : Int) = n / d % 256 := by
  unfold dig
  have h : 0 ≤ n / d % 256 := Int.emod_nonneg _ (by decide)
  have h2 : n / d % 256 < 256 := Int.emod_lt_of_pos _ (by decide)
  generalize n / d % 256 = x at *
  rw [UInt8.toNat_ofNat_of_lt' (by show x.toNat < 256; omega)]
  omega
theorem num_dig (n : Int) (h : 0 ≤ n) (h2 : n < 4294967296) : (num4 (dig n 16777216) (dig n 65536) (dig n 256) (dig n 1) : Int) = n := by
  have e0 := dig_toNat n 16777216
  have e1 := dig_toNat n 65536
  have e2 := dig_toNat n 256
  have e3 := dig_toNat n 1
  unfold num4
  generalize (dig n 16777216).toNat = a at *
  generalize (dig n 65536).toNat = b at *
  generalize (dig n 256).toNat = c at *
  generalize (dig n 1).toNat = d at *
  omega

set_option maxRecDepth 100000 in
set_option maxHeartbeats 1000000 in
theorem digits_any (n : Int) (w : World) :
    Calls Tryz.prog 106 #[.int .i64 n] w fun e w' => e = .returned (.string ⟨(digL n).toArray⟩) ∧ Below w.heap.size w w' := by
  have e0 := dig_toNat n 16777216
  have e1 := dig_toNat n 65536
  have e2 := dig_toNat n 256
  have e3 : ((dig n 1).toNat : Int) = n % 256 := by rw [dig_toNat]; simp
  have hconv : (convert 84 9 (.slice (some ⟨w.heap.size, 0, none⟩) 4 4)).run Tryz.prog (w.alloc (.cells #[.int .u8 (n / 16777216 % 256), .int .u8 (n / 65536 % 256), .int .u8 (n / 256 % 256), .int .u8 (n % 256)] 5)) = .ok (.string ⟨(digL n).toArray⟩) (w.alloc (.cells #[.int .u8 (n / 16777216 % 256), .int .u8 (n / 65536 % 256), .int .u8 (n / 256 % 256), .int .u8 (n % 256)] 5)) := by
    rw [← e0, ← e1, ← e2, ← e3]
    have := run_convert_bytes_arg (w.alloc (.cells #[.int .u8 (dig n 16777216).toNat, .int .u8 (dig n 65536).toNat, .int .u8 (dig n 256).toNat, .int .u8 (dig n 1).toNat] 5)) 84 5 Tryz.underlying84 Tryz.underlying5 w.heap.size 0 4 4 ((digL n).map fun b => (b.toNat : Int)) (by rfl) (fun i hi => by
      match i, hi with
      | 0, _ => go_simp; exact e0.symm
      | 1, _ => go_simp; exact e1.symm
      | 2, _ => go_simp; exact e2.symm
      | 3, _ => go_simp; exact e3.symm) 9 Tryz.underlying9
    rw [this, strOf_bytes]
  have HC := Lib.hid hconv
  clear e0 e1 e2 e3
  go_enter Tryz.func106, Tryz.ntmps106
  go_wp2
  go_ret
  exact ⟨rfl, by go_grown⟩
end Go.Proofs.YtoejgkcaamkanaaGreatDoor
