/- A list of bytes that a call of its own has made, and appending to it. -/
import Derived.Test.YtddddjpmeegedaaGreatChecked
import Derived.WalkKit
import Derived.Lib.AppendStr
import Derived.Lib.UnsafeStr
import Derived.Lib.ConvBytes
import Derived.Laws.BytesArg
import Derived.Laws.OwnMore
set_option linter.unusedVariables false
set_option linter.unusedSimpArgs false
namespace Go.Proofs.YtddddjpmeegedaaGreat
open Go.RowKit

theorem info_u8 : (Tryz.prog.info? 5).map (fun i => (i.zero, i.size, i.bytes)) = some (some (.int .u8 0), 1, 1) := by kernel_rfl

/-- v owns just the bytes l, in a row from block B on (or is nil). -/
def Buf (w : World) (B : Nat) (v : Value) (l : List UInt8) : Prop := w.ownsRow B 5 1 v l.length (Lib.byteCells l)

theorem Buf.nil (w : World) (B : Nat) : Buf w B (.slice none 0 0) [] := World.ownsRow_nil _ _ _ _

theorem Buf.alloc {w : World} {B : Nat} {v : Value} {l : List UInt8} (h : Buf w B v l) (o : Obj) : Buf (w.alloc o) B v l := World.ownsRow.alloc h o

theorem Buf.drew {w : World} {B : Nat} {v : Value} {l : List UInt8} (h : Buf w B v l) : Buf w.drew B v l := World.ownsRow.drew h

theorem Buf.later {w w1 : World} {B : Nat} {v : Value} {l : List UInt8} (h : Buf w B v l) (hb : Below w.heap.size w w1) : Buf w1 B v l :=
  World.ownsRow.kept h (row := none) ⟨hb.os, hb.tape, hb.output, hb.size, fun i hi _ => hb.block i hi⟩ (by cases v.ownBlock <;> simp)

theorem Buf.slice {w : World} {B : Nat} {v : Value} {l : List UInt8} (h : Buf w B v l) : ∃ A c, v = .slice A l.length c := by
  rcases h.2 with ⟨rfl, h0⟩ | ⟨g, cap, cur, rfl, _⟩
  · rw [h0]; exact ⟨none, 0, rfl⟩
  · exact ⟨_, cap, rfl⟩

/-- What is written is the row's own block or new: below B all stands. -/
theorem Buf.below {w w1 : World} {B : Nat} {v : Value} {l : List UInt8} (h : Buf w B v l) (hB : B ≤ w.heap.size) (hg : w.grownBy w1 v.ownBlock) : Below B w w1 :=
  (Below.refl B w).grown hg hB fun k hk => by
    rcases h.2 with ⟨rfl, _⟩ | ⟨g, cap, cur, rfl, hb, _⟩
    · simp [Value.ownBlock] at hk
    · have : g = k := by simpa [Value.ownBlock] using hk
      omega

theorem byteCells_one (b : UInt8) : Lib.byteCells [b] = [.int .u8 b.toNat] := rfl

theorem byteCells_oneCell (l : List UInt8) : ∀ u ∈ Lib.byteCells l, u.oneCell' = true := by
  intro u hu
  simp only [Lib.byteCells, List.mem_map] at hu
  obtain ⟨b, _, rfl⟩ := hu
  rfl

theorem byteCells_append (l m : List UInt8) : Lib.byteCells (l ++ m) = Lib.byteCells l ++ Lib.byteCells m := by simp [Lib.byteCells]
theorem byteCells_length (l : List UInt8) : (Lib.byteCells l).length = l.length := by simp [Lib.byteCells]

/-- append of bytes that lie at an address. -/
theorem wp_appB {ops : Array Oper} {rest : List Oper} {o : Oper} {a : Act} {Q : Exit → Act → World → Prop} {w : World} (hgd : o.guard = none) (s x : Operand)
    (ho : o.op = .call { callee := .builtin .append, args := #[s, x], argTypes := #[74, 74] })
    (B : Nat) (v : Value) (l : List UInt8) (hs : a.eval s = v) (hb : Buf w B v l) (ad : Addr) (m c : Nat) (new : List UInt8) (hx : a.eval x = .slice (some ad) m c) (hm : new.length = m)
    (hnew : ∀ j u, (Lib.byteCells new)[j]? = some u → w.cell? (ad.add j) = some u) (hlen : l.length + new.length ≤ 70368744177664) (hB : B ≤ w.heap.size)
    (h : ∀ v' w', Buf w' B v' (l ++ new) → Below B w w' → w.grownBy w' v.ownBlock → wpList Tryz.prog ops Q rest (a.put o.dst v') w') : wpList Tryz.prog ops Q (o :: rest) a w := by
  obtain ⟨i0, hi, hz0, hz1, hz2⟩ := info_parts info_u8
  subst hm
  refine wpList_append_own w hgd s x 74 ho B 5 i0 (.int .u8 0) 1 1 Tryz.underlying74 hi hz0 hz1 hz2 rfl (by decide) v l.length (Lib.byteCells l) hs hb ad new.length c (Lib.byteCells new) hx (by simp [byteCells_length]) hnew (byteCells_oneCell _) (by unfold maxLen; omega) (by omega) hB ?_
  intro v' w' hown hg _
  exact h v' w' (by unfold Buf; rw [List.length_append, byteCells_append]; exact hown) (hb.below hB hg) hg

/-- append of bytes that lie at an address, in a region that draws its order. -/
theorem step_appB {ops : Array Oper} {o : Oper} {a : Act} {K : Act → World → Prop} {Q : Exit → Act → World → Prop} {E : Prop} {w : World} (hgd : o.guard = none) (s x : Operand)
    (ho : o.op = .call { callee := .builtin .append, args := #[s, x], argTypes := #[74, 74] })
    (B : Nat) (v : Value) (l : List UInt8) (hs : a.eval s = v) (hb : Buf w B v l) (ad : Addr) (m c : Nat) (new : List UInt8) (hx : a.eval x = .slice (some ad) m c) (hm : new.length = m)
    (hnew : ∀ j u, (Lib.byteCells new)[j]? = some u → w.cell? (ad.add j) = some u) (hlen : l.length + new.length ≤ 70368744177664) (hB : B ≤ w.heap.size)
    (h : ∀ v' w', Buf w' B v' (l ++ new) → Below B w w' → w.grownBy w' v.ownBlock → K (a.put o.dst v') w') : if Region.wanted o (yielded ops a.tmps) = true then Oper.wp Tryz.prog o a w K Q else E := by
  have hw : Region.wanted o (yielded ops a.tmps) = true := by simp [Region.wanted, hgd]
  rw [if_pos hw]
  obtain ⟨i0, hi, hz0, hz1, hz2⟩ := info_parts info_u8
  subst hm
  refine wp_append_own w s x 74 ho B 5 i0 (.int .u8 0) 1 1 Tryz.underlying74 hi hz0 hz1 hz2 rfl (by decide) v l.length (Lib.byteCells l) hs hb ad new.length c (Lib.byteCells new) hx (by simp [byteCells_length]) hnew (byteCells_oneCell _) (by unfold maxLen; omega) (by omega) hB ?_
  intro v' w' hown hg _
  exact h v' w' (by unfold Buf; rw [List.length_append, byteCells_append]; exact hown) (hb.below hB hg) hg

theorem grown_alloc {W w' : World} {o : Obj} {r : Option Nat} (h : (W.alloc o).grownBy w' r) : W.grownBy w' r := by
  obtain ⟨h1, h2, h3, h4, h5⟩ := h
  refine ⟨h1, h2, h3, by simp at h4; omega, fun i hi hr => ?_⟩
  rw [h5 i (by simp; omega) hr]
  exact heap_alloc_old W o hi

/-- append of one byte that has just been laid. -/
theorem wp_app1 {ops : Array Oper} {rest : List Oper} {o : Oper} {a : Act} {Q : Exit → Act → World → Prop} {W : World} (hgd : o.guard = none) (s x : Operand)
    (ho : o.op = .call { callee := .builtin .append, args := #[s, x], argTypes := #[74, 74] })
    (B : Nat) (v : Value) (l : List UInt8) (hs : a.eval s = v) (hb : Buf W B v l) (x0 : Int) (b : UInt8) (hx0 : x0 = (b.toNat : Int)) (k c : Nat) (hx : a.eval x = .slice (some ⟨k, 0, none⟩) 1 c) (hk : k = W.heap.size)
    (hlen : l.length ≤ 35184372088832) (hB : B ≤ W.heap.size)
    (h : ∀ v' w', Buf w' B v' (l ++ [b]) → Below B W w' → W.grownBy w' v.ownBlock → W.heap.size ≤ w'.heap.size → wpList Tryz.prog ops Q rest (a.put o.dst v') w') : wpList Tryz.prog ops Q (o :: rest) a (W.alloc (.cells #[.int .u8 x0] 5)) := by
  subst hx0 hk
  refine wp_appB hgd s x ho B v l hs (hb.alloc _) ⟨W.heap.size, 0, none⟩ 1 c [b] hx rfl ?_ (by simp; omega) (by simp; omega) ?_
  · intro j u hj
    match j, hj with
    | 0, hj => simp [Lib.byteCells] at hj; subst hj; simp [Addr.add]
  · intro v' w' h1 h2 h3
    exact h v' w' h1 (((Below.refl B W).alloc hB _).trans h2) (grown_alloc h3) (by have := h2.size; simp at this; omega)

/-- append of two bytes that have just been laid. -/
theorem wp_app2 {ops : Array Oper} {rest : List Oper} {o : Oper} {a : Act} {Q : Exit → Act → World → Prop} {W : World} (hgd : o.guard = none) (s x : Operand)
    (ho : o.op = .call { callee := .builtin .append, args := #[s, x], argTypes := #[74, 74] })
    (B : Nat) (v : Value) (l : List UInt8) (hs : a.eval s = v) (hb : Buf W B v l) (x0 x1 : Int) (b0 b1 : UInt8) (hx0 : x0 = (b0.toNat : Int)) (hx1 : x1 = (b1.toNat : Int)) (k c : Nat) (hx : a.eval x = .slice (some ⟨k, 0, none⟩) 2 c) (hk : k = W.heap.size)
    (hlen : l.length ≤ 35184372088832) (hB : B ≤ W.heap.size)
    (h : ∀ v' w', Buf w' B v' (l ++ [b0, b1]) → Below B W w' → W.grownBy w' v.ownBlock → W.heap.size ≤ w'.heap.size → wpList Tryz.prog ops Q rest (a.put o.dst v') w') : wpList Tryz.prog ops Q (o :: rest) a (W.alloc (.cells #[.int .u8 x0, .int .u8 x1] 5)) := by
  subst hx0 hx1 hk
  refine wp_appB hgd s x ho B v l hs (hb.alloc _) ⟨W.heap.size, 0, none⟩ 2 c [b0, b1] hx rfl ?_ (by simp; omega) (by simp; omega) ?_
  · intro j u hj
    match j, hj with
    | 0, hj => simp [Lib.byteCells] at hj; subst hj; simp [Addr.add]
    | 1, hj => simp [Lib.byteCells] at hj; subst hj; simp [Addr.add]
  · intro v' w' h1 h2 h3
    exact h v' w' h1 (((Below.refl B W).alloc hB _).trans h2) (grown_alloc h3) (by have := h2.size; simp at this; omega)

/-- A block of another type stands where bytes are appended. -/
theorem Buf.keep {w w1 : World} {B : Nat} {v : Value} {l : List UInt8} {k : Nat} {cs : Array Value} {T : TypeId} {fr : Nat × Nat} (h : Buf w B v l) (hg : w.grownBy w1 v.ownBlock)
    (hk : w.heap[k]? = some (.cells cs T fr)) (hT : (T == 5) = false) : w1.heap[k]? = some (.cells cs T fr) := by
  have hlt : k < w.heap.size := (Array.getElem?_eq_some_iff.1 hk).1
  rw [hg.block k hlt ?_]
  · exact hk
  · rcases h.2 with ⟨rfl, _⟩ | ⟨g, cap, cur, rfl, _, hh, _⟩
    · simp [Value.ownBlock]
    · simp only [Value.ownBlock]
      intro e
      simp only [Option.some.injEq] at e
      subst e
      rw [hk] at hh
      simp only [Option.some.injEq, Obj.cells.injEq] at hh
      rw [hh.2.1] at hT
      simp at hT

/-- append of a text's bytes. -/
theorem wp_appS {ops : Array Oper} {rest : List Oper} {o : Oper} {a : Act} {Q : Exit → Act → World → Prop} {w : World} (hgd : o.guard = none) (s x : Operand)
    (ho : o.op = .call { callee := .builtin .append, args := #[s, x], argTypes := #[74, 9] })
    (B : Nat) (v : Value) (l : List UInt8) (hs : a.eval s = v) (hb : Buf w B v l) (t : ByteArray) (hx : a.eval x = .string t) (hlen : l.length + t.size ≤ 70368744177664) (hB : B ≤ w.heap.size)
    (h : ∀ v' w', Buf w' B v' (l ++ t.data.toList) → Below B w w' → w.grownBy w' v.ownBlock → wpList Tryz.prog ops Q rest (a.put o.dst v') w') : wpList Tryz.prog ops Q (o :: rest) a w := by
  obtain ⟨i0, hi, hz0, hz1, hz2⟩ := info_parts info_u8
  have hsz : t.data.toList.length = t.size := by simp
  refine Go.Lib.wpList_append_own_string w hgd s x 74 9 ho B 5 i0 Tryz.underlying74 Tryz.underlying9 hi hz0 hz1 hz2 v l.length (Lib.byteCells l) hs hb t hx (by unfold maxLen; omega) (by omega) hB ?_
  intro v' w' hown hg _
  exact h v' w' (by unfold Buf; rw [List.length_append, byteCells_append, hsz]; exact hown) (hb.below hB hg) hg

theorem strOf_bytes (l : List UInt8) : strOfNums (l.map fun b => (b.toNat : Int)) = ⟨l.toArray⟩ := by
  unfold strOfNums
  rw [List.map_map]
  have : (l.map ((fun n : Int => UInt8.ofNat n.toNat) ∘ fun b : UInt8 => (b.toNat : Int))) = l := by
    induction l with
    | nil => rfl
    | cons b l ih => simp only [List.map_cons, ih, Function.comp, Int.toNat_natCast, UInt8.ofNat_toNat]
  rw [this]

/-- Its bytes as a text. -/
theorem Buf.string {w : World} {B : Nat} {v : Value} {l : List UInt8} (h : Buf w B v l) : (convert 74 9 v).run Tryz.prog w = .ok (.string ⟨l.toArray⟩) w := by
  rcases h.2 with ⟨rfl, h0⟩ | ⟨g, cap, cur, rfl, _⟩
  · obtain rfl : l = [] := List.eq_nil_of_length_eq_zero h0
    exact run_convert_bytes_nil w 74 5 Tryz.underlying74 Tryz.underlying5 0 0 9 Tryz.underlying9
  · have := run_convert_bytes_arg w 74 5 Tryz.underlying74 Tryz.underlying5 g 0 l.length cap (l.map fun b => (b.toNat : Int)) (by simp) (fun i hi => by
      have hc := World.ownsRow.cells h (g := g) rfl i (.int .u8 ((l.map fun b => (b.toNat : Int)).getD i 0)) (by simp [Lib.byteCells, hi])
      have ha : (⟨g, 0, none⟩ : Addr).add i = ⟨g, 0 + i, none⟩ := by unfold Addr.add; split <;> simp_all
      rw [← ha]; exact hc) 9 Tryz.underlying9
    rw [this, strOf_bytes]
end Go.Proofs.YtddddjpmeegedaaGreat
