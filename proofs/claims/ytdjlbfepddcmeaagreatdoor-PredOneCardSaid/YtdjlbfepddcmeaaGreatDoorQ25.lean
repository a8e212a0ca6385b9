/- A predicate's text: plain lemmas; what is written into a Builder that was handed in. -/
import Derived.Test.YtdjlbfepddcmeaaGreatDoorQ24
import Derived.Test.YtdjlbfepddcmeaaGreatDoorQ03
import Derived.Test.YtdjlbfepddcmeaaGreatDoorQ09
import Derived.Shelf.Strings.BuilderK
set_option linter.unusedVariables false
set_option linter.unusedSimpArgs false
namespace Go.Proofs.YtdjlbfepddcmeaaGreatDoor
open Go.RowKit

/-- A text was written behind another one, whole or till it was too long. -/
def WR (l t l' : List UInt8) : Prop := l' = l ++ t ∨ (1024 < l'.length ∧ 1024 < (l ++ t).length)
theorem WR.refl (l : List UInt8) : WR l [] l := .inl (by simp)
theorem WR.whole (l t : List UInt8) : WR l t (l ++ t) := .inl rfl
theorem WR.trans {l t l1 t2 l2 : List UInt8} (h : WR l t l1) (h2 : WR l1 t2 l2) : WR l (t ++ t2) l2 := by
  rcases h with rfl | ⟨h, h'⟩
  · rcases h2 with rfl | ⟨a, b⟩
    · exact .inl (by simp)
    · exact .inr ⟨a, by simpa [List.append_assoc] using b⟩
  · refine .inr ⟨?_, by simp at h' ⊢; omega⟩
    rcases h2 with rfl | ⟨a, _⟩
    · simp; omega
    · exact a
theorem WR.long {l : List UInt8} (t : List UInt8) (h : 1024 < l.length) : WR l t l := .inr ⟨h, by simp; omega⟩

def signB (op : Int) : ByteArray := ⟨(signL op).toArray⟩
theorem signB_size (op : Int) : (signB op).size ≤ 3 := by
  unfold signB signL
  repeat' split
  all_goals decide
abbrev signsObj : Obj := .cells #[.string ⟨#[61]⟩, .string ⟨#[60]⟩, .string ⟨#[62]⟩, .string ⟨#[60, 61]⟩, .string ⟨#[62, 61]⟩, .string ⟨#[104, 97, 115]⟩] 9
theorem signs_cell (w : World) (op : Int) (h : 1 ≤ op ∧ op ≤ 6) : (w.alloc signsObj).cell? ⟨w.heap.size, (op - 1).toNat, none⟩ = some (.string (signB op)) := by
  have : op = 1 ∨ op = 2 ∨ op = 3 ∨ op = 4 ∨ op = 5 ∨ op = 6 := by omega
  rcases this with rfl | rfl | rfl | rfl | rfl | rfl <;> (go_simp; rfl)

theorem signs_any (w : World) : Calls Tryz.prog 61 #[] w fun e w' => e = .returned (.slice (some ⟨w.heap.size, 0, none⟩) 6 6) ∧ w' = w.alloc signsObj := by
  go_enter Tryz.func61, Tryz.ntmps61
  go_wp2
  go_ret
  exact ⟨rfl, rfl⟩

theorem six {op : Int} (h : 1 ≤ op ∧ op ≤ 6) : op = 1 ∨ op = 2 ∨ op = 3 ∨ op = 4 ∨ op = 5 ∨ op = 6 := by omega
theorem rsign_any (op : Int) (h : 1 ≤ op ∧ op ≤ 6) (w : World) : Calls Tryz.prog 62 #[.int .i64 op] w fun e w' => e = .returned (.string (signB op)) ∧ Below w.heap.size w w' := by
  rcases six h with rfl | rfl | rfl | rfl | rfl | rfl
  all_goals
    go_enter Tryz.func62, Tryz.ntmps62
    go_wp2
    go_ret
    exact ⟨rfl, by go_grown⟩

theorem text_len {d : Da} (h : Good d) : d.text.length ≤ 800 := by
  by_cases h3 : d.k = 3
  · obtain ⟨_, _, h8, hit⟩ := may_items h.may h3
    have := list_text_len d.l h8 hit h.l
    simp only [Da.text, h3, if_true, List.length_append, List.length_cons, List.length_nil]
    omega
  · have hs : simpleB d.k d.n d.s d.l.length = true := by simpa [Da.may, h3] using h.may
    have := text1_len hs h.n
    simp only [Da.text, h3, if_false]
    omega

/-- The names of columns that may be are short. -/
theorem name_len {cols : List Co} (h : colsB cols = true) (k : Nat) (hk : k < cols.length) : nameB cols[k].name.data.toList = true ∧ cols[k].name.size ≤ 16 := by
  simp only [colsB, Bool.and_eq_true, decide_eq_true_eq] at h
  have := (goodTo_at cols cols.length h.2 k hk hk).1
  simp only [Co.ok, Bool.and_eq_true] at this
  refine ⟨this.1, ?_⟩
  have h2 := this.1
  simp only [nameB, Bool.and_eq_true, decide_eq_true_eq] at h2
  have h3 := h2.1.1.2
  simpa using h3

theorem bkeep {T e : TypeId} {B b : Nat} {p : Value} {bs : List Value} {W W' : World} (h : Lib.BuilderAtF T e B b p bs W) (hb : Below W.heap.size W W') : Lib.BuilderAtF T e B b p bs W' := by
  have hlt := h.lt
  obtain ⟨hB, v, hv, hown, hne⟩ := h
  exact ⟨hB, v, (hb.block b hlt).trans hv, hown.kept (row := none) ⟨hb.os, hb.tape, hb.output, hb.size, fun k hk _ => hb.block k hk⟩ (Classical.em _), hne⟩
theorem bkeepI {T e : TypeId} {B b : Nat} {bs : List Value} {W W' : World} (h : Lib.IsBuilderF T e B b bs W) (hb : Below W.heap.size W W') : Lib.IsBuilderF T e B b bs W' :=
  h.elim (fun x => .inl (bkeep x hb)) (fun x => .inr (bkeep x hb))

/-- A Builder handed in that holds bytes. -/
abbrev BD (B b : Nat) (l : List UInt8) (w : World) : Prop := Lib.IsBuilderF 62 5 B b (Lib.byteCells l) w
theorem BD.lt {B b : Nat} {l : List UInt8} {w : World} (h : BD B b l w) : b < w.heap.size := h.elim (·.lt) (·.lt)

theorem byteCells_str (l : List UInt8) (s : ByteArray) : Lib.byteCells l ++ Lib.strCells s = Lib.byteCells (l ++ s.data.toList) := by
  rw [byteCells_append]; rfl

/-- What a write leaves: the bytes; what lay below the Builder; every block that holds no bytes but the Builder's. -/
structure Wrote (B b : Nat) (w w' : World) (l' : List UInt8) : Prop where
  bd : BD B b l' w'
  below : Below B w w'
  kept : Lib.OthersKept 5 (some b) w w'
theorem Wrote.trans {B b : Nat} {w w1 w2 : World} {l1 l2 : List UInt8} (h : Wrote B b w w1 l1) (h2 : Wrote B b w1 w2 l2) : Wrote B b w w2 l2 := ⟨h2.bd, h.below.trans h2.below, h.kept.trans h2.kept⟩
theorem others_below {e : TypeId} {bo : Option Nat} {a w w' : World} (h : Lib.OthersKept e bo a w) (hb : Below w.heap.size w w') : Lib.OthersKept e bo a w' := fun k o hk hne ho => by
  have h1 := h k o hk hne ho
  have hlt : k < w.heap.size := by
    rcases Nat.lt_or_ge k w.heap.size with h' | h'
    · exact h'
    · simp [Array.getElem?_eq_none h'] at h1
  exact (hb.block k hlt).trans h1
theorem Wrote.after {B b : Nat} {w w1 w2 : World} {l1 : List UInt8} (h : Wrote B b w w1 l1) (hb : Below w1.heap.size w1 w2) (hB : B ≤ w1.heap.size) : Wrote B b w w2 l1 := ⟨bkeepI h.bd hb, h.below.trans (hb.mono hB), others_below h.kept hb⟩
theorem Wrote.of_below {B b : Nat} {w w1 : World} {l : List UInt8} (h : BD B b l w) (hb : Below w.heap.size w w1) (hB : B ≤ w.heap.size) : Wrote B b w w1 l := ⟨bkeepI h hb, hb.mono hB, others_below (Lib.OthersKept.refl _ _ _) hb⟩

theorem wstr_any (B b : Nat) (l : List UInt8) (s : ByteArray) (w : World) (h : BD B b l w) (hlen : l.length ≤ 10000) (hs : s.size ≤ 10000) (hB : B ≤ w.heap.size) :
    Calls Tryz.prog 59 #[.pointer (some ⟨b, 0, none⟩), .string s] w fun e w' => e = .returned (.tuple #[.int .i64 s.size, .nilIface]) ∧ Wrote B b w w' (l ++ s.data.toList) := by
  refine (Any.Builder_WriteString_k Tryz.blays166 Tryz.bextra B b (Lib.byteCells l) s w h (by rw [byteCells_length]; omega) hB).mono fun e w' ⟨he, hb, h1, h2⟩ => ⟨he, ?_, h1, h2⟩
  rw [byteCells_str] at hb
  exact .inr hb
theorem blen_any (B b : Nat) (l : List UInt8) (w : World) (h : BD B b l w) :
    Calls Tryz.prog 35 #[.pointer (some ⟨b, 0, none⟩)] w fun e w' => e = .returned (.int .i64 l.length) ∧ w' = w := by
  have := Tryz.Builder_Len_f B b _ w h
  rw [byteCells_length] at this
  exact this

/-- A box that holds a predicate, by its block. -/
theorem PBx.of_heap {w : World} {g : Nat} {t : PT} {a : Option Addr} {c : Nat} {pa : Option Addr} {pc : Nat} (h : w.heap[g]? = some (pbox t a c pa pc)) : PBx w g t a c pa pc := by
  constructor <;> (unfold World.cell?; rw [h]; rfl)
theorem kept_box {w w' : World} {b g : Nat} {t : PT} {a : Option Addr} {c : Nat} {pa : Option Addr} {pc : Nat} (h : w.heap[g]? = some (pbox t a c pa pc)) (hk : Lib.OthersKept 5 (some b) w w') (hne : g ≠ b) : w'.heap[g]? = some (pbox t a c pa pc) :=
  hk g _ h (by simpa using hne) (fun c fz e => by injection e with _ h2; cases h2)
end Go.Proofs.YtdjlbfepddcmeaaGreatDoor
