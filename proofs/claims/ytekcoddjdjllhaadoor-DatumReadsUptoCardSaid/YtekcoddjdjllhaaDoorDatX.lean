/- Reading texts: lists; datum.read, Parse. -/
import Derived.Test.YtekcoddjdjllhaaDoorDatR
namespace Go.Proofs.YtekcoddjdjllhaaDoor
open Go.RowKit

theorem info_datum : (Tryd.prog.info? 24).map (fun i => (i.zero, i.size, i.bytes)) = some (some (.agg #[.int .i64 0, .int .i64 0, .string ⟨#[]⟩, .slice none 0 0]), 4, 56) := by kernel_rfl

def itCells (x : It) : List Value := [.int .i64 x.k, .int .i64 x.n, .string x.s, .slice none 0 0]
/-- v owns just these data, none with a list. -/
def Data (w : World) (B : Nat) (v : Value) (l : List It) : Prop := w.ownsRow B 24 4 v l.length (l.flatMap itCells)
theorem Data.nil (w : World) (B : Nat) : Data w B (.slice none 0 0) [] := World.ownsRow_nil _ _ _ _
theorem Data.alloc {w : World} {B : Nat} {v : Value} {l : List It} (h : Data w B v l) (o : Obj) : Data (w.alloc o) B v l := World.ownsRow.alloc h o
theorem Data.drew {w : World} {B : Nat} {v : Value} {l : List It} (h : Data w B v l) : Data w.drew B v l := World.ownsRow.drew h
theorem Data.later {w w1 : World} {B : Nat} {v : Value} {l : List It} (h : Data w B v l) (hb : Below w.heap.size w w1) : Data w1 B v l :=
  World.ownsRow.kept h (row := none) ⟨hb.os, hb.tape, hb.output, hb.size, fun i hi _ => hb.block i hi⟩ (by cases v.ownBlock <;> simp)
theorem Data.below {w w1 : World} {B : Nat} {v : Value} {l : List It} (h : Data w B v l) (hB : B ≤ w.heap.size) (hg : w.grownBy w1 v.ownBlock) : Below B w w1 :=
  (Below.refl B w).grown hg hB fun k hk => by
    rcases h.2 with ⟨rfl, _⟩ | ⟨g, cap, cur, rfl, hb, _⟩
    · simp [Value.ownBlock] at hk
    · have : g = k := by simpa [Value.ownBlock] using hk
      omega
theorem itCells_len (l : List It) : (l.flatMap itCells).length = l.length * 4 := by
  induction l with
  | nil => rfl
  | cons x l ih => simp only [List.flatMap_cons, List.length_append, List.length_cons, ih, itCells, List.length_nil]; omega

theorem Data.slice {w : World} {B : Nat} {v : Value} {l : List It} (h : Data w B v l) : ∃ A c, v = .slice A l.length c := by
  rcases h.2 with ⟨rfl, h0⟩ | ⟨g, cap, cur, rfl, _⟩
  · rw [h0]; exact ⟨none, 0, rfl⟩
  · exact ⟨_, cap, rfl⟩

theorem Data.base {w : World} {B : Nat} {A : Option Addr} {n c : Nat} {l : List It} (h : Data w B (.slice A n c) l) (b off : Nat) (e : A = some ⟨b, off, none⟩) : B ≤ b := by
  rcases h.2 with ⟨e', _⟩ | ⟨g, cap, cur, e', hB, _⟩
  · simp only [Value.slice.injEq] at e'; rw [e'.1] at e; simp at e
  · simp only [Value.slice.injEq] at e'
    rw [e'.1] at e
    simp only [Option.some.injEq, Addr.mk.injEq] at e
    omega

theorem RowIs.setCell {w : World} {a : Option Addr} {l : List It} (h : RowIs w a l) (p : Addr) (u : Value) (hne : ∀ b off, a = some ⟨b, off, none⟩ → b ≠ p.block) : RowIs (w.setCell p u) a l := by
  rcases h with h | ⟨b, off, ha, h⟩
  · exact .inl h
  · refine .inr ⟨b, off, ha, fun i hi => ?_⟩
    have hb := hne b off ha
    have key : ∀ o, (w.setCell p u).cell? ⟨b, o, none⟩ = w.cell? ⟨b, o, none⟩ := fun o => World.cell?_setCell_other _ _ _ _ (fun e => hb (by rw [e]))
    simp only [key]
    exact h i hi

/-- What an item that was read is. -/
def It.ok (x : It) : Prop := x.ln = 0 ∧ x.s.size ≤ 140737488351232 ∧ In64 x.n

theorem itCells_at (l : List It) (i : Nat) (h : i < l.length) (j : Nat) (hj : j < 4) : (l.flatMap itCells)[i * 4 + j]? = (itCells l[i])[j]? := by
  induction l generalizing i with
  | nil => simp at h
  | cons x l ih =>
    have h4 : (itCells x).length = 4 := rfl
    cases i with
    | zero => simp only [List.flatMap_cons, Nat.zero_mul, Nat.zero_add, List.getElem_cons_zero]; rw [List.getElem?_append_left (by omega)]
    | succ i =>
      simp only [List.flatMap_cons, List.getElem_cons_succ]
      rw [List.getElem?_append_right (by omega), h4, show (i + 1) * 4 + j - 4 = i * 4 + j by omega]
      exact ih i (by simpa using h)

theorem Data.row {w : World} {B : Nat} {A : Option Addr} {n c : Nat} {l : List It} (h : Data w B (.slice A n c) l) (hok : ∀ x ∈ l, x.ok) : RowIs w A l := by
  rcases h.2 with ⟨e, h0⟩ | ⟨g, cap, cur, e, _⟩
  · exact .inl (List.eq_nil_of_length_eq_zero h0)
  · simp only [Value.slice.injEq] at e
    obtain ⟨rfl, rfl, rfl⟩ := e
    refine .inr ⟨g, 0, rfl, fun i hi => ?_⟩
    have hx := hok _ (List.getElem_mem hi)
    have key : ∀ j v, j < 4 → (itCells l[i])[j]? = some v → w.cell? ⟨g, 0 + i * 4 + j, none⟩ = some v := fun j v hj hv => by
      have := World.ownsRow.cells h (g := g) rfl (i * 4 + j) v (by rw [itCells_at l i hi j hj]; exact hv)
      have ha : (⟨g, 0, none⟩ : Addr).add (i * 4 + j) = ⟨g, 0 + i * 4 + j, none⟩ := by unfold Addr.add; split <;> simp_all
      rw [← ha]; exact this
    exact ⟨key 0 _ (by omega) rfl, key 1 _ (by omega) rfl, key 2 _ (by omega) rfl, ⟨none, 0, by rw [hx.1]; exact key 3 _ (by omega) rfl⟩, by rw [hx.1]; omega, hx.2.1, hx.2.2⟩

/-- append of a datum that has just been laid, in a region that draws. -/
theorem step_appD {ops : Array Oper} {o : Oper} {a : Act} {K : Act → World → Prop} {Q : Exit → Act → World → Prop} {E : Prop} {W : World} (hgd : o.guard = none) (s x : Operand)
    (ho : o.op = .call { callee := .builtin .append, args := #[s, x], argTypes := #[22, 22] })
    (B : Nat) (v : Value) (l : List It) (hs : a.eval s = v) (hb : Data W B v l) (y : It) (k c : Nat) (hx : a.eval x = .slice (some ⟨k, 0, none⟩) 1 c) (hk : k = W.heap.size)
    (hlen : l.length ≤ 1099511627776) (hB : B ≤ W.heap.size)
    (h : ∀ v' w', Data w' B v' (l ++ [y]) → Below B W w' → W.grownBy w' v.ownBlock → K (a.put o.dst v') w') : if Region.wanted o (yielded ops a.tmps) = true then Oper.wp Tryd.prog o a (W.alloc (.cells #[.int .i64 y.k, .int .i64 y.n, .string y.s, .slice none 0 0] 24)) K Q else E := by
  have hw : Region.wanted o (yielded ops a.tmps) = true := by simp [Region.wanted, hgd]
  rw [if_pos hw]
  obtain ⟨i0, hi, hz0, hz1, hz2⟩ := info_parts info_datum
  subst hk
  refine wp_append_own _ s x 22 ho B 24 i0 _ 4 56 Tryd.underlying22 hi hz0 hz1 hz2 rfl (by decide) v l.length (l.flatMap itCells) hs (hb.alloc _) ⟨W.heap.size, 0, none⟩ 1 c (itCells y) hx rfl ?_ ?_ (by unfold maxLen; omega) (by omega) (by simp; omega) ?_
  · intro j u hj
    match j, hj with
    | 0, hj => simp [itCells] at hj; subst hj; simp [Addr.add]
    | 1, hj => simp [itCells] at hj; subst hj; simp [Addr.add]
    | 2, hj => simp [itCells] at hj; subst hj; simp [Addr.add]
    | 3, hj => simp [itCells] at hj; subst hj; simp [Addr.add]
  · intro u hu
    simp [itCells] at hu
    rcases hu with rfl | rfl | rfl | rfl <;> rfl
  · intro v' w' hown hg _
    refine h v' w' ?_ (((Below.refl B W).alloc hB _).trans ((hb.alloc _).below (by simp; omega) hg)) (grown_alloc hg)
    unfold Data
    rw [List.length_append, List.flatMap_append]
    simpa using hown
end Go.Proofs.YtekcoddjdjllhaaDoor
