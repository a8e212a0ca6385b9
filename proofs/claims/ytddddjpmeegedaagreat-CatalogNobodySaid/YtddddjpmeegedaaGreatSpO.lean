/- A tree's items, and how a leaf is read. -/
import Derived.Test.YtddddjpmeegedaaGreatSpN
import Derived.Deep.RegionLaw
import Derived.Deep.RegionHeld3
import Derived.Laws.OwnMore
set_option linter.unusedVariables false
set_option linter.unusedSimpArgs false
namespace Go.Proofs.YtddddjpmeegedaaGreat
open Go.RowKit

def kvCells (x : KV) : List Value := [.string x.k, .string x.v]
abbrev itemO (x : KV) : Obj := .cells #[.string x.k, .string x.v] 133
/-- Items that a call has made, in blocks from B on. -/
def Items (w : World) (B : Nat) (v : Value) (L : List KV) : Prop := w.ownsRow B 133 2 v L.length (L.flatMap kvCells)
theorem Items.nil (w : World) (B : Nat) : Items w B (.slice none 0 0) [] := World.ownsRow_nil _ _ _ _
theorem Items.slice {w : World} {B : Nat} {v : Value} {L : List KV} (h : Items w B v L) : ∃ A c, v = .slice A L.length c := by
  rcases h.2 with ⟨rfl, h0⟩ | ⟨g, cap, cur, rfl, _⟩
  · exact ⟨none, 0, by rw [h0]⟩
  · exact ⟨_, _, rfl⟩
theorem Items.alloc {w : World} {B : Nat} {v : Value} {L : List KV} (h : Items w B v L) (o : Obj) : Items (w.alloc o) B v L := World.ownsRow.alloc h o
theorem Items.keep {w w' : World} {B : Nat} {v : Value} {L : List KV} (h : Items w B v L) (e : ∀ k, B ≤ k → k < w.heap.size → w'.heap[k]? = w.heap[k]?) : Items w' B v L := by
  obtain ⟨h1, h2⟩ := h
  refine ⟨h1, ?_⟩
  rcases h2 with h2 | ⟨g, cap, cur, hv, hg, hh, r⟩
  · exact .inl h2
  · exact .inr ⟨g, cap, cur, hv, hg, (e g hg (Array.getElem?_eq_some_iff.1 hh).1).trans hh, r⟩
theorem Items.later {w w' : World} {B : Nat} {v : Value} {L : List KV} (h : Items w B v L) (hb : Below w.heap.size w w') : Items w' B v L := h.keep fun k _ hk => hb.block k hk
theorem Items.below {w w1 : World} {B : Nat} {v : Value} {L : List KV} (h : Items w B v L) (hB : B ≤ w.heap.size) (hg : w.grownBy w1 v.ownBlock) : Below B w w1 := by
  refine ⟨hg.os, hg.tape, hg.output, hg.size, fun k hk => hg.block k (by omega) (fun e => ?_)⟩
  rcases h.2 with ⟨rfl, _⟩ | ⟨g, cap, cur, rfl, hg', _⟩
  · simp [Value.ownBlock] at e
  · simp [Value.ownBlock] at e; omega
theorem kv_at : ∀ (L : List KV) (i : Nat) (h : i < L.length) (j : Nat), j < 2 → (L.flatMap kvCells)[i * 2 + j]? = (kvCells L[i])[j]?
  | [], i, h, _, _ => by simp at h
  | x :: L, 0, _, j, hj => by
    have h2 : (kvCells x).length = 2 := rfl
    simp only [List.flatMap_cons, Nat.zero_mul, Nat.zero_add, List.getElem_cons_zero]
    rw [List.getElem?_append_left (by omega)]
  | x :: L, i + 1, h, j, hj => by
    have h2 : (kvCells x).length = 2 := rfl
    simp only [List.flatMap_cons, List.getElem_cons_succ]
    rw [List.getElem?_append_right (by omega), h2, show (i + 1) * 2 + j - 2 = i * 2 + j by omega]
    exact kv_at L i (by simpa using h) j hj
/-- Its cells. -/
theorem Items.cells {w : World} {B g n c : Nat} {o : Nat} {L : List KV} (h : Items w B (.slice (some ⟨g, o, none⟩) n c) L) (i : Nat) (hi : i < L.length) :
    o = 0 ∧ n = L.length ∧ w.cell? ⟨g, i * 2, none⟩ = some (.string L[i].k) ∧ w.cell? ⟨g, i * 2 + 1, none⟩ = some (.string L[i].v) ∧ B ≤ g := by
  rcases h.2 with ⟨e, h0⟩ | ⟨g', cap, cur, e, hg', _⟩
  · cases e
  · simp only [Value.slice.injEq, Option.some.injEq, Addr.mk.injEq] at e
    obtain ⟨⟨rfl, rfl, _⟩, rfl, rfl⟩ := e
    have key : ∀ j v, j < 2 → (kvCells L[i])[j]? = some v → w.cell? ⟨g, i * 2 + j, none⟩ = some v := fun j v hj hv => by
      have := World.ownsRow.cells h (g := g) rfl (i * 2 + j) v (by rw [kv_at L i hi j hj]; exact hv)
      have ha : (⟨g, 0, none⟩ : Addr).add (i * 2 + j) = ⟨g, i * 2 + j, none⟩ := by unfold Addr.add; split <;> simp_all
      rw [← ha]; exact this
    exact ⟨rfl, rfl, key 0 _ (by omega) rfl, key 1 _ (by omega) rfl, hg'⟩
theorem info_item : (Tryz.prog.info? 133).map (fun i => (i.zero, i.size, i.bytes)) = some (some (.agg #[.string ⟨#[]⟩, .string ⟨#[]⟩]), 2, 32) := by kernel_rfl
theorem info_of {t : TypeId} {z : Value} {n b : Nat} (h : (Tryz.prog.info? t).map (fun i => (i.zero, i.size, i.bytes)) = some (some z, n, b)) : ∃ i, Tryz.prog.info? t = some i ∧ i.zero = some z ∧ i.size = n ∧ i.bytes = b := by
  cases hq : Tryz.prog.info? t with
  | none => rw [hq] at h; cases h
  | some i =>
    rw [hq] at h
    simp only [Option.map_some, Option.some.injEq, Prod.mk.injEq] at h
    exact ⟨i, rfl, h.1, h.2.1, h.2.2⟩
theorem grown_then {a b' c : World} {row : Option Nat} (h : a.grownBy b' none) (k : b'.grownBy c row) : a.grownBy c row :=
  ⟨k.os.trans h.os, k.tape.trans h.tape, k.output.trans h.output, Nat.le_trans h.size k.size, fun i hi hn => (k.block i (Nat.lt_of_lt_of_le hi h.size) hn).trans (h.block i hi (by simp))⟩
theorem Items.young {w : World} {B : Nat} {v : Value} {L : List KV} (h : Items w B v L) {k : Nat} (hk : w.heap.size ≤ k) : v.ownBlock ≠ some k := by
  rcases h.2 with ⟨rfl, _⟩ | ⟨g, cap, cur, rfl, _, hh, _⟩
  · simp [Value.ownBlock]
  · have := (Array.getElem?_eq_some_iff.1 hh).1
    simp [Value.ownBlock]
    omega
theorem Items.old {w : World} {B : Nat} {v : Value} {L : List KV} (h : Items w B v L) {k : Nat} (hk : k < B) : v.ownBlock ≠ some k := by
  rcases h.2 with ⟨rfl, _⟩ | ⟨g, cap, cur, rfl, hg, _⟩
  · simp [Value.ownBlock]
  · simp [Value.ownBlock]
    omega
/-- append of an item that has just been laid, in a region that draws. -/
theorem step_appI {ops : Array Oper} {o : Oper} {a : Act} {K : Act → World → Prop} {Q : Exit → Act → World → Prop} {E : Prop} {W : World} (hgd : o.guard = none) (s x : Operand)
    (ho : o.op = .call { callee := .builtin .append, args := #[s, x], argTypes := #[122, 122] })
    (B : Nat) (v : Value) (l : List KV) (hs : a.eval s = v) (hb : Items W B v l) (y : KV) (k c : Nat) (hx : a.eval x = .slice (some ⟨k, 0, none⟩) 1 c) (hk : k = W.heap.size)
    (hlen : l.length ≤ 1099511627776) (hB : B ≤ W.heap.size)
    (h : ∀ v' w', Items w' B v' (l ++ [y]) → Below B W w' → W.grownBy w' v.ownBlock → K (a.put o.dst v') w') : if Region.wanted o (yielded ops a.tmps) = true then Oper.wp Tryz.prog o a (W.alloc (itemO y)) K Q else E := by
  have hw : Region.wanted o (yielded ops a.tmps) = true := by simp [Region.wanted, hgd]
  rw [if_pos hw]
  obtain ⟨i0, hi, hz0, hz1, hz2⟩ := info_of info_item
  subst hk
  refine wp_append_own _ s x 122 ho B 133 i0 _ 2 32 Tryz.underlying122 hi hz0 hz1 hz2 rfl (by decide) v l.length (l.flatMap kvCells) hs (hb.alloc _) ⟨W.heap.size, 0, none⟩ 1 c (kvCells y) hx rfl ?_ ?_ (by unfold maxLen; omega) (by omega) (by simp; omega) ?_
  · intro j u hj
    match j, hj with
    | 0, hj => simp [kvCells] at hj; subst hj; simp [Addr.add]
    | 1, hj => simp [kvCells] at hj; subst hj; simp [Addr.add]
  · intro u hu
    simp [kvCells] at hu
    rcases hu with rfl | rfl <;> rfl
  · intro v' w' hown hg _
    refine h v' w' ?_ (((Below.refl B W).alloc hB _).trans ((hb.alloc _).below (by simp; omega) hg)) (grown_then (World.grownBy_alloc W _ none) hg)
    unfold Items
    rw [List.length_append, List.flatMap_append]
    simpa using hown
end Go.Proofs.YtddddjpmeegedaaGreat
