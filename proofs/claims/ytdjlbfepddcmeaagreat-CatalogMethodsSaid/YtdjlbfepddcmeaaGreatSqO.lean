/- Rows of strings and of slices of integers that a call has made. (Printed by genrow2.py.) -/
import Derived.Test.YtdjlbfepddcmeaaGreatSqM
set_option linter.unusedVariables false
set_option linter.unusedSimpArgs false
namespace Go.Proofs.YtdjlbfepddcmeaaGreat
open Go.RowKit

structure Ts where
  s : ByteArray
structure Ri where
  b : Nat
  n : Nat
  c : Nat

def tsc (x : Ts) : List Value := [.string x.s]
abbrev tsO (x : Ts) : Obj := .cells #[.string x.s] 9
def tsRows (w : World) (B : Nat) (v : Value) (L : List Ts) : Prop := w.ownsRow B 9 1 v L.length (L.flatMap tsc)
theorem tsRows.nil (w : World) (B : Nat) : tsRows w B (.slice none 0 0) [] := World.ownsRow_nil _ _ _ _
theorem tsRows.slice {w : World} {B : Nat} {v : Value} {L : List Ts} (h : tsRows w B v L) : ∃ A c, v = .slice A L.length c := by
  rcases h.2 with ⟨rfl, h0⟩ | ⟨g, cap, cur, rfl, _⟩
  · exact ⟨none, 0, by rw [h0]⟩
  · exact ⟨_, _, rfl⟩
theorem tsRows.keep {w w' : World} {B : Nat} {v : Value} {L : List Ts} (h : tsRows w B v L) (e : ∀ k, v.ownBlock = some k → w'.heap[k]? = w.heap[k]?) : tsRows w' B v L := by
  obtain ⟨h1, h2⟩ := h
  refine ⟨h1, ?_⟩
  rcases h2 with h2 | ⟨g, cap, cur, hv, hg, hh, r⟩
  · exact .inl h2
  · exact .inr ⟨g, cap, cur, hv, hg, (e g (by rw [hv]; rfl)).trans hh, r⟩
theorem tsRows.own {w : World} {B : Nat} {v : Value} {L : List Ts} (h : tsRows w B v L) {k : Nat} (hk : v.ownBlock = some k) : k < w.heap.size ∧ ∃ cs fr, w.heap[k]? = some (.cells cs 9 fr) := by
  rcases h.2 with ⟨rfl, _⟩ | ⟨g, cap, cur, rfl, _, hh, _⟩
  · simp [Value.ownBlock] at hk
  · simp only [Value.ownBlock, Option.some.injEq] at hk
    subst hk
    exact ⟨(Array.getElem?_eq_some_iff.1 hh).1, _, _, hh⟩
theorem ts_at : ∀ (L : List Ts) (i : Nat) (h : i < L.length) (j : Nat), j < 1 → (L.flatMap tsc)[i * 1 + j]? = (tsc L[i])[j]?
  | [], i, h, _, _ => by simp at h
  | x :: L, 0, _, j, hj => by
    have h2 : (tsc x).length = 1 := rfl
    simp only [List.flatMap_cons, Nat.zero_mul, Nat.zero_add, List.getElem_cons_zero]
    rw [List.getElem?_append_left (by omega)]
  | x :: L, i + 1, h, j, hj => by
    have h2 : (tsc x).length = 1 := rfl
    simp only [List.flatMap_cons, List.getElem_cons_succ]
    rw [List.getElem?_append_right (by omega), h2, show (i + 1) * 1 + j - 1 = i * 1 + j by omega]
    exact ts_at L i (by simpa using h) j hj
theorem tsRows.cells {w : World} {B g n c : Nat} {o : Nat} {L : List Ts} (h : tsRows w B (.slice (some ⟨g, o, none⟩) n c) L) (i : Nat) (hi : i < L.length) :
    o = 0 ∧ n = L.length ∧ w.cell? ⟨g, i * 1, none⟩ = some (.string L[i].s) := by
  rcases h.2 with ⟨e, h0⟩ | ⟨g', cap, cur, e, hg', _⟩
  · cases e
  · simp only [Value.slice.injEq, Option.some.injEq, Addr.mk.injEq] at e
    obtain ⟨⟨rfl, rfl, _⟩, rfl, rfl⟩ := e
    have key : ∀ j v, j < 1 → (tsc L[i])[j]? = some v → w.cell? ⟨g, i * 1 + j, none⟩ = some v := fun j v hj hv => by
      have := World.ownsRow.cells h (g := g) rfl (i * 1 + j) v (by rw [ts_at L i hi j hj]; exact hv)
      have ha : (⟨g, 0, none⟩ : Addr).add (i * 1 + j) = ⟨g, i * 1 + j, none⟩ := by unfold Addr.add; split <;> simp_all
      rw [← ha]; exact this
    exact ⟨rfl, rfl, key 0 _ (by omega) rfl⟩
theorem tsRows.nonil {w : World} {B n c : Nat} {L : List Ts} (h : tsRows w B (.slice none n c) L) : L = [] := by
  rcases h.2 with ⟨_, e⟩ | ⟨_, _, _, e, _⟩
  · exact List.length_eq_zero_iff.1 e
  · cases e
theorem ts_info : (Tryz.prog.info? 9).map (fun i => (i.zero, i.size, i.bytes)) = some (some (.string ⟨#[]⟩), 1, 16) := by kernel_rfl
theorem step_appts {ops : Array Oper} {o : Oper} {a : Act} {K : Act → World → Prop} {Q : Exit → Act → World → Prop} {E : Prop} {W : World} (hgd : o.guard = none) (s x : Operand)
    (ho : o.op = .call { callee := .builtin .append, args := #[s, x], argTypes := #[22, 22] })
    (B : Nat) (v : Value) (l : List Ts) (hs : a.eval s = v) (hb : tsRows W B v l) (y : Ts) (k c : Nat) (hx : a.eval x = .slice (some ⟨k, 0, none⟩) 1 c) (hk : k = W.heap.size)
    (hlen : l.length ≤ 1099511627776) (hB : B ≤ W.heap.size)
    (h : ∀ g cap w', tsRows w' B (.slice (some ⟨g, 0, none⟩) (l ++ [y]).length cap) (l ++ [y]) → W.grownBy w' v.ownBlock → (v.ownBlock = some g ∨ W.heap.size ≤ g) → K (a.put o.dst (.slice (some ⟨g, 0, none⟩) (l ++ [y]).length cap)) w') : if Region.wanted o (yielded ops a.tmps) = true then Oper.wp Tryz.prog o a (W.alloc (tsO y)) K Q else E := by
  have hw : Region.wanted o (yielded ops a.tmps) = true := by simp [Region.wanted, hgd]
  rw [if_pos hw]
  obtain ⟨i0, hi, hz0, hz1, hz2⟩ := info_of ts_info
  subst hk
  refine wp_append_lies _ s x 22 ho B 9 i0 _ 1 16 Tryz.underlying22 hi hz0 hz1 hz2 rfl (by decide) v l.length (l.flatMap tsc) hs (World.ownsRow.alloc hb _) ⟨W.heap.size, 0, none⟩ 1 c (tsc y) hx rfl ?_ ?_ (by omega) (by unfold maxLen; omega) (by omega) (by simp; omega) _ rfl ?_
  · intro j u hj
    match j, hj with
    | 0, hj => simp [tsc] at hj; subst hj; simp [Addr.add]
  · intro u hu
    simp [tsc] at hu
    rcases hu with rfl <;> rfl
  · intro g cap w' hown hg hat hlt
    rw [show l.length + 1 = (l ++ [y]).length by simp]
    refine h g cap w' ?_ (grown_then (World.grownBy_alloc W _ none) hg) (hat.imp id (fun e => by subst e; simp))
    unfold tsRows
    rw [List.length_append, List.flatMap_append]
    simpa using hown
theorem wp_appts {ops : Array Oper} {rest : List Oper} {o : Oper} {a : Act} {Q : Exit → Act → World → Prop} {w : World} (hgd : o.guard = none) (s x : Operand)
    (ho : o.op = .call { callee := .builtin .append, args := #[s, x], argTypes := #[22, 22] })
    (B : Nat) (v : Value) (l : List Ts) (hs : a.eval s = v) (hb : tsRows w B v l) (y : Ts) (k c : Nat) (hx : a.eval x = .slice (some ⟨k, 0, none⟩) 1 c) (h0 : w.cell? ⟨k, 0, none⟩ = some (.string y.s))
    (hlen : l.length ≤ 1099511627776) (hB : B ≤ w.heap.size)
    (h : ∀ g cap w', tsRows w' B (.slice (some ⟨g, 0, none⟩) (l ++ [y]).length cap) (l ++ [y]) → w.grownBy w' v.ownBlock → (v.ownBlock = some g ∨ g = w.heap.size) → wpList Tryz.prog ops Q rest (a.put o.dst (.slice (some ⟨g, 0, none⟩) (l ++ [y]).length cap)) w') : wpList Tryz.prog ops Q (o :: rest) a w := by
  obtain ⟨i0, hi, hz0, hz1, hz2⟩ := info_of ts_info
  refine wpList_append_lies w hgd s x 22 ho B 9 i0 _ 1 16 Tryz.underlying22 hi hz0 hz1 hz2 rfl (by decide) v l.length (l.flatMap tsc) hs hb ⟨k, 0, none⟩ 1 c (tsc y) hx rfl ?_ ?_ (by omega) (by unfold maxLen; omega) (by omega) hB _ rfl ?_
  · intro j u hj
    match j, hj with
    | 0, hj => simp [tsc] at hj; subst hj; simpa [Addr.add] using h0
  · intro u hu
    simp [tsc] at hu
    rcases hu with rfl <;> rfl
  · intro g cap w' hown hg hat hlt
    rw [show l.length + 1 = (l ++ [y]).length by simp]
    refine h g cap w' ?_ hg hat
    unfold tsRows
    rw [List.length_append, List.flatMap_append]
    simpa using hown

def ric (x : Ri) : List Value := [.slice (some ⟨x.b, 0, none⟩) x.n x.c]
abbrev riO (x : Ri) : Obj := .cells #[.slice (some ⟨x.b, 0, none⟩) x.n x.c] 26
def riRows (w : World) (B : Nat) (v : Value) (L : List Ri) : Prop := w.ownsRow B 26 1 v L.length (L.flatMap ric)
theorem riRows.nil (w : World) (B : Nat) : riRows w B (.slice none 0 0) [] := World.ownsRow_nil _ _ _ _
theorem riRows.slice {w : World} {B : Nat} {v : Value} {L : List Ri} (h : riRows w B v L) : ∃ A c, v = .slice A L.length c := by
  rcases h.2 with ⟨rfl, h0⟩ | ⟨g, cap, cur, rfl, _⟩
  · exact ⟨none, 0, by rw [h0]⟩
  · exact ⟨_, _, rfl⟩
theorem riRows.keep {w w' : World} {B : Nat} {v : Value} {L : List Ri} (h : riRows w B v L) (e : ∀ k, v.ownBlock = some k → w'.heap[k]? = w.heap[k]?) : riRows w' B v L := by
  obtain ⟨h1, h2⟩ := h
  refine ⟨h1, ?_⟩
  rcases h2 with h2 | ⟨g, cap, cur, hv, hg, hh, r⟩
  · exact .inl h2
  · exact .inr ⟨g, cap, cur, hv, hg, (e g (by rw [hv]; rfl)).trans hh, r⟩
theorem riRows.own {w : World} {B : Nat} {v : Value} {L : List Ri} (h : riRows w B v L) {k : Nat} (hk : v.ownBlock = some k) : k < w.heap.size ∧ ∃ cs fr, w.heap[k]? = some (.cells cs 26 fr) := by
  rcases h.2 with ⟨rfl, _⟩ | ⟨g, cap, cur, rfl, _, hh, _⟩
  · simp [Value.ownBlock] at hk
  · simp only [Value.ownBlock, Option.some.injEq] at hk
    subst hk
    exact ⟨(Array.getElem?_eq_some_iff.1 hh).1, _, _, hh⟩
theorem ri_at : ∀ (L : List Ri) (i : Nat) (h : i < L.length) (j : Nat), j < 1 → (L.flatMap ric)[i * 1 + j]? = (ric L[i])[j]?
  | [], i, h, _, _ => by simp at h
  | x :: L, 0, _, j, hj => by
    have h2 : (ric x).length = 1 := rfl
    simp only [List.flatMap_cons, Nat.zero_mul, Nat.zero_add, List.getElem_cons_zero]
    rw [List.getElem?_append_left (by omega)]
  | x :: L, i + 1, h, j, hj => by
    have h2 : (ric x).length = 1 := rfl
    simp only [List.flatMap_cons, List.getElem_cons_succ]
    rw [List.getElem?_append_right (by omega), h2, show (i + 1) * 1 + j - 1 = i * 1 + j by omega]
    exact ri_at L i (by simpa using h) j hj
theorem riRows.cells {w : World} {B g n c : Nat} {o : Nat} {L : List Ri} (h : riRows w B (.slice (some ⟨g, o, none⟩) n c) L) (i : Nat) (hi : i < L.length) :
    o = 0 ∧ n = L.length ∧ w.cell? ⟨g, i * 1, none⟩ = some (.slice (some ⟨L[i].b, 0, none⟩) L[i].n L[i].c) := by
  rcases h.2 with ⟨e, h0⟩ | ⟨g', cap, cur, e, hg', _⟩
  · cases e
  · simp only [Value.slice.injEq, Option.some.injEq, Addr.mk.injEq] at e
    obtain ⟨⟨rfl, rfl, _⟩, rfl, rfl⟩ := e
    have key : ∀ j v, j < 1 → (ric L[i])[j]? = some v → w.cell? ⟨g, i * 1 + j, none⟩ = some v := fun j v hj hv => by
      have := World.ownsRow.cells h (g := g) rfl (i * 1 + j) v (by rw [ri_at L i hi j hj]; exact hv)
      have ha : (⟨g, 0, none⟩ : Addr).add (i * 1 + j) = ⟨g, i * 1 + j, none⟩ := by unfold Addr.add; split <;> simp_all
      rw [← ha]; exact this
    exact ⟨rfl, rfl, key 0 _ (by omega) rfl⟩
theorem riRows.nonil {w : World} {B n c : Nat} {L : List Ri} (h : riRows w B (.slice none n c) L) : L = [] := by
  rcases h.2 with ⟨_, e⟩ | ⟨_, _, _, e, _⟩
  · exact List.length_eq_zero_iff.1 e
  · cases e
theorem ri_info : (Tryz.prog.info? 26).map (fun i => (i.zero, i.size, i.bytes)) = some (some (.slice none 0 0), 1, 24) := by kernel_rfl
theorem step_appri {ops : Array Oper} {o : Oper} {a : Act} {K : Act → World → Prop} {Q : Exit → Act → World → Prop} {E : Prop} {W : World} (hgd : o.guard = none) (s x : Operand)
    (ho : o.op = .call { callee := .builtin .append, args := #[s, x], argTypes := #[23, 23] })
    (B : Nat) (v : Value) (l : List Ri) (hs : a.eval s = v) (hb : riRows W B v l) (y : Ri) (k c : Nat) (hx : a.eval x = .slice (some ⟨k, 0, none⟩) 1 c) (hk : k = W.heap.size)
    (hlen : l.length ≤ 1099511627776) (hB : B ≤ W.heap.size)
    (h : ∀ g cap w', riRows w' B (.slice (some ⟨g, 0, none⟩) (l ++ [y]).length cap) (l ++ [y]) → W.grownBy w' v.ownBlock → (v.ownBlock = some g ∨ W.heap.size ≤ g) → K (a.put o.dst (.slice (some ⟨g, 0, none⟩) (l ++ [y]).length cap)) w') : if Region.wanted o (yielded ops a.tmps) = true then Oper.wp Tryz.prog o a (W.alloc (riO y)) K Q else E := by
  have hw : Region.wanted o (yielded ops a.tmps) = true := by simp [Region.wanted, hgd]
  rw [if_pos hw]
  obtain ⟨i0, hi, hz0, hz1, hz2⟩ := info_of ri_info
  subst hk
  refine wp_append_lies _ s x 23 ho B 26 i0 _ 1 24 Tryz.underlying23 hi hz0 hz1 hz2 rfl (by decide) v l.length (l.flatMap ric) hs (World.ownsRow.alloc hb _) ⟨W.heap.size, 0, none⟩ 1 c (ric y) hx rfl ?_ ?_ (by omega) (by unfold maxLen; omega) (by omega) (by simp; omega) _ rfl ?_
  · intro j u hj
    match j, hj with
    | 0, hj => simp [ric] at hj; subst hj; simp [Addr.add]
  · intro u hu
    simp [ric] at hu
    rcases hu with rfl <;> rfl
  · intro g cap w' hown hg hat hlt
    rw [show l.length + 1 = (l ++ [y]).length by simp]
    refine h g cap w' ?_ (grown_then (World.grownBy_alloc W _ none) hg) (hat.imp id (fun e => by subst e; simp))
    unfold riRows
    rw [List.length_append, List.flatMap_append]
    simpa using hown
theorem wp_appri {ops : Array Oper} {rest : List Oper} {o : Oper} {a : Act} {Q : Exit → Act → World → Prop} {w : World} (hgd : o.guard = none) (s x : Operand)
    (ho : o.op = .call { callee := .builtin .append, args := #[s, x], argTypes := #[23, 23] })
    (B : Nat) (v : Value) (l : List Ri) (hs : a.eval s = v) (hb : riRows w B v l) (y : Ri) (k c : Nat) (hx : a.eval x = .slice (some ⟨k, 0, none⟩) 1 c) (h0 : w.cell? ⟨k, 0, none⟩ = some (.slice (some ⟨y.b, 0, none⟩) y.n y.c))
    (hlen : l.length ≤ 1099511627776) (hB : B ≤ w.heap.size)
    (h : ∀ g cap w', riRows w' B (.slice (some ⟨g, 0, none⟩) (l ++ [y]).length cap) (l ++ [y]) → w.grownBy w' v.ownBlock → (v.ownBlock = some g ∨ g = w.heap.size) → wpList Tryz.prog ops Q rest (a.put o.dst (.slice (some ⟨g, 0, none⟩) (l ++ [y]).length cap)) w') : wpList Tryz.prog ops Q (o :: rest) a w := by
  obtain ⟨i0, hi, hz0, hz1, hz2⟩ := info_of ri_info
  refine wpList_append_lies w hgd s x 23 ho B 26 i0 _ 1 24 Tryz.underlying23 hi hz0 hz1 hz2 rfl (by decide) v l.length (l.flatMap ric) hs hb ⟨k, 0, none⟩ 1 c (ric y) hx rfl ?_ ?_ (by omega) (by unfold maxLen; omega) (by omega) hB _ rfl ?_
  · intro j u hj
    match j, hj with
    | 0, hj => simp [ric] at hj; subst hj; simpa [Addr.add] using h0
  · intro u hu
    simp [ric] at hu
    rcases hu with rfl <;> rfl
  · intro g cap w' hown hg hat hlt
    rw [show l.length + 1 = (l ++ [y]).length by simp]
    refine h g cap w' ?_ hg hat
    unfold riRows
    rw [List.length_append, List.flatMap_append]
    simpa using hown
end Go.Proofs.YtdjlbfepddcmeaaGreat
