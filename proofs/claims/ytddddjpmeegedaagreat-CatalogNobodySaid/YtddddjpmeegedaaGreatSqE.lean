/- Rows of columns and of indexes that a call has made. (Printed by genrow.py.) -/
import Derived.Test.YtddddjpmeegedaaGreatSqD
import Derived.Deep.AppendLies
set_option linter.unusedVariables false
set_option linter.unusedSimpArgs false
namespace Go.Proofs.YtddddjpmeegedaaGreat
open Go.RowKit

structure Co where
  name : ByteArray
  kind : Int
structure Xi where
  name : ByteArray
  meth : ByteArray
  col : Int
  uniq : Bool
  state : Int

def coc (x : Co) : List Value := [.string x.name, .int .i64 x.kind]
abbrev coO (x : Co) : Obj := .cells #[.string x.name, .int .i64 x.kind] 71
def coRows (w : World) (B : Nat) (v : Value) (L : List Co) : Prop := w.ownsRow B 71 2 v L.length (L.flatMap coc)
theorem coRows.nil (w : World) (B : Nat) : coRows w B (.slice none 0 0) [] := World.ownsRow_nil _ _ _ _
theorem coRows.slice {w : World} {B : Nat} {v : Value} {L : List Co} (h : coRows w B v L) : ∃ A c, v = .slice A L.length c := by
  rcases h.2 with ⟨rfl, h0⟩ | ⟨g, cap, cur, rfl, _⟩
  · exact ⟨none, 0, by rw [h0]⟩
  · exact ⟨_, _, rfl⟩
theorem coRows.keep {w w' : World} {B : Nat} {v : Value} {L : List Co} (h : coRows w B v L) (e : ∀ k, v.ownBlock = some k → w'.heap[k]? = w.heap[k]?) : coRows w' B v L := by
  obtain ⟨h1, h2⟩ := h
  refine ⟨h1, ?_⟩
  rcases h2 with h2 | ⟨g, cap, cur, hv, hg, hh, r⟩
  · exact .inl h2
  · exact .inr ⟨g, cap, cur, hv, hg, (e g (by rw [hv]; rfl)).trans hh, r⟩
theorem coRows.own {w : World} {B : Nat} {v : Value} {L : List Co} (h : coRows w B v L) {k : Nat} (hk : v.ownBlock = some k) : k < w.heap.size ∧ ∃ cs fr, w.heap[k]? = some (.cells cs 71 fr) := by
  rcases h.2 with ⟨rfl, _⟩ | ⟨g, cap, cur, rfl, _, hh, _⟩
  · simp [Value.ownBlock] at hk
  · simp only [Value.ownBlock, Option.some.injEq] at hk
    subst hk
    exact ⟨(Array.getElem?_eq_some_iff.1 hh).1, _, _, hh⟩
theorem co_at : ∀ (L : List Co) (i : Nat) (h : i < L.length) (j : Nat), j < 2 → (L.flatMap coc)[i * 2 + j]? = (coc L[i])[j]?
  | [], i, h, _, _ => by simp at h
  | x :: L, 0, _, j, hj => by
    have h2 : (coc x).length = 2 := rfl
    simp only [List.flatMap_cons, Nat.zero_mul, Nat.zero_add, List.getElem_cons_zero]
    rw [List.getElem?_append_left (by omega)]
  | x :: L, i + 1, h, j, hj => by
    have h2 : (coc x).length = 2 := rfl
    simp only [List.flatMap_cons, List.getElem_cons_succ]
    rw [List.getElem?_append_right (by omega), h2, show (i + 1) * 2 + j - 2 = i * 2 + j by omega]
    exact co_at L i (by simpa using h) j hj
theorem coRows.cells {w : World} {B g n c : Nat} {o : Nat} {L : List Co} (h : coRows w B (.slice (some ⟨g, o, none⟩) n c) L) (i : Nat) (hi : i < L.length) :
    o = 0 ∧ n = L.length ∧ w.cell? ⟨g, i * 2, none⟩ = some (.string L[i].name) ∧ w.cell? ⟨g, i * 2 + 1, none⟩ = some (.int .i64 L[i].kind) := by
  rcases h.2 with ⟨e, h0⟩ | ⟨g', cap, cur, e, hg', _⟩
  · cases e
  · simp only [Value.slice.injEq, Option.some.injEq, Addr.mk.injEq] at e
    obtain ⟨⟨rfl, rfl, _⟩, rfl, rfl⟩ := e
    have key : ∀ j v, j < 2 → (coc L[i])[j]? = some v → w.cell? ⟨g, i * 2 + j, none⟩ = some v := fun j v hj hv => by
      have := World.ownsRow.cells h (g := g) rfl (i * 2 + j) v (by rw [co_at L i hi j hj]; exact hv)
      have ha : (⟨g, 0, none⟩ : Addr).add (i * 2 + j) = ⟨g, i * 2 + j, none⟩ := by unfold Addr.add; split <;> simp_all
      rw [← ha]; exact this
    exact ⟨rfl, rfl, key 0 _ (by omega) rfl, key 1 _ (by omega) rfl⟩
theorem coRows.nonil {w : World} {B n c : Nat} {L : List Co} (h : coRows w B (.slice none n c) L) : L = [] := by
  rcases h.2 with ⟨_, e⟩ | ⟨_, _, _, e, _⟩
  · exact List.length_eq_zero_iff.1 e
  · cases e
theorem co_info : (Tryz.prog.info? 71).map (fun i => (i.zero, i.size, i.bytes)) = some (some (.agg #[.string ⟨#[]⟩, .int .i64 0]), 2, 24) := by kernel_rfl
theorem step_appco {ops : Array Oper} {o : Oper} {a : Act} {K : Act → World → Prop} {Q : Exit → Act → World → Prop} {E : Prop} {W : World} (hgd : o.guard = none) (s x : Operand)
    (ho : o.op = .call { callee := .builtin .append, args := #[s, x], argTypes := #[29, 29] })
    (B : Nat) (v : Value) (l : List Co) (hs : a.eval s = v) (hb : coRows W B v l) (y : Co) (k c : Nat) (hx : a.eval x = .slice (some ⟨k, 0, none⟩) 1 c) (hk : k = W.heap.size)
    (hlen : l.length ≤ 1099511627776) (hB : B ≤ W.heap.size)
    (h : ∀ g cap w', coRows w' B (.slice (some ⟨g, 0, none⟩) (l ++ [y]).length cap) (l ++ [y]) → W.grownBy w' v.ownBlock → (v.ownBlock = some g ∨ W.heap.size ≤ g) → K (a.put o.dst (.slice (some ⟨g, 0, none⟩) (l ++ [y]).length cap)) w') : if Region.wanted o (yielded ops a.tmps) = true then Oper.wp Tryz.prog o a (W.alloc (coO y)) K Q else E := by
  have hw : Region.wanted o (yielded ops a.tmps) = true := by simp [Region.wanted, hgd]
  rw [if_pos hw]
  obtain ⟨i0, hi, hz0, hz1, hz2⟩ := info_of co_info
  subst hk
  refine wp_append_lies _ s x 29 ho B 71 i0 _ 2 24 Tryz.underlying29 hi hz0 hz1 hz2 rfl (by decide) v l.length (l.flatMap coc) hs (World.ownsRow.alloc hb _) ⟨W.heap.size, 0, none⟩ 1 c (coc y) hx rfl ?_ ?_ (by omega) (by unfold maxLen; omega) (by omega) (by simp; omega) _ rfl ?_
  · intro j u hj
    match j, hj with
    | 0, hj => simp [coc] at hj; subst hj; simp [Addr.add]
    | 1, hj => simp [coc] at hj; subst hj; simp [Addr.add]
  · intro u hu
    simp [coc] at hu
    rcases hu with rfl | rfl <;> rfl
  · intro g cap w' hown hg hat hlt
    rw [show l.length + 1 = (l ++ [y]).length by simp]
    refine h g cap w' ?_ (grown_then (World.grownBy_alloc W _ none) hg) (hat.imp id (fun e => by subst e; simp))
    unfold coRows
    rw [List.length_append, List.flatMap_append]
    simpa using hown
theorem wp_appco {ops : Array Oper} {rest : List Oper} {o : Oper} {a : Act} {Q : Exit → Act → World → Prop} {w : World} (hgd : o.guard = none) (s x : Operand)
    (ho : o.op = .call { callee := .builtin .append, args := #[s, x], argTypes := #[29, 29] })
    (B : Nat) (v : Value) (l : List Co) (hs : a.eval s = v) (hb : coRows w B v l) (y : Co) (k c : Nat) (hx : a.eval x = .slice (some ⟨k, 0, none⟩) 1 c) (h0 : w.cell? ⟨k, 0, none⟩ = some (.string y.name)) (h1 : w.cell? ⟨k, 1, none⟩ = some (.int .i64 y.kind))
    (hlen : l.length ≤ 1099511627776) (hB : B ≤ w.heap.size)
    (h : ∀ g cap w', coRows w' B (.slice (some ⟨g, 0, none⟩) (l ++ [y]).length cap) (l ++ [y]) → w.grownBy w' v.ownBlock → (v.ownBlock = some g ∨ g = w.heap.size) → wpList Tryz.prog ops Q rest (a.put o.dst (.slice (some ⟨g, 0, none⟩) (l ++ [y]).length cap)) w') : wpList Tryz.prog ops Q (o :: rest) a w := by
  obtain ⟨i0, hi, hz0, hz1, hz2⟩ := info_of co_info
  refine wpList_append_lies w hgd s x 29 ho B 71 i0 _ 2 24 Tryz.underlying29 hi hz0 hz1 hz2 rfl (by decide) v l.length (l.flatMap coc) hs hb ⟨k, 0, none⟩ 1 c (coc y) hx rfl ?_ ?_ (by omega) (by unfold maxLen; omega) (by omega) hB _ rfl ?_
  · intro j u hj
    match j, hj with
    | 0, hj => simp [coc] at hj; subst hj; simpa [Addr.add] using h0
    | 1, hj => simp [coc] at hj; subst hj; simpa [Addr.add] using h1
  · intro u hu
    simp [coc] at hu
    rcases hu with rfl | rfl <;> rfl
  · intro g cap w' hown hg hat hlt
    rw [show l.length + 1 = (l ++ [y]).length by simp]
    refine h g cap w' ?_ hg hat
    unfold coRows
    rw [List.length_append, List.flatMap_append]
    simpa using hown

def xic (x : Xi) : List Value := [.string x.name, .string x.meth, .int .i64 x.col, .bool x.uniq, .int .i64 x.state]
abbrev xiO (x : Xi) : Obj := .cells #[.string x.name, .string x.meth, .int .i64 x.col, .bool x.uniq, .int .i64 x.state] 23
def xiRows (w : World) (B : Nat) (v : Value) (L : List Xi) : Prop := w.ownsRow B 23 5 v L.length (L.flatMap xic)
theorem xiRows.nil (w : World) (B : Nat) : xiRows w B (.slice none 0 0) [] := World.ownsRow_nil _ _ _ _
theorem xiRows.slice {w : World} {B : Nat} {v : Value} {L : List Xi} (h : xiRows w B v L) : ∃ A c, v = .slice A L.length c := by
  rcases h.2 with ⟨rfl, h0⟩ | ⟨g, cap, cur, rfl, _⟩
  · exact ⟨none, 0, by rw [h0]⟩
  · exact ⟨_, _, rfl⟩
theorem xiRows.keep {w w' : World} {B : Nat} {v : Value} {L : List Xi} (h : xiRows w B v L) (e : ∀ k, v.ownBlock = some k → w'.heap[k]? = w.heap[k]?) : xiRows w' B v L := by
  obtain ⟨h1, h2⟩ := h
  refine ⟨h1, ?_⟩
  rcases h2 with h2 | ⟨g, cap, cur, hv, hg, hh, r⟩
  · exact .inl h2
  · exact .inr ⟨g, cap, cur, hv, hg, (e g (by rw [hv]; rfl)).trans hh, r⟩
theorem xiRows.own {w : World} {B : Nat} {v : Value} {L : List Xi} (h : xiRows w B v L) {k : Nat} (hk : v.ownBlock = some k) : k < w.heap.size ∧ ∃ cs fr, w.heap[k]? = some (.cells cs 23 fr) := by
  rcases h.2 with ⟨rfl, _⟩ | ⟨g, cap, cur, rfl, _, hh, _⟩
  · simp [Value.ownBlock] at hk
  · simp only [Value.ownBlock, Option.some.injEq] at hk
    subst hk
    exact ⟨(Array.getElem?_eq_some_iff.1 hh).1, _, _, hh⟩
theorem xi_at : ∀ (L : List Xi) (i : Nat) (h : i < L.length) (j : Nat), j < 5 → (L.flatMap xic)[i * 5 + j]? = (xic L[i])[j]?
  | [], i, h, _, _ => by simp at h
  | x :: L, 0, _, j, hj => by
    have h2 : (xic x).length = 5 := rfl
    simp only [List.flatMap_cons, Nat.zero_mul, Nat.zero_add, List.getElem_cons_zero]
    rw [List.getElem?_append_left (by omega)]
  | x :: L, i + 1, h, j, hj => by
    have h2 : (xic x).length = 5 := rfl
    simp only [List.flatMap_cons, List.getElem_cons_succ]
    rw [List.getElem?_append_right (by omega), h2, show (i + 1) * 5 + j - 5 = i * 5 + j by omega]
    exact xi_at L i (by simpa using h) j hj
theorem xiRows.cells {w : World} {B g n c : Nat} {o : Nat} {L : List Xi} (h : xiRows w B (.slice (some ⟨g, o, none⟩) n c) L) (i : Nat) (hi : i < L.length) :
    o = 0 ∧ n = L.length ∧ w.cell? ⟨g, i * 5, none⟩ = some (.string L[i].name) ∧ w.cell? ⟨g, i * 5 + 1, none⟩ = some (.string L[i].meth) ∧ w.cell? ⟨g, i * 5 + 2, none⟩ = some (.int .i64 L[i].col) ∧ w.cell? ⟨g, i * 5 + 3, none⟩ = some (.bool L[i].uniq) ∧ w.cell? ⟨g, i * 5 + 4, none⟩ = some (.int .i64 L[i].state) := by
  rcases h.2 with ⟨e, h0⟩ | ⟨g', cap, cur, e, hg', _⟩
  · cases e
  · simp only [Value.slice.injEq, Option.some.injEq, Addr.mk.injEq] at e
    obtain ⟨⟨rfl, rfl, _⟩, rfl, rfl⟩ := e
    have key : ∀ j v, j < 5 → (xic L[i])[j]? = some v → w.cell? ⟨g, i * 5 + j, none⟩ = some v := fun j v hj hv => by
      have := World.ownsRow.cells h (g := g) rfl (i * 5 + j) v (by rw [xi_at L i hi j hj]; exact hv)
      have ha : (⟨g, 0, none⟩ : Addr).add (i * 5 + j) = ⟨g, i * 5 + j, none⟩ := by unfold Addr.add; split <;> simp_all
      rw [← ha]; exact this
    exact ⟨rfl, rfl, key 0 _ (by omega) rfl, key 1 _ (by omega) rfl, key 2 _ (by omega) rfl, key 3 _ (by omega) rfl, key 4 _ (by omega) rfl⟩
theorem xiRows.nonil {w : World} {B n c : Nat} {L : List Xi} (h : xiRows w B (.slice none n c) L) : L = [] := by
  rcases h.2 with ⟨_, e⟩ | ⟨_, _, _, e, _⟩
  · exact List.length_eq_zero_iff.1 e
  · cases e
theorem xi_info : (Tryz.prog.info? 23).map (fun i => (i.zero, i.size, i.bytes)) = some (some (.agg #[.string ⟨#[]⟩, .string ⟨#[]⟩, .int .i64 0, .bool false, .int .i64 0]), 5, 56) := by kernel_rfl
theorem step_appxi {ops : Array Oper} {o : Oper} {a : Act} {K : Act → World → Prop} {Q : Exit → Act → World → Prop} {E : Prop} {W : World} (hgd : o.guard = none) (s x : Operand)
    (ho : o.op = .call { callee := .builtin .append, args := #[s, x], argTypes := #[43, 43] })
    (B : Nat) (v : Value) (l : List Xi) (hs : a.eval s = v) (hb : xiRows W B v l) (y : Xi) (k c : Nat) (hx : a.eval x = .slice (some ⟨k, 0, none⟩) 1 c) (hk : k = W.heap.size)
    (hlen : l.length ≤ 1099511627776) (hB : B ≤ W.heap.size)
    (h : ∀ g cap w', xiRows w' B (.slice (some ⟨g, 0, none⟩) (l ++ [y]).length cap) (l ++ [y]) → W.grownBy w' v.ownBlock → (v.ownBlock = some g ∨ W.heap.size ≤ g) → K (a.put o.dst (.slice (some ⟨g, 0, none⟩) (l ++ [y]).length cap)) w') : if Region.wanted o (yielded ops a.tmps) = true then Oper.wp Tryz.prog o a (W.alloc (xiO y)) K Q else E := by
  have hw : Region.wanted o (yielded ops a.tmps) = true := by simp [Region.wanted, hgd]
  rw [if_pos hw]
  obtain ⟨i0, hi, hz0, hz1, hz2⟩ := info_of xi_info
  subst hk
  refine wp_append_lies _ s x 43 ho B 23 i0 _ 5 56 Tryz.underlying43 hi hz0 hz1 hz2 rfl (by decide) v l.length (l.flatMap xic) hs (World.ownsRow.alloc hb _) ⟨W.heap.size, 0, none⟩ 1 c (xic y) hx rfl ?_ ?_ (by omega) (by unfold maxLen; omega) (by omega) (by simp; omega) _ rfl ?_
  · intro j u hj
    match j, hj with
    | 0, hj => simp [xic] at hj; subst hj; simp [Addr.add]
    | 1, hj => simp [xic] at hj; subst hj; simp [Addr.add]
    | 2, hj => simp [xic] at hj; subst hj; simp [Addr.add]
    | 3, hj => simp [xic] at hj; subst hj; simp [Addr.add]
    | 4, hj => simp [xic] at hj; subst hj; simp [Addr.add]
  · intro u hu
    simp [xic] at hu
    rcases hu with rfl | rfl | rfl | rfl | rfl <;> rfl
  · intro g cap w' hown hg hat hlt
    rw [show l.length + 1 = (l ++ [y]).length by simp]
    refine h g cap w' ?_ (grown_then (World.grownBy_alloc W _ none) hg) (hat.imp id (fun e => by subst e; simp))
    unfold xiRows
    rw [List.length_append, List.flatMap_append]
    simpa using hown
theorem wp_appxi {ops : Array Oper} {rest : List Oper} {o : Oper} {a : Act} {Q : Exit → Act → World → Prop} {w : World} (hgd : o.guard = none) (s x : Operand)
    (ho : o.op = .call { callee := .builtin .append, args := #[s, x], argTypes := #[43, 43] })
    (B : Nat) (v : Value) (l : List Xi) (hs : a.eval s = v) (hb : xiRows w B v l) (y : Xi) (k c : Nat) (hx : a.eval x = .slice (some ⟨k, 0, none⟩) 1 c) (h0 : w.cell? ⟨k, 0, none⟩ = some (.string y.name)) (h1 : w.cell? ⟨k, 1, none⟩ = some (.string y.meth)) (h2 : w.cell? ⟨k, 2, none⟩ = some (.int .i64 y.col)) (h3 : w.cell? ⟨k, 3, none⟩ = some (.bool y.uniq)) (h4 : w.cell? ⟨k, 4, none⟩ = some (.int .i64 y.state))
    (hlen : l.length ≤ 1099511627776) (hB : B ≤ w.heap.size)
    (h : ∀ g cap w', xiRows w' B (.slice (some ⟨g, 0, none⟩) (l ++ [y]).length cap) (l ++ [y]) → w.grownBy w' v.ownBlock → (v.ownBlock = some g ∨ g = w.heap.size) → wpList Tryz.prog ops Q rest (a.put o.dst (.slice (some ⟨g, 0, none⟩) (l ++ [y]).length cap)) w') : wpList Tryz.prog ops Q (o :: rest) a w := by
  obtain ⟨i0, hi, hz0, hz1, hz2⟩ := info_of xi_info
  refine wpList_append_lies w hgd s x 43 ho B 23 i0 _ 5 56 Tryz.underlying43 hi hz0 hz1 hz2 rfl (by decide) v l.length (l.flatMap xic) hs hb ⟨k, 0, none⟩ 1 c (xic y) hx rfl ?_ ?_ (by omega) (by unfold maxLen; omega) (by omega) hB _ rfl ?_
  · intro j u hj
    match j, hj with
    | 0, hj => simp [xic] at hj; subst hj; simpa [Addr.add] using h0
    | 1, hj => simp [xic] at hj; subst hj; simpa [Addr.add] using h1
    | 2, hj => simp [xic] at hj; subst hj; simpa [Addr.add] using h2
    | 3, hj => simp [xic] at hj; subst hj; simpa [Addr.add] using h3
    | 4, hj => simp [xic] at hj; subst hj; simpa [Addr.add] using h4
  · intro u hu
    simp [xic] at hu
    rcases hu with rfl | rfl | rfl | rfl | rfl <;> rfl
  · intro g cap w' hown hg hat hlt
    rw [show l.length + 1 = (l ++ [y]).length by simp]
    refine h g cap w' ?_ hg hat
    unfold xiRows
    rw [List.length_append, List.flatMap_append]
    simpa using hown
end Go.Proofs.YtddddjpmeegedaaGreat
