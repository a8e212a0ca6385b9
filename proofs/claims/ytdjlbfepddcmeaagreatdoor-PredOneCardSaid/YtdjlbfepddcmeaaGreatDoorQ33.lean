/- A predicate's text is read: parts between brackets: what lies in memory meanwhile. -/
import Derived.Test.YtdjlbfepddcmeaaGreatDoorQ32
set_option linter.unusedVariables false
set_option linter.unusedSimpArgs false
namespace Go.Proofs.YtdjlbfepddcmeaaGreatDoor
open Go.RowKit

/-- A part that was read, as its cells hold it. -/
structure PE where
  t : PT
  a : Option Addr
  c : Nat
  pa : Option Addr
  pc : Nat
def peCells (e : PE) : List Value := [.int .i64 e.t.op, .int .i64 e.t.col, .int .i64 e.t.d.k, .int .i64 e.t.d.n, .string e.t.d.s, .slice e.a e.t.d.l.length e.c, .slice e.pa e.t.parts.length e.pc]
abbrev Rows (w : World) (B g cap : Nat) (E : List PE) : Prop := w.ownsRow B 27 7 (.slice (some ⟨g, 0, none⟩) E.length cap) E.length (E.flatMap peCells)
theorem peCells_len (E : List PE) : (E.flatMap peCells).length = E.length * 7 := by
  induction E with
  | nil => rfl
  | cons x E ih => simp only [List.flatMap_cons, List.length_append, List.length_cons, ih, peCells, List.length_nil]; omega
theorem peCells_at (E : List PE) (i : Nat) (h : i < E.length) (j : Nat) (hj : j < 7) : (E.flatMap peCells)[i * 7 + j]? = (peCells E[i])[j]? := by
  induction E generalizing i with
  | nil => simp at h
  | cons x E ih =>
    have h7 : (peCells x).length = 7 := rfl
    cases i with
    | zero => simp only [List.flatMap_cons, Nat.zero_mul, Nat.zero_add, List.getElem_cons_zero]; rw [List.getElem?_append_left (by omega)]
    | succ i =>
      simp only [List.flatMap_cons, List.getElem_cons_succ]
      rw [List.getElem?_append_right (by omega), h7, show (i + 1) * 7 + j - 7 = i * 7 + j by omega]
      exact ih i (by simpa using h)
theorem Rows.base {w : World} {B g cap : Nat} {E : List PE} (h : Rows w B g cap E) : B ≤ g ∧ g < w.heap.size := World.ownsRow.lt h g rfl
theorem Rows.cells {w : World} {B g cap : Nat} {E : List PE} (h : Rows w B g cap E) (i : Nat) (hi : i < E.length) {B' : Nat} (hB : B' ≤ g) : PCells (veil B' w) g (0 + i * 7) E[i].t E[i].a E[i].c E[i].pa E[i].pc := by
  have key : ∀ j v, j < 7 → (peCells E[i])[j]? = some v → (veil B' w).cell? ⟨g, 0 + i * 7 + j, none⟩ = some v := fun j v hj hv => by
    refine cell_veil hB ?_
    have := World.ownsRow.cells h (g := g) rfl (i * 7 + j) v (by rw [peCells_at E i hi j hj]; exact hv)
    have ha : (⟨g, 0, none⟩ : Addr).add (i * 7 + j) = ⟨g, 0 + i * 7 + j, none⟩ := by unfold Addr.add; split <;> simp_all
    rw [← ha]; exact this
  exact ⟨key 0 _ (by omega) rfl, key 1 _ (by omega) rfl, key 2 _ (by omega) rfl, key 3 _ (by omega) rfl, key 4 _ (by omega) rfl, key 5 _ (by omega) rfl, key 6 _ (by omega) rfl⟩

theorem info_pred : (Tryz.prog.info? 27).map (fun i => (i.zero, i.size, i.bytes)) = some (some (.agg #[.int .i64 0, .int .i64 0, .int .i64 0, .int .i64 0, .string ⟨#[]⟩, .slice none 0 0, .slice none 0 0]), 7, 96) := by kernel_rfl

/-- append of a predicate that has just been laid, in a region that draws. -/
theorem step_appP {ops : Array Oper} {o : Oper} {a : Act} {K : Act → World → Prop} {Q : Exit → Act → World → Prop} {C : Prop} {W : World} (hgd : o.guard = none) (s x : Operand)
    (ho : o.op = .call { callee := .builtin .append, args := #[s, x], argTypes := #[25, 25] })
    (B g cap : Nat) (E : List PE) (hs : a.eval s = .slice (some ⟨g, 0, none⟩) E.length cap) (hb : Rows W B g cap E) (y : PE) (k c : Nat) (hx : a.eval x = .slice (some ⟨k, 0, none⟩) 1 c) (hk : k = W.heap.size)
    (hlen : E.length ≤ 8) (hB : B ≤ W.heap.size)
    (h : ∀ g' cap' w', Rows w' B g' cap' (E ++ [y]) → (W.alloc (pbox y.t y.a y.c y.pa y.pc)).grownBy w' (some g) → (g' = g ∨ g' = W.heap.size + 1) → K (a.put o.dst (.slice (some ⟨g', 0, none⟩) (E.length + 1) cap')) w') :
    if Region.wanted o (yielded ops a.tmps) = true then Oper.wp Tryz.prog o a (W.alloc (pbox y.t y.a y.c y.pa y.pc)) K Q else C := by
  have hw : Region.wanted o (yielded ops a.tmps) = true := by simp [Region.wanted, hgd]
  rw [if_pos hw]
  obtain ⟨i0, hi, hz0, hz1, hz2⟩ := info_parts info_pred
  subst hk
  refine wp_append_lies _ s x 25 ho B 27 i0 _ 7 96 Tryz.underlying25 hi hz0 hz1 hz2 rfl (by decide) _ E.length (E.flatMap peCells) hs (hb.alloc _) ⟨W.heap.size, 0, none⟩ 1 c (peCells y) hx rfl ?_ ?_ (by omega) (by unfold maxLen; omega) (by omega) (by simp; omega) _ rfl ?_
  · intro j u hj
    match j, hj with
    | 0, hj => simp [peCells] at hj; subst hj; simp [Addr.add]
    | 1, hj => simp [peCells] at hj; subst hj; simp [Addr.add]
    | 2, hj => simp [peCells] at hj; subst hj; simp [Addr.add]
    | 3, hj => simp [peCells] at hj; subst hj; simp [Addr.add]
    | 4, hj => simp [peCells] at hj; subst hj; simp [Addr.add]
    | 5, hj => simp [peCells] at hj; subst hj; simp [Addr.add]
    | 6, hj => simp [peCells] at hj; subst hj; simp [Addr.add]
  · intro u hu
    simp [peCells] at hu
    rcases hu with rfl | rfl | rfl | rfl | rfl | rfl | rfl <;> rfl
  · intro g' cap' w' hown hg hor _
    refine h g' cap' w' ?_ hg ?_
    · unfold Rows
      rw [List.length_append, List.flatMap_append]
      simpa using hown
    · rcases hor with h | h
      · left; simpa [Value.ownBlock] using h.symm
      · right; rw [h]; simp

/-- What stays as it is while parts are read: all but the row's own block and the node's. -/
def Vb (B g q : Nat) (w : World) : World := blank (blank (veil B w) g) q
theorem vb_cell {B g q : Nat} {w : World} {p : Addr} {v : Value} (h : (Vb B g q w).cell? p = some v) : B ≤ p.block ∧ p.block ≠ g ∧ p.block ≠ q ∧ w.cell? p = some v := by
  obtain ⟨h1, h2⟩ := blank_cell h
  obtain ⟨h3, h4⟩ := blank_cell h2
  obtain ⟨h5, h6⟩ := veil_cell h4
  exact ⟨h5, h3, h1, h6⟩
theorem cell_vb {B g q : Nat} {w : World} {p : Addr} {v : Value} (h1 : B ≤ p.block) (h2 : p.block ≠ g) (h3 : p.block ≠ q) (h : w.cell? p = some v) : (Vb B g q w).cell? p = some v :=
  cell_blank h3 (cell_blank h2 (cell_veil h1 h))
theorem vb_ext {B g g' q : Nat} {w w1 : World} (h : ∀ p v, B ≤ p.block → p.block ≠ g → p.block ≠ q → p.block < w.heap.size → w.cell? p = some v → w1.cell? p = some v) (hg : g' = g ∨ w.heap.size ≤ g') : Ext (Vb B g q w) (Vb B g' q w1) := fun p v hp => by
  obtain ⟨h1, h2, h3, h4⟩ := vb_cell hp
  have hlt := World.block_lt_of_cell? w p h4
  exact cell_vb h1 (by rcases hg with rfl | hg; exact h2; omega) h3 (h p v h1 h2 h3 hlt h4)
theorem vb_only {B g q r : Nat} {w w1 : World} (h : Only r w w1) (hr : r < B) : Ext (Vb B g q w) (Vb B g q w1) := vb_ext (fun p v h1 _ _ _ hp => h.cell hp (by omega)) (.inl rfl)
theorem vb_set {B g q : Nat} (w : World) (i : Nat) (u : Value) : Ext (Vb B g q w) (Vb B g q (w.setCell ⟨q, i, none⟩ u)) := vb_ext (fun p v _ _ h3 _ hp => by
  rw [World.cell?_setCell_other _ _ _ _ (fun e => h3 (by rw [← e]))]; exact hp) (.inl rfl)
theorem vb_below {B g q : Nat} {w w1 : World} (h : Below w.heap.size w w1) : Ext (Vb B g q w) (Vb B g q w1) := vb_ext (fun p v _ _ _ hlt hp => (h.cell hlt).trans hp) (.inl rfl)
theorem vb_app {B g g' q : Nat} {w w1 : World} (h : w.grownBy w1 (some g)) (hg : g' = g ∨ w.heap.size ≤ g') : Ext (Vb B g q w) (Vb B g' q w1) := vb_ext (fun p v _ h2 _ _ hp => h.cell hp (by simpa using h2)) hg
theorem vb_veil (B g q : Nat) (w : World) : Ext (Vb B g q w) (veil B w) := fun p v hp => by
  obtain ⟨h1, _, _, h4⟩ := vb_cell hp
  exact cell_veil h1 h4
theorem veil_vb {B0 B g q : Nat} {w : World} (hB : B ≤ B0) (hg : g < B0) (hq : q < B0) : Ext (veil B0 w) (Vb B g q w) := fun p v hp => by
  obtain ⟨h1, h2⟩ := veil_cell hp
  exact cell_vb (by omega) (by omega) (by omega) h2

/-- A node as it is built. -/
abbrev nbox (op : Int) (g k cap : Nat) : Obj := .cells #[.int .i64 op, .int .i64 0, .int .i64 0, .int .i64 0, .string ⟨#[]⟩, .slice none 0 0, .slice (some ⟨g, 0, none⟩) k cap] 27
theorem nbox_op {w : World} {q : Nat} {op : Int} {g k cap : Nat} (h : w.heap[q]? = some (nbox op g k cap)) (op' : Int) : (w.setCell ⟨q, 0, none⟩ (.int .i64 op')).heap[q]? = some (nbox op' g k cap) := by
  unfold World.setCell
  simp only [Array.getElem?_modify, if_true, h, Option.map_some]
  rfl
theorem nbox_row {w : World} {q : Nat} {op : Int} {g k cap : Nat} (h : w.heap[q]? = some (nbox op g k cap)) (g' k' cap' : Nat) : (w.setCell ⟨q, 6, none⟩ (.slice (some ⟨g', 0, none⟩) k' cap')).heap[q]? = some (nbox op g' k' cap') := by
  unfold World.setCell
  simp only [Array.getElem?_modify, if_true, h, Option.map_some]
  rfl
theorem nbox_cells {w : World} {q : Nat} {op : Int} {g k cap : Nat} (h : w.heap[q]? = some (nbox op g k cap)) :
    (w.cell? ⟨q, 0, none⟩ = some (.int .i64 op) ∧ w.cell? ⟨q, 1, none⟩ = some (.int .i64 0) ∧ w.cell? ⟨q, 2, none⟩ = some (.int .i64 0) ∧ w.cell? ⟨q, 3, none⟩ = some (.int .i64 0) ∧ w.cell? ⟨q, 4, none⟩ = some (.string ⟨#[]⟩) ∧ w.cell? ⟨q, 5, none⟩ = some (.slice none 0 0) ∧ w.cell? ⟨q, 6, none⟩ = some (.slice (some ⟨g, 0, none⟩) k cap))
    ∧ (w.frozen? ⟨q, 0, none⟩ = false ∧ w.frozen? ⟨q, 6, none⟩ = false) := by
  refine ⟨⟨?_, ?_, ?_, ?_, ?_, ?_, ?_⟩, ?_, ?_⟩ <;> first | (unfold World.cell?; rw [h]; rfl) | (unfold World.frozen?; rw [h]; rfl)

/-- The text behind the first parts. -/
def tailK (cols : List Co) (n : Nat) (W rest : List UInt8) : List PT → List UInt8
  | [] => 41 :: rest
  | p :: ps => W ++ (textP cols n p ++ tailK cols n W rest ps)
theorem join_two' (x y : List UInt8) (r : List (List UInt8)) (W : List UInt8) : Lib.join (x :: y :: r) W = x ++ (W ++ Lib.join (y :: r) W) := by
  simp [Lib.join]
theorem join_tail (cols : List Co) (n : Nat) (W rest : List UInt8) : ∀ (p : PT) (ps : List PT), Lib.join ((p :: ps).map (textP cols n)) W ++ [41] ++ rest = textP cols n p ++ tailK cols n W rest ps
  | p, [] => by simp [tailK, Lib.join_one]
  | p, q :: ps => by
    have ih := join_tail cols n W rest q ps
    rw [tailK, ← ih, List.map_cons, List.map_cons, join_two']
    simp
theorem tail_stop (cols : List Co) (n : Nat) (W rest : List UInt8) (hW : ∃ r, W = 32 :: r) (ps : List PT) : Stop (tailK cols n W rest ps) := by
  obtain ⟨r, rfl⟩ := hW
  cases ps with
  | nil => exact .inr ⟨rest, .inr rfl⟩
  | cons p ps => exact .inr ⟨r ++ (textP cols n p ++ tailK cols n (32 :: r) rest ps), .inl rfl⟩

/-- How it lies while parts are read: k of them. -/
structure Lies (n r : Nat) (ac : Option Addr) (cc : Nat) (cols : List Co) (W rest : List UInt8) (ps : List PT) (op : Int) (w : World) (B q : Nat) (k : Nat) (E : List PE) (g cap : Nat) (wr : World) : Prop where
  ts : E.map (·.t) = ps.take k
  rows : Rows wr B g cap E
  is : ∀ e ∈ E, PredIs n (Vb B g q wr) e.t e.a e.pa
  gq : g ≠ q
  box : wr.heap[q]? = some (nbox (if k = 1 then 0 else op) g k cap)
  rd : RdL r ac cols.length cc (tailK cols n W rest (ps.drop k)) wr
  on : Only r w wr
  z : wr.heap[w.heap.size]? = some zbox
theorem Lies.len {n r : Nat} {ac : Option Addr} {cc : Nat} {cols : List Co} {W rest : List UInt8} {ps : List PT} {op : Int} {w : World} {B q k : Nat} {E : List PE} {g cap : Nat} {wr : World} (h : Lies n r ac cc cols W rest ps op w B q k E g cap wr) (hk : k ≤ ps.length) : E.length = k := by
  have := congrArg List.length h.ts
  simpa [Nat.min_eq_left hk] using this
/-- All parts are read. -/
theorem Lies.pred {n r : Nat} {ac : Option Addr} {cc : Nat} {cols : List Co} {W rest : List UInt8} {ps : List PT} {op : Int} {w : World} {B q k : Nat} {E : List PE} {g cap : Nat} {wr w1 : World} (h : Lies n r ac cc cols W rest ps op w B q k E g cap wr) (hk : k = ps.length)
    (ho : Only r wr w1) (hr : r < B) (hz : w.heap.size < B) (hop : In64 op) (hp8 : ps.length ≤ 8) (v0 v1 v2 v3 v4 v5 v6 : Value) :
    PredIs (n + 1) (veil w.heap.size (put7 w1 w.heap.size v0 v1 v2 v3 v4 v5 v6)) (.node op 0 ⟨0, 0, ⟨#[]⟩, []⟩ ps) none (some ⟨g, 0, none⟩) := by
  have hl := h.len (by omega)
  have hE : E.map (·.t) = ps := by rw [h.ts, hk, List.take_length]
  have hB := h.rows.base.1
  refine ⟨zeroD_is _, hop, (by show In64 0; exact ⟨by omega, by omega⟩), (by show ps.length ≤ _; omega), .inr ⟨g, 0, rfl, fun i hi => ?_⟩⟩
  have hi' : i < E.length := by rw [hl, hk]; exact hi
  have e1 : E[i].t = ps[i]'hi := by
    have := List.getElem_map (f := fun e : PE => e.t) (l := E) (i := i) (h := by simpa using hi')
    rw [← this]
    simp only [hE]
    rfl
  have ext : Ext (veil B wr) (veil w.heap.size (put7 w1 w.heap.size v0 v1 v2 v3 v4 v5 v6)) := ((veil_only ho hr).trans (veil_put7 hz v0 v1 v2 v3 v4 v5 v6)).trans (veil_mono _ (by omega))
  refine ⟨E[i].a, E[i].c, E[i].pa, E[i].pc, ?_, ?_⟩
  · show PCells _ g (0 + i * 7) (ps[i]'hi) _ _ _ _
    rw [← e1]
    exact (h.rows.cells i hi' hB).ext ext
  · show PredIs n _ (ps[i]'hi) _ _
    rw [← e1]
    exact ((h.is E[i] (List.getElem_mem hi')).ext (vb_veil B g q wr)).ext ext

/-- In a round, the node's operator put. -/
structure Mid (n r : Nat) (ps : List PT) (op : Int) (w : World) (B q : Nat) (E : List PE) (g cap : Nat) (wA : World) : Prop where
  ts : E.map (·.t) = ps.take E.length
  rows : Rows wA B g cap E
  is : ∀ e ∈ E, PredIs n (Vb B g q wA) e.t e.a e.pa
  gq : g ≠ q
  box : wA.heap[q]? = some (nbox op g E.length cap)
  on : Only r w wA
  z : wA.heap[w.heap.size]? = some zbox
theorem own_slice (g k cap : Nat) : (Value.slice (some ⟨g, 0, none⟩) k cap).ownBlock = some g := rfl
theorem Rows.only {w w1 : World} {B g cap r : Nat} {E : List PE} (h : Rows w B g cap E) (ho : Only r w w1) (hr : r < B) : Rows w1 B g cap E :=
  World.ownsRow.kept h (row := some r) ho (.inr (by rw [own_slice]; have := h.base.1; simp; omega))
theorem Rows.put {w : World} {B g cap q : Nat} {E : List PE} (h : Rows w B g cap E) (hq : g ≠ q) (i : Nat) (u : Value) : Rows (w.setCell ⟨q, i, none⟩ u) B g cap E :=
  ownsRow_setCell_other h (by rw [own_slice]; simpa using hq) u
theorem heap_set {w : World} {z q : Nat} (h : z ≠ q) (i : Nat) (u : Value) : (w.setCell ⟨q, i, none⟩ u).heap[z]? = w.heap[z]? := by
  unfold World.setCell
  simp only [Array.getElem?_modify, if_neg (fun e : q = z => h e.symm)]
theorem Only.fresh {r : Nat} {a w : World} (h : Only r a w) {q : Nat} (hq : a.heap.size ≤ q) (i : Nat) (u : Value) : Only r a (w.setCell ⟨q, i, none⟩ u) := h.set ⟨q, i, none⟩ (.inr hq) u

theorem Only.of_grown {r g : Nat} {a w w1 : World} (h : w.grownBy w1 (some g)) (hg : a.heap.size ≤ g) : Only r a w → Only r a w1 := fun ha =>
  ⟨h.os.trans ha.os, h.tape.trans ha.tape, h.output.trans ha.output, Nat.le_trans ha.size h.size, fun k hk hne => (h.block k (Nat.lt_of_lt_of_le hk ha.size) (by simp; omega)).trans (ha.block k hk hne)⟩
theorem Lies.mid {n r : Nat} {ac : Option Addr} {cc : Nat} {cols : List Co} {W rest : List UInt8} {ps : List PT} {op : Int} {w : World} {B q k : Nat} {E : List PE} {g cap : Nat} {wr w2 : World} (h : Lies n r ac cc cols W rest ps op w B q k E g cap wr) (hk : E.length = k)
    (ho : Only r wr w2) (hr : r < B) (hz : w.heap.size < B) (hB : B ≤ q) (hzr : w.heap.size ≠ r) : Mid n r ps op w B q E g cap (w2.setCell ⟨q, 0, none⟩ (.int .i64 op)) := by
  subst hk
  exact ⟨h.ts, (h.rows.only ho hr).put h.gq _ _, fun e he => ((h.is e he).ext (vb_only ho hr)).ext (vb_set _ _ _), h.gq, nbox_op (ho.heap h.box (by omega)) op, Only.fresh (h.on.trans ho) (by omega) _ _, (heap_set (by omega) _ _).trans (ho.heap h.z hzr)⟩

theorem Mid.drew {n r : Nat} {ps : List PT} {op : Int} {w : World} {B q : Nat} {E : List PE} {g cap : Nat} {wA : World} (h : Mid n r ps op w B q E g cap wA) : Mid n r ps op w B q E g cap wA.drew :=
  ⟨h.ts, World.ownsRow.drew h.rows, fun e he => (h.is e he).ext (vb_below (by go_grown)), h.gq, h.box, Only.below h.on (by go_grown), h.z⟩
theorem Mid.only {n r : Nat} {ps : List PT} {op : Int} {w : World} {B q : Nat} {E : List PE} {g cap : Nat} {wA w5 : World} (h : Mid n r ps op w B q E g cap wA) (ho : Only r wA w5) (hr : r < B) (hz : w.heap.size ≠ r) (hq : q ≠ r) : Mid n r ps op w B q E g cap w5 :=
  ⟨h.ts, h.rows.only ho hr, fun e he => (h.is e he).ext (vb_only ho hr), h.gq, ho.heap h.box hq, h.on.trans ho, ho.heap h.z hz⟩

theorem Mid.step {n r : Nat} {ac : Option Addr} {cc : Nat} {cols : List Co} {W rest : List UInt8} {ps : List PT} {op : Int} {w : World} {B q : Nat} {E : List PE} {g cap : Nat} {w5 w6 : World} (h : Mid n r ps op w B q E g cap w5) (hk : E.length < ps.length) (h1 : 1 ≤ E.length)
    (a : Option Addr) (c : Nat) (pa : Option Addr) (pc : Nat) (B0 : Nat) (hp : PredIs n (veil B0 w5) ps[E.length] a pa) (hB0 : q < B0 ∧ g < B0 ∧ B ≤ B0) (hrd : RdL r ac cols.length cc (tailK cols n W rest (ps.drop (E.length + 1))) w5)
    (g' cap' : Nat) (hrows : Rows w6 B g' cap' (E ++ [⟨ps[E.length], a, c, pa, pc⟩])) (hg : (w5.alloc (pbox ps[E.length] a c pa pc)).grownBy w6 (some g)) (hor : g' = g ∨ g' = w5.heap.size + 1) (hr : r < B) (hz : w.heap.size < B) (hB : B ≤ q) :
    Lies n r ac cc cols W rest ps op w B q (E.length + 1) (E ++ [⟨ps[E.length], a, c, pa, pc⟩]) g' cap' (w6.setCell ⟨q, 6, none⟩ (.slice (some ⟨g', 0, none⟩) (E.length + 1) cap')) := by
  have hb := h.rows.base
  have hal : Below w5.heap.size w5 (w5.alloc (pbox ps[E.length] a c pa pc)) := by go_grown
  have hor' : g' = g ∨ (w5.alloc (pbox ps[E.length] a c pa pc)).heap.size ≤ g' := by
    rcases hor with h | h
    · exact .inl h
    · right; rw [h]; simp
  have hqlt : q < w5.heap.size := World.block_lt_of_cell? w5 ⟨q, 0, none⟩ (nbox_cells h.box).1.1
  have hrlt : r < w5.heap.size := hrd.lt
  have hzlt : w.heap.size < w5.heap.size := World.block_lt_of_cell? w5 ⟨w.heap.size, 0, none⟩ (box7 h.z).1.1
  have blk : ∀ b, b < w5.heap.size → b ≠ g → w6.heap[b]? = w5.heap[b]? := fun b hb hne =>
    (hg.block b (by simp; omega) (by simpa using hne)).trans (hal.block b hb)
  have ext : Ext (Vb B g q w5) (Vb B g' q (w6.setCell ⟨q, 6, none⟩ (.slice (some ⟨g', 0, none⟩) (E.length + 1) cap'))) := ((vb_below hal).trans (vb_app hg hor')).trans (vb_set _ _ _)
  have hgq' : g' ≠ q := by
    rcases hor with h' | h'
    · rw [h']; exact h.gq
    · omega
  have hO6 : Only r w w6 := Only.of_grown hg (by omega) (Only.alloc h.on (pbox ps[E.length] a c pa pc))
  refine ⟨?_, hrows.put hgq' _ _, ?_, hgq', ?_, ?_, Only.fresh hO6 (by omega) _ _, ?_⟩
  · rw [List.map_append, h.ts, List.take_succ_eq_append_getElem hk]; rfl
  · intro e he
    rcases List.mem_append.1 he with he | he
    · exact (h.is e he).ext ext
    · obtain rfl := List.mem_singleton.1 he
      exact (hp.ext (veil_vb hB0.2.2 hB0.2.1 hB0.1)).ext ext
  · rw [if_neg (by omega)]
    exact nbox_row ((blk q hqlt (fun e => h.gq e.symm)).trans h.box) _ _ _
  · exact RdL.off (show RdL r ac cols.length cc _ w6 from (blk r hrlt (by omega)).trans hrd) ⟨q, 6, none⟩ (by show q ≠ r; omega) _
  · rw [heap_set (by omega)]
    exact (blk w.heap.size hzlt (by omega)).trans h.z
end Go.Proofs.YtdjlbfepddcmeaaGreatDoor
