/- A predicate's text is read. Parse: its deferred closure, idle. What must come, whatever the arguments are: awake. PredPrints and PredHolds: the walks. Predicates, columns and asks that came in, opened. -/
import Derived.Test.YtdjlbfepddcmeaaGreatDoorQ34
import Derived.Defers
import Derived.Recover
import Derived.Test.YtdjlbfepddcmeaaGreatDoorQ22
import Derived.Test.YtdjlbfepddcmeaaGreatDoorQ28
import Derived.Test.YtdjlbfepddcmeaaGreatDoorQ29
import Derived.Test.YtdjlbfepddcmeaaGreatDoorQ24
import Derived.Test.YtdjlbfepddcmeaaGreatDoorQ03
set_option linter.unusedVariables false
set_option linter.unusedSimpArgs false
namespace Go.Proofs.YtdjlbfepddcmeaaGreatDoor
open Go.RowKit

theorem read_ok (cols : List Co) (ac : Option Addr) (cc : Nat) (hcols : colsB cols = true) : ∀ n, n ≤ 8 → ReadOK cols ac cc n
  | 0, _ => fun m w0 t a0 pa0 r rest w _ hm => by simp [mayP] at hm
  | n + 1, hn => by
    have ih := read_ok cols ac cc hcols n (by omega)
    intro m w0 t a0 pa0 r rest w hp hm h hc hst hlen hG h8
    by_cases ho : 1 ≤ t.op ∧ t.op ≤ 6
    · exact read_leaf cols ac cc n hcols m w0 t a0 pa0 r rest w hp hm ho h hc hst hlen hG h8
    · rcases (mayP_parts hm ho).2.2.1 with h7 | h7 | ⟨h7, _⟩ | ⟨h7, _⟩
      · exact read_and cols ac cc n (by omega) hcols ih m w0 t a0 pa0 r rest w hp hm h7 h hc hst hlen hG h8
      · exact read_or cols ac cc n (by omega) hcols ih m w0 t a0 pa0 r rest w hp hm h7 h hc hst hlen hG h8
      · exact read_not cols ac cc n (by omega) hcols ih m w0 t a0 pa0 r rest w hp hm h7 h hc hst hlen hG h8
      · exact read_true cols ac cc n hcols m w0 t a0 pa0 r rest w hp hm h7 h hc hst hlen hG h8
end Go.Proofs.YtdjlbfepddcmeaaGreatDoor

namespace Go.Proofs.YtdjlbfepddcmeaaGreatDoor
open Go.RowKit

theorem caught_idle (p0 p1 : Addr) (w : World) :
    CallsD Tryz.prog 38 #[.pointer (some p0), .pointer (some p1)] .returning w fun e u' w' => e = .returned (.tuple #[]) ∧ u' = .returning ∧ w' = w := by
  refine callsD_of_wpS Tryz.func38 rfl fun c₀ cs hu => ?_
  apply wpS_seq
  apply wpS_region
  simp [wpOpsS, go_sem, recoverD, hu, Tryz.ntmps38, Exit.thenS]
  refine wpS_of_wp ?_
  go_wp2
  cases c₀
  simp_all [bodyPostS, results, Tryz.results38]

theorem results_cell2 {fn : Func} {p q : Tmp} {ty tz : TypeId} (h : fn.results = #[.cell p ty, .cell q tz]) (tmps : Array Value) (P : Program) (w : World) :
    (results fn tmps).run P w = ((asAddr (tmps.getD p undef)).run P w).andThen fun a w₁ => ((loadVar ty a).run P w₁).andThen fun v w₂ => ((asAddr (tmps.getD q undef)).run P w₂).andThen fun b w₃ => ((loadVar tz b).run P w₃).andThen fun u w₄ => .ok (.tuple #[v, u]) w₄ := by
  simp only [results, h]
  simp [Sem.run_bind, Result.andThen]
  try (split <;> simp_all)

theorem size_put7 (w : World) (z : Nat) (v0 v1 v2 v3 v4 v5 v6 : Value) : (put7 w z v0 v1 v2 v3 v4 v5 v6).heap.size = w.heap.size := by simp [put7, World.setCell]
theorem below_put7 {B : Nat} {a w : World} (h : Below B a w) {z : Nat} (hz : B ≤ z) (v0 v1 v2 v3 v4 v5 v6 : Value) : Below B a (put7 w z v0 v1 v2 v3 v4 v5 v6) :=
  ((((((h.setCell (p := ⟨z, 0, none⟩) hz v0).setCell (p := ⟨z, 1, none⟩) hz v1).setCell (p := ⟨z, 2, none⟩) hz v2).setCell (p := ⟨z, 3, none⟩) hz v3).setCell (p := ⟨z, 4, none⟩) hz v4).setCell (p := ⟨z, 5, none⟩) hz v5).setCell (p := ⟨z, 6, none⟩) hz v6
theorem put7_box {w : World} {z : Nat} (h : w.heap[z]? = some zbox) (t : PT) (a : Option Addr) (c : Nat) (pa : Option Addr) (pc : Nat) :
    (put7 w z (.int .i64 t.op) (.int .i64 t.col) (.int .i64 t.d.k) (.int .i64 t.d.n) (.string t.d.s) (.slice a t.d.l.length c) (.slice pa t.parts.length pc)).heap[z]? = some (pbox t a c pa pc) := by
  unfold put7 World.setCell
  simp only [Array.getElem?_modify, if_true, h, Option.map_some]
  rfl
theorem pbox7 {w : World} {g : Nat} {t : PT} {a : Option Addr} {c : Nat} {pa : Option Addr} {pc : Nat} (h : w.heap[g]? = some (pbox t a c pa pc)) :
    (w.cell? ⟨g, 0, none⟩ = some (.int .i64 t.op) ∧ w.cell? ⟨g, 1, none⟩ = some (.int .i64 t.col) ∧ w.cell? ⟨g, 2, none⟩ = some (.int .i64 t.d.k) ∧ w.cell? ⟨g, 3, none⟩ = some (.int .i64 t.d.n) ∧ w.cell? ⟨g, 4, none⟩ = some (.string t.d.s) ∧ w.cell? ⟨g, 5, none⟩ = some (.slice a t.d.l.length c) ∧ w.cell? ⟨g, 6, none⟩ = some (.slice pa t.parts.length pc))
    ∧ (w.frozen? ⟨g, 0, none⟩ = false ∧ w.frozen? ⟨g, 1, none⟩ = false ∧ w.frozen? ⟨g, 2, none⟩ = false ∧ w.frozen? ⟨g, 3, none⟩ = false ∧ w.frozen? ⟨g, 4, none⟩ = false ∧ w.frozen? ⟨g, 5, none⟩ = false ∧ w.frozen? ⟨g, 6, none⟩ = false) := by
  refine ⟨⟨?_, ?_, ?_, ?_, ?_, ?_, ?_⟩, ?_, ?_, ?_, ?_, ?_, ?_, ?_⟩ <;> first | (unfold World.cell?; rw [h]; rfl) | (unfold World.frozen?; rw [h]; rfl)
theorem cols_blank {w w1 : World} {r : Nat} {ac : Option Addr} {cols : List Co} (h : ColIs w ac cols) (hb : Below w.heap.size w w1) (hr : w.heap.size ≤ r) : ColIs (blank w1 r) ac cols := by
  rcases h with h | ⟨b, off, ha, h⟩
  · exact .inl h
  · refine .inr ⟨b, off, ha, fun i hi => ?_⟩
    obtain ⟨h0, h1, h2⟩ := h i hi
    have hlt := World.block_lt_of_cell? w _ h0
    exact ⟨cell_blank (by show b ≠ r; simp at hlt; omega) ((hb.cell hlt).trans h0), cell_blank (by show b ≠ r; simp at hlt; omega) ((hb.cell (World.block_lt_of_cell? w _ h1)).trans h1), h2⟩

set_option maxRecDepth 100000 in
set_option maxHeartbeats 2000000 in
theorem Parse_text (cols : List Co) (ac : Option Addr) (cc : Nat) (hcols : colsB cols = true) (m : Nat) (w0 : World) (t : PT) (a0 pa0 : Option Addr) (w : World) (hp : PredIs m w0 t a0 pa0) (hm : mayP cols 8 t = true)
    (hc : ColIs w ac cols) (hlen : (textP cols 8 t).length ≤ 1024) (hG : Globs w) (h8 : 8 ≤ w.heap.size) :
    Calls Tryz.prog 20 #[.string ⟨(textP cols 8 t).toArray⟩, .slice ac cols.length cc] w fun e w' => ∃ a c pa pc, e = .returned (.tuple #[pv t a c pa pc, .int .i64 0]) ∧ PredIs 8 w' t a pa ∧ Below w.heap.size w w' := by
  have hmf : ∀ (fn : Fn) (first cap : Array Value) (w : World), (Instr.makeFunc fn first cap).run Tryz.prog w = .ok (.func fn first cap) w := fun _ _ _ _ => rfl
  have hc4 := cols_four hcols
  have hb0 : Below w.heap.size w ((w.alloc zbox).alloc (.cells #[.int .i64 0] 31)) := by go_grown
  have HC := Lib.hid (columns_any cols ac cc _ (hc.below hb0) (by omega))
  rw [show colE cols = 0 by simp [colE, hcols]] at HC
  have hsz : (⟨(textP cols 8 t).toArray⟩ : ByteArray).size ≤ 1024 := by rw [ba_size]; exact hlen
  have HSE := Lib.hid (rfl : (⟨(textP cols 8 t).toArray⟩ : ByteArray) = ⟨(textP cols 8 t).toArray⟩)
  generalize hS : (⟨(textP cols 8 t).toArray⟩ : ByteArray) = S at hsz
  have HS := Lib.hid hS
  clear hS HSE
  go_enter_defers Tryz.func20, Tryz.ntmps20
  go_wp2_with fail
  refine HC.out.mono ?_
  rintro e w1 ⟨rfl, hb1⟩
  have hz1 := hb1.size
  simp at hz1
  have hz : w1.heap[w.heap.size]? = some zbox := (hb1.block w.heap.size (by simp; omega)).trans (Below.heap_alloc (w.alloc zbox) _ w.heap.size (by simp) |>.trans (heap_alloc_new w zbox))
  have hq : w1.heap[w.heap.size + 1]? = some (.cells #[.int .i64 0] 31) := (hb1.block (w.heap.size + 1) (by simp)).trans (by have := heap_alloc_new (w.alloc zbox) (.cells #[.int .i64 0] 31); simpa using this)
  have hb01 : Below w.heap.size w w1 := hb0.trans (hb1.mono (by simp; omega))
  have hbr : Below w1.heap.size w1 (w1.alloc (.cells #[.string S, .slice ac cols.length cc] 71)) := by go_grown
  have hrd : RdL w1.heap.size ac cols.length cc (textP cols 8 t ++ []) (w1.alloc (.cells #[.string S, .slice ac cols.length cc] 71)) := by
    have := heap_alloc_new w1 (.cells #[.string S, .slice ac cols.length cc] 71)
    unfold RdL
    rw [List.append_nil, HS.out]
    exact this
  have HK := Lib.hid (read_ok cols ac cc hcols 8 (Nat.le_refl 8) m w0 t a0 pa0 w1.heap.size [] _ hp hm hrd (cols_blank hc (hb01.trans (hbr.mono (by omega))) (by omega)) (.inl rfl) (by simp; omega) ((hG.below hb01).below hbr) (by omega))
  have HZ := Lib.hid (And.intro hz hq)
  have HBR := Lib.hid hbr
  have HB01 := Lib.hid hb01
  clear hz hq hrd hbr hb1 hb0
  go_wp2_with fail
  refine HK.out.mono ?_
  rintro e w2 ⟨a, c, pa, pc, rfl, hpx, hr2, ho2⟩
  have hz2 := ho2.size
  simp at hz2
  have bz := ho2.heap (HBR.out.block w.heap.size (by omega) |>.trans HZ.out.1) (by omega)
  have bq := ho2.heap (HBR.out.block (w.heap.size + 1) (by omega) |>.trans HZ.out.2) (by omega)
  have r0 := hr2.c0
  have q0 : w2.cell? ⟨w.heap.size + 1, 0, none⟩ = some (.int .i64 0) := by unfold World.cell?; rw [bq]; rfl
  have qf : w2.frozen? ⟨w.heap.size + 1, 0, none⟩ = false := by unfold World.frozen?; rw [bq]; rfl
  obtain ⟨⟨e0, e1, e2, e3, e4, e5, e6⟩, f0, f1, f2, f3, f4, f5, f6⟩ := box7 bz
  have n1 : ¬ w.heap.size = w1.heap.size := by omega
  have n2 : ¬ w1.heap.size = w.heap.size := by omega
  have hzB : w.heap.size < (w1.alloc (.cells #[.string S, .slice ac cols.length cc] 71)).heap.size := by simp; omega
  have hqB : w.heap.size + 1 < (w1.alloc (.cells #[.string S, .slice ac cols.length cc] 71)).heap.size := by simp; omega
  have hb2 : Below w.heap.size w w2 := (HB01.out.trans (HBR.out.mono (by omega))).trans (ho2.under (by omega) (by simp; omega))
  have hb3 := below_put7 hb2 (Nat.le_refl w.heap.size) (.int .i64 t.op) (.int .i64 t.col) (.int .i64 t.d.k) (.int .i64 t.d.n) (.string t.d.s) (.slice a t.d.l.length c) (.slice pa t.parts.length pc)
  have hp3 := hpx.ext (veil_put7 hzB (.int .i64 t.op) (.int .i64 t.col) (.int .i64 t.d.k) (.int .i64 t.d.n) (.string t.d.s) (.slice a t.d.l.length c) (.slice pa t.parts.length pc))
  have hx3 := put7_box bz t a c pa pc
  have hq3 := (heap_put7 (z := w.heap.size) (g := w.heap.size + 1) (by omega) (.int .i64 t.op) (.int .i64 t.col) (.int .i64 t.d.k) (.int .i64 t.d.n) (.string t.d.s) (.slice a t.d.l.length c) (.slice pa t.parts.length pc)).trans bq
  have HCK := Lib.hid (checkp_any cols 8 t a c pa pc ac cc _ (hp3.ext (veil_ext _ _)) (hc.below hb3) (by omega))
  rw [show predE cols t = 0 by simp [predE, hcols, hm]] at HCK
  have HH := Lib.hid (And.intro hb3 (And.intro hp3 (And.intro hx3 hq3)))
  clear hb2 hb3 hp3 hx3 hq3 hpx
  unfold pv at *
  go_wp2_with fail
  refine HCK.out.mono ?_
  rintro e w4 ⟨rfl, hb4⟩
  have hb3 := HH.out.1
  have hp3 := HH.out.2.1
  have hx3 := HH.out.2.2.1
  have hq3 := HH.out.2.2.2
  have hsz3 := hb3.size
  have hx4 := (hb4.block w.heap.size (World.block_lt_of_cell? _ _ (PBx.of_heap hx3).c0)).trans hx3
  have hq4 := (hb4.block (w.heap.size + 1) (by have := hb4.size; rw [size_put7]; omega)).trans hq3
  have hp4 := hp3.ext (veil_below hb4)
  have hbw := hb3.trans (hb4.mono hsz3)
  clear e0 e1 e2 e3 e4 e5 e6 f0 f1 f2 f3 f4 f5 f6 q0 qf r0 hx3 hq3 hp3 hb3 hb4 hsz3 HH HCK
  have HW := Lib.hid (And.intro hp4 hbw)
  clear hp4 hbw
  obtain ⟨⟨e0, e1, e2, e3, e4, e5, e6⟩, f0, f1, f2, f3, f4, f5, f6⟩ := pbox7 hx4
  have q0 : w4.cell? ⟨w.heap.size + 1, 0, none⟩ = some (.int .i64 0) := by unfold World.cell?; rw [hq4]; rfl
  have qf : w4.frozen? ⟨w.heap.size + 1, 0, none⟩ = false := by unfold World.frozen?; rw [hq4]; rfl
  go_wp2
  refine leaves_cons (f := 38) (args := #[.pointer (some ⟨w.heap.size, 0, none⟩), .pointer (some ⟨w.heap.size + 1, 0, none⟩)]) (by simp) (by simp [go_sem]) ?_
  refine (caught_idle _ _ _).mono ?_
  rintro e u' w'' ⟨rfl, rfl, rfl⟩
  refine ⟨.tuple #[pv t a c pa pc, .int .i64 0], ?_, a, c, pa, pc, rfl, ?_, ?_⟩
  · rw [results_cell2 rfl]
    go_simp
    try rfl
  · exact ((HW.out.1.ext (veil_put7 hzB (.int .i64 t.op) (.int .i64 t.col) (.int .i64 t.d.k) (.int .i64 t.d.n) (.string t.d.s) (.slice a t.d.l.length c) (.slice pa t.parts.length pc))).ext (veil_set (p := ⟨w.heap.size + 1, 0, none⟩) hqB (.int .i64 0))).ext (veil_ext _ _)
  · exact (below_put7 HW.out.2 (Nat.le_refl _) (.int .i64 t.op) (.int .i64 t.col) (.int .i64 t.d.k) (.int .i64 t.d.n) (.string t.d.s) (.slice a t.d.l.length c) (.slice pa t.parts.length pc)).setCell (p := ⟨w.heap.size + 1, 0, none⟩) (Nat.le_succ _) (.int .i64 0)
end Go.Proofs.YtdjlbfepddcmeaaGreatDoor

namespace Go.Proofs.YtdjlbfepddcmeaaGreatDoor
open Go.RowKit

/-- A node whose parts are laid in a new row. -/
theorem node_is {n : Nat} {w : World} (E : List PE) (h : ∀ e ∈ E, PredIs n w e.t e.a e.pa) (hE : E.length ≤ 8) (op : Int) (ho : In64 op) :
    PredIs (n + 1) (w.alloc (.cells (E.flatMap peCells).toArray 27)) (.node op 0 ⟨0, 0, ⟨#[]⟩, []⟩ (E.map (·.t))) none (some ⟨w.heap.size, 0, none⟩) := by
  have hrow : Rows (w.alloc (.cells (E.flatMap peCells).toArray 27)) 0 w.heap.size E.length E := by
    have := World.ownsRow_lit (e := 27) (base := 0) (size := 7) w (E.flatMap peCells).toArray E.length (Nat.zero_le _) (by unfold maxLen; omega) (by rw [List.size_toArray]; exact peCells_len E)
    exact this
  have hb : Below w.heap.size w (w.alloc (.cells (E.flatMap peCells).toArray 27)) := by go_grown
  refine ⟨zeroD_is _, ho, (by show In64 0; exact ⟨by omega, by omega⟩), (by show (E.map (·.t)).length ≤ _; rw [List.length_map]; omega), .inr ⟨w.heap.size, 0, rfl, fun i hi => ?_⟩⟩
  have hi' : i < E.length := by have : i < (E.map (·.t)).length := hi; simpa using this
  have e1 : E[i].t = (E.map (·.t))[i]'hi := (List.getElem_map (f := fun e : PE => e.t) (l := E) (i := i) (h := hi)).symm
  refine ⟨E[i].a, E[i].c, E[i].pa, E[i].pc, ?_, ?_⟩
  · show PCells _ w.heap.size (0 + i * 7) ((E.map (·.t))[i]'hi) _ _ _ _
    rw [← e1]
    exact (hrow.cells i hi' (B' := 0) (Nat.zero_le _)).ext (veil_ext _ _)
  · show PredIs n _ ((E.map (·.t))[i]'hi) _ _
    rw [← e1]
    exact (h E[i] (List.getElem_mem hi')).below hb

theorem leaf_is (w : World) (op col : Int) (k n : Int) (s : ByteArray) (ho : In64 op) (hc : In64 col) (hn : In64 n) (hs : s.size ≤ 140737488351232) : PredIs 1 w (.node op col ⟨k, n, s, []⟩ []) none none :=
  ⟨⟨.inl rfl, hn, (by show 0 ≤ _; omega), hs⟩, ho, hc, (by show 0 ≤ _; omega), .inl rfl⟩

def tA : PT := .node 5 0 ⟨1, 3, ⟨#[]⟩, []⟩ []
def tB : PT := .node 6 1 ⟨2, 0, ⟨#[120]⟩, []⟩ []
def tN : PT := .node 9 0 ⟨0, 0, ⟨#[]⟩, []⟩ [tB]
def tW : PT := .node 7 0 ⟨0, 0, ⟨#[]⟩, []⟩ [tA, tN]
def colsW : List Co := [⟨⟨#[97]⟩, 1⟩, ⟨⟨#[108]⟩, 3⟩]
def cellsW : List El := [⟨⟨1, 3, ⟨#[]⟩, []⟩, none, 0⟩, ⟨⟨3, 0, ⟨#[]⟩, []⟩, none, 0⟩]
def litW : List UInt8 := [40, 97, 32, 62, 61, 32, 51, 32, 97, 110, 100, 32, 110, 111, 116, 32, 108, 32, 104, 97, 115, 32, 39, 120, 39, 41]

theorem textW : textP colsW 8 tW = litW := by decide +kernel
theorem mayW : mayP colsW 8 tW = true := by decide +kernel
theorem colsBW : colsB colsW = true := by decide
theorem printEW : printE colsW tW = 0 := by
  rw [printE, predE, colsBW, mayW, textW]; decide
theorem printVW : printV colsW tW = ⟨litW.toArray⟩ := by
  rw [printV, printEW, textW]; rfl
theorem holdEW : holdE colsW cellsW tW = 0 := by decide +kernel
theorem holdVW : holdV colsW cellsW tW = true := by decide +kernel
abbrev cellsO : Obj := .cells #[.int .i64 1, .int .i64 3, .string ⟨#[]⟩, .slice none 0 0, .int .i64 3, .int .i64 0, .string ⟨#[]⟩, .slice none 0 0] 24
theorem cells_is (w : World) : DeepIs (w.alloc cellsO) (some ⟨w.heap.size, 0, none⟩) cellsW := by
  refine .inr ⟨w.heap.size, 0, rfl, fun i hi => ?_⟩
  match i, hi with
  | 0, _ => exact ⟨by go_simp; rfl, by go_simp; rfl, by go_simp; rfl, by go_simp; exact ⟨rfl, rfl, rfl⟩, ⟨.inl rfl, (by show In64 3; exact ⟨by omega, by omega⟩), (by show 0 ≤ _; omega), (by show 0 ≤ _; omega)⟩⟩
  | 1, _ => exact ⟨by go_simp; rfl, by go_simp; rfl, by go_simp; rfl, by go_simp; exact ⟨rfl, rfl, rfl⟩, ⟨.inl rfl, (by show In64 0; exact ⟨by omega, by omega⟩), (by show 0 ≤ _; omega), (by show 0 ≤ _; omega)⟩⟩
theorem isW (w : World) : ∃ w0 m a pa, PredIs m w0 tW a pa := by
  have hB : PredIs 1 w tB none none := leaf_is w 6 1 2 0 ⟨#[120]⟩ ⟨by omega, by omega⟩ ⟨by omega, by omega⟩ ⟨by omega, by omega⟩ (by decide)
  have hN := node_is [⟨tB, none, 0, none, 0⟩] (fun e he => by obtain rfl := List.mem_singleton.1 he; exact hB) (by decide) 9 ⟨by omega, by omega⟩
  have hA : PredIs 2 (w.alloc (.cells (([⟨tB, none, 0, none, 0⟩] : List PE).flatMap peCells).toArray 27)) tA none none := ⟨⟨.inl rfl, (by show In64 3; exact ⟨by omega, by omega⟩), (by show 0 ≤ _; omega), (by decide)⟩, (by show In64 5; exact ⟨by omega, by omega⟩), (by show In64 0; exact ⟨by omega, by omega⟩), (by show 0 ≤ _; omega), .inl rfl⟩
  exact ⟨_, _, _, _, node_is [⟨tA, none, 0, none, 0⟩, ⟨tN, none, 0, _, 0⟩] (fun e he => by
    rcases List.mem_cons.1 he with rfl | he
    · exact hA
    · obtain rfl := List.mem_singleton.1 he
      exact hN) (by simp) 7 ⟨by omega, by omega⟩⟩

set_option maxRecDepth 100000 in
set_option maxHeartbeats 2000000 in
theorem awake_any (w : World) (hG : GlobsM w) (h8 : 8 ≤ w.heap.size) :
    Calls Tryz.prog 17 #[] w fun e w' => e = .returned (.bool true) ∧ Below w.heap.size w w' := by
  obtain ⟨w0, m, a0, pa0, hpW⟩ := isW w
  have hb1 : Below w.heap.size w (w.alloc (.cells #[.string ⟨#[97]⟩, .int .i64 1, .string ⟨#[108]⟩, .int .i64 3] 46)) := by go_grown
  have hc1 : ColIs (w.alloc (.cells #[.string ⟨#[97]⟩, .int .i64 1, .string ⟨#[108]⟩, .int .i64 3] 46)) (some ⟨w.heap.size, 0, none⟩) colsW := by
    refine .inr ⟨w.heap.size, 0, rfl, fun i hi => ?_⟩
    match i, hi with
    | 0, _ => exact ⟨by go_simp; rfl, by go_simp; rfl, show _ ≤ _ from (by decide +revert), ⟨by decide +revert, by decide +revert⟩⟩
    | 1, _ => exact ⟨by go_simp; rfl, by go_simp; rfl, show _ ≤ _ from (by decide +revert), ⟨by decide +revert, by decide +revert⟩⟩
  have HP := Lib.hid (Parse_text colsW _ 2 colsBW m w0 tW a0 pa0 _ hpW mayW hc1 (by rw [textW]; decide) (hG.toGlobs.below hb1) (by simp; omega))
  rw [textW] at HP
  have HC := Lib.hid hc1
  have HB := Lib.hid hb1
  clear hc1 hb1
  go_enter Tryz.func17, Tryz.ntmps17
  go_wp2_with fail
  refine HP.out.mono ?_
  rintro e w1 ⟨a, c, pa, pc, rfl, hp1, hb1⟩
  have hbw1 : Below w.heap.size w w1 := HB.out.trans (hb1.mono (by simp))
  have hz1 := hbw1.size
  have hbx : Below w1.heap.size w1 (w1.alloc (pbox tW a c pa pc)) := by go_grown
  have hc2 : ColIs (w1.alloc (pbox tW a c pa pc)) (some ⟨w.heap.size, 0, none⟩) colsW := (HC.out.below hb1).below hbx
  have HPr := Lib.hid (Print_any colsW 8 tW a c pa pc _ 2 _ (hp1.below hbx) hc2 (by decide) (hG.toGlobs.below (hbw1.trans (hbx.mono hz1) |>.mono (Nat.le_refl _))))
  rw [printVW, printEW] at HPr
  have hx2 : (w1.alloc (pbox tW a c pa pc)).heap[w1.heap.size]? = some (pbox tW a c pa pc) := heap_alloc_new w1 _
  have HH := Lib.hid (And.intro (hp1.below hbx) (And.intro hc2 (And.intro hx2 (hbw1.trans (hbx.mono hz1)))))
  clear hp1 hb1 hbx hc2 hx2 hbw1
  unfold pv at *
  go_wp2_with fail
  refine HPr.out.mono ?_
  rintro e w2 ⟨rfl, hb2⟩
  have hz2 := hb2.size
  simp at hz2
  have hx2 := (hb2.block w1.heap.size (by simp)).trans HH.out.2.2.1
  obtain ⟨⟨e0, e1, e2, e3, e4, e5, e6⟩, -⟩ := pbox7 hx2
  have hbc : Below w2.heap.size w2 (w2.alloc cellsO) := by go_grown
  have hbw : Below w.heap.size w (w2.alloc cellsO) := (HH.out.2.2.2.trans (hb2.mono (by simp; omega))).trans (hbc.mono (by omega))
  have hd : DeepIs (w2.alloc cellsO) (some ⟨w2.heap.size, 0, none⟩) cellsW := cells_is w2
  have HHo := Lib.hid (Holds_any colsW cellsW 8 tW a c pa pc _ 2 _ 2 _ ((HH.out.1.below hb2).below hbc) ((HH.out.2.1.below hb2).below hbc) (by decide) hd (by decide) (hG.belowB hbw h8) (by simp; omega))
  rw [holdVW, holdEW] at HHo
  have HBW := Lib.hid hbw
  clear hd hbw hbc hb2
  unfold cellsO pv at *
  go_wp2_with fail
  refine HHo.out.mono ?_
  rintro e w3 ⟨rfl, hb3⟩
  have hbl : ((⟨litW.toArray⟩ : ByteArray).toList == (⟨litW.toArray⟩ : ByteArray).toList) = true := by simp
  go_wp2
  go_ret
  exact ⟨rfl, HBW.out.trans (hb3.mono (by simp; omega))⟩
end Go.Proofs.YtdjlbfepddcmeaaGreatDoor

namespace Go.Proofs.YtdjlbfepddcmeaaGreatDoor
open Go.RowKit

/-- What is asked. -/
abbrev askV (t : PT) (a : Option Addr) (c : Nat) (pa : Option Addr) (pc : Nat) (ac : Option Addr) (nc cc : Nat) (ca : Option Addr) (ne ce : Nat) : Value :=
  .agg #[.int .i64 t.op, .int .i64 t.col, .int .i64 t.d.k, .int .i64 t.d.n, .string t.d.s, .slice a t.d.l.length c, .slice pa t.parts.length pc, .slice ac nc cc, .slice ca ne ce]
abbrev askO (t : PT) (a : Option Addr) (c : Nat) (pa : Option Addr) (pc : Nat) (ac : Option Addr) (nc cc : Nat) (ca : Option Addr) (ne ce : Nat) : Obj :=
  .cells #[.int .i64 t.op, .int .i64 t.col, .int .i64 t.d.k, .int .i64 t.d.n, .string t.d.s, .slice a t.d.l.length c, .slice pa t.parts.length pc, .slice ac nc cc, .slice ca ne ce] 30
theorem ask9 {w : World} {g : Nat} {t : PT} {a : Option Addr} {c : Nat} {pa : Option Addr} {pc : Nat} {ac : Option Addr} {nc cc : Nat} {ca : Option Addr} {ne ce : Nat} (h : w.heap[g]? = some (askO t a c pa pc ac nc cc ca ne ce)) :
    w.cell? ⟨g, 0, none⟩ = some (.int .i64 t.op) ∧ w.cell? ⟨g, 1, none⟩ = some (.int .i64 t.col) ∧ w.cell? ⟨g, 2, none⟩ = some (.int .i64 t.d.k) ∧ w.cell? ⟨g, 3, none⟩ = some (.int .i64 t.d.n) ∧ w.cell? ⟨g, 4, none⟩ = some (.string t.d.s) ∧ w.cell? ⟨g, 5, none⟩ = some (.slice a t.d.l.length c) ∧ w.cell? ⟨g, 6, none⟩ = some (.slice pa t.parts.length pc) ∧ w.cell? ⟨g, 7, none⟩ = some (.slice ac nc cc) ∧ w.cell? ⟨g, 8, none⟩ = some (.slice ca ne ce) := by
  refine ⟨?_, ?_, ?_, ?_, ?_, ?_, ?_, ?_, ?_⟩ <;> (unfold World.cell?; rw [h]; rfl)

/-- An ask as it lies. -/
structure AskIs (m : Nat) (w : World) (t : PT) (a pa : Option Addr) (ac : Option Addr) (cols : List Co) (ca : Option Addr) (cells : List El) : Prop where
  p : PredIs m w t a pa
  co : ColIs w ac cols
  el : DeepIs w ca cells
  lc : cols.length ≤ 140737488351232
  le : cells.length ≤ 140737488351232
theorem AskIs.below {m : Nat} {w w1 : World} {t : PT} {a pa : Option Addr} {ac : Option Addr} {cols : List Co} {ca : Option Addr} {cells : List El} (h : AskIs m w t a pa ac cols ca cells) (hb : Below w.heap.size w w1) : AskIs m w1 t a pa ac cols ca cells :=
  ⟨h.p.below hb, h.co.below hb, h.el.below hb, h.lc, h.le⟩

set_option maxRecDepth 100000 in
set_option maxHeartbeats 2000000 in
theorem prints_walk (m : Nat) (t : PT) (a : Option Addr) (c : Nat) (pa : Option Addr) (pc : Nat) (ac : Option Addr) (cols : List Co) (cc : Nat) (ca : Option Addr) (cells : List El) (ce : Nat) (w : World)
    (h : AskIs m w t a pa ac cols ca cells) (hG : GlobsM w) (h8 : 8 ≤ w.heap.size) :
    Calls Tryz.prog 4 #[askV t a c pa pc ac cols.length cc ca cells.length ce] w fun e w' => e = .returned (.bool true) ∧ Below w.heap.size w w' := by
  have hb0 : Below w.heap.size w (w.alloc (askO t a c pa pc ac cols.length cc ca cells.length ce)) := by go_grown
  have h1 := h.below hb0
  have HP := Lib.hid (Print_any cols m t a c pa pc ac cc _ h1.p h1.co h.lc (hG.below hb0).toGlobs)
  have hx := heap_alloc_new w (askO t a c pa pc ac cols.length cc ca cells.length ce)
  have HH := Lib.hid (And.intro h1 (And.intro hx (And.intro hb0 (And.intro h.lc hG))))
  have hv : ((printV cols t).toList == (printV cols t).toList) = true := by simp
  have he : (printE cols t == printE cols t) = true := by simp
  clear h1 hx hb0 h hG
  unfold pv at *
  go_enter Tryz.func4, Tryz.ntmps4
  go_wp2_with fail
  refine HP.out.mono ?_
  rintro e w1 ⟨rfl, hb1⟩
  have hz1 := hb1.size
  simp at hz1
  have hx1 := (hb1.block w.heap.size (by simp)).trans HH.out.2.1
  have hw1 : Below w.heap.size w w1 := HH.out.2.2.1.trans (hb1.mono (by simp))
  have h1 := HH.out.1.below hb1
  have HR := Lib.hid (rPrint_any cols m t a c pa pc ac cc w1 h1.p h1.co HH.out.2.2.2.1 (HH.out.2.2.2.2.belowB hw1 h8).toGlobs)
  obtain ⟨e0, e1, e2, e3, e4, e5, e6, e7, e8⟩ := ask9 hx1
  have HW1 := Lib.hid hw1
  clear hx1 hw1 h1 hb1
  unfold pv at *
  go_wp2_with fail
  refine HR.out.mono ?_
  rintro e w2 ⟨rfl, hb2⟩
  have hw2 : Below w.heap.size w w2 := HW1.out.trans (hb2.mono (by omega))
  have HA := Lib.hid (awake_any w2 (HH.out.2.2.2.2.belowB hw2 h8) (by have := hw2.size; omega))
  have HW2 := Lib.hid hw2
  clear hw2 hb2 e0 e1 e2 e3 e4 e5 e6 e7 e8
  go_wp2_with fail
  refine HA.out.mono ?_
  rintro e w3 ⟨rfl, hb3⟩
  go_wp2
  go_ret
  exact ⟨rfl, HW2.out.trans (hb3.mono HW2.out.size)⟩
end Go.Proofs.YtdjlbfepddcmeaaGreatDoor

namespace Go.Proofs.YtdjlbfepddcmeaaGreatDoor
open Go.ChangeShapes Go.WideShapes Go.ChangeAt Go.RowKit

theorem PredIs.up : ∀ {n : Nat} {w : World} {t : PT} {a pa : Option Addr}, PredIs n w t a pa → PredIs (n + 1) w t a pa
  | 0, _, _, _, _, h => h.elim
  | n + 1, w, t, a, pa, ⟨h0, h1, h2, h3, h4⟩ => by
    refine ⟨h0, h1, h2, h3, ?_⟩
    rcases h4 with h | ⟨b, off, ha, h⟩
    · exact .inl h
    · refine .inr ⟨b, off, ha, fun i hi => ?_⟩
      obtain ⟨a', c', pa', pc', hc, hp⟩ := h i hi
      exact ⟨a', c', pa', pc', hc, PredIs.up hp⟩
theorem PredIs.upTo {n m : Nat} {w : World} {t : PT} {a pa : Option Addr} (h : PredIs n w t a pa) (hm : n ≤ m) : PredIs m w t a pa := by
  induction hm with
  | refl => exact h
  | step _ ih => exact ih.up

theorem cells27 : Tryz.prog.cellsOf 27 = 7 := by kernel_rfl
theorem bytes27 : Tryz.prog.bytesOf 27 = 96 := by kernel_rfl
theorem cells46 : Tryz.prog.cellsOf 46 = 2 := by kernel_rfl
theorem bytes46 : Tryz.prog.bytesOf 46 = 24 := by kernel_rfl
theorem seven_of {l : List Value} (h : l.length = 7) : ∃ a b c d e f g, l = [a, b, c, d, e, f, g] := by
  match l, h with
  | [a, b, c, d, e, f, g], _ => exact ⟨a, b, c, d, e, f, g, rfl⟩

section
variable {H : Type} {enc : TypeId × Value → H} {w : World} {base : Nat} {spare : Nat → Bool} {held : Bool}

theorem weights_pred (o c : Int) (d y : DataW H) : (DataW.agg [.lit (.int .i64 o), .lit (.int .i64 c), d, y]).weights Tryz.prog 27 = d.weights Tryz.prog 24 ++ y.weights Tryz.prog 25 := by
  simp [DataW.weights, DataW.weightsEach, Tryz.underlying27]

set_option maxRecDepth 100000 in
theorem pred_cs : ∀ (fuel : Nat) {cs : List Value} {x : DataW H × List MemPlace} (h : DataW.trod enc Tryz.prog w base spare held fuel 27 cs = some x)
    (hw : ∀ n ∈ x.1.weights Tryz.prog 27, n ≤ 140737488351232), ∃ e : PE, cs = peCells e ∧ PredIs fuel w e.t e.a e.pa := by
  intro fuel
  induction fuel using Nat.strongRecOn with
  | ind fuel ih =>
    intro cs x h hw
    obtain ⟨xs, n, hfu, hxe, hl, hlen, hf⟩ := DataW.trod_struct Tryz.underlying27 h
    match xs, hlen with
    | [y0, y1, y2, y3], _ =>
      have h0 := hf 0 _ rfl
      have h1 := hf 1 _ rfl
      have h2 := hf 2 _ rfl
      have h3 := hf 3 _ rfl
      rw [cells27] at hl
      obtain ⟨c0, c1, c2, c3, c4, c5, c6, rfl⟩ := seven_of hl
      have z1 : Tryz.prog.cellsOf 3 = 1 := by kernel_rfl
      have z2 : Tryz.prog.cellsOf 24 = 4 := by kernel_rfl
      have z3 : Tryz.prog.cellsOf 25 = 1 := by kernel_rfl
      simp at h0 h1 h2 h3
      rw [z1] at h0 h1
      rw [z2] at h2
      rw [z3] at h3
      simp only [List.take_succ_cons, List.take_zero] at h0 h1 h2 h3
      obtain ⟨o, e0, hy0, ho⟩ := DataW.trod_int Tryz.underlying3 h0
      obtain ⟨k, e1, hy1, hk⟩ := DataW.trod_int Tryz.underlying3 h1
      have hxw : x.1 = .agg [.lit (.int .i64 o), .lit (.int .i64 k), y2.1, y3.1] := by
        have := congrArg Prod.fst hxe
        simp [hy0, hy1] at this
        exact this
      rw [hxw, weights_pred] at hw
      obtain ⟨el, e2, hda⟩ := datum_cs h2 (fun n hn => hw n (List.mem_append_left _ hn))
      simp only [List.cons.injEq, and_true] at e0 e1 e2
      obtain ⟨rfl, rfl, rfl, rfl⟩ := e2
      subst e0 e1
      have hwy : ∀ n ∈ y3.1.weights Tryz.prog 25, n ≤ 140737488351232 := fun n hn => hw n (List.mem_append_right _ hn)
      rcases DataW.trod_slice Tryz.underlying25 h3 with ⟨e, hy3⟩ | ⟨a, len, cap, elems, rest, m', hm', e, hy3, _, _, _, hlen, hel, _⟩
      · simp at e
        subst e
        refine ⟨⟨.node o k el.d [], el.a, el.c, none, 0⟩, rfl, ?_⟩
        rw [hfu]
        exact ⟨hda, in64_wf ho, in64_wf hk, (by show 0 ≤ _; omega), .inl rfl⟩
      · simp at e
        subst e
        rw [hy3] at hwy
        have hL : len * 96 ≤ 140737488351232 := by
          have := hwy ((elems.length + rest.length) * 96) (by simp [DataW.weights, Tryz.underlying25, bytes27])
          rw [hlen] at this
          have h2 : len * 96 ≤ (len + rest.length) * 96 := Nat.mul_le_mul_right _ (by omega)
          omega
        have hall : ∀ i, i < len → ∃ (x : PE), (∀ j u, (peCells x)[j]? = some u → w.cell? ((a.add (i * 7)).add j) = some u) ∧ PredIs m' w x.t x.a x.pa := by
          intro i hi
          have hi' := hel i hi
          rw [cells27, List.getElem?_eq_getElem (by omega)] at hi'
          obtain ⟨cs', h1', h2'⟩ := Option.bind_eq_some_iff.1 hi'
          obtain ⟨_, hl7, hc7⟩ := World.cells?_some h1'
          have hmem : (elems[i]'(by omega)).1 ∈ elems.map (·.1) := List.mem_map.2 ⟨_, List.getElem_mem _, rfl⟩
          have hwi : ∀ n ∈ (elems[i]'(by omega)).1.weights Tryz.prog 27, n ≤ 140737488351232 := fun n hn => hwy n (by
            simp only [DataW.weights, Tryz.underlying25, List.mem_cons, List.mem_append]
            exact .inr (.inl (weightsAll_mem hmem n hn)))
          obtain ⟨e, rfl, hpi⟩ := ih m' (by omega) h2' hwi
          refine ⟨e, ?_, hpi⟩
          intro j u hj
          have hj7 : j < 7 := by
            have := (List.getElem?_eq_some_iff.1 hj).1
            simpa [peCells] using this
          rw [hc7 j hj7]; exact hj
        obtain ⟨X, hX⟩ := @Go.Deep.choose_lt PE ⟨⟨zeroP, none, 0, none, 0⟩⟩ _ _ hall
        refine ⟨⟨.node o k el.d ((List.range len).map fun i => (X i).t), el.a, el.c, some a, cap⟩, by simp [peCells, PT.op, PT.col, PT.d, PT.parts], ?_⟩
        rw [hfu]
        refine ⟨hda, in64_wf ho, in64_wf hk, (by show ((List.range len).map fun i => (X i).t).length ≤ _; simp; omega), ?_⟩
        show ((List.range len).map fun i => (X i).t) = [] ∨ _
        by_cases h0 : len = 0
        · subst h0; exact .inl rfl
        · have hsp : a.spot = none := by
            obtain ⟨hc, _⟩ := hX 0 (by omega)
            have := World.cell?_spot (hc 0 _ rfl)
            simpa [Addr.add] using this
          refine .inr ⟨a.block, a.off, by cases a; simp_all, fun i hi => ?_⟩
          have hi' : i < len := by
            have : i < ((List.range len).map fun i => (X i).t).length := hi
            simpa using this
          obtain ⟨hc, hx⟩ := hX i hi'
          have key : ∀ j u, (peCells (X i))[j]? = some u → w.cell? ⟨a.block, a.off + i * 7 + j, none⟩ = some u := fun j u hj => by
            have := hc j u hj
            rw [Go.Deep.add_add] at this
            have e : a.add (i * 7 + j) = ⟨a.block, a.off + i * 7 + j, none⟩ := by unfold Addr.add; cases a; split <;> simp_all; try omega
            rw [← e]; exact this
          have hi2 : i < ((List.range len).map fun i => (X i).t).length := hi
          have et : ((List.range len).map fun i => (X i).t)[i] = (X i).t := by
            rw [List.getElem_map, List.getElem_range]
          show ∃ a' c' pa' pc', PCells w a.block (a.off + i * 7) (((List.range len).map fun i => (X i).t)[i]) a' c' pa' pc' ∧ PredIs n w (((List.range len).map fun i => (X i).t)[i]) a' pa'
          rw [et]
          exact ⟨(X i).a, (X i).c, (X i).pa, (X i).pc, ⟨key 0 _ rfl, key 1 _ rfl, key 2 _ rfl, key 3 _ rfl, key 4 _ rfl, key 5 _ rfl, key 6 _ rfl⟩, hx.upTo (by omega)⟩
set_option maxRecDepth 100000 in
theorem column_cs {fuel : Nat} {cs : List Value} {x : DataW H × List MemPlace} (h : DataW.trod enc Tryz.prog w base spare held fuel 46 cs = some x)
    (hw : ∀ n ∈ x.1.weights Tryz.prog 46, n ≤ 140737488351232) : ∃ e : Co, cs = [.string e.name, .int .i64 e.kind] ∧ e.name.size ≤ 140737488351232 ∧ In64 e.kind := by
  obtain ⟨xs, n, hfu, hxe, hl, hlen, hf⟩ := DataW.trod_struct Tryz.underlying46 h
  match xs, hlen with
  | [y0, y1], _ =>
    have h0 := hf 0 _ rfl
    have h1 := hf 1 _ rfl
    rw [cells46] at hl
    match cs, hl with
    | [c0, c1], _ =>
      have z1 : Tryz.prog.cellsOf 3 = 1 := by kernel_rfl
      have z2 : Tryz.prog.cellsOf 9 = 1 := by kernel_rfl
      simp at h0 h1
      rw [z2] at h0
      rw [z1] at h1
      simp only [List.take_succ_cons, List.take_zero] at h0 h1
      obtain ⟨s, e0, hy0, _⟩ := DataW.trod_string Tryz.underlying9 h0
      obtain ⟨k, e1, hy1, hk⟩ := DataW.trod_int Tryz.underlying3 h1
      simp only [List.cons.injEq, and_true] at e0 e1
      subst e0 e1
      have hxw : x.1 = .agg [.lit (.string s.data.toList), .lit (.int .i64 k)] := by
        have := congrArg Prod.fst hxe
        simp [hy0, hy1] at this
        exact this
      rw [hxw] at hw
      refine ⟨⟨s, k⟩, rfl, size_of_list (hw _ ?_), in64_wf hk⟩
      simp [DataW.weights, DataW.weightsEach, Tryz.underlying46]

set_option maxRecDepth 100000 in
theorem cols_cs {fuel : Nat} {v : Value} {y : DataW H × List MemPlace} (hf : DataW.trod enc Tryz.prog w base spare held fuel 28 [v] = some y)
    (hw : ∀ n ∈ y.1.weights Tryz.prog 28, n ≤ 140737488351232) :
    ∃ (L : List Co) (a : Option Addr) (c : Nat), v = .slice a L.length c ∧ ColIs w a L ∧ L.length ≤ 140737488351232 := by
  rcases DataW.trod_slice Tryz.underlying28 hf with ⟨e, he⟩ | ⟨a, len, cap, elems, rest, m', _, e, he, _, _, _, hlen, hel, _⟩
  · simp at e
    subst e
    exact ⟨[], none, 0, rfl, .inl rfl, by simp⟩
  · simp at e
    subst e
    rw [he] at hw
    have hL : len * 24 ≤ 140737488351232 := by
      have := hw ((elems.length + rest.length) * 24) (by simp [DataW.weights, Tryz.underlying28, bytes46])
      rw [hlen] at this
      have h2 : len * 24 ≤ (len + rest.length) * 24 := Nat.mul_le_mul_right _ (by omega)
      omega
    have hall : ∀ i, i < len → ∃ (x : Co), (∀ j u, [Value.string x.name, .int .i64 x.kind][j]? = some u → w.cell? ((a.add (i * 2)).add j) = some u) ∧ x.name.size ≤ 140737488351232 ∧ In64 x.kind := by
      intro i hi
      have hi' := hel i hi
      rw [cells46, List.getElem?_eq_getElem (by omega)] at hi'
      obtain ⟨cs', h1, h2⟩ := Option.bind_eq_some_iff.1 hi'
      obtain ⟨_, hl2, hc2⟩ := World.cells?_some h1
      have hmem : (elems[i]'(by omega)).1 ∈ elems.map (·.1) := List.mem_map.2 ⟨_, List.getElem_mem _, rfl⟩
      have hwi : ∀ n ∈ (elems[i]'(by omega)).1.weights Tryz.prog 46, n ≤ 140737488351232 := fun n hn => hw n (by
        simp only [DataW.weights, Tryz.underlying28, List.mem_cons, List.mem_append]
        exact .inr (.inl (weightsAll_mem hmem n hn)))
      obtain ⟨e, rfl, hda⟩ := column_cs h2 hwi
      refine ⟨e, ?_, hda⟩
      intro j u hj
      have hj2 : j < 2 := by
        have := (List.getElem?_eq_some_iff.1 hj).1
        simpa using this
      rw [hc2 j hj2]; exact hj
    obtain ⟨X, hX⟩ := @Go.Deep.choose_lt Co ⟨⟨⟨#[]⟩, 0⟩⟩ _ _ hall
    refine ⟨(List.range len).map X, some a, cap, by simp, ?_, by simp; omega⟩
    by_cases h0 : len = 0
    · subst h0; exact .inl rfl
    · have hsp : a.spot = none := by
        obtain ⟨hc, _⟩ := hX 0 (by omega)
        have := World.cell?_spot (hc 0 _ rfl)
        simpa [Addr.add] using this
      refine .inr ⟨a.block, a.off, by cases a; simp_all, fun i hi => ?_⟩
      have hi' : i < len := by simpa using hi
      obtain ⟨hc, hx⟩ := hX i hi'
      have key : ∀ j u, [Value.string (X i).name, .int .i64 (X i).kind][j]? = some u → w.cell? ⟨a.block, a.off + i * 2 + j, none⟩ = some u := fun j u hj => by
        have := hc j u hj
        rw [Go.Deep.add_add] at this
        have e : a.add (i * 2 + j) = ⟨a.block, a.off + i * 2 + j, none⟩ := by unfold Addr.add; cases a; split <;> simp_all; try omega
        rw [← e]; exact this
      simp only [List.getElem_map, List.getElem_range]
      exact ⟨key 0 _ rfl, key 1 _ rfl, hx.1, hx.2⟩
set_option maxRecDepth 100000 in
theorem data_cs {fuel : Nat} {v : Value} {y : DataW H × List MemPlace} (hf : DataW.trod enc Tryz.prog w base spare held fuel 22 [v] = some y)
    (hw : ∀ n ∈ y.1.weights Tryz.prog 22, n ≤ 140737488351232) :
    ∃ (L : List El) (a : Option Addr) (c : Nat), v = .slice a L.length c ∧ DeepIs w a L ∧ L.length ≤ 140737488351232 := by
  rcases DataW.trod_slice Tryz.underlying22 hf with ⟨e, he⟩ | ⟨a, len, cap, elems, rest, m', _, e, he, _, _, _, hlen, hel, _⟩
  · simp at e
    subst e
    exact ⟨[], none, 0, rfl, .inl rfl, by simp⟩
  · simp at e
    subst e
    rw [he] at hw
    have hL : len * 56 ≤ 140737488351232 := by
      have := hw ((elems.length + rest.length) * 56) (by simp [DataW.weights, Tryz.underlying22, bytes24])
      rw [hlen] at this
      have h2 : len * 56 ≤ (len + rest.length) * 56 := Nat.mul_le_mul_right _ (by omega)
      omega
    have hall : ∀ i, i < len → ∃ (x : El), (∀ j u, [Value.int .i64 x.d.k, .int .i64 x.d.n, .string x.d.s, .slice x.a x.d.l.length x.c][j]? = some u → w.cell? ((a.add (i * 4)).add j) = some u) ∧ DaIs w x.d x.a := by
      intro i hi
      have hi' := hel i hi
      rw [cells24, List.getElem?_eq_getElem (by omega)] at hi'
      obtain ⟨cs', h1, h2⟩ := Option.bind_eq_some_iff.1 hi'
      obtain ⟨_, hl4, hc4⟩ := World.cells?_some h1
      have hmem : (elems[i]'(by omega)).1 ∈ elems.map (·.1) := List.mem_map.2 ⟨_, List.getElem_mem _, rfl⟩
      have hwi : ∀ n ∈ (elems[i]'(by omega)).1.weights Tryz.prog 24, n ≤ 140737488351232 := fun n hn => hw n (by
        simp only [DataW.weights, Tryz.underlying22, List.mem_cons, List.mem_append]
        exact .inr (.inl (weightsAll_mem hmem n hn)))
      obtain ⟨e, rfl, hda⟩ := datum_cs h2 hwi
      refine ⟨e, ?_, hda⟩
      intro j u hj
      have hj4 : j < 4 := by
        have := (List.getElem?_eq_some_iff.1 hj).1
        simpa using this
      rw [hc4 j hj4]; exact hj
    obtain ⟨X, hX⟩ := @Go.Deep.choose_lt El ⟨⟨⟨0, 0, ⟨#[]⟩, []⟩, none, 0⟩⟩ _ _ hall
    refine ⟨(List.range len).map X, some a, cap, by simp, ?_, by simp; omega⟩
    by_cases h0 : len = 0
    · subst h0; exact .inl rfl
    · have hsp : a.spot = none := by
        obtain ⟨hc, _⟩ := hX 0 (by omega)
        have := World.cell?_spot (hc 0 _ rfl)
        simpa [Addr.add] using this
      refine .inr ⟨a.block, a.off, by cases a; simp_all, fun i hi => ?_⟩
      have hi' : i < len := by simpa using hi
      obtain ⟨hc, hx⟩ := hX i hi'
      have key : ∀ j u, [Value.int .i64 (X i).d.k, .int .i64 (X i).d.n, .string (X i).d.s, .slice (X i).a (X i).d.l.length (X i).c][j]? = some u → w.cell? ⟨a.block, a.off + i * 4 + j, none⟩ = some u := fun j u hj => by
        have := hc j u hj
        rw [Go.Deep.add_add] at this
        have e : a.add (i * 4 + j) = ⟨a.block, a.off + i * 4 + j, none⟩ := by unfold Addr.add; cases a; split <;> simp_all; try omega
        rw [← e]; exact this
      simp only [List.getElem_map, List.getElem_range]
      exact ⟨key 0 _ rfl, key 1 _ rfl, key 2 _ rfl, key 3 _ rfl, hx⟩

set_option maxRecDepth 100000 in
theorem open_pred {v : Value} {d : DataW H} {p : List MemPlace} (hv : Value.okWide Tryz.prog w .any base 27 v) (h : DataW.Trod enc Tryz.prog w 0 spare held 27 v d p)
    (hw : ∀ n ∈ d.weights Tryz.prog 27, n ≤ 140737488351232) :
    ∃ (e : PE) (m : Nat), v = pv e.t e.a e.c e.pa e.pc ∧ PredIs m w e.t e.a e.pa := by
  obtain ⟨cs, rfl, hsz⟩ := okWide_struct Tryz.underlying27 hv
  obtain ⟨fuel, hf⟩ := h
  obtain ⟨e, hcs, hp⟩ := pred_cs fuel hf hw
  have hcs' : cs = (peCells e).toArray := by
    apply Array.toList_inj.1
    simpa [Value.cells] using hcs
  subst hcs'
  exact ⟨e, fuel, rfl, hp⟩

theorem weights_ask (d y z : DataW H) : (DataW.agg [d, y, z]).weights Tryz.prog 30 = d.weights Tryz.prog 27 ++ (y.weights Tryz.prog 28 ++ z.weights Tryz.prog 22) := by
  simp [DataW.weights, DataW.weightsEach, Tryz.underlying30]
theorem cells30 : Tryz.prog.cellsOf 30 = 9 := by kernel_rfl
theorem nine_of {l : List Value} (h : l.length = 9) : ∃ a b c d e f g i j, l = [a, b, c, d, e, f, g, i, j] := by
  match l, h with
  | [a, b, c, d, e, f, g, i, j], _ => exact ⟨a, b, c, d, e, f, g, i, j, rfl⟩

set_option maxRecDepth 100000 in
theorem open_ask {v : Value} {d : DataW H} {p : List MemPlace} (hv : Value.okWide Tryz.prog w .any base 30 v) (h : DataW.Trod enc Tryz.prog w 0 spare held 30 v d p)
    (hw : ∀ n ∈ d.weights Tryz.prog 30, n ≤ 140737488351232) :
    ∃ (e : PE) (m : Nat) (ac : Option Addr) (cols : List Co) (cc : Nat) (ca : Option Addr) (cells : List El) (ce : Nat), v = askV e.t e.a e.c e.pa e.pc ac cols.length cc ca cells.length ce ∧ AskIs m w e.t e.a e.pa ac cols ca cells := by
  obtain ⟨cs, rfl, hsz⟩ := okWide_struct Tryz.underlying30 hv
  obtain ⟨fuel, hf⟩ := h
  obtain ⟨xs, n, hfu, hxe, hl, hlen, hff⟩ := DataW.trod_struct Tryz.underlying30 hf
  match xs, hlen with
  | [y0, y1, y2], _ =>
    have h0 := hff 0 _ rfl
    have h1 := hff 1 _ rfl
    have h2 := hff 2 _ rfl
    rw [cells30] at hl
    simp only [Value.cells] at hl h0 h1 h2
    obtain ⟨c0, c1, c2, c3, c4, c5, c6, c7, c8, hcs⟩ := nine_of hl
    obtain rfl : cs = #[c0, c1, c2, c3, c4, c5, c6, c7, c8] := by
      apply Array.toList_inj.1
      exact hcs
    have z2 : Tryz.prog.cellsOf 28 = 1 := by kernel_rfl
    have z3 : Tryz.prog.cellsOf 22 = 1 := by kernel_rfl
    simp at h0 h1 h2
    rw [cells27] at h0
    rw [z2] at h1
    rw [z3] at h2
    simp only [List.take_succ_cons, List.take_zero] at h0 h1 h2
    have hd : d = .agg [y0.1, y1.1, y2.1] := by
      have := congrArg Prod.fst hxe
      simpa using this
    rw [hd, weights_ask] at hw
    obtain ⟨e, e0, hp⟩ := pred_cs n h0 (fun k hk => hw k (List.mem_append_left _ hk))
    obtain ⟨cols, ac, cc, rfl, hc, hcl⟩ := cols_cs h1 (fun k hk => hw k (List.mem_append_right _ (List.mem_append_left _ hk)))
    obtain ⟨cells, ca, ce, rfl, he, hel⟩ := data_cs h2 (fun k hk => hw k (List.mem_append_right _ (List.mem_append_right _ hk)))
    simp only [peCells, List.cons.injEq, and_true] at e0
    obtain ⟨rfl, rfl, rfl, rfl, rfl, rfl, rfl⟩ := e0
    exact ⟨e, n, ac, cols, cc, ca, cells, ce, rfl, hp, hc, he, hcl, hel⟩
end
end Go.Proofs.YtdjlbfepddcmeaaGreatDoor
