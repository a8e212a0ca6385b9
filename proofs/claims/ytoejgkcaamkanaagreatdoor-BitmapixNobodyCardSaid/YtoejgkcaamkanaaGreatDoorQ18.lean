/- A datum that came in, opened. A list of data that came in, opened; its items may be lists. An entry that came in, opened. What a row's list of variables gives. -/
import Derived.Test.YtoejgkcaamkanaaGreatDoorQ14
import Derived.ProofKit
import Derived.OpenShut
import Derived.Deep.Slices
import Derived.Lib.SmallJoins
import Derived.Test.YtoejgkcaamkanaaGreatDoorQ13
import Derived.Test.YtoejgkcaamkanaaGreatDoorCards
import Derived.Test.YtoejgkcaamkanaaGreatDoorTie
import Derived.WalkKit
import Derived.LaidMore
import Derived.Stop.LaidErr
import Derived.MakeChecks
import Derived.Deep.DeepHandedRow
import Derived.Deep.DeepWitnessRowRef
import Derived.Lib.LaidTab
set_option linter.unusedVariables false
set_option linter.unusedSimpArgs false
namespace Go.Proofs.YtoejgkcaamkanaaGreatDoor
open Go.ChangeShapes Go.WideShapes Go.ChangeAt Go.RowKit

theorem cells24 : Tryz.prog.cellsOf 34 = 4 := by kernel_rfl
theorem bytes24 : Tryz.prog.bytesOf 34 = 56 := by kernel_rfl

section
variable {H : Type} {enc : TypeId × Value → H} {w : World} {base : Nat} {spare : Nat → Bool} {held : Bool}

theorem in64_wf {x : Int} (h : (Lit.int .i64 x).wf = true) : In64 x := by
  have := bounds_i64 h
  exact this

theorem four_of {l : List Value} (h : l.length = 4) : ∃ a b c d, l = [a, b, c, d] := by
  match l, h with
  | [a, b, c, d], _ => exact ⟨a, b, c, d, rfl⟩

theorem size_of_list {s : ByteArray} {N : Nat} (h : s.data.toList.length ≤ N) : s.size ≤ N := by
  have e : s.data.toList.length = s.size := by simp
  omega

/-- One struct's four cells, read. -/
theorem trod_datum {fuel : Nat} {cs : List Value} {x : DataW H × List MemPlace} (h : DataW.trod enc Tryz.prog w base spare held fuel 34 cs = some x) :
    ∃ (k n : Int) (s : ByteArray) (v : Value) (m : Nat) (y : DataW H × List MemPlace), cs = [.int .i64 k, .int .i64 n, .string s, v] ∧ In64 n ∧
      x.1 = .agg [.lit (.int .i64 k), .lit (.int .i64 n), .lit (.string s.data.toList), y.1] ∧ DataW.trod enc Tryz.prog w base spare held m 32 [v] = some y := by
  obtain ⟨y0, y1, y2, y3, n, rfl, hl, h0, h1, h2, h3⟩ := Joins.trod_struct4 Tryz.underlying34 h
  rw [cells24] at hl
  obtain ⟨c0, c1, c2, c3, rfl⟩ := four_of hl
  simp only [List.drop_zero, List.drop_succ_cons, List.take_succ_cons, List.take_zero] at h0 h1 h2 h3
  have z1 : Tryz.prog.cellsOf 3 = 1 := by kernel_rfl
  have z2 : Tryz.prog.cellsOf 9 = 1 := by kernel_rfl
  have z3 : Tryz.prog.cellsOf 32 = 1 := by kernel_rfl
  skip
  rw [z1] at h0
  rw [z1] at h1
  rw [z2] at h2
  rw [z3] at h3
  obtain ⟨k, e0, rfl, _⟩ := DataW.trod_int Tryz.underlying3 h0
  obtain ⟨m, e1, rfl, hm⟩ := DataW.trod_int Tryz.underlying3 h1
  obtain ⟨s, e2, rfl, _⟩ := DataW.trod_string Tryz.underlying9 h2
  simp at e0 e1 e2
  subst e0 e1 e2
  exact ⟨k, m, s, c3, n, y3, rfl, in64_wf hm, rfl, by simpa using h3⟩

/-- The list's value: how long. -/
theorem trod_list {fuel : Nat} {v : Value} {y : DataW H × List MemPlace} (h : DataW.trod enc Tryz.prog w base spare held fuel 32 [v] = some y) :
    ∃ a l c, v = .slice a l c ∧ (∀ b, (∀ n ∈ y.1.weights Tryz.prog 32, n ≤ b) → l * 56 ≤ b) := by
  rcases DataW.trod_slice Tryz.underlying32 h with ⟨e, rfl⟩ | ⟨a, len, cap, elems, rest, n, _, e, rfl, _, _, _, hlen, _⟩
  · simp at e; exact ⟨none, 0, 0, e, fun b _ => by omega⟩
  · simp at e
    refine ⟨some a, len, cap, e, fun b hb => ?_⟩
    have := hb ((elems.length + rest.length) * 56) (by simp [DataW.weights, Tryz.underlying32, bytes24])
    rw [hlen] at this
    have h2 : len * 56 ≤ (len + rest.length) * 56 := Nat.mul_le_mul_right _ (by omega)
    omega

theorem weights_datum (k n : Int) (s : List UInt8) (y : DataW H) : (DataW.agg [.lit (.int .i64 k), .lit (.int .i64 n), .lit (.string s), y]).weights Tryz.prog 34 = s.length :: y.weights Tryz.prog 32 := by
  simp [DataW.weights, DataW.weightsEach, Tryz.underlying34]

theorem weightsAll_mem {P : Program} {e : TypeId} : ∀ {l : List (DataW H)} {d : DataW H}, d ∈ l → ∀ n ∈ d.weights P e, n ∈ DataW.weightsAll P e l
  | x :: l, d, hd, n, hn => by
    simp only [DataW.weightsAll, List.mem_append]
    rcases List.mem_cons.1 hd with rfl | hd
    · exact .inl hn
    · exact .inr (weightsAll_mem hd n hn)

set_option maxRecDepth 100000 in
theorem open_datum {v : Value} {d : DataW H} {p : List MemPlace} (hv : Value.okWide Tryz.prog w .any base 34 v) (h : DataW.Trod enc Tryz.prog w 0 spare held 34 v d p)
    (hw : ∀ n ∈ d.weights Tryz.prog 34, n ≤ 140737488351232) :
    ∃ (x : Da) (a : Option Addr) (c : Nat), v = dv x.k x.n x.s a x.l.length c ∧ DaIs w x a := by
  obtain ⟨cs, rfl, hsz⟩ := okWide_struct Tryz.underlying34 hv
  obtain ⟨fuel, hf⟩ := h
  obtain ⟨k, n, s, v, m, y, hcs, hn, rfl, hy⟩ := trod_datum hf
  rw [weights_datum] at hw
  have hs : s.size ≤ 140737488351232 := by
    exact size_of_list (hw _ List.mem_cons_self)
  have hwy : ∀ n ∈ y.1.weights Tryz.prog 32, n ≤ 140737488351232 := fun n hn => hw n (List.mem_cons_of_mem _ hn)
  have hcs' : cs = #[.int .i64 k, .int .i64 n, .string s, v] := by
    apply Array.toList_inj.1
    simpa [Value.cells] using hcs
  subst hcs'
  rcases DataW.trod_slice Tryz.underlying32 hy with ⟨e, rfl⟩ | ⟨a, len, cap, elems, rest, m', _, e, rfl, _, _, _, hlen, hel, _⟩
  · simp at e
    subst e
    exact ⟨⟨k, n, s, []⟩, none, 0, rfl, ⟨.inl rfl, hn, by simp, hs⟩⟩
  · simp at e
    subst e
    have hL : len * 56 ≤ 140737488351232 := by
      have := hwy ((elems.length + rest.length) * 56) (by simp [DataW.weights, Tryz.underlying32, bytes24])
      rw [hlen] at this
      have h2 : len * 56 ≤ (len + rest.length) * 56 := Nat.mul_le_mul_right _ (by omega)
      omega
    have hall : ∀ i, i < len → ∃ (x : It), ∃ a' c', (∀ j u, [Value.int .i64 x.k, .int .i64 x.n, .string x.s, .slice a' x.ln c'][j]? = some u → w.cell? ((a.add (i * 4)).add j) = some u) ∧ x.ln ≤ 140737488351232 ∧ x.s.size ≤ 140737488351232 ∧ In64 x.n := by
      intro i hi
      have hi' := hel i hi
      rw [cells24, List.getElem?_eq_getElem (by omega)] at hi'
      obtain ⟨cs', h1, h2⟩ := Option.bind_eq_some_iff.1 hi'
      obtain ⟨_, hl4, hc4⟩ := World.cells?_some h1
      obtain ⟨k', n', s', v', m2, y', rfl, hn', hx', hy'⟩ := trod_datum h2
      have hmem : (elems[i]'(by omega)).1 ∈ elems.map (·.1) := List.mem_map.2 ⟨_, List.getElem_mem _, rfl⟩
      have hwi : ∀ n ∈ (elems[i]'(by omega)).1.weights Tryz.prog 34, n ≤ 140737488351232 := fun n hn => hwy n (by
        simp only [DataW.weights, Tryz.underlying32, List.mem_cons, List.mem_append]
        exact .inr (.inl (weightsAll_mem hmem n hn)))
      rw [hx', weights_datum] at hwi
      obtain ⟨a', l', c', rfl, hll⟩ := trod_list hy'
      refine ⟨⟨k', n', s', l'⟩, a', c', ?_, ?_, ?_, hn'⟩
      · intro j u hj
        have hj4 : j < 4 := by
          have := (List.getElem?_eq_some_iff.1 hj).1
          simpa using this
        rw [hc4 j hj4]; exact hj
      · have := hll 140737488351232 (fun n hn => hwi n (List.mem_cons_of_mem _ hn))
        show l' ≤ _
        omega
      · exact size_of_list (hwi _ List.mem_cons_self)
    obtain ⟨X, hX⟩ := @Go.Deep.choose_lt It ⟨⟨0, 0, ⟨#[]⟩, 0⟩⟩ _ _ hall
    refine ⟨⟨k, n, s, (List.range len).map X⟩, some a, cap, by simp, ⟨?_, hn, by simp; omega, hs⟩⟩
    by_cases h0 : len = 0
    · subst h0; exact .inl rfl
    · have hsp : a.spot = none := by
        obtain ⟨a', c', hc, _⟩ := hX 0 (by omega)
        have := World.cell?_spot (hc 0 _ rfl)
        simpa [Addr.add] using this
      refine .inr ⟨a.block, a.off, by cases a; simp_all, fun i hi => ?_⟩
      have hi' : i < len := by simpa using hi
      obtain ⟨a', c', hc, hx⟩ := hX i hi'
      have key : ∀ j u, [Value.int .i64 (X i).k, .int .i64 (X i).n, .string (X i).s, .slice a' (X i).ln c'][j]? = some u → w.cell? ⟨a.block, a.off + i * 4 + j, none⟩ = some u := fun j u hj => by
        have := hc j u hj
        rw [Go.Deep.add_add] at this
        have e : a.add (i * 4 + j) = ⟨a.block, a.off + i * 4 + j, none⟩ := by unfold Addr.add; cases a; split <;> simp_all; try omega
        rw [← e]; exact this
      simp only [List.getElem_map, List.getElem_range]
      exact ⟨key 0 _ rfl, key 1 _ rfl, key 2 _ rfl, ⟨a', c', key 3 _ rfl⟩, hx⟩
end
end Go.Proofs.YtoejgkcaamkanaaGreatDoor

namespace Go.Proofs.YtoejgkcaamkanaaGreatDoor
open Go.ChangeShapes Go.WideShapes Go.ChangeAt Go.RowKit

/-- An item as it came in. -/
structure El where
  d : Da
  a : Option Addr
  c : Nat
def El.it (e : El) : It := ⟨e.d.k, e.d.n, e.d.s, e.d.l.length⟩

def DeepIs (w : World) (a : Option Addr) (L : List El) : Prop :=
  L = [] ∨ ∃ b off, a = some ⟨b, off, none⟩ ∧ ∀ i (h : i < L.length),
    w.cell? ⟨b, off + i * 4, none⟩ = some (.int .i64 L[i].d.k) ∧ w.cell? ⟨b, off + i * 4 + 1, none⟩ = some (.int .i64 L[i].d.n) ∧
    w.cell? ⟨b, off + i * 4 + 2, none⟩ = some (.string L[i].d.s) ∧ w.cell? ⟨b, off + i * 4 + 3, none⟩ = some (.slice L[i].a L[i].d.l.length L[i].c) ∧ DaIs w L[i].d L[i].a

theorem DeepIs.below {w w1 : World} {a : Option Addr} {L : List El} (h : DeepIs w a L) (hb : Below w.heap.size w w1) : DeepIs w1 a L := by
  rcases h with h | ⟨b, off, ha, h⟩
  · exact .inl h
  · refine .inr ⟨b, off, ha, fun i hi => ?_⟩
    obtain ⟨h0, h1, h2, h3, h4⟩ := h i hi
    exact ⟨(hb.cell (World.block_lt_of_cell? w _ h0)).trans h0, (hb.cell (World.block_lt_of_cell? w _ h1)).trans h1,
      (hb.cell (World.block_lt_of_cell? w _ h2)).trans h2, (hb.cell (World.block_lt_of_cell? w _ h3)).trans h3, h4.below hb⟩

theorem DeepIs.at_ {w : World} {a : Option Addr} {L : List El} (h : DeepIs w a L) (i : Nat) (hi : i < L.length) : ∃ b off, a = some ⟨b, off, none⟩ ∧
    w.cell? ⟨b, off + i * 4, none⟩ = some (.int .i64 L[i].d.k) ∧ w.cell? ⟨b, off + i * 4 + 1, none⟩ = some (.int .i64 L[i].d.n) ∧
    w.cell? ⟨b, off + i * 4 + 2, none⟩ = some (.string L[i].d.s) ∧ w.cell? ⟨b, off + i * 4 + 3, none⟩ = some (.slice L[i].a L[i].d.l.length L[i].c) ∧ DaIs w L[i].d L[i].a := by
  rcases h with h | ⟨b, off, ha, h⟩
  · subst h; simp at hi
  · exact ⟨b, off, ha, h i hi⟩

theorem DeepIs.row {w : World} {a : Option Addr} {L : List El} (h : DeepIs w a L) : RowIs w a (L.map El.it) := by
  rcases h with h | ⟨b, off, ha, h⟩
  · exact .inl (by rw [h]; rfl)
  · refine .inr ⟨b, off, ha, fun i hi => ?_⟩
    have hi' : i < L.length := by simpa using hi
    obtain ⟨h0, h1, h2, h3, h4⟩ := h i hi'
    simp only [List.getElem_map, El.it]
    exact ⟨h0, h1, h2, ⟨_, _, h3⟩, h4.l, h4.s, h4.n⟩

section
variable {H : Type} {enc : TypeId × Value → H} {w : World} {base : Nat} {spare : Nat → Bool} {held : Bool}

set_option maxRecDepth 100000 in
theorem datum_cs {fuel : Nat} {cs : List Value} {x : DataW H × List MemPlace} (h : DataW.trod enc Tryz.prog w base spare held fuel 34 cs = some x)
    (hw : ∀ n ∈ x.1.weights Tryz.prog 34, n ≤ 140737488351232) :
    ∃ e : El, cs = [.int .i64 e.d.k, .int .i64 e.d.n, .string e.d.s, .slice e.a e.d.l.length e.c] ∧ DaIs w e.d e.a := by
  obtain ⟨k, n, s, v, m, y, hcs, hn, hxe, hy⟩ := trod_datum h
  rw [hxe, weights_datum] at hw
  have hs : s.size ≤ 140737488351232 := by
    exact size_of_list (hw _ List.mem_cons_self)
  have hwy : ∀ n ∈ y.1.weights Tryz.prog 32, n ≤ 140737488351232 := fun n hn => hw n (List.mem_cons_of_mem _ hn)
  subst hcs
  rcases DataW.trod_slice Tryz.underlying32 hy with ⟨e, rfl⟩ | ⟨a, len, cap, elems, rest, m', _, e, rfl, _, _, _, hlen, hel, _⟩
  · simp at e
    subst e
    exact ⟨⟨⟨k, n, s, []⟩, none, 0⟩, rfl, ⟨.inl rfl, hn, by simp, hs⟩⟩
  · simp at e
    subst e
    have hL : len * 56 ≤ 140737488351232 := by
      have := hwy ((elems.length + rest.length) * 56) (by simp [DataW.weights, Tryz.underlying32, bytes24])
      rw [hlen] at this
      have h2 : len * 56 ≤ (len + rest.length) * 56 := Nat.mul_le_mul_right _ (by omega)
      omega
    have hall : ∀ i, i < len → ∃ (x : It), ∃ a' c', (∀ j u, [Value.int .i64 x.k, .int .i64 x.n, .string x.s, .slice a' x.ln c'][j]? = some u → w.cell? ((a.add (i * 4)).add j) = some u) ∧ x.ln ≤ 140737488351232 ∧ x.s.size ≤ 140737488351232 ∧ In64 x.n := by
      intro i hi
      have hi' := hel i hi
      rw [cells24, List.getElem?_eq_getElem (by omega)] at hi'
      obtain ⟨cs', h1, h2⟩ := Option.bind_eq_some_iff.1 hi'
      obtain ⟨_, hl4, hc4⟩ := World.cells?_some h1
      obtain ⟨k', n', s', v', m2, y', rfl, hn', hx', hy'⟩ := trod_datum h2
      have hmem : (elems[i]'(by omega)).1 ∈ elems.map (·.1) := List.mem_map.2 ⟨_, List.getElem_mem _, rfl⟩
      have hwi : ∀ n ∈ (elems[i]'(by omega)).1.weights Tryz.prog 34, n ≤ 140737488351232 := fun n hn => hwy n (by
        simp only [DataW.weights, Tryz.underlying32, List.mem_cons, List.mem_append]
        exact .inr (.inl (weightsAll_mem hmem n hn)))
      rw [hx', weights_datum] at hwi
      obtain ⟨a', l', c', rfl, hll⟩ := trod_list hy'
      refine ⟨⟨k', n', s', l'⟩, a', c', ?_, ?_, ?_, hn'⟩
      · intro j u hj
        have hj4 : j < 4 := by
          have := (List.getElem?_eq_some_iff.1 hj).1
          simpa using this
        rw [hc4 j hj4]; exact hj
      · have := hll 140737488351232 (fun n hn => hwi n (List.mem_cons_of_mem _ hn))
        show l' ≤ _
        omega
      · exact size_of_list (hwi _ List.mem_cons_self)
    obtain ⟨X, hX⟩ := @Go.Deep.choose_lt It ⟨⟨0, 0, ⟨#[]⟩, 0⟩⟩ _ _ hall
    refine ⟨⟨⟨k, n, s, (List.range len).map X⟩, some a, cap⟩, by simp, ⟨?_, hn, by simp; omega, hs⟩⟩
    by_cases h0 : len = 0
    · subst h0; exact .inl rfl
    · have hsp : a.spot = none := by
        obtain ⟨a', c', hc, _⟩ := hX 0 (by omega)
        have := World.cell?_spot (hc 0 _ rfl)
        simpa [Addr.add] using this
      refine .inr ⟨a.block, a.off, by cases a; simp_all, fun i hi => ?_⟩
      have hi' : i < len := by simpa using hi
      obtain ⟨a', c', hc, hx⟩ := hX i hi'
      have key : ∀ j u, [Value.int .i64 (X i).k, .int .i64 (X i).n, .string (X i).s, .slice a' (X i).ln c'][j]? = some u → w.cell? ⟨a.block, a.off + i * 4 + j, none⟩ = some u := fun j u hj => by
        have := hc j u hj
        rw [Go.Deep.add_add] at this
        have e : a.add (i * 4 + j) = ⟨a.block, a.off + i * 4 + j, none⟩ := by unfold Addr.add; cases a; split <;> simp_all; try omega
        rw [← e]; exact this
      simp only [List.getElem_map, List.getElem_range]
      exact ⟨key 0 _ rfl, key 1 _ rfl, key 2 _ rfl, ⟨a', c', key 3 _ rfl⟩, hx⟩

set_option maxRecDepth 100000 in
theorem open_list {v : Value} {d : DataW H} {p : List MemPlace} (hv : Value.okWide Tryz.prog w .any base 32 v) (h : DataW.Trod enc Tryz.prog w 0 spare held 32 v d p)
    (hw : ∀ n ∈ d.weights Tryz.prog 32, n ≤ 140737488351232) :
    ∃ (L : List El) (a : Option Addr) (c : Nat), v = .slice a L.length c ∧ DeepIs w a L ∧ L.length ≤ 140737488351232 := by
  obtain ⟨fuel, hf⟩ := h
  obtain ⟨a0, len, cap, rfl⟩ := okWide_slice Tryz.underlying32 hv
  rcases DataW.trod_slice Tryz.underlying32 hf with ⟨e, he⟩ | ⟨a, l0, c0, elems, rest, m', _, e, he, _, _, _, hlen, hel, _⟩
  · simp [Value.cells] at e
    obtain ⟨rfl, rfl, rfl⟩ := e
    exact ⟨[], none, 0, rfl, .inl rfl, by simp⟩
  · simp [Value.cells] at e
    obtain ⟨e1, e2, e3⟩ := e
    subst e1 e2 e3
    have he1 := congrArg Prod.fst he
    simp only at he1
    subst he1
    have hL : len * 56 ≤ 140737488351232 := by
      have := hw ((elems.length + rest.length) * 56) (by simp [DataW.weights, Tryz.underlying32, bytes24])
      rw [hlen] at this
      have h2 : len * 56 ≤ (len + rest.length) * 56 := Nat.mul_le_mul_right _ (by omega)
      omega
    have hall : ∀ i, i < len → ∃ (x : El), (∀ j u, [Value.int .i64 x.d.k, .int .i64 x.d.n, .string x.d.s, .slice x.a x.d.l.length x.c][j]? = some u → w.cell? ((a.add (i * 4)).add j) = some u) ∧ DaIs w x.d x.a := by
      intro i hi
      have hi' := hel i hi
      rw [cells24, List.getElem?_eq_getElem (by omega)] at hi'
      obtain ⟨cs', h1, h2⟩ := Option.bind_eq_some_iff.1 hi'
      obtain ⟨_, hl4, hc4⟩ := World.cells?_some h1
      have hmem : (elems[i]'(by omega)).1 ∈ elems.map (·.1) := List.mem_map.2 ⟨_, List.getElem_mem _, rfl⟩
      have hwi : ∀ n ∈ (elems[i]'(by omega)).1.weights Tryz.prog 34, n ≤ 140737488351232 := fun n hn => hw n (by
        simp only [DataW.weights, Tryz.underlying32, List.mem_cons, List.mem_append]
        exact .inr (.inl (weightsAll_mem hmem n hn)))
      obtain ⟨e, rfl, hda⟩ := datum_cs h2 hwi
      refine ⟨e, ?_, hda⟩
      intro j u hj
      have hj4 : j < 4 := by
        have := (List.getElem?_eq_some_iff.1 hj).1
        simpa using this
      rw [hc4 j hj4]; exact hj
    obtain ⟨X, hX⟩ := @Go.Deep.choose_lt El ⟨⟨⟨0, 0, ⟨#[]⟩, []⟩, none, 0⟩⟩ _ _ hall
    refine ⟨(List.range len).map X, some a, cap, by simp, ?_, by simp; omega⟩
    by_cases h0 : len = 0
    · subst h0; exact .inl rfl
    · have hsp : a.spot = none := by
        obtain ⟨hc, _⟩ := hX 0 (by omega)
        have := World.cell?_spot (hc 0 _ rfl)
        simpa [Addr.add] using this
      refine .inr ⟨a.block, a.off, by cases a; simp_all, fun i hi => ?_⟩
      have hi' : i < len := by simpa using hi
      obtain ⟨hc, hx⟩ := hX i hi'
      have key : ∀ j u, [Value.int .i64 (X i).d.k, .int .i64 (X i).d.n, .string (X i).d.s, .slice (X i).a (X i).d.l.length (X i).c][j]? = some u → w.cell? ⟨a.block, a.off + i * 4 + j, none⟩ = some u := fun j u hj => by
        have := hc j u hj
        rw [Go.Deep.add_add] at this
        have e : a.add (i * 4 + j) = ⟨a.block, a.off + i * 4 + j, none⟩ := by unfold Addr.add; cases a; split <;> simp_all; try omega
        rw [← e]; exact this
      simp only [List.getElem_map, List.getElem_range]
      exact ⟨key 0 _ rfl, key 1 _ rfl, key 2 _ rfl, key 3 _ rfl, hx⟩
end
end Go.Proofs.YtoejgkcaamkanaaGreatDoor

namespace Go.Proofs.YtoejgkcaamkanaaGreatDoor
open Go.ChangeShapes Go.WideShapes Go.ChangeAt Go.RowKit

theorem cells_entry : Tryz.prog.cellsOf 37 = 5 := by kernel_rfl
theorem five_of {l : List Value} (h : l.length = 5) : ∃ a b c d e, l = [a, b, c, d, e] := by
  match l, h with
  | [a, b, c, d, e], _ => exact ⟨a, b, c, d, e, rfl⟩
section
variable {H : Type} {enc : TypeId × Value → H} {w : World} {base : Nat} {spare : Nat → Bool} {held : Bool}
theorem weights_entry (d y : DataW H) : (DataW.agg [d, y]).weights Tryz.prog 37 = d.weights Tryz.prog 34 ++ y.weights Tryz.prog 3 := by
  simp [DataW.weights, DataW.weightsEach, Tryz.underlying37]

set_option maxRecDepth 100000 in
theorem entry_cs {fuel : Nat} {cs : List Value} {x : DataW H × List MemPlace} (hl : cs.length = 5) (h : DataW.trod enc Tryz.prog w base spare held fuel 37 cs = some x)
    (hw : ∀ n ∈ x.1.weights Tryz.prog 37, n ≤ 140737488351232) :
    ∃ (e : El) (t : Int), cs = [.int .i64 e.d.k, .int .i64 e.d.n, .string e.d.s, .slice e.a e.d.l.length e.c, .int .i64 t] ∧ DaIs w e.d e.a ∧ In64 t := by
  obtain ⟨xs, n, hfu, hxe, _, hlen, hff⟩ := DataW.trod_struct Tryz.underlying37 h
  match xs, hlen with
  | [y0, y1], _ =>
    have h0 := hff 0 _ rfl
    have h1 := hff 1 _ rfl
    obtain ⟨c0, c1, c2, c3, c4, rfl⟩ := five_of hl
    have z1 : Tryz.prog.cellsOf 3 = 1 := by kernel_rfl
    simp at h0 h1
    rw [cells24] at h0
    rw [z1] at h1
    simp only [List.take_succ_cons, List.take_zero] at h0 h1
    have hd : x.1 = .agg [y0.1, y1.1] := by
      have := congrArg Prod.fst hxe
      simpa using this
    rw [hd, weights_entry] at hw
    obtain ⟨e, he, hda⟩ := datum_cs h0 (fun n hn => hw n (List.mem_append_left _ hn))
    obtain ⟨t, e1, _, ht⟩ := DataW.trod_int Tryz.underlying3 h1
    simp only [List.cons.injEq, and_true] at he e1
    obtain ⟨r0, r1, r2, r3⟩ := he
    subst r0 r1 r2 r3 e1
    exact ⟨e, t, rfl, hda, in64_wf ht⟩

set_option maxRecDepth 100000 in
theorem open_entry {v : Value} {d : DataW H} {p : List MemPlace} (hv : Value.okWide Tryz.prog w .any base 37 v) (h : DataW.Trod enc Tryz.prog w 0 spare held 37 v d p)
    (hw : ∀ n ∈ d.weights Tryz.prog 37, n ≤ 140737488351232) :
    ∃ (e : El) (t : Int), v = env e.d.k e.d.n e.d.s e.a e.d.l.length e.c t ∧ DaIs w e.d e.a ∧ In64 t := by
  obtain ⟨cs, rfl, hsz⟩ := okWide_struct Tryz.underlying37 hv
  obtain ⟨fuel, hf⟩ := h
  obtain ⟨xs, n, hfu, hxe, hl, hlen, hff⟩ := DataW.trod_struct Tryz.underlying37 hf
  rw [cells_entry] at hl
  obtain ⟨e, t, hcs, hda, ht⟩ := entry_cs hl hf hw
  have hcs' : cs = #[.int .i64 e.d.k, .int .i64 e.d.n, .string e.d.s, .slice e.a e.d.l.length e.c, .int .i64 t] := by
    apply Array.toList_inj.1
    simpa [Value.cells] using hcs
  subst hcs'
  exact ⟨e, t, rfl, hda, ht⟩
end
end Go.Proofs.YtoejgkcaamkanaaGreatDoor

namespace Go.Proofs.YtoejgkcaamkanaaGreatDoor
open Go.ChangeShapes Go.WideShapes Go.ChangeAt Go.RowKit

theorem own : ownKnob Tryz.prog.godebug = none := by kernel_rfl
theorem laidOut : laidOutB Tryz.prog = true := by kernel_rfl
theorem iface_of_trod {H : Type} {enc : TypeId × Value → H} {P : Program} {w : World} {base : Nat} {sp : Nat → Bool} {fuel : Nat} {t : TypeId} {ms : Array (String × TypeId)} {cs : List Value} {nm : String} {d : DataW H} {p : List MemPlace}
    (ht : P.underlying t = some (.interface ms)) (h : DataW.trod enc P w base sp false fuel t cs = some (.iface nm d, p)) : ∃ u v, cs = [.iface u v] := by
  cases fuel with
  | zero => simp [DataW.trod] at h
  | succ n =>
    unfold DataW.trod at h
    rw [ht] at h
    split at h <;> simp_all

theorem laid_iface {P : Program} {n nm : String} {d : DataW Unit} {r : List (String × DataW Unit)} {W : World} {g : Nat} {ti : TypeId} {ms : Array (String × TypeId)}
    (h : laidMet P ((n, .iface nm d) :: r) W) (hg : P.globalNamed n = some g) (ht : (P.globals[g]?).map (·.type) = some ti) (hi : P.underlying ti = some (.interface ms)) :
    ∃ tp p, W.cell? ⟨g, 0, none⟩ = some (.iface tp p) := by
  obtain ⟨ps, ⟨g0, t0, cs0, f0, p0, q0, hg0, ht0, hv0, hd0, _, e0⟩, _, hrows⟩ := h
  obtain rfl := Option.some.inj (hg.symm.trans hg0)
  obtain rfl := Option.some.inj (ht.symm.trans ht0)
  obtain ⟨u, v, e⟩ := iface_of_trod hi hd0
  have := World.var?_cell hg0 hv0 0
  rw [Array.toList_inj.1 (show cs0.toList = #[Value.iface u v].toList from e)] at this
  exact ⟨u, v, by simpa using this⟩

theorem maxlen_of {W : World} (h : W.ShapedOpen Tryz.prog) : ∃ m, W.cell? ⟨0, 0, none⟩ = some (.int .i64 m) :=
  Go.Proofs.cell_of_shapedOpen_int (zero := #[.int .i64 0]) (t := 3) h (of_decide_eq_true (by kernel_rfl)) (by kernel_rfl) rfl (by kernel_rfl) (by kernel_rfl) Tryz.underlying3

theorem laid_lt {P : Program} {n : String} {d : DataW Unit} {r : List (String × DataW Unit)} {W : World} {g : Nat} (h : laidMet P ((n, d) :: r) W) (hg : P.globalNamed n = some g) : g < W.heap.size := by
  obtain ⟨ps, ⟨g0, t0, cs0, f0, p0, q0, hg0, ht0, hv0, hd0, _, e0⟩, _, hrows⟩ := h
  obtain rfl := Option.some.inj (hg.symm.trans hg0)
  unfold World.var? at hv0
  rw [hg] at hv0
  rcases Nat.lt_or_ge g W.heap.size with h' | h'
  · exact h'
  · simp [Array.getElem?_eq_none h'] at hv0
theorem reach_at {H : Type} {ts : List TypeId} {ds : List (DataW H)} (h : (DataW.weightsEach Tryz.prog ts ds).all (· ≤ reachBytes) = true) {j : Nat} {t : TypeId} {d : DataW H} (ht : ts[j]? = some t) (hd : ds[j]? = some d) :
    ∀ n ∈ d.weights Tryz.prog t, n ≤ 140737488351232 := by
  intro n hn
  have hall := List.all_eq_true.1 h
  have hmem : n ∈ DataW.weightsEach Tryz.prog ts ds := by
    induction ts generalizing ds j with
    | nil => simp at ht
    | cons t' ts ih =>
      cases ds with
      | nil => simp at hd
      | cons d' ds =>
        simp only [DataW.weightsEach, List.mem_append]
        cases j with
        | zero => simp at ht hd; subst ht hd; exact .inl hn
        | succ j =>
          refine .inr (ih ?_ (j := j) (by simpa using ht) (by simpa using hd) ?_)
          · rw [List.all_eq_true]; intro m hm; exact hall m (by simp only [DataW.weightsEach, List.mem_append]; exact .inr hm)
          · intro m hm; exact hall m (by simp only [DataW.weightsEach, List.mem_append]; exact .inr hm)
  exact of_decide_eq_true (hall n hmem)

/-- The pinned table's cells. -/
def firstCells : Array Value := match Rows.laid_unicode_utf8_first with
  | .agg l => (l.map fun | .lit x => x.value | _ => undef).toArray
  | _ => #[]
/-- A start for the witness: the door's own heap, the pinned table laid. -/
noncomputable def pinWorld (os : Os) : World :=
  { World.doorLaid Tryz.prog 72 os with heap := (World.doorLaid Tryz.prog 72 os).heap.modify 1 fun
      | .cells _ t frozen => .cells firstCells t frozen
      | o => o }
end Go.Proofs.YtoejgkcaamkanaaGreatDoor
