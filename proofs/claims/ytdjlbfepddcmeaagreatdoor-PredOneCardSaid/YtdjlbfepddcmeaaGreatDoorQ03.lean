/- A list of data that came in, opened; its items may be lists. Whether two data are the same: the reference's. The order of data: datum.Compare and the reference's. The order of data: plain laws. strings.Builder at this translation: WriteByte, WriteString. -/
import Derived.Test.YtdjlbfepddcmeaaGreatDoorQ02
import Derived.Test.YtdjlbfepddcmeaaGreatDoorQ01
import Derived.StillTailTactics
import Derived.Test.YtdjlbfepddcmeaaGreatDoorChecked
import Derived.Shelf.Strings.Builder1
import Derived.WalkKit
set_option linter.unusedVariables false
set_option linter.unusedSimpArgs false
namespace Go.Proofs.YtdjlbfepddcmeaaGreatDoor
open Go.ChangeShapes Go.WideShapes Go.ChangeAt Go.RowKit

/-- An item as it came in. -/
structure El where
  d : Da
  a : Option Addr
  c : Nat
def El.it (e : El) : It := ⟨e.d.k, e.d.n, e.d.s, e.d.l.length⟩

def DeepIs (w : World) (a : Option Addr) (L : List El) : Prop :=
  L = [] ∨ ∃ b off, a = some ⟨b, off, none⟩ ∧ ∀ i (h : i < L.length),
    w.cell? ⟨b, off + i * 4, none⟩ = some (.int .i64 L[i].d.k) ∧ w.cell? ⟨b, off + i * 4 + 1, none⟩ = some (.int .i64 L[i].d.n) ∧
    w.cell? ⟨b, off + i * 4 + 2, none⟩ = some (.string L[i].d.s) ∧ w.cell? ⟨b, off + i * 4 + 3, none⟩ = some (.slice L[i].a L[i].d.l.length L[i].c) ∧ DaIs w L[i].d L[i].a

theorem DeepIs.below {w w1 : World} {a : Option Addr} {L : List El} (h : DeepIs w a L) (hb : Below w.heap.size w w1) : DeepIs w1 a L := by
  rcases h with h | ⟨b, off, ha, h⟩
  · exact .inl h
  · refine .inr ⟨b, off, ha, fun i hi => ?_⟩
    obtain ⟨h0, h1, h2, h3, h4⟩ := h i hi
    exact ⟨(hb.cell (World.block_lt_of_cell? w _ h0)).trans h0, (hb.cell (World.block_lt_of_cell? w _ h1)).trans h1,
      (hb.cell (World.block_lt_of_cell? w _ h2)).trans h2, (hb.cell (World.block_lt_of_cell? w _ h3)).trans h3, h4.below hb⟩

theorem DeepIs.at_ {w : World} {a : Option Addr} {L : List El} (h : DeepIs w a L) (i : Nat) (hi : i < L.length) : ∃ b off, a = some ⟨b, off, none⟩ ∧
    w.cell? ⟨b, off + i * 4, none⟩ = some (.int .i64 L[i].d.k) ∧ w.cell? ⟨b, off + i * 4 + 1, none⟩ = some (.int .i64 L[i].d.n) ∧
    w.cell? ⟨b, off + i * 4 + 2, none⟩ = some (.string L[i].d.s) ∧ w.cell? ⟨b, off + i * 4 + 3, none⟩ = some (.slice L[i].a L[i].d.l.length L[i].c) ∧ DaIs w L[i].d L[i].a := by
  rcases h with h | ⟨b, off, ha, h⟩
  · subst h; simp at hi
  · exact ⟨b, off, ha, h i hi⟩

theorem DeepIs.row {w : World} {a : Option Addr} {L : List El} (h : DeepIs w a L) : RowIs w a (L.map El.it) := by
  rcases h with h | ⟨b, off, ha, h⟩
  · exact .inl (by rw [h]; rfl)
  · refine .inr ⟨b, off, ha, fun i hi => ?_⟩
    have hi' : i < L.length := by simpa using hi
    obtain ⟨h0, h1, h2, h3, h4⟩ := h i hi'
    simp only [List.getElem_map, El.it]
    exact ⟨h0, h1, h2, ⟨_, _, h3⟩, h4.l, h4.s, h4.n⟩

section
variable {H : Type} {enc : TypeId × Value → H} {w : World} {base : Nat} {spare : Nat → Bool} {held : Bool}

set_option maxRecDepth 100000 in
theorem datum_cs {fuel : Nat} {cs : List Value} {x : DataW H × List MemPlace} (h : DataW.trod enc Tryz.prog w base spare held fuel 24 cs = some x)
    (hw : ∀ n ∈ x.1.weights Tryz.prog 24, n ≤ 140737488351232) :
    ∃ e : El, cs = [.int .i64 e.d.k, .int .i64 e.d.n, .string e.d.s, .slice e.a e.d.l.length e.c] ∧ DaIs w e.d e.a := by
  obtain ⟨k, n, s, v, m, y, hcs, hn, hxe, hy⟩ := trod_datum h
  rw [hxe, weights_datum] at hw
  have hs : s.size ≤ 140737488351232 := by
    exact size_of_list (hw _ List.mem_cons_self)
  have hwy : ∀ n ∈ y.1.weights Tryz.prog 22, n ≤ 140737488351232 := fun n hn => hw n (List.mem_cons_of_mem _ hn)
  subst hcs
  rcases DataW.trod_slice Tryz.underlying22 hy with ⟨e, rfl⟩ | ⟨a, len, cap, elems, rest, m', _, e, rfl, _, _, _, hlen, hel, _⟩
  · simp at e
    subst e
    exact ⟨⟨⟨k, n, s, []⟩, none, 0⟩, rfl, ⟨.inl rfl, hn, by simp, hs⟩⟩
  · simp at e
    subst e
    have hL : len * 56 ≤ 140737488351232 := by
      have := hwy ((elems.length + rest.length) * 56) (by simp [DataW.weights, Tryz.underlying22, bytes24])
      rw [hlen] at this
      have h2 : len * 56 ≤ (len + rest.length) * 56 := Nat.mul_le_mul_right _ (by omega)
      omega
    have hall : ∀ i, i < len → ∃ (x : It), ∃ a' c', (∀ j u, [Value.int .i64 x.k, .int .i64 x.n, .string x.s, .slice a' x.ln c'][j]? = some u → w.cell? ((a.add (i * 4)).add j) = some u) ∧ x.ln ≤ 140737488351232 ∧ x.s.size ≤ 140737488351232 ∧ In64 x.n := by
      intro i hi
      have hi' := hel i hi
      rw [cells24, List.getElem?_eq_getElem (by omega)] at hi'
      obtain ⟨cs', h1, h2⟩ := Option.bind_eq_some_iff.1 hi'
      obtain ⟨_, hl4, hc4⟩ := World.cells?_some h1
      obtain ⟨k', n', s', v', m2, y', rfl, hn', hx', hy'⟩ := trod_datum h2
      have hmem : (elems[i]'(by omega)).1 ∈ elems.map (·.1) := List.mem_map.2 ⟨_, List.getElem_mem _, rfl⟩
      have hwi : ∀ n ∈ (elems[i]'(by omega)).1.weights Tryz.prog 24, n ≤ 140737488351232 := fun n hn => hwy n (by
        simp only [DataW.weights, Tryz.underlying22, List.mem_cons, List.mem_append]
        exact .inr (.inl (weightsAll_mem hmem n hn)))
      rw [hx', weights_datum] at hwi
      obtain ⟨a', l', c', rfl, hll⟩ := trod_list hy'
      refine ⟨⟨k', n', s', l'⟩, a', c', ?_, ?_, ?_, hn'⟩
      · intro j u hj
        have hj4 : j < 4 := by
          have := (List.getElem?_eq_some_iff.1 hj).1
          simpa using this
        rw [hc4 j hj4]; exact hj
      · have := hll 140737488351232 (fun n hn => hwi n (List.mem_cons_of_mem _ hn))
        show l' ≤ _
        omega
      · exact size_of_list (hwi _ List.mem_cons_self)
    obtain ⟨X, hX⟩ := @Go.Deep.choose_lt It ⟨⟨0, 0, ⟨#[]⟩, 0⟩⟩ _ _ hall
    refine ⟨⟨⟨k, n, s, (List.range len).map X⟩, some a, cap⟩, by simp, ⟨?_, hn, by simp; omega, hs⟩⟩
    by_cases h0 : len = 0
    · subst h0; exact .inl rfl
    · have hsp : a.spot = none := by
        obtain ⟨a', c', hc, _⟩ := hX 0 (by omega)
        have := World.cell?_spot (hc 0 _ rfl)
        simpa [Addr.add] using this
      refine .inr ⟨a.block, a.off, by cases a; simp_all, fun i hi => ?_⟩
      have hi' : i < len := by simpa using hi
      obtain ⟨a', c', hc, hx⟩ := hX i hi'
      have key : ∀ j u, [Value.int .i64 (X i).k, .int .i64 (X i).n, .string (X i).s, .slice a' (X i).ln c'][j]? = some u → w.cell? ⟨a.block, a.off + i * 4 + j, none⟩ = some u := fun j u hj => by
        have := hc j u hj
        rw [Go.Deep.add_add] at this
        have e : a.add (i * 4 + j) = ⟨a.block, a.off + i * 4 + j, none⟩ := by unfold Addr.add; cases a; split <;> simp_all; try omega
        rw [← e]; exact this
      simp only [List.getElem_map, List.getElem_range]
      exact ⟨key 0 _ rfl, key 1 _ rfl, key 2 _ rfl, ⟨a', c', key 3 _ rfl⟩, hx⟩

set_option maxRecDepth 100000 in
theorem open_list {v : Value} {d : DataW H} {p : List MemPlace} (hv : Value.okWide Tryz.prog w .any base 22 v) (h : DataW.Trod enc Tryz.prog w 0 spare held 22 v d p)
    (hw : ∀ n ∈ d.weights Tryz.prog 22, n ≤ 140737488351232) :
    ∃ (L : List El) (a : Option Addr) (c : Nat), v = .slice a L.length c ∧ DeepIs w a L ∧ L.length ≤ 140737488351232 := by
  obtain ⟨fuel, hf⟩ := h
  obtain ⟨a0, len, cap, rfl⟩ := okWide_slice Tryz.underlying22 hv
  rcases DataW.trod_slice Tryz.underlying22 hf with ⟨e, he⟩ | ⟨a, l0, c0, elems, rest, m', _, e, he, _, _, _, hlen, hel, _⟩
  · simp [Value.cells] at e
    obtain ⟨rfl, rfl, rfl⟩ := e
    exact ⟨[], none, 0, rfl, .inl rfl, by simp⟩
  · simp [Value.cells] at e
    obtain ⟨e1, e2, e3⟩ := e
    subst e1 e2 e3
    have he1 := congrArg Prod.fst he
    simp only at he1
    subst he1
    have hL : len * 56 ≤ 140737488351232 := by
      have := hw ((elems.length + rest.length) * 56) (by simp [DataW.weights, Tryz.underlying22, bytes24])
      rw [hlen] at this
      have h2 : len * 56 ≤ (len + rest.length) * 56 := Nat.mul_le_mul_right _ (by omega)
      omega
    have hall : ∀ i, i < len → ∃ (x : El), (∀ j u, [Value.int .i64 x.d.k, .int .i64 x.d.n, .string x.d.s, .slice x.a x.d.l.length x.c][j]? = some u → w.cell? ((a.add (i * 4)).add j) = some u) ∧ DaIs w x.d x.a := by
      intro i hi
      have hi' := hel i hi
      rw [cells24, List.getElem?_eq_getElem (by omega)] at hi'
      obtain ⟨cs', h1, h2⟩ := Option.bind_eq_some_iff.1 hi'
      obtain ⟨_, hl4, hc4⟩ := World.cells?_some h1
      have hmem : (elems[i]'(by omega)).1 ∈ elems.map (·.1) := List.mem_map.2 ⟨_, List.getElem_mem _, rfl⟩
      have hwi : ∀ n ∈ (elems[i]'(by omega)).1.weights Tryz.prog 24, n ≤ 140737488351232 := fun n hn => hw n (by
        simp only [DataW.weights, Tryz.underlying22, List.mem_cons, List.mem_append]
        exact .inr (.inl (weightsAll_mem hmem n hn)))
      obtain ⟨e, rfl, hda⟩ := datum_cs h2 hwi
      refine ⟨e, ?_, hda⟩
      intro j u hj
      have hj4 : j < 4 := by
        have := (List.getElem?_eq_some_iff.1 hj).1
        simpa using this
      rw [hc4 j hj4]; exact hj
    obtain ⟨X, hX⟩ := @Go.Deep.choose_lt El ⟨⟨⟨0, 0, ⟨#[]⟩, []⟩, none, 0⟩⟩ _ _ hall
    refine ⟨(List.range len).map X, some a, cap, by simp, ?_, by simp; omega⟩
    by_cases h0 : len = 0
    · subst h0; exact .inl rfl
    · have hsp : a.spot = none := by
        obtain ⟨hc, _⟩ := hX 0 (by omega)
        have := World.cell?_spot (hc 0 _ rfl)
        simpa [Addr.add] using this
      refine .inr ⟨a.block, a.off, by cases a; simp_all, fun i hi => ?_⟩
      have hi' : i < len := by simpa using hi
      obtain ⟨hc, hx⟩ := hX i hi'
      have key : ∀ j u, [Value.int .i64 (X i).d.k, .int .i64 (X i).d.n, .string (X i).d.s, .slice (X i).a (X i).d.l.length (X i).c][j]? = some u → w.cell? ⟨a.block, a.off + i * 4 + j, none⟩ = some u := fun j u hj => by
        have := hc j u hj
        rw [Go.Deep.add_add] at this
        have e : a.add (i * 4 + j) = ⟨a.block, a.off + i * 4 + j, none⟩ := by unfold Addr.add; cases a; split <;> simp_all; try omega
        rw [← e]; exact this
      simp only [List.getElem_map, List.getElem_range]
      exact ⟨key 0 _ rfl, key 1 _ rfl, key 2 _ rfl, key 3 _ rfl, hx⟩
end
end Go.Proofs.YtdjlbfepddcmeaaGreatDoor

namespace Go.Proofs.YtdjlbfepddcmeaaGreatDoor
open Go.RowKit

/-- Are data the same? -/
def It.same (x y : It) : Bool := decide (x.k = y.k) && decide (x.n = y.n) && (x.s.toList == y.s.toList) && decide (x.ln + y.ln = 0)
def Da.same (d d' : Da) : Bool := decide (d.k = d'.k) && decide (d.n = d'.n) && (d.s.toList == d'.s.toList) && decide (d.l.length = d'.l.length) && (List.range d.l.length).all fun i =>
  match d.l[i]?, d'.l[i]? with
  | some x, some y => x.same y
  | _, _ => false

def SameTo (l l' : List It) (j : Nat) : Prop := ∀ i, i < j → ∃ x y, l[i]? = some x ∧ l'[i]? = some y ∧ x.same y = true

theorem same_step {l l' : List It} {j : Nat} {x y : It} (h : SameTo l l' j) (hx : l[j]? = some x) (hy : l'[j]? = some y) (hs : x.same y = true) : SameTo l l' (j + 1) := by
  intro i hi
  by_cases e : i = j
  · subst e; exact ⟨x, y, hx, hy, hs⟩
  · exact h i (by omega)
theorem same_no {k n : Int} {s s' : ByteArray} {l l' : List It} {j : Nat} {x y : It} (hj : j < l.length) (hx : l[j]? = some x) (hy : l'[j]? = some y) (hs : x.same y = false) : false = (Da.mk k n s l).same (Da.mk k n s' l') := by
  symm
  unfold Da.same
  rw [Bool.and_eq_false_iff]
  refine .inr ?_
  rw [List.all_eq_false]
  exact ⟨j, List.mem_range.2 hj, by simp [hx, hy, hs]⟩
theorem same_yes {k n : Int} {s s' : ByteArray} {l l' : List It} {j : Nat} (hs : s.toList = s'.toList) (hl : l.length = l'.length) (hj : l.length ≤ j) (h : SameTo l l' j) : true = (Da.mk k n s l).same (Da.mk k n s' l') := by
  symm
  unfold Da.same
  simp only [hs, hl, decide_true, Bool.true_and, beq_self_eq_true]
  rw [List.all_eq_true]
  intro i hi
  obtain ⟨x, y, e1, e2, e3⟩ := h i (by have := List.mem_range.1 hi; omega)
  simp [e1, e2, e3]
theorem same_not {k n k' n' : Int} {s s' : ByteArray} {l l' : List It} (h : ¬ (k = k' ∧ n = n' ∧ s.toList = s'.toList ∧ l.length = l'.length)) : (Da.mk k n s l).same (Da.mk k' n' s' l') = false := by
  unfold Da.same
  simp only
  by_cases h1 : k = k' <;> by_cases h2 : n = n' <;> by_cases h3 : s.toList = s'.toList <;> by_cases h4 : l.length = l'.length <;> simp_all

set_option maxHeartbeats 1000000 in
theorem rsame_any (d d' : Da) (a : Option Addr) (c : Nat) (a' : Option Addr) (c' : Nat) (w : World) (hr : RowIs w a d.l) (hr' : RowIs w a' d'.l)
    (hl : d.l.length ≤ 140737488351232) (hl' : d'.l.length ≤ 140737488351232) :
    Calls Tryz.prog 40 #[dv d.k d.n d.s a d.l.length c, dv d'.k d'.n d'.s a' d'.l.length c'] w fun e w' => e = .returned (.bool (d.same d')) ∧ Below w.heap.size w w' := by
  obtain ⟨k, n, s, l⟩ := d
  obtain ⟨k', n', s', l'⟩ := d'
  simp only at *
  by_cases hk : k = k' ∧ n = n' ∧ s.toList = s'.toList ∧ l.length = l'.length
  · obtain ⟨rfl, rfl, hs, hll⟩ := hk
    have hs0 : (s.toList != s'.toList) = false := by simp [hs]
    have HS := Lib.hid hs
    have HL := Lib.hid hll
    have hl0 : decide ((l.length : Int) = (l'.length : Int)) = true := by simp [hll]
    have hl1 : ((l.length : Int) != (l'.length : Int)) = false := by simp [hll]
    clear hs hll
    go_enter Tryz.func40, Tryz.ntmps40
    go_wp2
    go_loopw [5] (fun i wr => ∃ j : Nat, j ≤ l.length ∧ i = .int .i64 j ∧ SameTo l l' j ∧ Below w.heap.size w wr ∧
        wr.cell? ⟨w.heap.size, 3, none⟩ = some (.slice a l.length c) ∧ wr.cell? ⟨w.heap.size + 1, 3, none⟩ = some (.slice a' l'.length c') ∧ w.heap.size + 1 < wr.heap.size) (fun i _ => l.length - (intOf i).toNat)
    case atStart => exact ⟨0, Nat.zero_le _, rfl, fun i hi => absurd hi (by omega), ((Below.refl _ _).alloc (Nat.le_refl _) _).alloc (by simp) _, by go_simp, by go_simp, by simp⟩
    case round =>
      obtain ⟨j, hj, rfl, hall, hb, hc3, hc3', hz⟩ := hrel
      by_cases hlt : j < l.length
      · have hlt' : j < l'.length := by have := HL.out; omega
        obtain ⟨b, off, ai, ci, rfl, g0, g1, g2, g3, gl, _⟩ := (hr.below hb).at_ j hlt
        obtain ⟨b', off', ai', ci', rfl, g0', g1', g2', g3', gl', _⟩ := (hr'.below hb).at_ j hlt'
        have HA := Lib.hid hall
        have hx0 := List.getElem?_eq_getElem hlt
        have hy0 := List.getElem?_eq_getElem hlt'
        clear hall
        generalize hx : l[j] = x at *
        generalize hy : l'[j] = y at *
        have HX := Lib.hid hx0
        have HY := Lib.hid hy0
        clear hx hy hx0 hy0
        obtain ⟨k1, n1, s1, m1⟩ := x
        obtain ⟨k2, n2, s2, m2⟩ := y
        simp only at *
        have hz1 : w.heap.size < wr.heap.size := by omega
        have hz2 : ¬ w.heap.size = wr.heap.size := by omega
        have hz3 : ¬ w.heap.size + 1 = wr.heap.size := by omega
        have hz4 : ¬ w.heap.size = wr.heap.size + 1 := by omega
        have hq1 : b < wr.heap.size := World.block_lt_of_cell? wr _ g0
        have hq2 : b' < wr.heap.size := World.block_lt_of_cell? wr _ g0'
        have hq3 : ¬ b = wr.heap.size := by omega
        have hq4 : ¬ b' = wr.heap.size := by omega
        have hq5 : ¬ b = wr.heap.size + 1 := by omega
        have hq6 : ¬ b' = wr.heap.size + 1 := by omega
        go_wp2
        go_region
        all_goals go_wp2
        all_goals first
          | (go_roundw
             case rel => exact ⟨j + 1, by omega, by go_num, same_step HA.out HX.out HY.out (by go_light; simp_all [It.same]; omega), by go_grown, by go_simp, by go_simp, by simp; omega⟩
             case measure => simp [intOf]; omega)
          | (go_ret; exact ⟨ret_bool (same_no hlt HX.out HY.out (by go_light; simp_all [It.same]; try omega)), by go_grown⟩)
      · go_wp2
        go_ret
        exact ⟨ret_bool (same_yes HS.out HL.out (show l.length ≤ j by omega) hall), hb⟩
  · have HN := Lib.hid (same_not hk)
    go_enter Tryz.func40, Tryz.ntmps40
    go_wp2
    all_goals first
      | (go_ret; exact ⟨ret_bool HN.out.symm, by go_grown⟩)
      | (exfalso; go_light; simp_all; try omega)
end Go.Proofs.YtdjlbfepddcmeaaGreatDoor

namespace Go.Proofs.YtdjlbfepddcmeaaGreatDoor
open Go.RowKit

/-- cmp.Or of three. -/
def or3 (x y z : Int) : Int := if x ≠ 0 then x else if y ≠ 0 then y else z

/-- -1, 0, 1 of what are no lists. -/
def ordB (k n : Int) (s : ByteArray) (k' n' : Int) (s' : ByteArray) : Int :=
  if k ≠ k' then (if k < k' then -1 else 1) else if n < n' then -1 else if n' < n then 1 else Go.Lib.compareBytes s.data.toList s'.data.toList

theorem compareInt_eq (x y : Int) : Go.Lib.compareInt x y = if x < y then -1 else if y < x then 1 else 0 := by
  unfold Go.Lib.compareInt; rfl

theorem ordB_eq (k n : Int) (s : ByteArray) (k' n' : Int) (s' : ByteArray) :
    or3 (Go.Lib.compareInt k k') (Go.Lib.compareInt n n') (Go.Lib.compareBytes s.data.toList s'.data.toList) = ordB k n s k' n' s' := by
  simp only [or3, compareInt_eq, ordB]
  by_cases h1 : k < k'
  · simp [h1, show k ≠ k' by omega]
  · by_cases h2 : k' < k
    · simp [h1, h2, show k ≠ k' by omega]
    · obtain rfl : k = k' := by omega
      by_cases h3 : n < n' <;> by_cases h4 : n' < n <;> simp [h3, h4] <;> omega

/-- What Compare answers. -/
def cmpAns (d d' : Da) : Value :=
  if d.may && d'.may then (if decide (d.k = 3) || decide (d'.k = 3) then .tuple #[.int .i64 0, .int .i64 10] else .tuple #[.int .i64 (ordB d.k d.n d.s d'.k d'.n d'.s), .int .i64 0]) else .tuple #[.int .i64 0, .int .i64 11]

theorem bytesLess_iff (a b : List UInt8) : Op.bytesLess a b = decide (Go.Lib.compareBytes a b = -1) := by
  induction a generalizing b with
  | nil => cases b <;> simp [Op.bytesLess, Go.Lib.compareBytes]
  | cons x a ih =>
    cases b with
    | nil => simp [Op.bytesLess, Go.Lib.compareBytes]
    | cons y b =>
      simp only [Op.bytesLess, Go.Lib.compareBytes]
      by_cases h1 : x < y
      · simp [h1]
      · by_cases h2 : y < x
        · simp [h1, h2]; intro h; subst h; exact absurd h2 (by simp)
        · have h3 : x = y := by
            have a1 : ¬ x.toNat < y.toNat := h1
            have a2 : ¬ y.toNat < x.toNat := h2
            exact UInt8.toNat_inj.1 (by omega)
          subst h3
          simp [ih]

theorem compareBytes_zero (a b : List UInt8) : Go.Lib.compareBytes a b = 0 ↔ a = b := by
  induction a generalizing b with
  | nil => cases b <;> simp [Go.Lib.compareBytes]
  | cons x a ih =>
    cases b with
    | nil => simp [Go.Lib.compareBytes]
    | cons y b =>
      simp only [Go.Lib.compareBytes]
      by_cases h1 : x < y
      · simp [h1]; intro h; subst h; exact absurd h1 (by simp)
      · by_cases h2 : y < x
        · simp [h1, h2]; intro h; subst h; exact absurd h2 (by simp)
        · have h3 : x = y := by
            have a1 : ¬ x.toNat < y.toNat := h1
            have a2 : ¬ y.toNat < x.toNat := h2
            exact UInt8.toNat_inj.1 (by omega)
          subst h3
          simp [ih]

theorem compareBytes_three (a b : List UInt8) : Go.Lib.compareBytes a b = -1 ∨ Go.Lib.compareBytes a b = 0 ∨ Go.Lib.compareBytes a b = 1 := by
  induction a generalizing b with
  | nil => cases b <;> simp [Go.Lib.compareBytes]
  | cons x a ih =>
    cases b with
    | nil => simp [Go.Lib.compareBytes]
    | cons y b =>
      simp only [Go.Lib.compareBytes]
      by_cases h1 : x < y
      · simp [h1]
      · by_cases h2 : y < x
        · simp [h1, h2]
        · simp only [h1, h2, if_false]; exact ih b

set_option maxRecDepth 100000 in
set_option maxHeartbeats 1000000 in
theorem order_any (k n : Int) (s : ByteArray) (a : Option Addr) (l c : Nat) (k' n' : Int) (s' : ByteArray) (a' : Option Addr) (l' c' : Nat) (w : World) :
    Calls Tryz.prog 71 #[dv k n s a l c, dv k' n' s' a' l' c'] w fun e w' => e = .returned (.int .i64 (ordB k n s k' n' s')) ∧ Below w.heap.size w w' := by
  by_cases h1 : k = k'
  · subst h1
    by_cases h2 : n < n'
    · have H := Lib.hid (show ordB k n s k n' s' = -1 by simp [ordB, h2])
      go_enter Tryz.func71, Tryz.ntmps71
      go_wp2
      go_ret
      exact ⟨ret_int H.out.symm, by go_grown⟩
    · by_cases h3 : n = n'
      · subst h3
        have hc := compareBytes_three s.data.toList s'.data.toList
        have hl := bytesLess_iff s.data.toList s'.data.toList
        have hz := compareBytes_zero s.data.toList s'.data.toList
        rw [← Go.Lib.toList_data, ← Go.Lib.toList_data] at hl hz
        rcases hc with hc | hc | hc
        · have H := Lib.hid (show ordB k n s k n s' = -1 by simp [ordB, hc])
          have hl1 : Op.bytesLess s.toList s'.toList = true := by rw [hl]; simp [Go.Lib.toList_data, hc]
          clear hc hl hz
          go_enter Tryz.func71, Tryz.ntmps71
          go_wp2
          go_ret
          exact ⟨ret_int H.out.symm, by go_grown⟩
        · have H := Lib.hid (show ordB k n s k n s' = 0 by simp [ordB, hc])
          have hl1 : Op.bytesLess s.toList s'.toList = false := by rw [hl]; simp [Go.Lib.toList_data, hc]
          have hl2 : (s.toList == s'.toList) = true := by rw [beq_iff_eq]; exact hz.1 (by simpa [Go.Lib.toList_data] using hc)
          have hl3 := Lib.hid hl2
          have hl4 : s.toList = s'.toList := by simpa using hl2
          clear hc hl hz hl4
          go_enter Tryz.func71, Tryz.ntmps71
          go_wp2
          go_ret
          exact ⟨ret_int H.out.symm, by go_grown⟩
        · have H := Lib.hid (show ordB k n s k n s' = 1 by simp [ordB, hc])
          have hl1 : Op.bytesLess s.toList s'.toList = false := by rw [hl]; simp [Go.Lib.toList_data, hc]
          have hl2 : (s.toList == s'.toList) = false := by
            rw [beq_eq_false_iff_ne]
            intro e
            have := hz.2 e
            simp only [Go.Lib.toList_data] at this
            omega
          clear hc hl hz
          go_enter Tryz.func71, Tryz.ntmps71
          go_wp2
          go_ret
          exact ⟨ret_int H.out.symm, by go_grown⟩
      · have H := Lib.hid (show ordB k n s k n' s' = 1 by simp [ordB, h2]; omega)
        go_enter Tryz.func71, Tryz.ntmps71
        go_wp2
        go_ret
        exact ⟨ret_int H.out.symm, by go_grown⟩
  · by_cases h2 : k < k'
    · have H := Lib.hid (show ordB k n s k' n' s' = -1 by simp [ordB, h1, h2])
      go_enter Tryz.func71, Tryz.ntmps71
      go_wp2
      go_ret
      exact ⟨ret_int H.out.symm, by go_grown⟩
    · have H := Lib.hid (show ordB k n s k' n' s' = 1 by simp [ordB, h1, h2])
      go_enter Tryz.func71, Tryz.ntmps71
      go_wp2
      go_ret
      exact ⟨ret_int H.out.symm, by go_grown⟩

set_option maxRecDepth 100000 in
set_option maxHeartbeats 2000000 in
theorem rcompare_any (d d' : Da) (a : Option Addr) (c : Nat) (a' : Option Addr) (c' : Nat) (w : World) (hr : RowIs w a d.l) (hl : d.l.length ≤ 140737488351232) (hr' : RowIs w a' d'.l) (hl' : d'.l.length ≤ 140737488351232) (hs : d.s.size ≤ 140737488351232) (hs' : d'.s.size ≤ 140737488351232) :
    Calls Tryz.prog 51 #[dv d.k d.n d.s a d.l.length c, dv d'.k d'.n d'.s a' d'.l.length c'] w fun e w' =>
      e = .returned (cmpAns d d') ∧ Below w.heap.size w w' := by
  by_cases h1 : d.may = true
  · by_cases h2 : d'.may = true
    · by_cases h3 : d.k = 3
      · have HA := Lib.hid (show cmpAns d d' = .tuple #[.int .i64 0, .int .i64 10] by simp [cmpAns, h1, h2, h3])
        have hk4 : (d.k == 3) = true := by simpa using h3
        have H1 := Lib.hid h3
        clear h3
        go_enter Tryz.func51, Tryz.ntmps51
        go_wp2_with fail
        refine (rmay_any d a c _ (hr.below (by go_grown)) hs hl).mono ?_
        rintro e w1 ⟨rfl, hb1⟩
        obtain ⟨hc1, hf1⟩ := bcell hb1
        simp only [World.size_alloc] at hc1 hf1
        have hz1 : w.heap.size + 1 < w1.heap.size := by have := hb1.size; simp at this; omega
        have hz0 : w.heap.size < w1.heap.size := by omega
        go_wp2_with fail
        refine (rmay_any d' a' c' _ ((hr'.below (by go_grown)).below hb1) hs' hl').mono ?_
        rintro e w2 ⟨rfl, hb2⟩
        obtain ⟨hc2, hf2⟩ := bcell hb2
        go_wp2
        go_ret2
        exact ⟨ret_val HA.out.symm, ((Below.refl w.heap.size w).alloc (Nat.le_refl _) _).alloc (by simp) _ |>.trans (hb1.mono (by simp; omega)) |>.trans (hb2.mono (by omega))⟩
      · by_cases h4 : d'.k = 3
        · have HA := Lib.hid (show cmpAns d d' = .tuple #[.int .i64 0, .int .i64 10] by simp [cmpAns, h1, h2, h4])
          have hk4 : (d.k == 3) = false := by simpa using h3
          have hk5 : (d'.k == 3) = true := by simpa using h4
          have H1 := Lib.hid h4
          clear h4
          go_enter Tryz.func51, Tryz.ntmps51
          go_wp2_with fail
          refine (rmay_any d a c _ (hr.below (by go_grown)) hs hl).mono ?_
          rintro e w1 ⟨rfl, hb1⟩
          obtain ⟨hc1, hf1⟩ := bcell hb1
          simp only [World.size_alloc] at hc1 hf1
          have hz1 : w.heap.size + 1 < w1.heap.size := by have := hb1.size; simp at this; omega
          have hz0 : w.heap.size < w1.heap.size := by omega
          go_wp2_with fail
          refine (rmay_any d' a' c' _ ((hr'.below (by go_grown)).below hb1) hs' hl').mono ?_
          rintro e w2 ⟨rfl, hb2⟩
          obtain ⟨hc2, hf2⟩ := bcell hb2
          go_wp2
          go_ret2
          exact ⟨ret_val HA.out.symm, ((Below.refl w.heap.size w).alloc (Nat.le_refl _) _).alloc (by simp) _ |>.trans (hb1.mono (by simp; omega)) |>.trans (hb2.mono (by omega))⟩
        · have HA := Lib.hid (show cmpAns d d' = .tuple #[.int .i64 (ordB d.k d.n d.s d'.k d'.n d'.s), .int .i64 0] by simp [cmpAns, h1, h2, h3, h4])
          have hk4 : (d.k == 3) = false := by simpa using h3
          have hk5 : (d'.k == 3) = false := by simpa using h4
          go_enter Tryz.func51, Tryz.ntmps51
          go_wp2_with fail
          refine (rmay_any d a c _ (hr.below (by go_grown)) hs hl).mono ?_
          rintro e w1 ⟨rfl, hb1⟩
          obtain ⟨hc1, hf1⟩ := bcell hb1
          simp only [World.size_alloc] at hc1 hf1
          have hz1 : w.heap.size + 1 < w1.heap.size := by have := hb1.size; simp at this; omega
          have hz0 : w.heap.size < w1.heap.size := by omega
          go_wp2_with fail
          refine (rmay_any d' a' c' _ ((hr'.below (by go_grown)).below hb1) hs' hl').mono ?_
          rintro e w2 ⟨rfl, hb2⟩
          obtain ⟨hc2, hf2⟩ := bcell hb2
          go_wp2_with fail
          refine (order_any _ _ _ _ _ _ _ _ _ _ _ _ _).mono ?_
          rintro e w3 ⟨rfl, hb3⟩
          go_wp2
          go_ret2
          exact ⟨ret_val HA.out.symm, ((Below.refl w.heap.size w).alloc (Nat.le_refl _) _).alloc (by simp) _ |>.trans (hb1.mono (by simp; omega)) |>.trans (hb2.mono (by omega)) |>.trans (hb3.mono (by have := hb2.size; omega))⟩
    · have HA := Lib.hid (show cmpAns d d' = .tuple #[.int .i64 0, .int .i64 11] by simp [cmpAns, h2])
      go_enter Tryz.func51, Tryz.ntmps51
      go_wp2_with fail
      refine (rmay_any d a c _ (hr.below (by go_grown)) hs hl).mono ?_
      rintro e w1 ⟨rfl, hb1⟩
      obtain ⟨hc1, hf1⟩ := bcell hb1
      simp only [World.size_alloc] at hc1 hf1
      have hz1 : w.heap.size + 1 < w1.heap.size := by have := hb1.size; simp at this; omega
      have hz0 : w.heap.size < w1.heap.size := by omega
      go_wp2_with fail
      refine (rmay_any d' a' c' _ ((hr'.below (by go_grown)).below hb1) hs' hl').mono ?_
      rintro e w2 ⟨rfl, hb2⟩
      obtain ⟨hc2, hf2⟩ := bcell hb2
      go_wp2
      go_ret2
      exact ⟨ret_val HA.out.symm, ((Below.refl w.heap.size w).alloc (Nat.le_refl _) _).alloc (by simp) _ |>.trans (hb1.mono (by simp; omega)) |>.trans (hb2.mono (by omega))⟩
  · have HA := Lib.hid (show cmpAns d d' = .tuple #[.int .i64 0, .int .i64 11] by simp [cmpAns, h1])
    go_enter Tryz.func51, Tryz.ntmps51
    go_wp2_with fail
    refine (rmay_any d a c _ (hr.below (by go_grown)) hs hl).mono ?_
    rintro e w1 ⟨rfl, hb1⟩
    go_wp2
    go_ret2
    exact ⟨ret_val HA.out.symm, ((Below.refl w.heap.size w).alloc (Nat.le_refl _) _).alloc (by simp) _ |>.trans (hb1.mono (by simp; omega))⟩
end Go.Proofs.YtdjlbfepddcmeaaGreatDoor

namespace Go.Proofs.YtdjlbfepddcmeaaGreatDoor
open Go.RowKit

theorem cb_anti : ∀ a b : List UInt8, Go.Lib.compareBytes b a = - Go.Lib.compareBytes a b
  | [], [] => rfl
  | [], _ :: _ => rfl
  | _ :: _, [] => rfl
  | a :: al, b :: bl => by
    have ih := cb_anti al bl
    simp only [Go.Lib.compareBytes]
    by_cases h1 : a < b
    · have h2 : ¬ b < a := fun h => by
        have := UInt8.lt_iff_toNat_lt.1 h1; have := UInt8.lt_iff_toNat_lt.1 h; omega
      simp [h1, h2]
    · by_cases h2 : b < a
      · simp [h1, h2]
      · simp [h1, h2, ih]

theorem cb_trans : ∀ a b c : List UInt8, Go.Lib.compareBytes a b ≤ 0 → Go.Lib.compareBytes b c ≤ 0 → Go.Lib.compareBytes a c ≤ 0
  | [], _, [], _, _ => by simp [Go.Lib.compareBytes]
  | [], _, _ :: _, _, _ => by simp [Go.Lib.compareBytes]
  | _ :: _, [], _, h, _ => by simp [Go.Lib.compareBytes] at h
  | _ :: _, _ :: _, [], _, h => by simp [Go.Lib.compareBytes] at h
  | a :: al, b :: bl, c :: cl, h1, h2 => by
    have ih := cb_trans al bl cl
    simp only [Go.Lib.compareBytes] at *
    simp only [UInt8.lt_iff_toNat_lt] at *
    generalize a.toNat = x at *
    generalize b.toNat = y at *
    generalize c.toNat = z at *
    split at h1
    · split at h2
      · rw [if_pos (by omega)]; omega
      · split at h2
        · omega
        · rw [if_pos (by omega)]; omega
    · split at h1
      · omega
      · split at h2
        · rw [if_pos (by omega)]; omega
        · split at h2
          · omega
          · rw [if_neg (by omega), if_neg (by omega)]
            exact ih h1 h2

/-- Compare's error and value. -/
def cE (d d' : Da) : Int := if d.may && d'.may then (if decide (d.k = 3) || decide (d'.k = 3) then 10 else 0) else 11
def cV (d d' : Da) : Int := if cE d d' = 0 then ordB d.k d.n d.s d'.k d'.n d'.s else 0
theorem cmpAns_eq (d d' : Da) : cmpAns d d' = .tuple #[.int .i64 (cV d d'), .int .i64 (cE d d')] := by
  unfold cmpAns cV cE
  split
  · split <;> simp
  · simp

theorem ordB_three (k n : Int) (s : ByteArray) (k' n' : Int) (s' : ByteArray) : ordB k n s k' n' s' = -1 ∨ ordB k n s k' n' s' = 0 ∨ ordB k n s k' n' s' = 1 := by
  have := compareBytes_three s.data.toList s'.data.toList
  unfold ordB
  split
  · split <;> simp
  · split
    · simp
    · split
      · simp
      · exact this

theorem ordB_anti (k n : Int) (s : ByteArray) (k' n' : Int) (s' : ByteArray) : ordB k' n' s' k n s = - ordB k n s k' n' s' := by
  have h := cb_anti s.data.toList s'.data.toList
  unfold ordB
  by_cases hk : k = k'
  · subst hk
    simp only [ne_eq, not_true_eq_false, if_false]
    by_cases h1 : n < n'
    · rw [if_neg (by omega), if_pos h1, if_pos h1]; rfl
    · by_cases h2 : n' < n
      · rw [if_pos h2, if_neg h1, if_pos h2]
      · rw [if_neg h2, if_neg h1, if_neg h1, if_neg h2]; exact h
  · rw [if_pos (fun e => hk e.symm), if_pos hk]
    by_cases h1 : k < k'
    · rw [if_neg (by omega), if_pos h1]; rfl
    · rw [if_pos (by omega), if_neg h1]

theorem ordB_zero (k n : Int) (s : ByteArray) (k' n' : Int) (s' : ByteArray) : ordB k n s k' n' s' = 0 ↔ k = k' ∧ n = n' ∧ s.data.toList = s'.data.toList := by
  have h := compareBytes_zero s.data.toList s'.data.toList
  unfold ordB
  by_cases hk : k = k'
  · subst hk
    simp only [ne_eq, not_true_eq_false, if_false, true_and]
    by_cases h1 : n < n'
    · rw [if_pos h1]; simp; omega
    · by_cases h2 : n' < n
      · rw [if_neg h1, if_pos h2]; simp; omega
      · rw [if_neg h1, if_neg h2, h]
        constructor
        · intro e; exact ⟨by omega, e⟩
        · exact fun e => e.2
  · rw [if_pos hk]
    constructor
    · split <;> simp
    · exact fun e => absurd e.1 hk

theorem ordB_trans (k n : Int) (s : ByteArray) (k' n' : Int) (s' : ByteArray) (k'' n'' : Int) (s'' : ByteArray) (h1 : ordB k n s k' n' s' ≤ 0) (h2 : ordB k' n' s' k'' n'' s'' ≤ 0) : ordB k n s k'' n'' s'' ≤ 0 := by
  have h := cb_trans s.data.toList s'.data.toList s''.data.toList
  unfold ordB at *
  split at h1
  · split at h1
    · split at h2
      · split at h2
        · rw [if_pos (by omega), if_pos (by omega)]; omega
        · omega
      · rw [if_pos (by omega), if_pos (by omega)]; omega
    · omega
  · split at h2
    · split at h2
      · rw [if_pos (by omega), if_pos (by omega)]; omega
      · omega
    · rw [if_neg (by omega)]
      split at h1
      · split at h2
        · rw [if_pos (by omega)]; omega
        · split at h2
          · omega
          · rw [if_pos (by omega)]; omega
      · split at h1
        · omega
        · split at h2
          · rw [if_pos (by omega)]; omega
          · split at h2
            · omega
            · rw [if_neg (by omega), if_neg (by omega)]
              exact h h1 h2

theorem may_short {d : Da} (h : d.may = true) (h3 : ¬ d.k = 3) : d.l.length = 0 := by
  simp only [Da.may, h3, if_false, simpleB, Bool.and_eq_true, decide_eq_true_eq] at h
  exact h.1

theorem cE_zero {d d' : Da} (h : cE d d' = 0) : d.may = true ∧ d'.may = true ∧ ¬ d.k = 3 ∧ ¬ d'.k = 3 := by
  unfold cE at h
  split at h
  · next hm =>
    split at h
    · omega
    · next hk =>
      simp at hm hk
      exact ⟨hm.1, hm.2, hk.1, hk.2⟩
  · omega
theorem cE_of {d d' : Da} (h : d.may = true) (h' : d'.may = true) (k : ¬ d.k = 3) (k' : ¬ d'.k = 3) : cE d d' = 0 := by
  simp [cE, h, h', k, k']

theorem line_law (x y z : Da) (h1 : cE x y = 0) (h2 : cE y z = 0) (h3 : cE x z = 0) :
    cE y x = 0 ∧ cV y x = - cV x y ∧ (cV x y = -1 ∨ cV x y = 0 ∨ cV x y = 1) ∧ (cV y z = -1 ∨ cV y z = 0 ∨ cV y z = 1) ∧ (cV x z = -1 ∨ cV x z = 0 ∨ cV x z = 1) ∧
    (0 < cV x y ∨ 0 < cV y z ∨ cV x z ≤ 0) ∧ (cV x y = 0 → cV x z = cV y z) ∧ x.same y = decide (cV x y = 0) := by
  obtain ⟨mx, my, kx, ky⟩ := cE_zero h1
  have h4 := cE_of my mx ky kx
  simp only [cV, h1, h2, h3, h4, if_true]
  refine ⟨trivial, ordB_anti _ _ _ _ _ _, ordB_three _ _ _ _ _ _, ordB_three _ _ _ _ _ _, ordB_three _ _ _ _ _ _, ?_, ?_, ?_⟩
  · have := ordB_trans x.k x.n x.s y.k y.n y.s z.k z.n z.s
    omega
  · intro h
    obtain ⟨ek, en, es⟩ := (ordB_zero _ _ _ _ _ _).1 h
    rw [ek, en]
    unfold ordB
    rw [es]
  · have hz := ordB_zero x.k x.n x.s y.k y.n y.s
    have lx := may_short mx kx
    have ly := may_short my ky
    have hs : (x.s.toList == y.s.toList) = decide (x.s.data.toList = y.s.data.toList) := by 
      rw [Lib.toList_data, Lib.toList_data]
      by_cases h : x.s.data.toList = y.s.data.toList
      · rw [h, decide_eq_true rfl]; exact beq_self_eq_true _
      · rw [decide_eq_false h, beq_eq_false_iff_ne]; exact h
    unfold Da.same
    rw [hs, lx, ly]
    simp only [List.range_zero, List.all_nil, Bool.and_true, decide_true]
    by_cases a : x.k = y.k <;> by_cases b : x.n = y.n <;> by_cases c : x.s.data.toList = y.s.data.toList <;> simp_all
end Go.Proofs.YtdjlbfepddcmeaaGreatDoor

namespace Go.Proofs
open Go.RowKit

def Tryz.bren : Go.Shelf.Ren := ⟨fun | 166 => 59 | 167 => 95 | 240 => 76 | 276 => 86 | n => n, fun | 0 => 0 | 3 => 3 | 4 => 4 | 5 => 5 | 9 => 9 | 20 => 20 | 37 => 60 | 70 => 59 | 72 => 62 | 75 => 89 | 164 => 110 | 80 => 65 | n => n, fun | n => n⟩
theorem Tryz.blays166 : Go.Proofs.Lays.n166 Tryz.prog Tryz.bren := {
  mixed := by kernel_rfl
  f166 := Tryz.func59.trans (congrArg some (by kernel_rfl))
  f240 := Tryz.func76.trans (congrArg some (by kernel_rfl))
  f276 := Tryz.func86.trans (congrArg some (by kernel_rfl))
  t0 := Tryz.underlying0
  a0 := Tryz.isAgg0
  z0 := Tryz.sizeOf0
  v0 := Tryz.zeroValue0
  t3 := Tryz.underlying3
  a3 := Tryz.isAgg3
  z3 := Tryz.sizeOf3
  v3 := Tryz.zeroValue3
  t4 := Tryz.underlying4
  a4 := Tryz.isAgg4
  z4 := Tryz.sizeOf4
  v4 := Tryz.zeroValue4
  t9 := Tryz.underlying9
  a9 := Tryz.isAgg9
  z9 := Tryz.sizeOf9
  v9 := Tryz.zeroValue9
  t20 := Tryz.underlying20
  a20 := Tryz.isAgg20
  z20 := Tryz.sizeOf20
  v20 := Tryz.zeroValue20
  t37 := Tryz.underlying60
  a37 := Tryz.isAgg60
  z37 := Tryz.sizeOf60
  v37 := Tryz.zeroValue60
  t70 := Tryz.underlying59
  a70 := Tryz.isAgg59
  z70 := Tryz.sizeOf59
  v70 := Tryz.zeroValue59
  t72 := Tryz.underlying62
  a72 := Tryz.isAgg62
  z72 := Tryz.sizeOf62
  v72 := Tryz.zeroValue62
  t75 := Tryz.underlying89
  a75 := Tryz.isAgg89
  z75 := Tryz.sizeOf89
  v75 := Tryz.zeroValue89
  t164 := Tryz.underlying110
  a164 := Tryz.isAgg110
  z164 := Tryz.sizeOf110
  v164 := Tryz.zeroValue110 }
theorem Tryz.blays167 : Go.Proofs.Lays.n167 Tryz.prog Tryz.bren := {
  mixed := by kernel_rfl
  f167 := Tryz.func95.trans (congrArg some (by kernel_rfl))
  f240 := Tryz.func76.trans (congrArg some (by kernel_rfl))
  f276 := Tryz.func86.trans (congrArg some (by kernel_rfl))
  t0 := Tryz.underlying0
  a0 := Tryz.isAgg0
  z0 := Tryz.sizeOf0
  v0 := Tryz.zeroValue0
  t4 := Tryz.underlying4
  a4 := Tryz.isAgg4
  z4 := Tryz.sizeOf4
  v4 := Tryz.zeroValue4
  t5 := Tryz.underlying5
  a5 := Tryz.isAgg5
  z5 := Tryz.sizeOf5
  v5 := Tryz.zeroValue5
  t9 := Tryz.underlying9
  a9 := Tryz.isAgg9
  z9 := Tryz.sizeOf9
  v9 := Tryz.zeroValue9
  t20 := Tryz.underlying20
  a20 := Tryz.isAgg20
  z20 := Tryz.sizeOf20
  v20 := Tryz.zeroValue20
  t37 := Tryz.underlying60
  a37 := Tryz.isAgg60
  z37 := Tryz.sizeOf60
  v37 := Tryz.zeroValue60
  t70 := Tryz.underlying59
  a70 := Tryz.isAgg59
  z70 := Tryz.sizeOf59
  v70 := Tryz.zeroValue59
  t72 := Tryz.underlying62
  a72 := Tryz.isAgg62
  z72 := Tryz.sizeOf62
  v72 := Tryz.zeroValue62
  t75 := Tryz.underlying89
  a75 := Tryz.isAgg89
  z75 := Tryz.sizeOf89
  v75 := Tryz.zeroValue89
  t164 := Tryz.underlying110
  a164 := Tryz.isAgg110
  z164 := Tryz.sizeOf110
  v164 := Tryz.zeroValue110 }
theorem Tryz.bextra : Builder.Extra Tryz.prog Tryz.bren := {
  sizeBuilder := by kernel_rfl
  liesBuilder := by kernel_rfl
  t5 := Tryz.underlying5
  a5 := Tryz.isAgg5
  z5 := Tryz.sizeOf5
  v5 := Tryz.zeroValue5
  infoByte := by kernel_rfl
  cellsByte := by kernel_rfl
  sizeByte := by kernel_rfl
  neB5 := by decide }

theorem Tryz.bld_WriteByte (B b : Nat) (bs : List Value) (c : Int) (w : World) (h : Lib.IsBuilder 62 5 B b bs w) (hlen : bs.length + 1 ≤ 140737488355328) (hBw : B ≤ w.heap.size) :
    Calls Tryz.prog 95 #[.pointer (some ⟨b, 0, none⟩), .int .u8 c] w fun e w' => e = .returned .nilIface ∧ (Lib.BuilderAt 62 5 B b (.pointer (some ⟨b, 0, none⟩)) (bs ++ [.int .u8 c]) w' ∧ Below B w w') :=
  Any.Builder_WriteByte Tryz.blays167 Tryz.bextra B b bs c w h hlen hBw

theorem Tryz.bld_WriteString (B b : Nat) (bs : List Value) (s : ByteArray) (w : World) (h : Lib.IsBuilder 62 5 B b bs w) (hlen : bs.length + s.size ≤ 140737488355328) (hBw : B ≤ w.heap.size) :
    Calls Tryz.prog 59 #[.pointer (some ⟨b, 0, none⟩), .string s] w fun e w' => e = .returned (.tuple #[.int .i64 s.size, .nilIface]) ∧ (Lib.BuilderAt 62 5 B b (.pointer (some ⟨b, 0, none⟩)) (bs ++ Lib.strCells s) w' ∧ Below B w w') :=
  Any.Builder_WriteString Tryz.blays166 Tryz.bextra B b bs s w h hlen hBw
end Go.Proofs
