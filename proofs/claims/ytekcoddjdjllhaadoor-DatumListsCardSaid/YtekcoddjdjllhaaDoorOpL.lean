/- A list of data that came in, opened; its items may be lists. -/
import Derived.Test.YtekcoddjdjllhaaDoorOpn
namespace Go.Proofs.YtekcoddjdjllhaaDoor
open Go.ChangeShapes Go.WideShapes Go.ChangeAt Go.RowKit

/-- An item as it came in. -/
structure El where
  d : Da
  a : Option Addr
  c : Nat
def El.it (e : El) : It := ⟨e.d.k, e.d.n, e.d.s, e.d.l.length⟩

def DeepIs (w : World) (a : Option Addr) (L : List El) : Prop :=
  L = [] ∨ ∃ b off, a = some ⟨b, off, none⟩ ∧ ∀ i (h : i < L.length),
    w.cell? ⟨b, off + i * 4, none⟩ = some (.int .i64 L[i].d.k) ∧ w.cell? ⟨b, off + i * 4 + 1, none⟩ = some (.int .i64 L[i].d.n) ∧
    w.cell? ⟨b, off + i * 4 + 2, none⟩ = some (.string L[i].d.s) ∧ w.cell? ⟨b, off + i * 4 + 3, none⟩ = some (.slice L[i].a L[i].d.l.length L[i].c) ∧ DaIs w L[i].d L[i].a

theorem DeepIs.below {w w1 : World} {a : Option Addr} {L : List El} (h : DeepIs w a L) (hb : Below w.heap.size w w1) : DeepIs w1 a L := by
  rcases h with h | ⟨b, off, ha, h⟩
  · exact .inl h
  · refine .inr ⟨b, off, ha, fun i hi => ?_⟩
    obtain ⟨h0, h1, h2, h3, h4⟩ := h i hi
    exact ⟨(hb.cell (World.block_lt_of_cell? w _ h0)).trans h0, (hb.cell (World.block_lt_of_cell? w _ h1)).trans h1,
      (hb.cell (World.block_lt_of_cell? w _ h2)).trans h2, (hb.cell (World.block_lt_of_cell? w _ h3)).trans h3, h4.below hb⟩

theorem DeepIs.at_ {w : World} {a : Option Addr} {L : List El} (h : DeepIs w a L) (i : Nat) (hi : i < L.length) : ∃ b off, a = some ⟨b, off, none⟩ ∧
    w.cell? ⟨b, off + i * 4, none⟩ = some (.int .i64 L[i].d.k) ∧ w.cell? ⟨b, off + i * 4 + 1, none⟩ = some (.int .i64 L[i].d.n) ∧
    w.cell? ⟨b, off + i * 4 + 2, none⟩ = some (.string L[i].d.s) ∧ w.cell? ⟨b, off + i * 4 + 3, none⟩ = some (.slice L[i].a L[i].d.l.length L[i].c) ∧ DaIs w L[i].d L[i].a := by
  rcases h with h | ⟨b, off, ha, h⟩
  · subst h; simp at hi
  · exact ⟨b, off, ha, h i hi⟩

theorem DeepIs.row {w : World} {a : Option Addr} {L : List El} (h : DeepIs w a L) : RowIs w a (L.map El.it) := by
  rcases h with h | ⟨b, off, ha, h⟩
  · exact .inl (by rw [h]; rfl)
  · refine .inr ⟨b, off, ha, fun i hi => ?_⟩
    have hi' : i < L.length := by simpa using hi
    obtain ⟨h0, h1, h2, h3, h4⟩ := h i hi'
    simp only [List.getElem_map, El.it]
    exact ⟨h0, h1, h2, ⟨_, _, h3⟩, h4.l, h4.s, h4.n⟩

section
variable {H : Type} {enc : TypeId × Value → H} {w : World} {base : Nat} {spare : Nat → Bool} {held : Bool}

set_option maxRecDepth 100000 in
theorem datum_cs {fuel : Nat} {cs : List Value} {x : DataW H × List MemPlace} (h : DataW.trod enc Tryd.prog w base spare held fuel 24 cs = some x)
    (hw : ∀ n ∈ x.1.weights Tryd.prog 24, n ≤ 140737488351232) :
    ∃ e : El, cs = [.int .i64 e.d.k, .int .i64 e.d.n, .string e.d.s, .slice e.a e.d.l.length e.c] ∧ DaIs w e.d e.a := by
  obtain ⟨k, n, s, v, m, y, hcs, hn, hxe, hy⟩ := trod_datum h
  rw [hxe, weights_datum] at hw
  have hs : s.size ≤ 140737488351232 := by
    exact size_of_list (hw _ List.mem_cons_self)
  have hwy : ∀ n ∈ y.1.weights Tryd.prog 22, n ≤ 140737488351232 := fun n hn => hw n (List.mem_cons_of_mem _ hn)
  subst hcs
  rcases DataW.trod_slice Tryd.underlying22 hy with ⟨e, rfl⟩ | ⟨a, len, cap, elems, rest, m', _, e, rfl, _, _, _, hlen, hel, _⟩
  · simp at e
    subst e
    exact ⟨⟨⟨k, n, s, []⟩, none, 0⟩, rfl, ⟨.inl rfl, hn, by simp, hs⟩⟩
  · simp at e
    subst e
    have hL : len * 56 ≤ 140737488351232 := by
      have := hwy ((elems.length + rest.length) * 56) (by simp [DataW.weights, Tryd.underlying22, bytes24])
      rw [hlen] at this
      have h2 : len * 56 ≤ (len + rest.length) * 56 := Nat.mul_le_mul_right _ (by omega)
      omega
    have hall : ∀ i, i < len → ∃ (x : It), ∃ a' c', (∀ j u, [Value.int .i64 x.k, .int .i64 x.n, .string x.s, .slice a' x.ln c'][j]? = some u → w.cell? ((a.add (i * 4)).add j) = some u) ∧ x.ln ≤ 140737488351232 ∧ x.s.size ≤ 140737488351232 ∧ In64 x.n := by
      intro i hi
      have hi' := hel i hi
      rw [cells24, List.getElem?_eq_getElem (by omega)] at hi'
      obtain ⟨cs', h1, h2⟩ := Option.bind_eq_some_iff.1 hi'
      obtain ⟨_, hl4, hc4⟩ := World.cells?_some h1
      obtain ⟨k', n', s', v', m2, y', rfl, hn', hx', hy'⟩ := trod_datum h2
      have hmem : (elems[i]'(by omega)).1 ∈ elems.map (·.1) := List.mem_map.2 ⟨_, List.getElem_mem _, rfl⟩
      have hwi : ∀ n ∈ (elems[i]'(by omega)).1.weights Tryd.prog 24, n ≤ 140737488351232 := fun n hn => hwy n (by
        simp only [DataW.weights, Tryd.underlying22, List.mem_cons, List.mem_append]
        exact .inr (.inl (weightsAll_mem hmem n hn)))
      rw [hx', weights_datum] at hwi
      obtain ⟨a', l', c', rfl, hll⟩ := trod_list hy'
      refine ⟨⟨k', n', s', l'⟩, a', c', ?_, ?_, ?_, hn'⟩
      · intro j u hj
        have hj4 : j < 4 := by
          have := (List.getElem?_eq_some_iff.1 hj).1
          simpa using this
        rw [hc4 j hj4]; exact hj
      · have := hll 140737488351232 (fun n hn => hwi n (List.mem_cons_of_mem _ hn))
        show l' ≤ _
        omega
      · exact size_of_list (hwi _ List.mem_cons_self)
    obtain ⟨X, hX⟩ := @Go.Deep.choose_lt It ⟨⟨0, 0, ⟨#[]⟩, 0⟩⟩ _ _ hall
    refine ⟨⟨⟨k, n, s, (List.range len).map X⟩, some a, cap⟩, by simp, ⟨?_, hn, by simp; omega, hs⟩⟩
    by_cases h0 : len = 0
    · subst h0; exact .inl rfl
    · have hsp : a.spot = none := by
        obtain ⟨a', c', hc, _⟩ := hX 0 (by omega)
        have := World.cell?_spot (hc 0 _ rfl)
        simpa [Addr.add] using this
      refine .inr ⟨a.block, a.off, by cases a; simp_all, fun i hi => ?_⟩
      have hi' : i < len := by simpa using hi
      obtain ⟨a', c', hc, hx⟩ := hX i hi'
      have key : ∀ j u, [Value.int .i64 (X i).k, .int .i64 (X i).n, .string (X i).s, .slice a' (X i).ln c'][j]? = some u → w.cell? ⟨a.block, a.off + i * 4 + j, none⟩ = some u := fun j u hj => by
        have := hc j u hj
        rw [Go.Deep.add_add] at this
        have e : a.add (i * 4 + j) = ⟨a.block, a.off + i * 4 + j, none⟩ := by unfold Addr.add; cases a; split <;> simp_all; try omega
        rw [← e]; exact this
      simp only [List.getElem_map, List.getElem_range]
      exact ⟨key 0 _ rfl, key 1 _ rfl, key 2 _ rfl, ⟨a', c', key 3 _ rfl⟩, hx⟩

set_option maxRecDepth 100000 in
theorem open_list {v : Value} {d : DataW H} {p : List MemPlace} (hv : Value.okWide Tryd.prog w .any base 22 v) (h : DataW.Trod enc Tryd.prog w 0 spare held 22 v d p)
    (hw : ∀ n ∈ d.weights Tryd.prog 22, n ≤ 140737488351232) :
    ∃ (L : List El) (a : Option Addr) (c : Nat), v = .slice a L.length c ∧ DeepIs w a L ∧ L.length ≤ 140737488351232 := by
  obtain ⟨fuel, hf⟩ := h
  obtain ⟨a0, len, cap, rfl⟩ := okWide_slice Tryd.underlying22 hv
  rcases DataW.trod_slice Tryd.underlying22 hf with ⟨e, he⟩ | ⟨a, l0, c0, elems, rest, m', _, e, he, _, _, _, hlen, hel, _⟩
  · simp [Value.cells] at e
    obtain ⟨rfl, rfl, rfl⟩ := e
    exact ⟨[], none, 0, rfl, .inl rfl, by simp⟩
  · simp [Value.cells] at e
    obtain ⟨e1, e2, e3⟩ := e
    subst e1 e2 e3
    have he1 := congrArg Prod.fst he
    simp only at he1
    subst he1
    have hL : len * 56 ≤ 140737488351232 := by
      have := hw ((elems.length + rest.length) * 56) (by simp [DataW.weights, Tryd.underlying22, bytes24])
      rw [hlen] at this
      have h2 : len * 56 ≤ (len + rest.length) * 56 := Nat.mul_le_mul_right _ (by omega)
      omega
    have hall : ∀ i, i < len → ∃ (x : El), (∀ j u, [Value.int .i64 x.d.k, .int .i64 x.d.n, .string x.d.s, .slice x.a x.d.l.length x.c][j]? = some u → w.cell? ((a.add (i * 4)).add j) = some u) ∧ DaIs w x.d x.a := by
      intro i hi
      have hi' := hel i hi
      rw [cells24, List.getElem?_eq_getElem (by omega)] at hi'
      obtain ⟨cs', h1, h2⟩ := Option.bind_eq_some_iff.1 hi'
      obtain ⟨_, hl4, hc4⟩ := World.cells?_some h1
      have hmem : (elems[i]'(by omega)).1 ∈ elems.map (·.1) := List.mem_map.2 ⟨_, List.getElem_mem _, rfl⟩
      have hwi : ∀ n ∈ (elems[i]'(by omega)).1.weights Tryd.prog 24, n ≤ 140737488351232 := fun n hn => hw n (by
        simp only [DataW.weights, Tryd.underlying22, List.mem_cons, List.mem_append]
        exact .inr (.inl (weightsAll_mem hmem n hn)))
      obtain ⟨e, rfl, hda⟩ := datum_cs h2 hwi
      refine ⟨e, ?_, hda⟩
      intro j u hj
      have hj4 : j < 4 := by
        have := (List.getElem?_eq_some_iff.1 hj).1
        simpa using this
      rw [hc4 j hj4]; exact hj
    obtain ⟨X, hX⟩ := @Go.Deep.choose_lt El ⟨⟨⟨0, 0, ⟨#[]⟩, []⟩, none, 0⟩⟩ _ _ hall
    refine ⟨(List.range len).map X, some a, cap, by simp, ?_, by simp; omega⟩
    by_cases h0 : len = 0
    · subst h0; exact .inl rfl
    · have hsp : a.spot = none := by
        obtain ⟨hc, _⟩ := hX 0 (by omega)
        have := World.cell?_spot (hc 0 _ rfl)
        simpa [Addr.add] using this
      refine .inr ⟨a.block, a.off, by cases a; simp_all, fun i hi => ?_⟩
      have hi' : i < len := by simpa using hi
      obtain ⟨hc, hx⟩ := hX i hi'
      have key : ∀ j u, [Value.int .i64 (X i).d.k, .int .i64 (X i).d.n, .string (X i).d.s, .slice (X i).a (X i).d.l.length (X i).c][j]? = some u → w.cell? ⟨a.block, a.off + i * 4 + j, none⟩ = some u := fun j u hj => by
        have := hc j u hj
        rw [Go.Deep.add_add] at this
        have e : a.add (i * 4 + j) = ⟨a.block, a.off + i * 4 + j, none⟩ := by unfold Addr.add; cases a; split <;> simp_all; try omega
        rw [← e]; exact this
      simp only [List.getElem_map, List.getElem_range]
      exact ⟨key 0 _ rfl, key 1 _ rfl, key 2 _ rfl, key 3 _ rfl, hx⟩
end
end Go.Proofs.YtekcoddjdjllhaaDoor
