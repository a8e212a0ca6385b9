/- A datum that came in, opened. -/
import Derived.Test.YtekcoddjdjllhaaDoorDatG
import Derived.ProofKit
import Derived.OpenShut
import Derived.Deep.Slices
import Derived.Lib.SmallJoins
namespace Go.Proofs.YtekcoddjdjllhaaDoor
open Go.ChangeShapes Go.WideShapes Go.ChangeAt Go.RowKit

theorem cells24 : Tryd.prog.cellsOf 24 = 4 := by kernel_rfl
theorem bytes24 : Tryd.prog.bytesOf 24 = 56 := by kernel_rfl

section
variable {H : Type} {enc : TypeId × Value → H} {w : World} {base : Nat} {spare : Nat → Bool} {held : Bool}

theorem in64_wf {x : Int} (h : (Lit.int .i64 x).wf = true) : In64 x := by
  have := bounds_i64 h
  exact this

theorem four_of {l : List Value} (h : l.length = 4) : ∃ a b c d, l = [a, b, c, d] := by
  match l, h with
  | [a, b, c, d], _ => exact ⟨a, b, c, d, rfl⟩

theorem size_of_list {s : ByteArray} {N : Nat} (h : s.data.toList.length ≤ N) : s.size ≤ N := by
  have e : s.data.toList.length = s.size := by simp
  omega

/-- One struct's four cells, read. -/
theorem trod_datum {fuel : Nat} {cs : List Value} {x : DataW H × List MemPlace} (h : DataW.trod enc Tryd.prog w base spare held fuel 24 cs = some x) :
    ∃ (k n : Int) (s : ByteArray) (v : Value) (m : Nat) (y : DataW H × List MemPlace), cs = [.int .i64 k, .int .i64 n, .string s, v] ∧ In64 n ∧
      x.1 = .agg [.lit (.int .i64 k), .lit (.int .i64 n), .lit (.string s.data.toList), y.1] ∧ DataW.trod enc Tryd.prog w base spare held m 22 [v] = some y := by
  obtain ⟨y0, y1, y2, y3, n, rfl, hl, h0, h1, h2, h3⟩ := Joins.trod_struct4 Tryd.underlying24 h
  rw [cells24] at hl
  obtain ⟨c0, c1, c2, c3, rfl⟩ := four_of hl
  simp only [List.drop_zero, List.drop_succ_cons, List.take_succ_cons, List.take_zero] at h0 h1 h2 h3
  have z1 : Tryd.prog.cellsOf 3 = 1 := by kernel_rfl
  have z2 : Tryd.prog.cellsOf 9 = 1 := by kernel_rfl
  have z3 : Tryd.prog.cellsOf 22 = 1 := by kernel_rfl
  skip
  rw [z1] at h0
  rw [z1] at h1
  rw [z2] at h2
  rw [z3] at h3
  obtain ⟨k, e0, rfl, _⟩ := DataW.trod_int Tryd.underlying3 h0
  obtain ⟨m, e1, rfl, hm⟩ := DataW.trod_int Tryd.underlying3 h1
  obtain ⟨s, e2, rfl, _⟩ := DataW.trod_string Tryd.underlying9 h2
  simp at e0 e1 e2
  subst e0 e1 e2
  exact ⟨k, m, s, c3, n, y3, rfl, in64_wf hm, rfl, by simpa using h3⟩

/-- The list's value: how long. -/
theorem trod_list {fuel : Nat} {v : Value} {y : DataW H × List MemPlace} (h : DataW.trod enc Tryd.prog w base spare held fuel 22 [v] = some y) :
    ∃ a l c, v = .slice a l c ∧ (∀ b, (∀ n ∈ y.1.weights Tryd.prog 22, n ≤ b) → l * 56 ≤ b) := by
  rcases DataW.trod_slice Tryd.underlying22 h with ⟨e, rfl⟩ | ⟨a, len, cap, elems, rest, n, _, e, rfl, _, _, _, hlen, _⟩
  · simp at e; exact ⟨none, 0, 0, e, fun b _ => by omega⟩
  · simp at e
    refine ⟨some a, len, cap, e, fun b hb => ?_⟩
    have := hb ((elems.length + rest.length) * 56) (by simp [DataW.weights, Tryd.underlying22, bytes24])
    rw [hlen] at this
    have h2 : len * 56 ≤ (len + rest.length) * 56 := Nat.mul_le_mul_right _ (by omega)
    omega

theorem weights_datum (k n : Int) (s : List UInt8) (y : DataW H) : (DataW.agg [.lit (.int .i64 k), .lit (.int .i64 n), .lit (.string s), y]).weights Tryd.prog 24 = s.length :: y.weights Tryd.prog 22 := by
  simp [DataW.weights, DataW.weightsEach, Tryd.underlying24]

theorem weightsAll_mem {P : Program} {e : TypeId} : ∀ {l : List (DataW H)} {d : DataW H}, d ∈ l → ∀ n ∈ d.weights P e, n ∈ DataW.weightsAll P e l
  | x :: l, d, hd, n, hn => by
    simp only [DataW.weightsAll, List.mem_append]
    rcases List.mem_cons.1 hd with rfl | hd
    · exact .inl hn
    · exact .inr (weightsAll_mem hd n hn)

set_option maxRecDepth 100000 in
theorem open_datum {v : Value} {d : DataW H} {p : List MemPlace} (hv : Value.okWide Tryd.prog w .any base 24 v) (h : DataW.Trod enc Tryd.prog w 0 spare held 24 v d p)
    (hw : ∀ n ∈ d.weights Tryd.prog 24, n ≤ 140737488351232) :
    ∃ (x : Da) (a : Option Addr) (c : Nat), v = dv x.k x.n x.s a x.l.length c ∧ DaIs w x a := by
  obtain ⟨cs, rfl, hsz⟩ := okWide_struct Tryd.underlying24 hv
  obtain ⟨fuel, hf⟩ := h
  obtain ⟨k, n, s, v, m, y, hcs, hn, rfl, hy⟩ := trod_datum hf
  rw [weights_datum] at hw
  have hs : s.size ≤ 140737488351232 := by
    exact size_of_list (hw _ List.mem_cons_self)
  have hwy : ∀ n ∈ y.1.weights Tryd.prog 22, n ≤ 140737488351232 := fun n hn => hw n (List.mem_cons_of_mem _ hn)
  have hcs' : cs = #[.int .i64 k, .int .i64 n, .string s, v] := by
    apply Array.toList_inj.1
    simpa [Value.cells] using hcs
  subst hcs'
  rcases DataW.trod_slice Tryd.underlying22 hy with ⟨e, rfl⟩ | ⟨a, len, cap, elems, rest, m', _, e, rfl, _, _, _, hlen, hel, _⟩
  · simp at e
    subst e
    exact ⟨⟨k, n, s, []⟩, none, 0, rfl, ⟨.inl rfl, hn, by simp, hs⟩⟩
  · simp at e
    subst e
    have hL : len * 56 ≤ 140737488351232 := by
      have := hwy ((elems.length + rest.length) * 56) (by simp [DataW.weights, Tryd.underlying22, bytes24])
      rw [hlen] at this
      have h2 : len * 56 ≤ (len + rest.length) * 56 := Nat.mul_le_mul_right _ (by omega)
      omega
    have hall : ∀ i, i < len → ∃ (x : It), ∃ a' c', (∀ j u, [Value.int .i64 x.k, .int .i64 x.n, .string x.s, .slice a' x.ln c'][j]? = some u → w.cell? ((a.add (i * 4)).add j) = some u) ∧ x.ln ≤ 140737488351232 ∧ x.s.size ≤ 140737488351232 ∧ In64 x.n := by
      intro i hi
      have hi' := hel i hi
      rw [cells24, List.getElem?_eq_getElem (by omega)] at hi'
      obtain ⟨cs', h1, h2⟩ := Option.bind_eq_some_iff.1 hi'
      obtain ⟨_, hl4, hc4⟩ := World.cells?_some h1
      obtain ⟨k', n', s', v', m2, y', rfl, hn', hx', hy'⟩ := trod_datum h2
      have hmem : (elems[i]'(by omega)).1 ∈ elems.map (·.1) := List.mem_map.2 ⟨_, List.getElem_mem _, rfl⟩
      have hwi : ∀ n ∈ (elems[i]'(by omega)).1.weights Tryd.prog 24, n ≤ 140737488351232 := fun n hn => hwy n (by
        simp only [DataW.weights, Tryd.underlying22, List.mem_cons, List.mem_append]
        exact .inr (.inl (weightsAll_mem hmem n hn)))
      rw [hx', weights_datum] at hwi
      obtain ⟨a', l', c', rfl, hll⟩ := trod_list hy'
      refine ⟨⟨k', n', s', l'⟩, a', c', ?_, ?_, ?_, hn'⟩
      · intro j u hj
        have hj4 : j < 4 := by
          have := (List.getElem?_eq_some_iff.1 hj).1
          simpa using this
        rw [hc4 j hj4]; exact hj
      · have := hll 140737488351232 (fun n hn => hwi n (List.mem_cons_of_mem _ hn))
        show l' ≤ _
        omega
      · exact size_of_list (hwi _ List.mem_cons_self)
    obtain ⟨X, hX⟩ := @Go.Deep.choose_lt It ⟨⟨0, 0, ⟨#[]⟩, 0⟩⟩ _ _ hall
    refine ⟨⟨k, n, s, (List.range len).map X⟩, some a, cap, by simp, ⟨?_, hn, by simp; omega, hs⟩⟩
    by_cases h0 : len = 0
    · subst h0; exact .inl rfl
    · have hsp : a.spot = none := by
        obtain ⟨a', c', hc, _⟩ := hX 0 (by omega)
        have := World.cell?_spot (hc 0 _ rfl)
        simpa [Addr.add] using this
      refine .inr ⟨a.block, a.off, by cases a; simp_all, fun i hi => ?_⟩
      have hi' : i < len := by simpa using hi
      obtain ⟨a', c', hc, hx⟩ := hX i hi'
      have key : ∀ j u, [Value.int .i64 (X i).k, .int .i64 (X i).n, .string (X i).s, .slice a' (X i).ln c'][j]? = some u → w.cell? ⟨a.block, a.off + i * 4 + j, none⟩ = some u := fun j u hj => by
        have := hc j u hj
        rw [Go.Deep.add_add] at this
        have e : a.add (i * 4 + j) = ⟨a.block, a.off + i * 4 + j, none⟩ := by unfold Addr.add; cases a; split <;> simp_all; try omega
        rw [← e]; exact this
      simp only [List.getElem_map, List.getElem_range]
      exact ⟨key 0 _ rfl, key 1 _ rfl, key 2 _ rfl, ⟨a', c', key 3 _ rfl⟩, hx⟩
end
end Go.Proofs.YtekcoddjdjllhaaDoor
