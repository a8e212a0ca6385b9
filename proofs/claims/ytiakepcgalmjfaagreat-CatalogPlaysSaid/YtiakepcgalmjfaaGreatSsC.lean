/- Proved: vestibulelaw16.CatalogPlays, for every input: true, and its arguments read as before. (The frame: proof-skeleton.) -/
import Derived.Test.YtiakepcgalmjfaaGreatRows
import Derived.Test.YtiakepcgalmjfaaGreatQ27
import Derived.WalkKit
import Derived.LaidMore
import Derived.Deep.DeepHandedRow
import Derived.Deep.Slices
import Derived.ProofKit
import Derived.OpenShut
set_option linter.unusedVariables false
set_option linter.unusedSimpArgs false
set_option linter.unusedVariables false
set_option linter.unusedSimpArgs false
namespace Go.Proofs.YtiakepcgalmjfaaGreat.catalogPlays
open Go.ChangeShapes Go.WideShapes Go.ChangeAt Go.RowKit
set_option linter.unusedVariables false      -- a walk need not use every 'w<i>' (that an integer argument fits its kind)

theorem own : ownKnob Tryz.prog.godebug = none := by kernel_rfl

theorem laidOut : laidOutB Tryz.prog = true := by kernel_rfl
theorem cells_ix : Tryz.prog.cellsOf 35 = 5 := by kernel_rfl
theorem cells_co : Tryz.prog.cellsOf 84 = 2 := by kernel_rfl
theorem cells_op : Tryz.prog.cellsOf 37 = 6 := by kernel_rfl
theorem max_len : maxLen = 9223372036854775807 := by decide +kernel
theorem two_of {l : List Value} (h : l.length = 2) : ∃ a b, l = [a, b] := by
  match l, h with
  | [a, b], _ => exact ⟨a, b, rfl⟩
theorem five_of {l : List Value} (h : l.length = 5) : ∃ a b c d e, l = [a, b, c, d, e] := by
  match l, h with
  | [a, b, c, d, e], _ => exact ⟨a, b, c, d, e, rfl⟩
theorem six_of {l : List Value} (h : l.length = 6) : ∃ a b c d e f, l = [a, b, c, d, e, f] := by
  match l, h with
  | [a, b, c, d, e, f], _ => exact ⟨a, b, c, d, e, f, rfl⟩
theorem in64 {x : Int} (h : (Lit.int .i64 x).wf = true) : In64 x := by
  have := bounds_i64 h
  exact this
/-- A slice that came in lies in a block. -/
theorem slice_lt {P : Program} {w : World} {r : Reach} {base : Nat} {t e : TypeId} {a : Addr} {len cap : Nat} (ht : P.underlying t = some (.slice e)) (h : Value.okWide P w r base t (.slice (some a) len cap)) : a.block < w.heap.size := by
  simp only [Value.okWide, ht, Cell.okWide, Cell.ok] at h
  obtain ⟨_, _, _, _, row, cells, hs, _⟩ := h
  unfold World.shape? at hs
  cases hh : w.heap[a.block]? with
  | none => rw [hh] at hs; simp at hs
  | some o => exact (Array.getElem?_eq_some_iff.1 hh).1
section
variable {H : Type} {enc : TypeId × Value → H} {w : World} {base : Nat} {spare : Nat → Bool} {held : Bool}
set_option maxRecDepth 100000 in
theorem index_cs {fuel : Nat} {cs : List Value} {x : DataW H × List MemPlace} (h : DataW.trod enc Tryz.prog w base spare held fuel 35 cs = some x) : ∃ e : Xi, cs = xic e ∧ e.name.size ≤ 9223372036854775807 := by
  obtain ⟨xs, n, hfu, hxe, hl, hlen, hff⟩ := DataW.trod_struct Tryz.underlying35 h
  match xs, hlen with
  | [y0, y1, y2, y3, y4], _ =>
    have h0 := hff 0 _ rfl
    have h1 := hff 1 _ rfl
    have h2 := hff 2 _ rfl
    have h3 := hff 3 _ rfl
    have h4 := hff 4 _ rfl
    rw [cells_ix] at hl
    obtain ⟨c0, c1, c2, c3, c4, rfl⟩ := five_of hl
    have z1 : Tryz.prog.cellsOf 3 = 1 := by kernel_rfl
    have z2 : Tryz.prog.cellsOf 9 = 1 := by kernel_rfl
    have z3 : Tryz.prog.cellsOf 4 = 1 := by kernel_rfl
    simp at h0 h1 h2 h3 h4
    rw [z2] at h0 h1
    rw [z1] at h2 h4
    rw [z3] at h3
    simp only [List.take_succ_cons, List.take_zero] at h0 h1 h2 h3 h4
    obtain ⟨s0, e0, -, hs⟩ := DataW.trod_string Tryz.underlying9 h0
    obtain ⟨s1, e1, -, -⟩ := DataW.trod_string Tryz.underlying9 h1
    obtain ⟨n2, e2, -, -⟩ := DataW.trod_int Tryz.underlying3 h2
    obtain ⟨b3, e3, -⟩ := DataW.trod_bool Tryz.underlying4 h3
    obtain ⟨n4, e4, -, -⟩ := DataW.trod_int Tryz.underlying3 h4
    simp only [List.cons.injEq, and_true] at e0 e1 e2 e3 e4
    subst e0 e1 e2 e3 e4
    rw [max_len] at hs
    exact ⟨⟨s0, s1, n2, b3, n4⟩, rfl, hs⟩
set_option maxRecDepth 100000 in
theorem op_cs {fuel : Nat} {cs : List Value} {x : DataW H × List MemPlace} (h : DataW.trod enc Tryz.prog w base spare held fuel 37 cs = some x) : ∃ (q : Int) (e : Xi), cs = .int .i64 q :: xic e ∧ e.name.size ≤ 9223372036854775807 := by
  obtain ⟨xs, n, hfu, hxe, hl, hlen, hff⟩ := DataW.trod_struct Tryz.underlying37 h
  match xs, hlen with
  | [y0, y1], _ =>
    have h0 := hff 0 _ rfl
    have h1 := hff 1 _ rfl
    rw [cells_op] at hl
    obtain ⟨c0, c1, c2, c3, c4, c5, rfl⟩ := six_of hl
    have z1 : Tryz.prog.cellsOf 3 = 1 := by kernel_rfl
    simp at h0 h1
    rw [z1] at h0
    rw [cells_ix] at h1
    simp only [List.take_succ_cons, List.take_zero] at h0 h1
    obtain ⟨q, e0, -, -⟩ := DataW.trod_int Tryz.underlying3 h0
    obtain ⟨e, e1, hs⟩ := index_cs h1
    simp only [List.cons.injEq, and_true] at e0
    subst e0
    rw [e1]
    exact ⟨q, e, rfl, hs⟩
set_option maxRecDepth 100000 in
theorem column_cs {fuel : Nat} {cs : List Value} {x : DataW H × List MemPlace} (h : DataW.trod enc Tryz.prog w base spare held fuel 84 cs = some x) : ∃ e : Co, cs = [.string e.name, .int .i64 e.kind] ∧ e.name.size ≤ 9223372036854775807 ∧ In64 e.kind := by
  obtain ⟨xs, n, hfu, hxe, hl, hlen, hff⟩ := DataW.trod_struct Tryz.underlying84 h
  match xs, hlen with
  | [y0, y1], _ =>
    have h0 := hff 0 _ rfl
    have h1 := hff 1 _ rfl
    rw [cells_co] at hl
    obtain ⟨c0, c1, rfl⟩ := two_of hl
    have z1 : Tryz.prog.cellsOf 3 = 1 := by kernel_rfl
    have z2 : Tryz.prog.cellsOf 9 = 1 := by kernel_rfl
    simp at h0 h1
    rw [z2] at h0
    rw [z1] at h1
    simp only [List.take_succ_cons, List.take_zero] at h0 h1
    obtain ⟨s, e0, -, hs⟩ := DataW.trod_string Tryz.underlying9 h0
    obtain ⟨k, e1, -, hk⟩ := DataW.trod_int Tryz.underlying3 h1
    simp only [List.cons.injEq, and_true] at e0 e1
    subst e0 e1
    rw [max_len] at hs
    exact ⟨⟨s, k⟩, rfl, hs, in64 hk⟩
theorem opened {a : Addr} {i m j : Nat} (hsp : a.spot = none) {u : Value} (h : w.cell? ((a.add (i * m)).add j) = some u) : w.cell? ⟨a.block, a.off + i * m + j, none⟩ = some u := by
  rw [Go.Deep.add_add] at h
  have e : a.add (i * m + j) = ⟨a.block, a.off + i * m + j, none⟩ := by
    obtain ⟨b, o, sp⟩ := a
    obtain rfl : sp = none := hsp
    simp [Addr.add, Nat.add_assoc]
  rw [← e]
  exact h
set_option maxRecDepth 100000 in
theorem open_cols {v : Value} {d : DataW H} {p : List MemPlace} (hv : Value.okWide Tryz.prog w .any base 22 v) (h : DataW.Trod enc Tryz.prog w 0 spare held 22 v d p) :
    ∃ (L : List Co) (a : Option Addr) (c : Nat), v = .slice a L.length c ∧ ColIs w a L ∧ L.length ≤ 9223372036854775807 ∧ ∀ b off, a = some ⟨b, off, none⟩ → b < w.heap.size := by
  obtain ⟨fuel, hf⟩ := h
  obtain ⟨a0, len, cap, rfl⟩ := okWide_slice Tryz.underlying22 hv
  rcases DataW.trod_slice Tryz.underlying22 hf with ⟨e, he⟩ | ⟨a, l0, c0, elems, rest, m', _, e, he, _, hlc, hcm, hlen, hel, _⟩
  · simp [Value.cells] at e
    obtain ⟨rfl, rfl, rfl⟩ := e
    exact ⟨[], none, 0, rfl, .inl rfl, by simp, fun b off e => by cases e⟩
  · simp [Value.cells] at e
    obtain ⟨e1, e2, e3⟩ := e
    subst e1 e2 e3
    rw [max_len] at hcm
    have hlt := slice_lt Tryz.underlying22 hv
    have hall : ∀ i, i < len → ∃ (x : Co), (∀ j u, [Value.string x.name, .int .i64 x.kind][j]? = some u → w.cell? ((a.add (i * 2)).add j) = some u) ∧ x.name.size ≤ 9223372036854775807 ∧ In64 x.kind := by
      intro i hi
      have hi' := hel i hi
      rw [cells_co, List.getElem?_eq_getElem (by omega)] at hi'
      obtain ⟨cs', h1, h2⟩ := Option.bind_eq_some_iff.1 hi'
      obtain ⟨_, hl2, hc2⟩ := World.cells?_some h1
      obtain ⟨e, rfl, hda⟩ := column_cs h2
      refine ⟨e, fun j u hj => ?_, hda⟩
      have hj2 : j < 2 := by
        have := (List.getElem?_eq_some_iff.1 hj).1
        simpa using this
      rw [hc2 j hj2]; exact hj
    obtain ⟨X, hX⟩ := @Go.Deep.choose_lt Co ⟨⟨⟨#[]⟩, 0⟩⟩ _ _ hall
    refine ⟨(List.range len).map X, some a, cap, by simp, ?_, by simp; omega, fun b off e => by simp only [Option.some.injEq] at e; rw [e] at hlt; exact hlt⟩
    by_cases h0 : len = 0
    · subst h0; exact .inl rfl
    · have hsp : a.spot = none := by
        obtain ⟨hc, _⟩ := hX 0 (by omega)
        have := World.cell?_spot (hc 0 _ rfl)
        simpa [Addr.add] using this
      refine .inr ⟨a.block, a.off, by cases a; simp_all, fun i hi => ?_⟩
      have hi' : i < len := by simpa using hi
      obtain ⟨hc, hx⟩ := hX i hi'
      simp only [List.getElem_map, List.getElem_range]
      exact ⟨opened hsp (hc 0 _ rfl), opened hsp (hc 1 _ rfl), hx.1, hx.2⟩
set_option maxRecDepth 100000 in
theorem open_ops {v : Value} {d : DataW H} {p : List MemPlace} (hv : Value.okWide Tryz.prog w .any base 23 v) (h : DataW.Trod enc Tryz.prog w 0 spare held 23 v d p) :
    ∃ (L : List (Int × Xi)) (a : Option Addr) (c : Nat), v = .slice a L.length c ∧ OpsIs w a L ∧ L.length ≤ 9223372036854775807 := by
  obtain ⟨fuel, hf⟩ := h
  obtain ⟨a0, len, cap, rfl⟩ := okWide_slice Tryz.underlying23 hv
  rcases DataW.trod_slice Tryz.underlying23 hf with ⟨e, he⟩ | ⟨a, l0, c0, elems, rest, m', _, e, he, _, hlc, hcm, hlen, hel, _⟩
  · simp [Value.cells] at e
    obtain ⟨rfl, rfl, rfl⟩ := e
    exact ⟨[], none, 0, rfl, .inl rfl, by simp⟩
  · simp [Value.cells] at e
    obtain ⟨e1, e2, e3⟩ := e
    subst e1 e2 e3
    rw [max_len] at hcm
    have hall : ∀ i, i < len → ∃ (x : Int × Xi), (∀ j u, (Value.int .i64 x.1 :: xic x.2)[j]? = some u → w.cell? ((a.add (i * 6)).add j) = some u) ∧ x.2.name.size ≤ 9223372036854775807 := by
      intro i hi
      have hi' := hel i hi
      rw [cells_op, List.getElem?_eq_getElem (by omega)] at hi'
      obtain ⟨cs', h1, h2⟩ := Option.bind_eq_some_iff.1 hi'
      obtain ⟨_, hl2, hc2⟩ := World.cells?_some h1
      obtain ⟨q, e, rfl, hda⟩ := op_cs h2
      refine ⟨(q, e), fun j u hj => ?_, hda⟩
      have hj2 : j < 6 := by
        have := (List.getElem?_eq_some_iff.1 hj).1
        simpa [xic] using this
      rw [hc2 j hj2]; exact hj
    obtain ⟨X, hX⟩ := @Go.Deep.choose_lt (Int × Xi) ⟨(0, ⟨⟨#[]⟩, ⟨#[]⟩, 0, false, 0⟩)⟩ _ _ hall
    refine ⟨(List.range len).map X, some a, cap, by simp, ?_, by simp; omega⟩
    by_cases h0 : len = 0
    · subst h0; exact .inl rfl
    · have hsp : a.spot = none := by
        obtain ⟨hc, _⟩ := hX 0 (by omega)
        have := World.cell?_spot (hc 0 _ rfl)
        simpa [Addr.add] using this
      refine .inr ⟨a.block, a.off, by cases a; simp_all, fun i hi => ?_⟩
      have hi' : i < len := by simpa using hi
      obtain ⟨hc, hx⟩ := hX i hi'
      simp only [List.getElem_map, List.getElem_range]
      exact ⟨opened hsp (hc 0 _ rfl), opened hsp (hc 1 _ rfl), opened hsp (hc 2 _ rfl), opened hsp (hc 3 _ rfl), opened hsp (hc 4 _ rfl), opened hsp (hc 5 _ rfl), hx⟩
end

/-! ### THE ROW's STEP: WRITTEN OUT: LEAVE IT -/
set_option maxRecDepth 100000 in
theorem lifted (os : Os) (started : os.Started) (H : Type) (enc : TypeId × Value → H) :
    ReturnsInHanded {} Tryz.checked os 3 .any (Rows.catalogPlaysSpec.pre6 enc Tryz.prog Tryz.f3 Rows.catalogPlaysRow.domain false) (Rows.catalogPlaysSpec.post enc Tryz.prog Tryz.f3 false true false false) := by
  refine returnsInHanded_of_change (C := Tryz.checked) own started (by kernel_rfl) Tryz.func3
    (ChangeSpec.witness6 (enc := enc) (C := Tryz.checked) false ⟨#[], #[.slice none 0 0, .slice none 0 0], []⟩ 8 (by kernel_rfl) (by kernel_rfl) (by kernel_rfl) (by kernel_rfl)) ?_
  intro W base args ds gs before hval0 hW hcnd _
  have hval : ∀ (j : Nat) t v, Tryz.f3.params[j]? = some t → args[j]? = some v → Value.okWide Tryz.prog W .any base t v := hval0
  have hW' := hW
  obtain ⟨p, q, hA0, hV, rfl, hfz, hnd⟩ := hW
  have hA : DataW.TrodAll enc Tryz.prog W 0 (fun _ => true) true Tryz.f3.params.toList args.toList ds p := hA0
  rw [Tryz.params3] at hA hval
  obtain ⟨v0, vs0, d0, ds0, p0, q0, hargs, rfl, rfl, h0, r0⟩ := trodAll_cons hA
  obtain ⟨v1, vs1, d1, ds1, p1, q1, rfl, rfl, rfl, h1, r1⟩ := trodAll_cons r0
  obtain ⟨rfl, rfl, rfl⟩ := trodAll_nil r1
  obtain rfl : args = #[v0, v1] := by cases args; simp_all
  obtain ⟨rfl, rfl⟩ := trodVars_none hV
  have k0 := h0
  have k1 := h1
  have lt0 : ∀ x ∈ p0, x.block < W.heap.size := by obtain ⟨m, hm⟩ := k0; exact DataW.trod_lt m _ _ _ hm
  have lt1 : ∀ x ∈ p1, x.block < W.heap.size := by obtain ⟨m, hm⟩ := k1; exact DataW.trod_lt m _ _ _ hm
  obtain ⟨L0, a0, c0, rfl, hc, hcl, hcb⟩ := open_cols (hval 0 22 v0 rfl rfl) h0
  obtain ⟨L1, a1, c1, rfl, ho, hol⟩ := open_ops (hval 1 23 v1 rfl rfl) h1
  clear hA0 hval0
  simp only [List.append_nil] at hW'
  refine (plays_walk L0 a0 c0 L1 a1 c1 W hc hcl hcb ho hol).mono fun e W' ⟨he, bel⟩ => ?_
  subst he
  exact ⟨_, rfl, _, _, _, [], _, [], hW', trodAll_mk1 (shut_bool Tryz.underlying4 _), (trodAll_cons_mk (Below.trod laidOut (by kernel_rfl) (of_decide_eq_true (by kernel_rfl)) k0 bel lt0) (trodAll_cons_mk (Below.trod laidOut (by kernel_rfl) (of_decide_eq_true (by kernel_rfl)) k1 bel lt1) trodAll_mk0)), rfl, bel.frame _, fun h => by cases h⟩

theorem over : Rows.catalogPlaysRow.holds Tryz.pinned (OpenSpec.ofChange Rows.catalogPlaysSpec) :=
  OpenClaim.holds_of_wide 3 Tryz.f3 rfl rfl rfl rfl rfl rfl rfl ⟨rfl, rfl, rfl, rfl, rfl⟩ rfl rfl rfl rfl rfl (by kernel_rfl) Tryz.func3 (by kernel_rfl)
    (of_decide_eq_true (by kernel_rfl)) (by unfold Func.isWrapper; first | (rw [if_pos (by decide +kernel)]; kernel_rfl) | (rw [if_neg (by decide +kernel)]; exact ⟨rfl, rfl⟩))
    (fun os started H enc _ => lifted os started H enc)

/-- ████ THE STATEMENT ████ -/
theorem proved : Rows.CatalogPlaysSaid :=
  over
#print axioms proved
end Go.Proofs.YtiakepcgalmjfaaGreat.catalogPlays
