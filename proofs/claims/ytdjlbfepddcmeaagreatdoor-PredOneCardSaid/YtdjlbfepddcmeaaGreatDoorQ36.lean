/- What a row's list of variables gives. -/
import Derived.Test.YtdjlbfepddcmeaaGreatDoorCards
import Derived.Test.YtdjlbfepddcmeaaGreatDoorTie
import Derived.Test.YtdjlbfepddcmeaaGreatDoorQ02
import Derived.WalkKit
import Derived.ProofKit
import Derived.OpenShut
import Derived.LaidMore
import Derived.Stop.LaidErr
import Derived.MakeChecks
import Derived.Deep.DeepHandedRow
import Derived.Deep.DeepWitnessRowRef
import Derived.Lib.LaidTab
set_option linter.unusedVariables false
set_option linter.unusedSimpArgs false
namespace Go.Proofs.YtdjlbfepddcmeaaGreatDoor
open Go.ChangeShapes Go.WideShapes Go.ChangeAt Go.RowKit

theorem own : ownKnob Tryz.prog.godebug = none := by kernel_rfl
theorem laidOut : laidOutB Tryz.prog = true := by kernel_rfl
theorem gPow : Tryz.prog.globalNamed "internal/strconv.uint64pow10" = some 3 := by kernel_rfl
theorem gSyn : Tryz.prog.globalNamed "strconv.ErrSyntax" = some 4 := by kernel_rfl
theorem gRng : Tryz.prog.globalNamed "strconv.ErrRange" = some 5 := by kernel_rfl
theorem tSyn : (Tryz.prog.globals[4]?).map (·.type) = some 89 := by kernel_rfl
theorem tRng : (Tryz.prog.globals[5]?).map (·.type) = some 89 := by kernel_rfl

theorem iface_of_trod {H : Type} {enc : TypeId × Value → H} {P : Program} {w : World} {base : Nat} {sp : Nat → Bool} {fuel : Nat} {t : TypeId} {ms : Array (String × TypeId)} {cs : List Value} {nm : String} {d : DataW H} {p : List MemPlace}
    (ht : P.underlying t = some (.interface ms)) (h : DataW.trod enc P w base sp false fuel t cs = some (.iface nm d, p)) : ∃ u v, cs = [.iface u v] := by
  cases fuel with
  | zero => simp [DataW.trod] at h
  | succ n =>
    unfold DataW.trod at h
    rw [ht] at h
    split at h <;> simp_all

theorem laid_iface {P : Program} {n nm : String} {d : DataW Unit} {r : List (String × DataW Unit)} {W : World} {g : Nat} {ti : TypeId} {ms : Array (String × TypeId)}
    (h : laidMet P ((n, .iface nm d) :: r) W) (hg : P.globalNamed n = some g) (ht : (P.globals[g]?).map (·.type) = some ti) (hi : P.underlying ti = some (.interface ms)) :
    ∃ tp p, W.cell? ⟨g, 0, none⟩ = some (.iface tp p) := by
  obtain ⟨ps, ⟨g0, t0, cs0, f0, p0, q0, hg0, ht0, hv0, hd0, _, e0⟩, _, hrows⟩ := h
  obtain rfl := Option.some.inj (hg.symm.trans hg0)
  obtain rfl := Option.some.inj (ht.symm.trans ht0)
  obtain ⟨u, v, e⟩ := iface_of_trod hi hd0
  have := World.var?_cell hg0 hv0 0
  rw [Array.toList_inj.1 (show cs0.toList = #[Value.iface u v].toList from e)] at this
  exact ⟨u, v, by simpa using this⟩

theorem globs_short {W : World} (h : laidMet Tryz.prog [("math/bits.deBruijn32tab", Rows.laid_math_bits_deBruijn32tab), ("math/bits.deBruijn64tab", Rows.laid_math_bits_deBruijn64tab), ("internal/strconv.uint64pow10", Rows.laid_internal_strconv_uint64pow10), ("strconv.ErrRange", Rows.laid_strconv_ErrRange), ("strconv.ErrSyntax", Rows.laid_strconv_ErrSyntax)] W) : Globs W where
  pow := Lib.tabIs_of_head gPow (by kernel_rfl) Tryz.underlying142 Tryz.underlying108 (by kernel_rfl) (by kernel_rfl) h.tail.tail
  rng := laid_iface h.tail.tail.tail gRng tRng Tryz.underlying89
  syn := laid_iface h.tail.tail.tail.tail gSyn tSyn Tryz.underlying89

theorem maxlen_of {W : World} (h : W.ShapedOpen Tryz.prog) : ∃ m, W.cell? ⟨0, 0, none⟩ = some (.int .i64 m) :=
  Go.Proofs.cell_of_shapedOpen_int (zero := #[.int .i64 0]) (t := 3) h (of_decide_eq_true (by kernel_rfl)) (by kernel_rfl) rfl (by kernel_rfl) (by kernel_rfl) Tryz.underlying3

abbrev longList : List (String × DataW Unit) := [("math/bits.deBruijn32tab", Rows.laid_math_bits_deBruijn32tab), ("math/bits.deBruijn64tab", Rows.laid_math_bits_deBruijn64tab), ("internal/strconv.uint64pow10", Rows.laid_internal_strconv_uint64pow10), ("unicode/utf8.acceptRanges", Rows.laid_unicode_utf8_acceptRanges), ("strconv.ErrRange", Rows.laid_strconv_ErrRange), ("strconv.ErrSyntax", Rows.laid_strconv_ErrSyntax), ("unicode/utf8.first", Rows.laid_unicode_utf8_first)]
theorem globs_long {W : World} (h : laidMet Tryz.prog longList W) (hs : W.ShapedOpen Tryz.prog) : GlobsM W where
  pow := Lib.tabIs_of_head gPow (by kernel_rfl) Tryz.underlying142 Tryz.underlying108 (by kernel_rfl) (by kernel_rfl) h.tail.tail
  rng := laid_iface h.tail.tail.tail.tail gRng tRng Tryz.underlying89
  syn := laid_iface h.tail.tail.tail.tail.tail gSyn tSyn Tryz.underlying89
  maxlen := maxlen_of hs

theorem laid_lt {P : Program} {n : String} {d : DataW Unit} {r : List (String × DataW Unit)} {W : World} {g : Nat} (h : laidMet P ((n, d) :: r) W) (hg : P.globalNamed n = some g) : g < W.heap.size := by
  obtain ⟨ps, ⟨g0, t0, cs0, f0, p0, q0, hg0, ht0, hv0, hd0, _, e0⟩, _, hrows⟩ := h
  obtain rfl := Option.some.inj (hg.symm.trans hg0)
  unfold World.var? at hv0
  rw [hg] at hv0
  rcases Nat.lt_or_ge g W.heap.size with h' | h'
  · exact h'
  · simp [Array.getElem?_eq_none h'] at hv0
theorem laid_8 {W : World} (h : laidMet Tryz.prog longList W) : 8 ≤ W.heap.size :=
  laid_lt h.tail (g := 7) (by kernel_rfl)

theorem reach_at {H : Type} {ts : List TypeId} {ds : List (DataW H)} (h : (DataW.weightsEach Tryz.prog ts ds).all (· ≤ reachBytes) = true) {j : Nat} {t : TypeId} {d : DataW H} (ht : ts[j]? = some t) (hd : ds[j]? = some d) :
    ∀ n ∈ d.weights Tryz.prog t, n ≤ 140737488351232 := by
  intro n hn
  have hall := List.all_eq_true.1 h
  have hmem : n ∈ DataW.weightsEach Tryz.prog ts ds := by
    induction ts generalizing ds j with
    | nil => simp at ht
    | cons t' ts ih =>
      cases ds with
      | nil => simp at hd
      | cons d' ds =>
        simp only [DataW.weightsEach, List.mem_append]
        cases j with
        | zero => simp at ht hd; subst ht hd; exact .inl hn
        | succ j =>
          refine .inr (ih ?_ (j := j) (by simpa using ht) (by simpa using hd) ?_)
          · rw [List.all_eq_true]; intro m hm; exact hall m (by simp only [DataW.weightsEach, List.mem_append]; exact .inr hm)
          · intro m hm; exact hall m (by simp only [DataW.weightsEach, List.mem_append]; exact .inr hm)
  exact of_decide_eq_true (hall n hmem)

/-- The pinned table's cells. -/
def firstCells : Array Value := match Rows.laid_unicode_utf8_first with
  | .agg l => (l.map fun | .lit x => x.value | _ => undef).toArray
  | _ => #[]
/-- A start for the witness: the door's own heap, the pinned table laid. -/
noncomputable def pinWorld (os : Os) : World :=
  { World.doorLaid Tryz.prog 72 os with heap := (World.doorLaid Tryz.prog 72 os).heap.modify 1 fun
      | .cells _ t frozen => .cells firstCells t frozen
      | o => o }
end Go.Proofs.YtdjlbfepddcmeaaGreatDoor
