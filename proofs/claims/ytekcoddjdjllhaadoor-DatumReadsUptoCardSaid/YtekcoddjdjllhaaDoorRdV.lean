/- The reference's read of a number: the walk. -/
import Derived.Test.YtekcoddjdjllhaaDoorRdA
import Derived.Test.YtekcoddjdjllhaaDoorRoB
import Derived.Deep.RegionHeld3
import Derived.Deep.DeepCutAuto
namespace Go.Proofs.YtekcoddjdjllhaaDoor
open Go.RowKit

/-- read's answer: o is the item, and whether there is one. -/
def RdPost (w : World) (s : List UInt8) (e : Ending) (w' : World) : Prop :=
  ∃ (o : Option It) (k n : Int) (t : ByteArray), RdOk s o ∧ e = .returned (.tuple #[dv k n t none 0 0, .bool o.isSome]) ∧ (∀ x, o = some x → x = ⟨k, n, t, 0⟩) ∧ Below w.heap.size w w'

theorem sub_at (s : ByteArray) (j m : Nat) (h : j < m) (hm : m ≤ s.size) : sub s j m = s[j] :: sub s (j + 1) m := by
  unfold sub
  rw [List.drop_eq_getElem_cons (by rw [List.length_take, size_list]; omega)]
  congr 1
  rw [List.getElem_take]
  rfl
theorem sub_end (s : ByteArray) (j m : Nat) (h : m ≤ j) : sub s j m = [] := List.drop_of_length_le (by rw [List.length_take]; omega)
theorem sub_len (s : ByteArray) (j m : Nat) (h : m ≤ s.size) : (sub s j m).length = m - j := by
  unfold sub
  rw [List.length_drop, List.length_take, size_list]; omega

theorem map_app (o : Option (List UInt8)) (a b : List UInt8) : (o.map (b ++ ·)).map (a ++ ·) = o.map ((a ++ b) ++ ·) := by
  cases o <;> simp
theorem map_cons (o : Option (List UInt8)) (a : List UInt8) (c : UInt8) : (o.map (c :: ·)).map (a ++ ·) = o.map ((a ++ [c]) ++ ·) := by
  cases o <;> simp

theorem new1 (W : World) (x0 : Int) (b0 : UInt8) (h0 : x0 = (b0.toNat : Int)) :
    ∀ j u, (Lib.byteCells [b0])[j]? = some u → ((W.alloc (.cells #[.int .u8 x0] 5)).drew).cell? ((⟨W.heap.size, 0, none⟩ : Addr).add j) = some u := by
  subst h0
  intro j u hj
  match j, hj with
  | 0, hj => simp [Lib.byteCells] at hj; subst hj; simp [Addr.add]
theorem new1' (W : World) (x0 : Int) (b0 : UInt8) (h0 : x0 = (b0.toNat : Int)) :
    ∀ j u, (Lib.byteCells [b0])[j]? = some u → (W.drew.alloc (.cells #[.int .u8 x0] 5)).cell? ((⟨W.heap.size, 0, none⟩ : Addr).add j) = some u := by
  subst h0
  intro j u hj
  match j, hj with
  | 0, hj =>
    simp [Lib.byteCells] at hj
    subst hj
    have e : W.heap.size = W.drew.heap.size := by simp
    rw [e]
    have := Lib.cell_of_heap (heap_alloc_new W.drew (.cells #[.int .u8 b0.toNat] 5)) 0
    simpa [Addr.add] using this
theorem wrapB2 {x1 x2 : Int} {b : UInt8} (h : 16 * x1 + x2 = (b.toNat : Int)) (h1 : 0 ≤ x1 ∧ x1 ≤ 15) (h2 : 0 ≤ x2 ∧ x2 ≤ 15) : IntKind.u8.wrap (IntKind.i64.wrap (IntKind.i64.wrap (16 * x1) + x2)) = (b.toNat : Int) := by
  have := b.toNat_lt
  rw [IntKind.wrap_i64, IntKind.wrap_i64, IntKind.wrap_u8']; omega
theorem wrapB {x : Int} {b : UInt8} (h : x = (b.toNat : Int)) : IntKind.u8.wrap x = (b.toNat : Int) := by
  have := b.toNat_lt
  rw [h, IntKind.wrap_u8']; omega

set_option maxRecDepth 100000 in
set_option maxHeartbeats 4000000 in
theorem rread_num (s : ByteArray) (w : World) (hs : s.size ≤ 4194304) (h : s.data.toList.head? ≠ some 39) :
    Calls Tryd.prog 35 #[.string s] w (RdPost w s.data.toList) := by
  have hW : Below w.heap.size w (w.alloc (.cells #[.int .i64 0, .int .i64 0, .string ⟨#[]⟩, .slice none 0 0] 24)) := (Below.refl _ _).alloc (Nat.le_refl _) _
  have zr0 : Zb (w.alloc (.cells #[.int .i64 0, .int .i64 0, .string ⟨#[]⟩, .slice none 0 0] 24)) w.heap.size := ⟨by go_simp, by go_simp, by go_simp, by go_simp, by go_simp, by go_simp, by go_simp, by go_simp⟩
  have hok := Lib.hid (rdOk_num s.data.toList h)
  have hcase : (s.toList == []) = true ∨ ((s.toList == []) = false ∧ ∃ h : 0 < s.size, ((s[0].toNat : Int) == 39) = false) := by
    by_cases h0 : 0 < s.size
    · refine .inr ⟨ne_empty s h0, h0, ?_⟩
      rw [head0 s h0 39 39 rfl, beq_eq_false_iff_ne]
      exact h
    · exact .inl (is_empty s (by omega))
  clear h
  have HR := Lib.hid (rnum_any s · hs)
  have hnv : ∃ (k : Int) (b : Bool), numAns (numR s.data.toList) = .tuple #[.int .i64 k, .bool b] ∧ ((numR s.data.toList).map fun n => (⟨1, n, ⟨#[]⟩, 0⟩ : It)).isSome = b ∧ ∀ x, ((numR s.data.toList).map fun n => (⟨1, n, ⟨#[]⟩, 0⟩ : It)) = some x → x = ⟨1, k, ⟨#[]⟩, 0⟩ := by
    cases numR s.data.toList with
    | none => exact ⟨0, false, rfl, rfl, fun x hx => by cases hx⟩
    | some n => exact ⟨n, true, rfl, rfl, fun x hx => by simp at hx; exact hx.symm⟩
  obtain ⟨k, b, hk, hb, hx⟩ := hnv
  have HX := Lib.hid hx
  have HB := Lib.hid hb
  clear hx hb
  rcases hcase with hc | ⟨hc, h0, h39⟩
  all_goals
    try have h0i : (0 : Int) < (s.size : Int) := by omega
    go_enter Tryd.func35, Tryd.ntmps35
    go_wp2_with fail
    refine (HR.out _).mono ?_
    rintro e w1 ⟨rfl, hb1⟩
    rw [hk]
    have hb01 := hW.trans (hb1.mono (by simp))
    have bq := zr0.later hb1 (by simp)
    obtain ⟨r0, r1, r2, r3, q0, q1, q2, q3⟩ := bq
    clear zr0 hW
    go_wp2
    (try simp only [Exit.inBlock, Exit.then])
    refine bodyPost_ret (v := .tuple #[dv 1 k ⟨#[]⟩ none 0 0, .bool b]) ?_ rfl ⟨_, 1, k, ⟨#[]⟩, hok.out, by rw [HB.out], HX.out, ?_⟩
    · rw [results_cell_tmp rfl]
      go_simp
      try rfl
    · exact (((hb01.setCell (p := ⟨w.heap.size, 0, none⟩) (Nat.le_refl _) _).setCell (p := ⟨w.heap.size, 1, none⟩) (Nat.le_refl _) _).setCell (p := ⟨w.heap.size, 2, none⟩) (Nat.le_refl _) _).setCell (p := ⟨w.heap.size, 3, none⟩) (Nat.le_refl _) _
end Go.Proofs.YtekcoddjdjllhaaDoor
