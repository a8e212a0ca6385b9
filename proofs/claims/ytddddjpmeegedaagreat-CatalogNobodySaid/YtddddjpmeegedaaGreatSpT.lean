/- append of noughts to bytes. -/
import Derived.Test.YtddddjpmeegedaaGreatSpS
import Derived.Lib.AppendZerosOnto
set_option linter.unusedVariables false
set_option linter.unusedSimpArgs false
namespace Go.Proofs.YtddddjpmeegedaaGreat
open Go.RowKit

theorem zeroCells_one (z : Value) (n : Nat) (hz : z.cells = #[z]) : Builtin.zeroCells z.cells n = Array.replicate n z := by
  rw [hz]
  apply Array.ext
  · simp [Builtin.zeroCells]
  · intro i h1 h2
    simp [Builtin.zeroCells, Nat.mod_one]
theorem byteCells_zeros (k : Nat) : Lib.byteCells (List.replicate k 0) = List.replicate k (.int .u8 0) := by
  unfold Lib.byteCells
  rw [List.map_replicate]
  rfl

theorem growBy_le (n : Nat) (hn : n ≤ 4096) : ∀ r c, c ≤ 8192 → Builtin.growBy n r c ≤ 8192
  | 0, c, hc => hc
  | r + 1, c, hc => by
    rw [Builtin.growBy]
    split
    · exact hc
    · exact growBy_le n hn r _ (by omega)
theorem run_append_zeros {w : World} {B : Nat} {v : Value} {l : List UInt8} (h : Buf w B v l) (hl : 0 < l.length) (k : Nat) (hk : l.length + k ≤ 4096) (hB : B ≤ w.heap.size) (ty : TypeId) :
    ∃ v' w', (Builtin.append_ #[74, 3] ty #[v, .int .i64 k]).run Tryz.prog w = .ok v' w' ∧ Buf w' B v' (l ++ List.replicate k 0) ∧ Below B w w' := by
  obtain ⟨i0, hi, hz0, hz1, hz2⟩ := info_parts info_u8
  obtain ⟨hlen, h2⟩ := h
  rcases h2 with ⟨rfl, h0⟩ | ⟨g, cap, cur, rfl, hg, hh, hn, hcap, hsz, htk⟩
  · omega
  · have hlt : g < w.heap.size := (Array.getElem?_eq_some_iff.1 hh).1
    rw [Nat.mul_one] at hsz htk
    have hw : IntKind.i64.wrap (k : Int) = k := by rw [IntKind.wrap_i64]; omega
    have hr0 : l.length ≤ cap := hn
    by_cases hr : l.length + k ≤ cap
    · have hst := run_store_at Tryz.prog g l.length 5 (0, 0) (List.replicate k (Value.int .u8 0)) 0 cur w hh (.inl rfl) (by rw [List.length_replicate]; omega) (fun u hu => by rw [List.eq_of_mem_replicate hu]; rfl)
      refine ⟨.slice (some ⟨g, 0, none⟩) (l.length + k) cap, w.setRow g (cur.toList.take l.length ++ List.replicate k (Value.int .u8 0) ++ cur.toList.drop (l.length + k)).toArray, ?_, ?_, ?_⟩
      · have hneg : ¬ ((k : Int) < 0) := by omega
        have hbig : ¬ (281474976710656 < (k : Int) * (i0.bytes : Int)) := by rw [hz2]; omega
        have hadd : (⟨g, 0, none⟩ : Addr).add l.length = ⟨g, l.length, none⟩ := by unfold Addr.add; split <;> simp_all
        rw [List.length_replicate, Nat.add_zero] at hst
        have hz0' : (Builtin.zeroCells (Value.int .u8 0).cells k) = Array.replicate k (.int .u8 0) := zeroCells_one _ _ rfl
        by_cases hk0 : k = 0
        · subst hk0
          have hw0 : IntKind.i64.wrap 0 = 0 := by decide
          simp only [List.replicate_zero, Nat.add_zero] at hst
          simp [Builtin.append_, run_underlying Tryz.underlying74, run_underlying Tryz.underlying3, sizeOf, typeInfo, zeroValue, hi, hz0, hz1, hz2, asInt, asIntOf, hw0, hadd, hst, hr0]
        · have hbig' : ¬ (281474976710656 < (k : Int)) := by omega
          simp [Builtin.append_, run_underlying Tryz.underlying74, run_underlying Tryz.underlying3, sizeOf, typeInfo, zeroValue, hi, hz0, hz1, hz2, asInt, asIntOf, hw, hneg, hr, hk0, hbig', hadd]
          rw [hz0', Array.toList_replicate, hst]
          simp
      · have hl1 : (cur.toList.take l.length).length = l.length := by rw [List.length_take]; simp; omega
        refine ⟨by rw [byteCells_length, Nat.mul_one], .inr ⟨g, cap, _, by rw [List.length_append, List.length_replicate], hg, setRow_heap w g cur _ _ _ hh, by rw [List.length_append, List.length_replicate]; exact hr, hcap, ?_, ?_⟩⟩
        · simp
          omega
        · rw [Nat.mul_one, byteCells_append, byteCells_zeros, ← htk, List.length_append, List.length_replicate]
          simp only [List.append_assoc]
          rw [← List.append_assoc, List.take_append_of_le_length (by rw [List.length_append, hl1, List.length_replicate]; exact Nat.le_refl _), List.take_of_length_le (by rw [List.length_append, hl1, List.length_replicate]; exact Nat.le_refl _)]
      · exact below_setRow (Below.refl _ _) hg _
    · have hcell : ∀ j u, (Lib.byteCells l)[j]? = some u → w.drew.cell? ((⟨g, 0, none⟩ : Addr).add j) = some u := fun j u hu => by
        have hadd : (⟨g, 0, none⟩ : Addr).add j = ⟨g, j, none⟩ := by unfold Addr.add; split <;> simp_all
        rw [hadd, ← htk, List.getElem?_take] at *
        split at hu
        · show w.cell? _ = _
          unfold World.cell?
          simp only [hh]
          simpa using hu
        · cases hu
      have hold : (Builtin.firstCells i0.size l.length (.slice (some ⟨g, 0, none⟩) l.length cap)).run Tryz.prog w.drew = .ok (Lib.byteCells l).toArray w.drew := by
        have := run_loadCells_list (P := Tryz.prog) w.drew ⟨g, 0, none⟩ (Lib.byteCells l) hcell
        rw [byteCells_length] at this
        simp [Builtin.firstCells, hz1, this]
      have hfit : Builtin.nextslicecap (l.length + k) cap * i0.bytes ≤ 281474976710656 := by
        rw [hz2]
        unfold Builtin.nextslicecap
        split
        · omega
        · split
          · omega
          · have := growBy_le (l.length + k) hk 4 cap (by omega)
            omega
      have := Go.Lib.run_append_grow_zeros (P := Tryz.prog) w 74 3 ty 5 i0 (.int .u8 0) .i64 .i64 Tryz.underlying74 Tryz.underlying3 hi hz0 (some ⟨g, 0, none⟩) l.length cap (Lib.byteCells l) hold k (by omega) (by omega) (by omega) (by omega) (by rw [hz2]; omega) hfit
      refine ⟨_, _, this, ?_, ?_⟩
      · have hge := grownCap_ge w (l.length + k) cap 5
        have hz1' : (Builtin.zeroCells (Value.int .u8 0).cells k).size = k := by rw [zeroCells_one _ _ rfl]; simp
        have hz2' : (Builtin.zeroCells (Value.int .u8 0).cells (grownCap w (l.length + k) cap 5 - (l.length + k))).size = grownCap w (l.length + k) cap 5 - (l.length + k) := by rw [zeroCells_one _ _ rfl]; simp
        refine ⟨by rw [byteCells_length, Nat.mul_one], .inr ⟨w.heap.size, grownCap w (l.length + k) cap 5, _, by rw [List.length_append, List.length_replicate], hB, hnew w.drew _, by rw [List.length_append, List.length_replicate]; exact hge, grownCap_le_maxLen w _ _ _ (by unfold maxLen; omega), ?_, ?_⟩⟩
        · rw [Array.size_append, Array.size_append, hz1', hz2', List.size_toArray, byteCells_length]
          omega
        · rw [Nat.mul_one, byteCells_append, byteCells_zeros, List.length_append, List.length_replicate, Array.toList_append, Array.toList_append, zeroCells_one _ k rfl, Array.toList_replicate]
          have hl2 : (Lib.byteCells l ++ List.replicate k (Value.int .u8 0)).length = l.length + k := by rw [List.length_append, byteCells_length, List.length_replicate]
          rw [List.toList_toArray, List.take_append_of_le_length (by omega), List.take_of_length_le (by omega)]
      · exact (((Below.refl B w).drew).alloc hB _)
end Go.Proofs.YtddddjpmeegedaaGreat
