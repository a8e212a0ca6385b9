/- The reference's read. -/
import Derived.Test.YtekcoddjdjllhaaDoorRdW
namespace Go.Proofs.YtekcoddjdjllhaaDoor
open Go.RowKit

theorem rread_any (s : ByteArray) (w : World) (hs : s.size ≤ 4194304) (hG : Globs w) :
    Calls Tryd.prog 35 #[.string s] w (RdPost w s.data.toList) := by
  by_cases h39 : s.data.toList.head? = some 39
  · have h0 : 0 < s.size := by
      rcases Nat.eq_zero_or_pos s.size with h | h
      · exfalso
        rw [List.eq_nil_of_length_eq_zero ((size_list s).trans h)] at h39
        simp at h39
      · exact h
    have e := drop_byte s 0 h0
    rw [List.drop_zero] at e
    simp only [Nat.zero_add] at e
    have h := h39
    rw [head_at s h0] at h
    simp only [Option.some.injEq] at h
    rw [h] at e
    have hr : (s.data.toList.drop 1).take ((s.data.toList.drop 1).length - 1) = sub s 1 (s.size - 1) := by
      unfold sub
      rw [List.length_drop, size_list, List.drop_take]
    have hok := rdOk_text s.data.toList (s.data.toList.drop 1) e
    rw [hr] at hok
    exact rread_text s w hs h0 (by rw [head0 s h0 39 39 rfl, h39]; rfl) (ne_empty s h0) hG _ (Lib.hid rfl) (Lib.hid hok)
  · exact rread_num s w hs h39
end Go.Proofs.YtekcoddjdjllhaaDoor
