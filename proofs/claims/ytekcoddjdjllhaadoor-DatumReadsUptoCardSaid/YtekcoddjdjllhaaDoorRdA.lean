/- The reference's digit, quoted: the walks. -/
import Derived.Test.YtekcoddjdjllhaaDoorNuW
import Derived.Test.YtekcoddjdjllhaaDoorRdP
import Derived.Test.YtekcoddjdjllhaaDoorDeT
namespace Go.Proofs.YtekcoddjdjllhaaDoor
open Go.RowKit

set_option maxRecDepth 100000 in
theorem hexd_hexv : ∀ (j : Fin 16) (b : Fin 256), (hexd j.val = UInt8.ofNat b.val) ↔ hexv (UInt8.ofNat b.val) = (j.val : Int) := by decide +kernel
theorem hexd_iff (j : Nat) (hj : j < 16) (b : UInt8) : hexd j = b ↔ hexv b = (j : Int) := by
  have := hexd_hexv ⟨j, hj⟩ ⟨b.toNat, b.toNat_lt⟩
  simp only at this
  rw [show UInt8.ofNat b.toNat = b from UInt8.ofNat_toNat] at this
  exact this
theorem dig_at (j : Nat) (hj : j < 16) (hh : j < (⟨#[48, 49, 50, 51, 52, 53, 54, 55, 56, 57, 65, 66, 67, 68, 69, 70]⟩ : ByteArray).size) : ((⟨#[48, 49, 50, 51, 52, 53, 54, 55, 56, 57, 65, 66, 67, 68, 69, 70]⟩ : ByteArray)[j]'hh) = hexd j := digit_all ⟨j, hj⟩

set_option maxRecDepth 100000 in
set_option maxHeartbeats 2000000 in
theorem digit_any (b : UInt8) (w : World) :
    Calls Tryd.prog 52 #[.int .u8 b.toNat] w fun e w' => e = .returned (.int .i64 (hexv b)) ∧ w' = w := by
  have hin := Lib.hid (hexv_in b)
  go_enter Tryd.func52, Tryd.ntmps52
  go_wp2
  go_loopw [3] (fun i wr => ∃ j : Nat, j ≤ 16 ∧ i = .int .i64 j ∧ Hid (∀ k < j, ¬ hexv b = (k : Int)) ∧ wr = w) (fun i _ => 16 - (intOf i).toNat)
  case atStart => exact ⟨0, by omega, rfl, Lib.hid (fun k hk => by omega), rfl⟩
  case round =>
    obtain ⟨j, hj, rfl, HO, rfl⟩ := hrel
    by_cases hlt : j < 16
    · have hjI : (j : Int) < 16 := by omega
      have hda := dig_at j hlt
      by_cases he : hexd j = b
      · have hx := (hexd_iff j hlt b).1 he
        have hc := u8_beq _ _ he b.toNat rfl
        have HX := Lib.hid hx
        clear he hx
        go_wp2
        go_ret
        exact ⟨ret_int HX.out.symm, rfl⟩
      · have hx : ¬ hexv b = (j : Int) := fun h => he ((hexd_iff j hlt b).2 h)
        have hc := u8_bne _ _ he b.toNat rfl
        have HX := Lib.hid hx
        clear he hx
        go_wp2
        go_roundw
        case rel => exact ⟨j + 1, by omega, by go_num, Lib.hid (fun k hk => by
          rcases Nat.lt_or_ge k j with h | h
          · exact HO.out k h
          · rw [show k = j by omega]; exact HX.out), trivial⟩
        case measure => simp [intOf]; omega
    · have hm : hexv b = -1 := by
        have h1 := hin.out
        rcases Int.lt_or_le (hexv b) 0 with h | h
        · omega
        · exfalso
          exact HO.out (hexv b).toNat (by omega) (by omega)
      have HM := Lib.hid hm
      clear hm
      have hjI : ¬ (j : Int) < 16 := by omega
      go_wp2
      go_ret
      exact ⟨ret_int HM.out.symm, rfl⟩

theorem quoted_any (s : ByteArray) (w : World) :
    Calls Tryd.prog 36 #[.string s] w fun e w' => e = .returned (.bool (s.data.toList.head? == some 39)) ∧ w' = w := by
  by_cases h0 : 0 < s.size
  · have hne := ne_empty s h0
    have h0i : (0 : Int) < (s.size : Int) := by omega
    have hh := head0 s h0 39 39 rfl
    cases hb : (s.data.toList.head? == some 39) with
    | true =>
      rw [hb] at hh
      clear hb
      go_enter Tryd.func36, Tryd.ntmps36
      go_wp2
      go_ret
      exact ⟨rfl, rfl⟩
    | false =>
      rw [hb] at hh
      clear hb
      go_enter Tryd.func36, Tryd.ntmps36
      go_wp2
      go_ret
      exact ⟨rfl, rfl⟩
  · have he := is_empty s (by omega)
    have hh : (s.data.toList.head? == some 39) = false := by
      rw [List.eq_nil_of_length_eq_zero ((size_list s).trans (by omega))]; rfl
    rw [hh]
    go_enter Tryd.func36, Tryd.ntmps36
    go_wp2
    go_ret
    exact ⟨rfl, rfl⟩
end Go.Proofs.YtekcoddjdjllhaaDoor
