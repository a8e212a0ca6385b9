/- Numbers: bits and bytes. -/
import Derived.Laws.BitsAllLaws
import Derived.Laws.Bits64
import Derived.RowKit
import Derived.Laws.BitsLemmas
set_option linter.unusedVariables false
set_option linter.unusedSimpArgs false
namespace Go.Proofs.YtddddjpmeegedaaGreat
open Go Go.RowKit

theorem i64_and255 (n : Int) : bits .and .i64 n 255 = n % 256 := by
  have h255 : (BitVec.ofInt 64 255).toNat = 2 ^ 8 - 1 := by decide
  have key : (BitVec.ofInt 64 n &&& BitVec.ofInt 64 255).toNat = (n % ((2 ^ 64 : Nat) : Int)).toNat % 2 ^ 8 := by
    rw [BitVec.toNat_and, BitVec.toNat_ofInt, h255, Nat.and_two_pow_sub_one_eq_mod]
  show IntKind.i64.wrap ((BitVec.ofInt 64 n &&& BitVec.ofInt 64 255).toNat : Nat) = n % 256
  rw [key, IntKind.wrap_i64]
  omega

set_option maxRecDepth 100000 in
theorem xor128_nat : ∀ a : Fin 256, (a.val ^^^ 128) = (a.val + 128) % 256 := by decide

theorem u8_xor128 (y : Int) (h1 : 0 ≤ y) (h2 : y < 256) : bits .xor .u8 y 128 = (y + 128) % 256 := by
  rw [u8_xor y 128 h1 h2 (by decide) (by decide)]
  have := xor128_nat ⟨y.toNat, by omega⟩
  simp only at this
  rw [show ((128 : Int).toNat) = 128 from rfl, this]
  omega

theorem xor_top_low (Y : Nat) (h : Y < 2 ^ 63) : Y ^^^ 2 ^ 63 = Y + 2 ^ 63 := by
  have e : Y + 2 ^ 63 = 2 ^ 63 * 1 ||| Y := by rw [← Nat.two_pow_add_eq_or_of_lt h]; omega
  rw [e]
  apply Nat.eq_of_testBit_eq
  intro i
  simp only [Nat.testBit_xor, Nat.testBit_or, Nat.mul_one, Nat.testBit_two_pow]
  by_cases hi : 63 = i
  · subst hi
    simp [Nat.testBit_lt_two_pow h]
  · simp [hi]

theorem xor_top (X : Nat) (h : X < 2 ^ 64) : X ^^^ 2 ^ 63 = (X + 2 ^ 63) % 2 ^ 64 := by
  by_cases hl : X < 2 ^ 63
  · rw [xor_top_low X hl]; omega
  · obtain ⟨Y, rfl⟩ : ∃ Y, X = Y + 2 ^ 63 := ⟨X - 2 ^ 63, by omega⟩
    have hy : Y < 2 ^ 63 := by omega
    rw [← xor_top_low Y hy, Nat.xor_assoc, Nat.xor_self, Nat.xor_zero, xor_top_low Y hy]
    omega

theorem u64_xor_top (x : Int) (h1 : 0 ≤ x) (h2 : x < 18446744073709551616) : bits .xor .u64 x 9223372036854775808 = (x + 9223372036854775808) % 18446744073709551616 := by
  rw [u64_xor x 9223372036854775808 h1 h2 (by decide) (by decide)]
  have := xor_top x.toNat (by omega)
  rw [show ((9223372036854775808 : Int).toNat) = 2 ^ 63 from rfl, this]
  omega

/-- The k-th of the eight bytes of an integer, the highest first. -/
def byteAt (n : Int) (k : Nat) : UInt8 := UInt8.ofNat (((n + 9223372036854775808) / (256 ^ (7 - k) : Nat)) % 256).toNat
def be8 (n : Int) : List UInt8 := (List.range 8).map (byteAt n)

theorem byteAt_toNat (n : Int) (k : Nat) : ((byteAt n k).toNat : Int) = ((n + 9223372036854775808) / (256 ^ (7 - k) : Nat)) % 256 := by
  unfold byteAt
  have h : 0 ≤ ((n + 9223372036854775808) / ((256 ^ (7 - k) : Nat) : Int)) % 256 := Int.emod_nonneg _ (by decide)
  have h2 : ((n + 9223372036854775808) / ((256 ^ (7 - k) : Nat) : Int)) % 256 < 256 := Int.emod_lt_of_pos _ (by decide)
  generalize ((n + 9223372036854775808) / ((256 ^ (7 - k) : Nat) : Int)) % 256 = x at *
  simp only [UInt8.toNat_ofNat']
  omega

theorem rbyte0 (n : Int) : bits .xor .u8 (bits .and .i64 (n / 72057594037927936) 255 % 256) 128 = ((byteAt n 0).toNat : Int) := by
  rw [byteAt_toNat, i64_and255, u8_xor128 _ (by omega) (by omega)]
  show _ = ((n + 9223372036854775808) / 72057594037927936) % 256
  omega
theorem rbyte1 (n : Int) : bits .and .i64 (n / 281474976710656) 255 % 256 = ((byteAt n 1).toNat : Int) := by
  rw [byteAt_toNat, i64_and255]
  show _ = ((n + 9223372036854775808) / 281474976710656) % 256
  omega
theorem rbyte2 (n : Int) : bits .and .i64 (n / 1099511627776) 255 % 256 = ((byteAt n 2).toNat : Int) := by
  rw [byteAt_toNat, i64_and255]
  show _ = ((n + 9223372036854775808) / 1099511627776) % 256
  omega
theorem rbyte3 (n : Int) : bits .and .i64 (n / 4294967296) 255 % 256 = ((byteAt n 3).toNat : Int) := by
  rw [byteAt_toNat, i64_and255]
  show _ = ((n + 9223372036854775808) / 4294967296) % 256
  omega
theorem rbyte4 (n : Int) : bits .and .i64 (n / 16777216) 255 % 256 = ((byteAt n 4).toNat : Int) := by
  rw [byteAt_toNat, i64_and255]
  show _ = ((n + 9223372036854775808) / 16777216) % 256
  omega
theorem rbyte5 (n : Int) : bits .and .i64 (n / 65536) 255 % 256 = ((byteAt n 5).toNat : Int) := by
  rw [byteAt_toNat, i64_and255]
  show _ = ((n + 9223372036854775808) / 65536) % 256
  omega
theorem rbyte6 (n : Int) : bits .and .i64 (n / 256) 255 % 256 = ((byteAt n 6).toNat : Int) := by
  rw [byteAt_toNat, i64_and255]
  show _ = ((n + 9223372036854775808) / 256) % 256
  omega
theorem rbyte7 (n : Int) : bits .and .i64 n 255 % 256 = ((byteAt n 7).toNat : Int) := by
  rw [byteAt_toNat, i64_and255]
  show _ = ((n + 9223372036854775808) / 1) % 256
  omega

/-- What the program holds: uint64(n) with the highest bit turned. -/
def top (n : Int) : Int := n + 9223372036854775808
theorem top_eq (n : Int) (h : -9223372036854775808 ≤ n ∧ n ≤ 9223372036854775807) : bits .xor .u64 (n % 18446744073709551616) 9223372036854775808 = top n := by
  rw [u64_xor_top _ (by omega) (by omega)]
  unfold top
  omega
theorem top_eq' (n : Int) (h : -9223372036854775808 ≤ n ∧ n ≤ 9223372036854775807) : bits .xor .u64 (IntKind.u64.wrap n) 9223372036854775808 = top n := by
  rw [IntKind.wrap_u64]; exact top_eq n h
theorem top_pos (n : Int) (h : -9223372036854775808 ≤ n ∧ n ≤ 9223372036854775807) : 0 ≤ top n := by unfold top; omega
theorem top_bd (n : Int) (h : -9223372036854775808 ≤ n ∧ n ≤ 9223372036854775807) : 0 ≤ top n ∧ top n < 18446744073709551616 := by
  unfold top; omega
theorem be8_take_succ (n : Int) (j : Nat) (h : j < 8) : (be8 n).take (j + 1) = (be8 n).take j ++ [byteAt n j] := by
  rw [List.take_succ_eq_append_getElem (by simp [be8]; omega)]
  simp [be8]
theorem be8_length (n : Int) : (be8 n).length = 8 := by simp [be8]
theorem pbyte0 (n : Int) : top n / 72057594037927936 % 256 = ((byteAt n 0).toNat : Int) := by
  rw [byteAt_toNat]
  show _ = ((n + 9223372036854775808) / 72057594037927936) % 256
  unfold top
  omega
theorem pbyte1 (n : Int) : top n / 281474976710656 % 256 = ((byteAt n 1).toNat : Int) := by
  rw [byteAt_toNat]
  show _ = ((n + 9223372036854775808) / 281474976710656) % 256
  unfold top
  omega
theorem pbyte2 (n : Int) : top n / 1099511627776 % 256 = ((byteAt n 2).toNat : Int) := by
  rw [byteAt_toNat]
  show _ = ((n + 9223372036854775808) / 1099511627776) % 256
  unfold top
  omega
theorem pbyte3 (n : Int) : top n / 4294967296 % 256 = ((byteAt n 3).toNat : Int) := by
  rw [byteAt_toNat]
  show _ = ((n + 9223372036854775808) / 4294967296) % 256
  unfold top
  omega
theorem pbyte4 (n : Int) : top n / 16777216 % 256 = ((byteAt n 4).toNat : Int) := by
  rw [byteAt_toNat]
  show _ = ((n + 9223372036854775808) / 16777216) % 256
  unfold top
  omega
theorem pbyte5 (n : Int) : top n / 65536 % 256 = ((byteAt n 5).toNat : Int) := by
  rw [byteAt_toNat]
  show _ = ((n + 9223372036854775808) / 65536) % 256
  unfold top
  omega
theorem pbyte6 (n : Int) : top n / 256 % 256 = ((byteAt n 6).toNat : Int) := by
  rw [byteAt_toNat]
  show _ = ((n + 9223372036854775808) / 256) % 256
  unfold top
  omega
theorem pbyte7 (n : Int) : top n % 256 = ((byteAt n 7).toNat : Int) := by
  rw [byteAt_toNat]
  show _ = ((n + 9223372036854775808) / 1) % 256
  unfold top
  omega
end Go.Proofs.YtddddjpmeegedaaGreat
