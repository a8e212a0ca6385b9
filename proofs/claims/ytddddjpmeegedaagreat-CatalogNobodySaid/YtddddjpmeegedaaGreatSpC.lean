/- Numbers of four bytes. -/
import Derived.Test.YtddddjpmeegedaaGreatSpB
import Derived.Test.YtddddjpmeegedaaGreatBits
set_option linter.unusedVariables false
set_option linter.unusedSimpArgs false
namespace Go.Proofs.YtddddjpmeegedaaGreat
open Go.RowKit

theorem i64_or (a b : Nat) (ha : a < 2 ^ 63) (hb : b < 2 ^ 63) : bits .or .i64 (a : Int) (b : Int) = ((a ||| b : Nat) : Int) := by
  have key : (BitVec.ofInt 64 (a : Int) ||| BitVec.ofInt 64 (b : Int)).toNat = a ||| b := by
    rw [BitVec.toNat_or, BitVec.toNat_ofInt, BitVec.toNat_ofInt]
    have e1 : ((a : Int) % ((2 ^ 64 : Nat) : Int)).toNat = a := by omega
    have e2 : ((b : Int) % ((2 ^ 64 : Nat) : Int)).toNat = b := by omega
    rw [e1, e2]
  have hlt : a ||| b < 2 ^ 63 := Nat.or_lt_two_pow ha hb
  show IntKind.i64.wrap ((BitVec.ofInt 64 (a : Int) ||| BitVec.ofInt 64 (b : Int)).toNat : Nat) = _
  rw [key, IntKind.wrap_i64]
  omega
def num4 (x0 x1 x2 x3 : UInt8) : Nat := x0.toNat * 16777216 + x1.toNat * 65536 + x2.toNat * 256 + x3.toNat
theorem num4_lt (x0 x1 x2 x3 : UInt8) : num4 x0 x1 x2 x3 < 4294967296 := by
  have b0 := x0.toNat_lt
  have b1 := x1.toNat_lt
  have b2 := x2.toNat_lt
  have b3 := x3.toNat_lt
  unfold num4
  omega
theorem or_num4 (x0 x1 x2 x3 : UInt8) : bits .or .i64 (bits .or .i64 (bits .or .i64 ((x0.toNat : Int) * 16777216) ((x1.toNat : Int) * 65536)) ((x2.toNat : Int) * 256)) (x3.toNat : Int) = (num4 x0 x1 x2 x3 : Nat) := by
  have b0 := x0.toNat_lt
  have b1 := x1.toNat_lt
  have b2 := x2.toNat_lt
  have b3 := x3.toNat_lt
  unfold num4
  generalize x0.toNat = a at *
  generalize x1.toNat = b at *
  generalize x2.toNat = c at *
  generalize x3.toNat = d at *
  have e1 : bits .or .i64 ((a : Int) * 16777216) ((b : Int) * 65536) = ((a * 16777216 + b * 65536 : Nat) : Int) := by
    rw [show (a : Int) * 16777216 = ((a * 16777216 : Nat) : Int) by omega, show (b : Int) * 65536 = ((b * 65536 : Nat) : Int) by omega, i64_or _ _ (by omega) (by omega)]
    have := Nat.two_pow_add_eq_or_of_lt (i := 24) (b := b * 65536) (by omega) a
    rw [show a * 16777216 = 2 ^ 24 * a by omega, ← this]
  have e2 : bits .or .i64 ((a * 16777216 + b * 65536 : Nat) : Int) ((c : Int) * 256) = ((a * 16777216 + b * 65536 + c * 256 : Nat) : Int) := by
    rw [show (c : Int) * 256 = ((c * 256 : Nat) : Int) by omega, i64_or _ _ (by omega) (by omega)]
    have := Nat.two_pow_add_eq_or_of_lt (i := 16) (b := c * 256) (by omega) (a * 256 + b)
    rw [show a * 16777216 + b * 65536 = 2 ^ 16 * (a * 256 + b) by omega, ← this]
  have e3 : bits .or .i64 ((a * 16777216 + b * 65536 + c * 256 : Nat) : Int) (d : Int) = ((a * 16777216 + b * 65536 + c * 256 + d : Nat) : Int) := by
    rw [i64_or _ _ (by omega) (by omega)]
    have := Nat.two_pow_add_eq_or_of_lt (i := 8) (b := d) (by omega) (a * 65536 + b * 256 + c)
    rw [show a * 16777216 + b * 65536 + c * 256 = 2 ^ 8 * (a * 65536 + b * 256 + c) by omega, ← this]
  rw [e1, e2, e3]

set_option maxHeartbeats 1000000 in
theorem number_any (b o len cap : Nat) (x0 x1 x2 x3 : UInt8) (w : World) (h0 : w.cell? ⟨b, o, none⟩ = some (.int .u8 x0.toNat)) (h1 : w.cell? ⟨b, o + 1, none⟩ = some (.int .u8 x1.toNat))
    (h2 : w.cell? ⟨b, o + 2, none⟩ = some (.int .u8 x2.toNat)) (h3 : w.cell? ⟨b, o + 3, none⟩ = some (.int .u8 x3.toNat)) (hl : 4 ≤ len) :
    Calls Tryz.prog 57 #[.slice (some ⟨b, o, none⟩) len cap] w fun e w' => e = .returned (.int .i64 (num4 x0 x1 x2 x3 : Nat)) ∧ Below w.heap.size w w' := by
  have b0 := x0.toNat_lt
  have b1 := x1.toNat_lt
  have b2 := x2.toNat_lt
  have b3 := x3.toNat_lt
  go_enter Tryz.func57, Tryz.ntmps57
  go_wp2
  go_quiet (fail)
  rw [or_num4]
  go_wp2
  go_ret
  exact ⟨rfl, by exact ⟨rfl, rfl, rfl, Nat.le_refl _, fun _ _ => rfl⟩⟩

def dig (n : Int) (d : Int) : UInt8 := UInt8.ofNat ((n / d) % 256).toNat
def digL (n : Int) : List UInt8 := [dig n 16777216, dig n 65536, dig n 256, dig n 1]
theorem dig_toNat (n d : Int) : ((dig n d).toNat : Int) = n / d % 256 := by
  unfold dig
  have h : 0 ≤ n / d % 256 := Int.emod_nonneg _ (by decide)
  have h2 : n / d % 256 < 256 := Int.emod_lt_of_pos _ (by decide)
  generalize n / d % 256 = x at *
  rw [UInt8.toNat_ofNat_of_lt' (by show x.toNat < 256; omega)]
  omega
theorem num_dig (n : Int) (h : 0 ≤ n) (h2 : n < 4294967296) : (num4 (dig n 16777216) (dig n 65536) (dig n 256) (dig n 1) : Int) = n := by
  have e0 := dig_toNat n 16777216
  have e1 := dig_toNat n 65536
  have e2 := dig_toNat n 256
  have e3 := dig_toNat n 1
  unfold num4
  generalize (dig n 16777216).toNat = a at *
  generalize (dig n 65536).toNat = b at *
  generalize (dig n 256).toNat = c at *
  generalize (dig n 1).toNat = d at *
  omega

set_option maxRecDepth 100000 in
set_option maxHeartbeats 1000000 in
theorem digits_any (n : Int) (w : World) :
    Calls Tryz.prog 49 #[.int .i64 n] w fun e w' => e = .returned (.string ⟨(digL n).toArray⟩) ∧ Below w.heap.size w w' := by
  have e0 := dig_toNat n 16777216
  have e1 := dig_toNat n 65536
  have e2 := dig_toNat n 256
  have e3 : ((dig n 1).toNat : Int) = n % 256 := by rw [dig_toNat]; simp
  have hconv : (convert 74 9 (.slice (some ⟨w.heap.size, 0, none⟩) 4 4)).run Tryz.prog (w.alloc (.cells #[.int .u8 (n / 16777216 % 256), .int .u8 (n / 65536 % 256), .int .u8 (n / 256 % 256), .int .u8 (n % 256)] 5)) = .ok (.string ⟨(digL n).toArray⟩) (w.alloc (.cells #[.int .u8 (n / 16777216 % 256), .int .u8 (n / 65536 % 256), .int .u8 (n / 256 % 256), .int .u8 (n % 256)] 5)) := by
    rw [← e0, ← e1, ← e2, ← e3]
    have := run_convert_bytes_arg (w.alloc (.cells #[.int .u8 (dig n 16777216).toNat, .int .u8 (dig n 65536).toNat, .int .u8 (dig n 256).toNat, .int .u8 (dig n 1).toNat] 5)) 74 5 Tryz.underlying74 Tryz.underlying5 w.heap.size 0 4 4 ((digL n).map fun b => (b.toNat : Int)) (by rfl) (fun i hi => by
      match i, hi with
      | 0, _ => go_simp; exact e0.symm
      | 1, _ => go_simp; exact e1.symm
      | 2, _ => go_simp; exact e2.symm
      | 3, _ => go_simp; exact e3.symm) 9 Tryz.underlying9
    rw [this, strOf_bytes]
  have HC := Lib.hid hconv
  clear e0 e1 e2 e3
  go_enter Tryz.func49, Tryz.ntmps49
  go_wp2
  go_ret
  exact ⟨rfl, by go_grown⟩
end Go.Proofs.YtddddjpmeegedaaGreat
