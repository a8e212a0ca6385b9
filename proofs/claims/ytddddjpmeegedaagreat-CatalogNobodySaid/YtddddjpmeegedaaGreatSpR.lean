/- Sorted items; where a key stands in a node. -/
import Derived.Test.YtddddjpmeegedaaGreatSpQ
import Derived.Test.YtddddjpmeegedaaGreatSpP
set_option linter.unusedVariables false
set_option linter.unusedSimpArgs false
namespace Go.Proofs.YtddddjpmeegedaaGreat
open Go.RowKit

theorem cbl_trans : ∀ a b c : List UInt8, Go.Lib.compareBytes a b < 0 → Go.Lib.compareBytes b c < 0 → Go.Lib.compareBytes a c < 0
  | [], [], _, h, _ => by simp [Go.Lib.compareBytes] at h
  | [], _ :: _, [], _, h => by simp [Go.Lib.compareBytes] at h
  | [], _ :: _, _ :: _, _, _ => by simp [Go.Lib.compareBytes]
  | _ :: _, [], _, h, _ => by simp [Go.Lib.compareBytes] at h
  | _ :: _, _ :: _, [], _, h => by simp [Go.Lib.compareBytes] at h
  | a :: al, b :: bl, c :: cl, h1, h2 => by
    have ih := cbl_trans al bl cl
    simp only [Go.Lib.compareBytes] at *
    simp only [UInt8.lt_iff_toNat_lt] at *
    generalize a.toNat = x at *
    generalize b.toNat = y at *
    generalize c.toNat = z at *
    split at h1
    · split at h2
      · rw [if_pos (by omega)]; omega
      · split at h2
        · omega
        · rw [if_pos (by omega)]; omega
    · split at h1
      · omega
      · split at h2
        · rw [if_pos (by omega)]; omega
        · split at h2
          · omega
          · rw [if_neg (by omega), if_neg (by omega)]
            exact ih h1 h2
/-- Items rise. -/
def Sorted (L : List KV) : Prop := ∀ i j (hi : i < L.length) (hj : j < L.length), i < j → Go.Lib.compareBytes L[i].k.data.toList L[j].k.data.toList < 0
theorem Sorted.mono {L : List KV} (h : Sorted L) (key : ByteArray) : ∀ s t (hs : s < L.length) (ht : t < L.length), s ≤ t → cmpK L[t] key < 0 → cmpK L[s] key < 0 := fun s t hs ht hst hc => by
  by_cases e : s = t
  · subst e; exact hc
  · exact cbl_trans _ _ _ (h s t hs ht (by omega)) hc

set_option maxHeartbeats 1000000 in
theorem find_any {w : World} {nb : Nat} {leaf : Bool} {A : Option Addr} {c : Nat} {kv : Value} {L : List KV} (h : w.heap[nb]? = some (nodeO leaf (.slice A L.length c) kv)) (hr : ItemsR w A L) (hn : L.length ≤ 1099511627776) (hs : Sorted L) (key : ByteArray) :
    Calls Tryz.prog 114 #[.pointer (some ⟨nb, 0, none⟩), .string key] w fun e w' => ∃ i : Nat, e = .returned (.tuple #[.int .i64 i, .bool (isAt L key i)]) ∧ Cut L key i ∧ Below w.heap.size w w' := by
  obtain ⟨c0, c1, c2, _⟩ := node3 h
  have HS := Lib.hid (search_any L key A c w hr hn (hs.mono key))
  clear h hr hs
  go_enter Tryz.func114, Tryz.ntmps114
  go_wp2_with fail
  refine HS.out.mono ?_
  rintro e w1 ⟨i, rfl, hcut, hb⟩
  have HC := Lib.hid (And.intro hcut hb)
  clear hcut hb
  go_wp2
  go_ret2
  exact ⟨i, rfl, HC.out.1, HC.out.2⟩
end Go.Proofs.YtddddjpmeegedaaGreat
