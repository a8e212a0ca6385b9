/- The reference's Number, plainly: the number whose text a text is. -/
import Derived.Test.YtekcoddjdjllhaaDoorTxt
namespace Go.Proofs.YtekcoddjdjllhaaDoor
open Go.RowKit

def negRun (n : Int) : List UInt8 → Option Int
  | [] => some n
  | c :: r => if (c.toNat : Int) - 48 < 0 ∨ 9 < (c.toNat : Int) - 48 ∨ n < -922337203685477580 ∨ (n = -922337203685477580 ∧ 8 < (c.toNat : Int) - 48) then none
    else negRun (10 * n - ((c.toNat : Int) - 48)) r

theorem negRun_app (l m : List UInt8) : ∀ n k : Int, negRun n l = some k → negRun n (l ++ m) = negRun k m := by
  induction l with
  | nil =>
    intro n k h
    simp only [negRun, Option.some.injEq] at h
    rw [h]; rfl
  | cons c r ih =>
    intro n k h
    simp only [negRun, List.cons_append] at h ⊢
    split at h
    · cases h
    · next h1 => rw [if_neg h1]; exact ih _ _ h

theorem negRun_dec (u : Nat) (h : u ≤ 9223372036854775808) : negRun 0 (Lib.decDigits u) = some (-(u : Int)) := by
  induction u using Nat.strongRecOn with
  | ind u ih =>
    rw [Lib.decDigits]
    by_cases h10 : u < 10
    · have e := digit_nat u h10
      rw [dif_pos h10]
      simp only [negRun, e]
      rw [if_neg (by omega)]
      congr 1; omega
    · have e := digit_nat (u % 10) (by omega)
      rw [dif_neg h10, negRun_app _ _ 0 _ (ih (u / 10) (by omega) (by omega))]
      simp only [negRun, e]
      rw [if_neg (by omega)]
      congr 1; omega

theorem dec_head (u : Nat) (h : 0 < u) : ∃ c r, Lib.decDigits u = c :: r ∧ ¬ c = 48 := by
  induction u using Nat.strongRecOn with
  | ind u ih =>
    rw [Lib.decDigits]
    by_cases h10 : u < 10
    · rw [dif_pos h10]
      refine ⟨_, [], rfl, fun e => ?_⟩
      have := congrArg UInt8.toNat e
      rw [digit_nat u h10] at this
      have e48 : (48 : UInt8).toNat = 48 := rfl
      omega
    · obtain ⟨c, r, e, hc⟩ := ih (u / 10) (by omega) (by omega)
      rw [dif_neg h10, e]
      exact ⟨c, r ++ [UInt8.ofNat (48 + u % 10)], rfl, hc⟩

theorem dec_mul (u d : Nat) (hu : 0 < u) (hd : d < 10) : Lib.decDigits (10 * u + d) = Lib.decDigits u ++ [UInt8.ofNat (48 + d)] := by
  rw [Lib.decDigits, dif_neg (by omega), show (10 * u + d) / 10 = u by omega, show (10 * u + d) % 10 = d by omega]

theorem byte_of (c : UInt8) (d : Nat) (h : (c.toNat : Int) - 48 = d) : UInt8.ofNat (48 + d) = c := by
  apply UInt8.toNat_inj.1
  have := c.toNat_lt
  rw [UInt8.toNat_ofNat']; omega

theorem negRun_dig : ∀ (l : List UInt8) (u : Nat) (m : Int), 0 < u → negRun (-(u : Int)) l = some m → Lib.decDigits u ++ l = Lib.decDigits (-m).toNat ∧ m ≤ 0 ∧ (u ≤ 9223372036854775808 → -9223372036854775808 ≤ m)
  | [], u, m, hu, h => by
    simp only [negRun, Option.some.injEq] at h
    rw [← h, List.append_nil, show (- -(u : Int)).toNat = u by omega]
    exact ⟨rfl, by omega, fun _ => by omega⟩
  | c :: r, u, m, hu, h => by
    simp only [negRun] at h
    split at h
    · cases h
    · next h1 =>
      have hd : ∃ d : Nat, (c.toNat : Int) - 48 = d ∧ d < 10 := ⟨c.toNat - 48, by omega, by omega⟩
      obtain ⟨d, e, hd⟩ := hd
      rw [e] at h h1
      have e2 : 10 * -(u : Int) - (d : Int) = -((10 * u + d : Nat) : Int) := by omega
      rw [e2] at h
      obtain ⟨i1, i2, i3⟩ := negRun_dig r (10 * u + d) m (by omega) h
      rw [dec_mul u d hu hd, byte_of c d e] at i1
      refine ⟨by rw [← i1]; simp, i2, fun _ => i3 (by omega)⟩

theorem negRun_back (t : List UInt8) (m : Int) (h : negRun 0 t = some m) (hne : t ≠ []) (h0 : 1 < t.length → t.head? ≠ some 48) : t = Lib.decDigits (-m).toNat ∧ m ≤ 0 ∧ -9223372036854775808 ≤ m := by
  cases t with
  | nil => exact absurd rfl hne
  | cons c r =>
    simp only [negRun] at h
    split at h
    · cases h
    · next h1 =>
      have hd : ∃ d : Nat, (c.toNat : Int) - 48 = d ∧ d < 10 := ⟨c.toNat - 48, by omega, by omega⟩
      obtain ⟨d, e, hd⟩ := hd
      rw [e] at h
      have e2 : 10 * 0 - (d : Int) = -(d : Int) := by omega
      rw [e2] at h
      cases r with
      | nil =>
        simp only [negRun, Option.some.injEq] at h
        rw [← h, show (- -(d : Int)).toNat = d by omega, Lib.decDigits, dif_pos hd, byte_of c d e]
        exact ⟨rfl, by omega, by omega⟩
      | cons c2 r =>
        have hc : ¬ c = 48 := fun e48 => h0 (by simp) (by rw [e48]; rfl)
        have hd0 : 0 < d := by
          rcases Nat.eq_zero_or_pos d with hz | hz
          · exfalso
            apply hc
            apply UInt8.toNat_inj.1
            have e48 : (48 : UInt8).toNat = 48 := rfl
            omega
          · exact hz
        obtain ⟨i1, i2, i3⟩ := negRun_dig (c2 :: r) d m hd0 h
        have e3 : Lib.decDigits d = [c] := by rw [Lib.decDigits, dif_pos hd, byte_of c d e]
        rw [e3] at i1
        exact ⟨i1, i2, i3 (by omega)⟩

def isNeg (s : List UInt8) : Bool := decide (1 < s.length) && (s.head? == some 45)
def numT (s : List UInt8) : List UInt8 := if isNeg s = true then s.drop 1 else s
def numBad (s : List UInt8) : Bool := (numT s == []) || ((decide (1 < (numT s).length) && ((numT s).head? == some 48)) || (isNeg s && ((numT s).head? == some 48)))
/-- Number's answer; none: it is none. -/
def numR (s : List UInt8) : Option Int :=
  if numBad s = true then none
  else match negRun 0 (numT s) with
    | none => none
    | some n => if isNeg s = true then some n else if n = -9223372036854775808 then none else some (-n)

theorem numR_text {s : List UInt8} {n : Int} (h : numR s = some n) : Lib.itoa n = s ∧ In64 n := by
  unfold numR at h
  split at h
  · cases h
  · next hb =>
    cases hr : negRun 0 (numT s) with
    | none => rw [hr] at h; cases h
    | some m =>
      rw [hr] at h
      simp only [numBad, Bool.or_eq_true, Bool.and_eq_true, decide_eq_true_eq, beq_iff_eq, not_or, not_and] at hb
      obtain ⟨b1, b2, b3⟩ := hb
      obtain ⟨t1, t2, t3⟩ := negRun_back _ m hr b1 b2
      simp only at h
      split at h
      · next hn =>
        injection h with h
        subst h
        have hm : ¬ m = 0 := fun e => by
          have := b3 hn
          rw [t1, e] at this
          exact this (by decide +kernel)
        have ht : numT s = s.drop 1 := by rw [numT, if_pos hn]
        unfold Lib.itoa In64
        rw [if_pos (by omega), show m.natAbs = (-m).toNat by omega, ← t1, ht]
        refine ⟨?_, by omega, by omega⟩
        simp only [isNeg, Bool.and_eq_true, decide_eq_true_eq, beq_iff_eq] at hn
        cases s with
        | nil => simp at hn
        | cons c r =>
          have := hn.2
          simp at this
          rw [this]; rfl
      · next hn =>
        split at h
        · cases h
        · next hz =>
          injection h with h
          subst h
          have ht : numT s = s := by rw [numT, if_neg hn]
          unfold Lib.itoa In64
          rw [if_neg (by omega), ← t1, ht]
          exact ⟨rfl, by omega, by omega⟩

theorem numR_itoa (n : Int) (h : In64 n) : numR (Lib.itoa n) = some n := by
  unfold In64 at h
  unfold Lib.itoa
  by_cases hn : n < 0
  · rw [if_pos hn]
    obtain ⟨c, r, hcr, hc⟩ := dec_head n.natAbs (by omega)
    have hneg : isNeg (45 :: Lib.decDigits n.natAbs) = true := by
      rw [hcr]; simp [isNeg]
    have ht : numT (45 :: Lib.decDigits n.natAbs) = Lib.decDigits n.natAbs := by rw [numT, if_pos hneg]; rfl
    have hb : numBad (45 :: Lib.decDigits n.natAbs) = false := by
      rw [numBad, ht, hcr]
      simp [hc]
    rw [numR, if_neg (by rw [hb]; decide), ht, negRun_dec _ (by omega)]
    simp only [hneg, if_true, Option.some.injEq]
    omega
  · rw [if_neg hn]
    have hd := dec_digits n.toNat
    have hneg : isNeg (Lib.decDigits n.toNat) = false := by
      cases hq : Lib.decDigits n.toNat with
      | nil => rfl
      | cons c r =>
        have hc := hd c (by rw [hq]; exact List.mem_cons_self)
        simp only [isNeg, List.head?_cons, Bool.and_eq_false_iff]
        refine .inr ?_
        rw [beq_eq_false_iff_ne]
        intro e
        simp only [Option.some.injEq] at e
        subst e
        revert hc; decide
    have ht : numT (Lib.decDigits n.toNat) = Lib.decDigits n.toNat := by rw [numT, if_neg (by rw [hneg]; decide)]
    have hb : numBad (Lib.decDigits n.toNat) = false := by
      rw [numBad, ht, hneg]
      by_cases h0 : n.toNat = 0
      · rw [h0]; decide +kernel
      · obtain ⟨c, r, hcr, hc⟩ := dec_head n.toNat (by omega)
        rw [hcr]
        simp [hc]
    rw [numR, if_neg (by rw [hb]; decide), ht, negRun_dec _ (by omega)]
    simp only [hneg, Bool.false_eq_true, if_false]
    rw [if_neg (by omega)]
    congr 1; omega
end Go.Proofs.YtekcoddjdjllhaaDoor
