/- Data's bytes stand as data do, and none begin with others: plain laws. -/
import Derived.Test.YtekcoddjdjllhaaDoorPur
import Derived.Test.YtekcoddjdjllhaaDoorDatG
namespace Go.Proofs.YtekcoddjdjllhaaDoor
open Go.RowKit

theorem cb_cons (x : UInt8) (l m : List UInt8) : Go.Lib.compareBytes (x :: l) (x :: m) = Go.Lib.compareBytes l m := by
  have h : ¬ x < x := fun h => by have := UInt8.lt_iff_toNat_lt.1 h; omega
  simp only [Go.Lib.compareBytes]
  rw [if_neg h, if_neg h]

theorem be8_eq (n : Int) : be8 n = [byteAt n 0, byteAt n 1, byteAt n 2, byteAt n 3, byteAt n 4, byteAt n 5, byteAt n 6, byteAt n 7] := rfl

theorem be8_sum (n : Int) (h : In64 n) : top n = (byteAt n 0).toNat * 72057594037927936 + (byteAt n 1).toNat * 281474976710656 + (byteAt n 2).toNat * 1099511627776 + (byteAt n 3).toNat * 4294967296 + (byteAt n 4).toNat * 16777216 + (byteAt n 5).toNat * 65536 + (byteAt n 6).toNat * 256 + (byteAt n 7).toNat := by
  have a0 := pbyte0 n
  have a1 := pbyte1 n
  have a2 := pbyte2 n
  have a3 := pbyte3 n
  have a4 := pbyte4 n
  have a5 := pbyte5 n
  have a6 := pbyte6 n
  have a7 := pbyte7 n
  have hb := top_bd n h
  generalize top n = T at *
  have c0 : T / 72057594037927936 = ((byteAt n 0).toNat : Int) := by omega
  have c1 : T / 281474976710656 = 256 * (T / 72057594037927936) + ((byteAt n 1).toNat : Int) := by omega
  have c2 : T / 1099511627776 = 256 * (T / 281474976710656) + ((byteAt n 2).toNat : Int) := by omega
  have c3 : T / 4294967296 = 256 * (T / 1099511627776) + ((byteAt n 3).toNat : Int) := by omega
  have c4 : T / 16777216 = 256 * (T / 4294967296) + ((byteAt n 4).toNat : Int) := by omega
  have c5 : T / 65536 = 256 * (T / 16777216) + ((byteAt n 5).toNat : Int) := by omega
  have c6 : T / 256 = 256 * (T / 65536) + ((byteAt n 6).toNat : Int) := by omega
  have c7 : T = 256 * (T / 256) + ((byteAt n 7).toNat : Int) := by omega
  clear a0 a1 a2 a3 a4 a5 a6 a7 hb
  generalize T / 72057594037927936 = q0 at *
  generalize T / 281474976710656 = q1 at *
  generalize T / 1099511627776 = q2 at *
  generalize T / 4294967296 = q3 at *
  generalize T / 16777216 = q4 at *
  generalize T / 65536 = q5 at *
  generalize T / 256 = q6 at *
  omega

def foldB (l : List UInt8) : Nat := l.foldl (fun n b => n * 256 + b.toNat) 0
theorem foldl_from (l : List UInt8) : ∀ x : Nat, l.foldl (fun n b => n * 256 + b.toNat) x = x * 256 ^ l.length + foldB l := by
  induction l with
  | nil => intro x; simp [foldB]
  | cons b l ih =>
    intro x
    unfold foldB
    simp only [List.foldl_cons, List.length_cons]
    rw [ih, ih (0 * 256 + b.toNat), Nat.zero_mul, Nat.zero_add, Nat.add_mul, Nat.pow_succ, Nat.mul_assoc x 256, Nat.mul_comm 256, Nat.add_assoc]
theorem foldB_cons (b : UInt8) (l : List UInt8) : foldB (b :: l) = b.toNat * 256 ^ l.length + foldB l := by
  show (b :: l).foldl (fun n b => n * 256 + b.toNat) 0 = _
  rw [List.foldl_cons, foldl_from, Nat.zero_mul, Nat.zero_add]
theorem foldB_snoc (l : List UInt8) (b : UInt8) : foldB (l ++ [b]) = foldB l * 256 + b.toNat := by simp [foldB]
theorem foldB_lt (l : List UInt8) : foldB l < 256 ^ l.length := by
  induction l with
  | nil => simp [foldB]
  | cons b l ih =>
    rw [foldB_cons, List.length_cons, Nat.pow_succ]
    have := b.toNat_lt
    have h2 : (b.toNat + 1) * 256 ^ l.length ≤ 256 * 256 ^ l.length := Nat.mul_le_mul_right _ (by omega)
    rw [Nat.add_mul, Nat.one_mul] at h2
    rw [Nat.mul_comm (256 ^ l.length) 256]
    omega

theorem cb_fold : ∀ l m : List UInt8, l.length = m.length → Go.Lib.compareBytes l m = if foldB l < foldB m then -1 else if foldB m < foldB l then 1 else 0
  | [], [], _ => by simp [Go.Lib.compareBytes]
  | [], _ :: _, h => by simp at h
  | _ :: _, [], h => by simp at h
  | a :: l, b :: m, h => by
    have hl : l.length = m.length := by simpa using h
    have ih := cb_fold l m hl
    have la := foldB_lt l
    have lb := foldB_lt m
    rw [foldB_cons, foldB_cons]
    simp only [Go.Lib.compareBytes, UInt8.lt_iff_toNat_lt]
    rw [hl] at la ⊢
    generalize 256 ^ m.length = P at *
    generalize foldB l = A at *
    generalize foldB m = B at *
    generalize a.toNat = x at *
    generalize b.toNat = y at *
    by_cases h1 : x < y
    · have h2 : (x + 1) * P ≤ y * P := Nat.mul_le_mul_right _ h1
      rw [Nat.add_mul, Nat.one_mul] at h2
      rw [if_pos h1, if_pos (by omega)]
    · by_cases h2 : y < x
      · have h3 : (y + 1) * P ≤ x * P := Nat.mul_le_mul_right _ h2
        rw [Nat.add_mul, Nat.one_mul] at h3
        rw [if_neg h1, if_pos h2, if_neg (by omega), if_pos (by omega)]
      · obtain rfl : x = y := by omega
        rw [if_neg h1, if_neg h1, ih]
        by_cases h4 : A < B
        · rw [if_pos h4, if_pos (show x * P + A < x * P + B by omega)]
        · rw [if_neg h4, if_neg (show ¬ x * P + A < x * P + B by omega)]
          by_cases h5 : B < A
          · rw [if_pos h5, if_pos (show x * P + B < x * P + A by omega)]
          · rw [if_neg h5, if_neg (show ¬ x * P + B < x * P + A by omega)]

theorem foldB_be8 (n : Int) (h : In64 n) : (foldB (be8 n) : Int) = n + 9223372036854775808 := by
  have hs := be8_sum n h
  rw [be8_eq, foldB, List.foldl_cons, List.foldl_cons, List.foldl_cons, List.foldl_cons, List.foldl_cons, List.foldl_cons, List.foldl_cons, List.foldl_cons, List.foldl_nil]
  unfold top at hs
  generalize (byteAt n 0).toNat = p0 at *
  generalize (byteAt n 1).toNat = p1 at *
  generalize (byteAt n 2).toNat = p2 at *
  generalize (byteAt n 3).toNat = p3 at *
  generalize (byteAt n 4).toNat = p4 at *
  generalize (byteAt n 5).toNat = p5 at *
  generalize (byteAt n 6).toNat = p6 at *
  generalize (byteAt n 7).toNat = p7 at *
  omega

theorem be8_cmp (n m : Int) (h : In64 n) (h' : In64 m) : Go.Lib.compareBytes (be8 n) (be8 m) = if n < m then -1 else if m < n then 1 else 0 := by
  rw [cb_fold _ _ (by rw [be8_length, be8_length])]
  have h1 := foldB_be8 n h
  have h2 := foldB_be8 m h'
  by_cases h3 : n < m
  · rw [if_pos h3, if_pos (by omega)]
  · rw [if_neg h3, if_neg (by omega)]
    by_cases h4 : m < n
    · rw [if_pos h4, if_pos (by omega)]
    · rw [if_neg h4, if_neg (by omega)]

theorem be8_inj {n m : Int} (h : In64 n) (h' : In64 m) (e : be8 n = be8 m) : n = m := by
  have := be8_cmp n m h h'
  rw [e, (compareBytes_zero _ _).2 rfl] at this
  split at this
  · omega
  · split at this <;> omega

theorem esc_cmp : ∀ s t : List UInt8, Go.Lib.compareBytes (esc s ++ [0, 0]) (esc t ++ [0, 0]) = Go.Lib.compareBytes s t
  | [], [] => by decide
  | [], c :: t => by
    by_cases hc : c = 0
    · subst hc; simp [esc, Go.Lib.compareBytes]
    · have : (0 : UInt8) < c := by
        rw [UInt8.lt_iff_toNat_lt]
        have : c.toNat ≠ 0 := fun e => hc (UInt8.toNat_inj.1 e)
        show 0 < c.toNat
        omega
      simp [esc, hc, Go.Lib.compareBytes, this]
  | c :: s, [] => by
    by_cases hc : c = 0
    · subst hc; simp [esc, Go.Lib.compareBytes]
    · have : (0 : UInt8) < c := by
        rw [UInt8.lt_iff_toNat_lt]
        have : c.toNat ≠ 0 := fun e => hc (UInt8.toNat_inj.1 e)
        show 0 < c.toNat
        omega
      have h2 : ¬ c < 0 := by rw [UInt8.lt_iff_toNat_lt]; show ¬ c.toNat < 0; omega
      simp [esc, hc, Go.Lib.compareBytes, this, h2]
  | c :: s, d :: t => by
    have ih := esc_cmp s t
    by_cases e : c = d
    · subst e
      rw [cb_cons]
      by_cases hc : c = 0
      · simp only [esc, hc, if_true, List.cons_append, List.nil_append, cb_cons]; exact ih
      · simp only [esc, hc, if_false, List.cons_append, List.nil_append, cb_cons]; exact ih
    · have hz : ∀ b : UInt8, ¬ b = 0 → (0 : UInt8) < b ∧ ¬ b < 0 := fun b hb => by
        rw [UInt8.lt_iff_toNat_lt, UInt8.lt_iff_toNat_lt]
        have : b.toNat ≠ 0 := fun e => hb (UInt8.toNat_inj.1 e)
        constructor
        · show 0 < b.toNat; omega
        · show ¬ b.toNat < 0; omega
      by_cases hc : c = 0
      · subst hc
        have hd : ¬ d = 0 := fun h => e h.symm
        simp [esc, hd, Go.Lib.compareBytes, hz d hd]
      · by_cases hd : d = 0
        · subst hd
          simp [esc, hc, Go.Lib.compareBytes, hz c hc]
        · have ht : c < d ∨ d < c := by
            rw [UInt8.lt_iff_toNat_lt, UInt8.lt_iff_toNat_lt]
            have : c.toNat ≠ d.toNat := fun h => e (UInt8.toNat_inj.1 h)
            omega
          have hn : ¬ (c < d ∧ d < c) := by rw [UInt8.lt_iff_toNat_lt, UInt8.lt_iff_toNat_lt]; omega
          rcases ht with ht | ht
          · simp [esc, hc, hd, Go.Lib.compareBytes, ht]
          · have : ¬ c < d := fun h => hn ⟨h, ht⟩
            simp [esc, hc, hd, Go.Lib.compareBytes, ht, this]

theorem esc_inj : ∀ (s t r r' : List UInt8), esc s ++ 0 :: 0 :: r = esc t ++ 0 :: 0 :: r' → s = t
  | [], [], _, _, _ => rfl
  | [], c :: t, r, r', h => by
    exfalso
    by_cases hc : c = 0
    · subst hc; simp [esc] at h
    · simp [esc, hc] at h; exact hc h.1.symm
  | c :: s, [], r, r', h => by
    exfalso
    by_cases hc : c = 0
    · subst hc; simp [esc] at h
    · simp [esc, hc] at h
  | c :: s, d :: t, r, r', h => by
    by_cases hc : c = 0
    · subst hc
      by_cases hd : d = 0
      · subst hd
        simp only [esc, if_true, List.cons_append, List.nil_append, List.cons.injEq, true_and] at h
        rw [esc_inj s t r r' h]
      · simp [esc, hd] at h; exact absurd h.1.symm hd
    · by_cases hd : d = 0
      · subst hd; simp [esc, hc] at h
      · simp only [esc, hc, hd, if_false, List.cons_append, List.nil_append, List.cons.injEq] at h
        rw [h.1, esc_inj s t r r' h.2]

/-- Are bytes what others begin with? -/
def begB (s t : List UInt8) : Bool := decide (s.length ≤ t.length) && (t.take s.length == s)

theorem simple_parts {k n : Int} {s : ByteArray} {l : Nat} (h : simpleB k n s l = true) : (k = 1 ∧ s = ⟨#[]⟩) ∨ (k = 2 ∧ n = 0) := by
  simp only [simpleB, Bool.and_eq_true, Bool.or_eq_true, decide_eq_true_eq, List.isEmpty_iff] at h
  rcases h.2 with h | h
  · exact .inl ⟨h.1, isEmpty_of h.2⟩
  · exact .inr ⟨h.1.1, h.1.2⟩

theorem enc1_cmp {k n k' n' : Int} {s s' : ByteArray} {l l' : Nat} (h : simpleB k n s l = true) (h' : simpleB k' n' s' l' = true) (hn : In64 n) (hn' : In64 n') :
    Go.Lib.compareBytes (enc1 k n s) (enc1 k' n' s') = ordB k n s k' n' s' := by
  have h21 : ¬ (2 : UInt8) < 1 := by decide
  have h12 : (1 : UInt8) < 2 := by decide
  rcases simple_parts h with ⟨rfl, rfl⟩ | ⟨rfl, rfl⟩
  · rcases simple_parts h' with ⟨rfl, rfl⟩ | ⟨rfl, rfl⟩
    · simp only [enc1, if_true, List.cons_append, List.nil_append, cb_cons, be8_cmp n n' hn hn', ordB, ne_eq, not_true_eq_false, if_false]
      rfl
    · simp [enc1, ordB, Go.Lib.compareBytes, h12]
  · rcases simple_parts h' with ⟨rfl, rfl⟩ | ⟨rfl, rfl⟩
    · simp [enc1, ordB, Go.Lib.compareBytes, h12, h21]
    · have h21' : ¬ (2 : Int) = 1 := by decide
      simp only [enc1, h21', if_false, List.cons_append, List.nil_append, List.append_assoc, cb_cons, ordB, ne_eq, not_true_eq_false]
      rw [esc_cmp]
      simp

theorem enc1_inj {k n k' n' : Int} {s s' : ByteArray} {l l' : Nat} (h : simpleB k n s l = true) (h' : simpleB k' n' s' l' = true) (hn : In64 n) (hn' : In64 n')
    (r r' : List UInt8) (e : enc1 k n s ++ r = enc1 k' n' s' ++ r') : k = k' ∧ n = n' ∧ s.data.toList = s'.data.toList := by
  have h21' : ¬ (2 : Int) = 1 := by decide
  rcases simple_parts h with ⟨rfl, rfl⟩ | ⟨rfl, rfl⟩
  · rcases simple_parts h' with ⟨rfl, rfl⟩ | ⟨rfl, rfl⟩
    · simp only [enc1, if_true, List.cons_append, List.nil_append, List.cons.injEq, true_and] at e
      have := List.append_inj_left e (by rw [be8_length, be8_length])
      exact ⟨rfl, be8_inj hn hn' this, rfl⟩
    · simp [enc1] at e
  · rcases simple_parts h' with ⟨rfl, rfl⟩ | ⟨rfl, rfl⟩
    · simp [enc1] at e
    · simp only [enc1, h21', if_false, List.cons_append, List.nil_append, List.append_assoc, List.cons.injEq, true_and] at e
      exact ⟨rfl, rfl, esc_inj _ _ _ _ e⟩

theorem begB_iff (s t : List UInt8) : begB s t = true ↔ ∃ r, t = s ++ r := by
  unfold begB
  rw [Bool.and_eq_true, decide_eq_true_eq, beq_iff_eq]
  constructor
  · intro h
    exact ⟨t.drop s.length, by have e := List.take_append_drop s.length t; rw [h.2] at e; exact e.symm⟩
  · rintro ⟨r, rfl⟩
    exact ⟨by simp, by simp⟩

/-- The law: bytes stand as data do; one begins with the other just where they are the same. -/
theorem stands_pure (x y : Da) (hx : In64 x.n) (hy : In64 y.n) (h : cE x y = 0) :
    cV x y = Go.Lib.compareBytes x.enc y.enc ∧ begB x.enc y.enc = decide (cV x y = 0) := by
  obtain ⟨mx, my, kx, ky⟩ := cE_zero h
  have sx : simpleB x.k x.n x.s x.l.length = true := by simpa [Da.may, kx] using mx
  have sy : simpleB y.k y.n y.s y.l.length = true := by simpa [Da.may, ky] using my
  simp only [Da.enc, kx, ky, if_false, cV, h, if_true]
  refine ⟨(enc1_cmp sx sy hx hy).symm, ?_⟩
  by_cases hz : ordB x.k x.n x.s y.k y.n y.s = 0
  · rw [decide_eq_true hz]
    obtain ⟨ek, en, es⟩ := (ordB_zero _ _ _ _ _ _).1 hz
    rw [begB_iff]
    refine ⟨[], ?_⟩
    rw [List.append_nil]
    simp only [enc1, ek, en, es]
  · rw [decide_eq_false hz]
    rw [Bool.eq_false_iff]
    intro hb
    obtain ⟨r, hr⟩ := (begB_iff _ _).1 hb
    exact hz ((ordB_zero _ _ _ _ _ _).2 (enc1_inj sx sy hx hy r [] (by rw [hr, List.append_nil])))
end Go.Proofs.YtekcoddjdjllhaaDoor
