/- Data's bytes stand as data do, and none begin with others: plain laws. Reading bytes, plainly: what decode and the reference's one compute; what data's bytes are read as. Texts read back: plain laws. Data by their bytes: the same, below, above: plain laws for predicates. -/
import Derived.Test.YtdjlbfepddcmeaaGreatDoorQ03
import Derived.Test.YtdjlbfepddcmeaaGreatDoorQ02
import Derived.Test.YtdjlbfepddcmeaaGreatDoorQ11
import Derived.Lib.AtoiAllCases
import Derived.Test.YtdjlbfepddcmeaaGreatDoorQ06
set_option linter.unusedVariables false
set_option linter.unusedSimpArgs false
namespace Go.Proofs.YtdjlbfepddcmeaaGreatDoor
open Go.RowKit

theorem cb_cons (x : UInt8) (l m : List UInt8) : Go.Lib.compareBytes (x :: l) (x :: m) = Go.Lib.compareBytes l m := by
  have h : ¬ x < x := fun h => by have := UInt8.lt_iff_toNat_lt.1 h; omega
  simp only [Go.Lib.compareBytes]
  rw [if_neg h, if_neg h]

theorem be8_eq (n : Int) : be8 n = [byteAt n 0, byteAt n 1, byteAt n 2, byteAt n 3, byteAt n 4, byteAt n 5, byteAt n 6, byteAt n 7] := rfl

theorem be8_sum (n : Int) (h : In64 n) : top n = (byteAt n 0).toNat * 72057594037927936 + (byteAt n 1).toNat * 281474976710656 + (byteAt n 2).toNat * 1099511627776 + (byteAt n 3).toNat * 4294967296 + (byteAt n 4).toNat * 16777216 + (byteAt n 5).toNat * 65536 + (byteAt n 6).toNat * 256 + (byteAt n 7).toNat := by
  have a0 := pbyte0 n
  have a1 := pbyte1 n
  have a2 := pbyte2 n
  have a3 := pbyte3 n
  have a4 := pbyte4 n
  have a5 := pbyte5 n
  have a6 := pbyte6 n
  have a7 := pbyte7 n
  have hb := top_bd n h
  generalize top n = T at *
  have c0 : T / 72057594037927936 = ((byteAt n 0).toNat : Int) := by omega
  have c1 : T / 281474976710656 = 256 * (T / 72057594037927936) + ((byteAt n 1).toNat : Int) := by omega
  have c2 : T / 1099511627776 = 256 * (T / 281474976710656) + ((byteAt n 2).toNat : Int) := by omega
  have c3 : T / 4294967296 = 256 * (T / 1099511627776) + ((byteAt n 3).toNat : Int) := by omega
  have c4 : T / 16777216 = 256 * (T / 4294967296) + ((byteAt n 4).toNat : Int) := by omega
  have c5 : T / 65536 = 256 * (T / 16777216) + ((byteAt n 5).toNat : Int) := by omega
  have c6 : T / 256 = 256 * (T / 65536) + ((byteAt n 6).toNat : Int) := by omega
  have c7 : T = 256 * (T / 256) + ((byteAt n 7).toNat : Int) := by omega
  clear a0 a1 a2 a3 a4 a5 a6 a7 hb
  generalize T / 72057594037927936 = q0 at *
  generalize T / 281474976710656 = q1 at *
  generalize T / 1099511627776 = q2 at *
  generalize T / 4294967296 = q3 at *
  generalize T / 16777216 = q4 at *
  generalize T / 65536 = q5 at *
  generalize T / 256 = q6 at *
  omega

def foldB (l : List UInt8) : Nat := l.foldl (fun n b => n * 256 + b.toNat) 0
theorem foldl_from (l : List UInt8) : ∀ x : Nat, l.foldl (fun n b => n * 256 + b.toNat) x = x * 256 ^ l.length + foldB l := by
  induction l with
  | nil => intro x; simp [foldB]
  | cons b l ih =>
    intro x
    unfold foldB
    simp only [List.foldl_cons, List.length_cons]
    rw [ih, ih (0 * 256 + b.toNat), Nat.zero_mul, Nat.zero_add, Nat.add_mul, Nat.pow_succ, Nat.mul_assoc x 256, Nat.mul_comm 256, Nat.add_assoc]
theorem foldB_cons (b : UInt8) (l : List UInt8) : foldB (b :: l) = b.toNat * 256 ^ l.length + foldB l := by
  show (b :: l).foldl (fun n b => n * 256 + b.toNat) 0 = _
  rw [List.foldl_cons, foldl_from, Nat.zero_mul, Nat.zero_add]
theorem foldB_snoc (l : List UInt8) (b : UInt8) : foldB (l ++ [b]) = foldB l * 256 + b.toNat := by simp [foldB]
theorem foldB_lt (l : List UInt8) : foldB l < 256 ^ l.length := by
  induction l with
  | nil => simp [foldB]
  | cons b l ih =>
    rw [foldB_cons, List.length_cons, Nat.pow_succ]
    have := b.toNat_lt
    have h2 : (b.toNat + 1) * 256 ^ l.length ≤ 256 * 256 ^ l.length := Nat.mul_le_mul_right _ (by omega)
    rw [Nat.add_mul, Nat.one_mul] at h2
    rw [Nat.mul_comm (256 ^ l.length) 256]
    omega

theorem cb_fold : ∀ l m : List UInt8, l.length = m.length → Go.Lib.compareBytes l m = if foldB l < foldB m then -1 else if foldB m < foldB l then 1 else 0
  | [], [], _ => by simp [Go.Lib.compareBytes]
  | [], _ :: _, h => by simp at h
  | _ :: _, [], h => by simp at h
  | a :: l, b :: m, h => by
    have hl : l.length = m.length := by simpa using h
    have ih := cb_fold l m hl
    have la := foldB_lt l
    have lb := foldB_lt m
    rw [foldB_cons, foldB_cons]
    simp only [Go.Lib.compareBytes, UInt8.lt_iff_toNat_lt]
    rw [hl] at la ⊢
    generalize 256 ^ m.length = P at *
    generalize foldB l = A at *
    generalize foldB m = B at *
    generalize a.toNat = x at *
    generalize b.toNat = y at *
    by_cases h1 : x < y
    · have h2 : (x + 1) * P ≤ y * P := Nat.mul_le_mul_right _ h1
      rw [Nat.add_mul, Nat.one_mul] at h2
      rw [if_pos h1, if_pos (by omega)]
    · by_cases h2 : y < x
      · have h3 : (y + 1) * P ≤ x * P := Nat.mul_le_mul_right _ h2
        rw [Nat.add_mul, Nat.one_mul] at h3
        rw [if_neg h1, if_pos h2, if_neg (by omega), if_pos (by omega)]
      · obtain rfl : x = y := by omega
        rw [if_neg h1, if_neg h1, ih]
        by_cases h4 : A < B
        · rw [if_pos h4, if_pos (show x * P + A < x * P + B by omega)]
        · rw [if_neg h4, if_neg (show ¬ x * P + A < x * P + B by omega)]
          by_cases h5 : B < A
          · rw [if_pos h5, if_pos (show x * P + B < x * P + A by omega)]
          · rw [if_neg h5, if_neg (show ¬ x * P + B < x * P + A by omega)]

theorem foldB_be8 (n : Int) (h : In64 n) : (foldB (be8 n) : Int) = n + 9223372036854775808 := by
  have hs := be8_sum n h
  rw [be8_eq, foldB, List.foldl_cons, List.foldl_cons, List.foldl_cons, List.foldl_cons, List.foldl_cons, List.foldl_cons, List.foldl_cons, List.foldl_cons, List.foldl_nil]
  unfold top at hs
  generalize (byteAt n 0).toNat = p0 at *
  generalize (byteAt n 1).toNat = p1 at *
  generalize (byteAt n 2).toNat = p2 at *
  generalize (byteAt n 3).toNat = p3 at *
  generalize (byteAt n 4).toNat = p4 at *
  generalize (byteAt n 5).toNat = p5 at *
  generalize (byteAt n 6).toNat = p6 at *
  generalize (byteAt n 7).toNat = p7 at *
  omega

theorem be8_cmp (n m : Int) (h : In64 n) (h' : In64 m) : Go.Lib.compareBytes (be8 n) (be8 m) = if n < m then -1 else if m < n then 1 else 0 := by
  rw [cb_fold _ _ (by rw [be8_length, be8_length])]
  have h1 := foldB_be8 n h
  have h2 := foldB_be8 m h'
  by_cases h3 : n < m
  · rw [if_pos h3, if_pos (by omega)]
  · rw [if_neg h3, if_neg (by omega)]
    by_cases h4 : m < n
    · rw [if_pos h4, if_pos (by omega)]
    · rw [if_neg h4, if_neg (by omega)]

theorem be8_inj {n m : Int} (h : In64 n) (h' : In64 m) (e : be8 n = be8 m) : n = m := by
  have := be8_cmp n m h h'
  rw [e, (compareBytes_zero _ _).2 rfl] at this
  split at this
  · omega
  · split at this <;> omega

theorem esc_cmp : ∀ s t : List UInt8, Go.Lib.compareBytes (esc s ++ [0, 0]) (esc t ++ [0, 0]) = Go.Lib.compareBytes s t
  | [], [] => by decide
  | [], c :: t => by
    by_cases hc : c = 0
    · subst hc; simp [esc, Go.Lib.compareBytes]
    · have : (0 : UInt8) < c := by
        rw [UInt8.lt_iff_toNat_lt]
        have : c.toNat ≠ 0 := fun e => hc (UInt8.toNat_inj.1 e)
        show 0 < c.toNat
        omega
      simp [esc, hc, Go.Lib.compareBytes, this]
  | c :: s, [] => by
    by_cases hc : c = 0
    · subst hc; simp [esc, Go.Lib.compareBytes]
    · have : (0 : UInt8) < c := by
        rw [UInt8.lt_iff_toNat_lt]
        have : c.toNat ≠ 0 := fun e => hc (UInt8.toNat_inj.1 e)
        show 0 < c.toNat
        omega
      have h2 : ¬ c < 0 := by rw [UInt8.lt_iff_toNat_lt]; show ¬ c.toNat < 0; omega
      simp [esc, hc, Go.Lib.compareBytes, this, h2]
  | c :: s, d :: t => by
    have ih := esc_cmp s t
    by_cases e : c = d
    · subst e
      rw [cb_cons]
      by_cases hc : c = 0
      · simp only [esc, hc, if_true, List.cons_append, List.nil_append, cb_cons]; exact ih
      · simp only [esc, hc, if_false, List.cons_append, List.nil_append, cb_cons]; exact ih
    · have hz : ∀ b : UInt8, ¬ b = 0 → (0 : UInt8) < b ∧ ¬ b < 0 := fun b hb => by
        rw [UInt8.lt_iff_toNat_lt, UInt8.lt_iff_toNat_lt]
        have : b.toNat ≠ 0 := fun e => hb (UInt8.toNat_inj.1 e)
        constructor
        · show 0 < b.toNat; omega
        · show ¬ b.toNat < 0; omega
      by_cases hc : c = 0
      · subst hc
        have hd : ¬ d = 0 := fun h => e h.symm
        simp [esc, hd, Go.Lib.compareBytes, hz d hd]
      · by_cases hd : d = 0
        · subst hd
          simp [esc, hc, Go.Lib.compareBytes, hz c hc]
        · have ht : c < d ∨ d < c := by
            rw [UInt8.lt_iff_toNat_lt, UInt8.lt_iff_toNat_lt]
            have : c.toNat ≠ d.toNat := fun h => e (UInt8.toNat_inj.1 h)
            omega
          have hn : ¬ (c < d ∧ d < c) := by rw [UInt8.lt_iff_toNat_lt, UInt8.lt_iff_toNat_lt]; omega
          rcases ht with ht | ht
          · simp [esc, hc, hd, Go.Lib.compareBytes, ht]
          · have : ¬ c < d := fun h => hn ⟨h, ht⟩
            simp [esc, hc, hd, Go.Lib.compareBytes, ht, this]

theorem esc_inj : ∀ (s t r r' : List UInt8), esc s ++ 0 :: 0 :: r = esc t ++ 0 :: 0 :: r' → s = t
  | [], [], _, _, _ => rfl
  | [], c :: t, r, r', h => by
    exfalso
    by_cases hc : c = 0
    · subst hc; simp [esc] at h
    · simp [esc, hc] at h; exact hc h.1.symm
  | c :: s, [], r, r', h => by
    exfalso
    by_cases hc : c = 0
    · subst hc; simp [esc] at h
    · simp [esc, hc] at h
  | c :: s, d :: t, r, r', h => by
    by_cases hc : c = 0
    · subst hc
      by_cases hd : d = 0
      · subst hd
        simp only [esc, if_true, List.cons_append, List.nil_append, List.cons.injEq, true_and] at h
        rw [esc_inj s t r r' h]
      · simp [esc, hd] at h; exact absurd h.1.symm hd
    · by_cases hd : d = 0
      · subst hd; simp [esc, hc] at h
      · simp only [esc, hc, hd, if_false, List.cons_append, List.nil_append, List.cons.injEq] at h
        rw [h.1, esc_inj s t r r' h.2]

/-- Are bytes what others begin with? -/
def begB (s t : List UInt8) : Bool := decide (s.length ≤ t.length) && (t.take s.length == s)

theorem simple_parts {k n : Int} {s : ByteArray} {l : Nat} (h : simpleB k n s l = true) : (k = 1 ∧ s = ⟨#[]⟩) ∨ (k = 2 ∧ n = 0) := by
  simp only [simpleB, Bool.and_eq_true, Bool.or_eq_true, decide_eq_true_eq, List.isEmpty_iff] at h
  rcases h.2 with h | h
  · exact .inl ⟨h.1, isEmpty_of h.2⟩
  · exact .inr ⟨h.1.1, h.1.2⟩

theorem enc1_cmp {k n k' n' : Int} {s s' : ByteArray} {l l' : Nat} (h : simpleB k n s l = true) (h' : simpleB k' n' s' l' = true) (hn : In64 n) (hn' : In64 n') :
    Go.Lib.compareBytes (enc1 k n s) (enc1 k' n' s') = ordB k n s k' n' s' := by
  have h21 : ¬ (2 : UInt8) < 1 := by decide
  have h12 : (1 : UInt8) < 2 := by decide
  rcases simple_parts h with ⟨rfl, rfl⟩ | ⟨rfl, rfl⟩
  · rcases simple_parts h' with ⟨rfl, rfl⟩ | ⟨rfl, rfl⟩
    · simp only [enc1, if_true, List.cons_append, List.nil_append, cb_cons, be8_cmp n n' hn hn', ordB, ne_eq, not_true_eq_false, if_false]
      rfl
    · simp [enc1, ordB, Go.Lib.compareBytes, h12]
  · rcases simple_parts h' with ⟨rfl, rfl⟩ | ⟨rfl, rfl⟩
    · simp [enc1, ordB, Go.Lib.compareBytes, h12, h21]
    · have h21' : ¬ (2 : Int) = 1 := by decide
      simp only [enc1, h21', if_false, List.cons_append, List.nil_append, List.append_assoc, cb_cons, ordB, ne_eq, not_true_eq_false]
      rw [esc_cmp]
      simp

theorem enc1_inj {k n k' n' : Int} {s s' : ByteArray} {l l' : Nat} (h : simpleB k n s l = true) (h' : simpleB k' n' s' l' = true) (hn : In64 n) (hn' : In64 n')
    (r r' : List UInt8) (e : enc1 k n s ++ r = enc1 k' n' s' ++ r') : k = k' ∧ n = n' ∧ s.data.toList = s'.data.toList := by
  have h21' : ¬ (2 : Int) = 1 := by decide
  rcases simple_parts h with ⟨rfl, rfl⟩ | ⟨rfl, rfl⟩
  · rcases simple_parts h' with ⟨rfl, rfl⟩ | ⟨rfl, rfl⟩
    · simp only [enc1, if_true, List.cons_append, List.nil_append, List.cons.injEq, true_and] at e
      have := List.append_inj_left e (by rw [be8_length, be8_length])
      exact ⟨rfl, be8_inj hn hn' this, rfl⟩
    · simp [enc1] at e
  · rcases simple_parts h' with ⟨rfl, rfl⟩ | ⟨rfl, rfl⟩
    · simp [enc1] at e
    · simp only [enc1, h21', if_false, List.cons_append, List.nil_append, List.append_assoc, List.cons.injEq, true_and] at e
      exact ⟨rfl, rfl, esc_inj _ _ _ _ e⟩

theorem begB_iff (s t : List UInt8) : begB s t = true ↔ ∃ r, t = s ++ r := by
  unfold begB
  rw [Bool.and_eq_true, decide_eq_true_eq, beq_iff_eq]
  constructor
  · intro h
    exact ⟨t.drop s.length, by have e := List.take_append_drop s.length t; rw [h.2] at e; exact e.symm⟩
  · rintro ⟨r, rfl⟩
    exact ⟨by simp, by simp⟩

/-- The law: bytes stand as data do; one begins with the other just where they are the same. -/
theorem stands_pure (x y : Da) (hx : In64 x.n) (hy : In64 y.n) (h : cE x y = 0) :
    cV x y = Go.Lib.compareBytes x.enc y.enc ∧ begB x.enc y.enc = decide (cV x y = 0) := by
  obtain ⟨mx, my, kx, ky⟩ := cE_zero h
  have sx : simpleB x.k x.n x.s x.l.length = true := by simpa [Da.may, kx] using mx
  have sy : simpleB y.k y.n y.s y.l.length = true := by simpa [Da.may, ky] using my
  simp only [Da.enc, kx, ky, if_false, cV, h, if_true]
  refine ⟨(enc1_cmp sx sy hx hy).symm, ?_⟩
  by_cases hz : ordB x.k x.n x.s y.k y.n y.s = 0
  · rw [decide_eq_true hz]
    obtain ⟨ek, en, es⟩ := (ordB_zero _ _ _ _ _ _).1 hz
    rw [begB_iff]
    refine ⟨[], ?_⟩
    rw [List.append_nil]
    simp only [enc1, ek, en, es]
  · rw [decide_eq_false hz]
    rw [Bool.eq_false_iff]
    intro hb
    obtain ⟨r, hr⟩ := (begB_iff _ _).1 hb
    exact hz ((ordB_zero _ _ _ _ _ _).2 (enc1_inj sx sy hx hy r [] (by rw [hr, List.append_nil])))
end Go.Proofs.YtdjlbfepddcmeaaGreatDoor

namespace Go.Proofs.YtdjlbfepddcmeaaGreatDoor
open Go.RowKit

/-- A text's bytes, read: as far as it goes, and what is behind it; none: it does not end. -/
def scan (out : List UInt8) : List UInt8 → List UInt8 × Option (List UInt8)
  | c :: d :: r =>
    if c = 0 then
      if d = 0 then (out, some r)
      else if d = 255 then scan (out ++ [0]) r
      else (out, none)
    else scan (out ++ [c]) (d :: r)
  | _ => (out, none)
  termination_by l => l.length

theorem scan_nil (out : List UInt8) : scan out [] = (out, none) := by rw [scan]; simp
theorem scan_one (out : List UInt8) (c : UInt8) : scan out [c] = (out, none) := by rw [scan]; simp
theorem scan_two (out : List UInt8) (c d : UInt8) (r : List UInt8) : scan out (c :: d :: r) =
    if c = 0 then if d = 0 then (out, some r) else if d = 255 then scan (out ++ [0]) r else (out, none) else scan (out ++ [c]) (d :: r) := by rw [scan]

theorem scan_short : ∀ (n : Nat) (l : List UInt8), l.length ≤ n → ∀ out, out.length ≤ (scan out l).1.length ∧ (scan out l).1.length ≤ out.length + l.length
  | _, [], _, out => by rw [scan_nil]; simp
  | _, [c], _, out => by rw [scan_one]; simp
  | 0, _ :: _ :: _, h, _ => by simp at h
  | n + 1, c :: d :: r, h, out => by
    rw [scan_two]
    simp only [List.length_cons] at h ⊢
    split
    · split
      · simp
      · split
        · have := scan_short n r (by omega) (out ++ [0])
          simp only [List.length_append, List.length_singleton] at this
          omega
        · simp
    · have := scan_short n (d :: r) (by simp; omega) (out ++ [c])
      simp only [List.length_append, List.length_cons, List.length_nil] at this
      omega

theorem scan_rest : ∀ (n : Nat) (l : List UInt8), l.length ≤ n → ∀ out r', (scan out l).2 = some r' → ∃ k, k + 2 ≤ l.length ∧ r' = l.drop (k + 2)
  | _, [], _, out, r', h => by rw [scan_nil] at h; simp at h
  | _, [c], _, out, r', h => by rw [scan_one] at h; simp at h
  | 0, _ :: _ :: _, h, _, _, _ => by simp at h
  | n + 1, c :: d :: r, hl, out, r', h => by
    rw [scan_two] at h
    simp only [List.length_cons] at hl ⊢
    split at h
    · split at h
      · simp at h; exact ⟨0, by omega, by simp [h]⟩
      · split at h
        · obtain ⟨k, hk, e⟩ := scan_rest n r (by omega) _ _ h
          exact ⟨k + 2, by omega, by rw [e]; rfl⟩
        · simp at h
    · obtain ⟨k, hk, e⟩ := scan_rest n (d :: r) (by simp; omega) _ _ h
      simp only [List.length_cons] at hk
      exact ⟨k + 1, by omega, by rw [e]; rfl⟩

theorem scan_esc : ∀ (t out r : List UInt8), scan out (esc t ++ 0 :: 0 :: r) = (out ++ t, some r)
  | [], out, r => by simp [esc, scan_two]
  | c :: t, out, r => by
    by_cases hc : c = 0
    · subst hc
      have := scan_esc t (out ++ [0]) r
      simp only [esc, if_true, List.cons_append, List.nil_append]
      rw [scan_two, if_pos rfl, if_neg (by decide), if_pos rfl, this]
      simp
    · have := scan_esc t (out ++ [c]) r
      simp only [esc, hc, if_false, List.cons_append, List.nil_append]
      cases he : esc t ++ 0 :: 0 :: r with
      | nil => simp at he
      | cons d r' =>
        rw [scan_two, if_neg hc, ← he, this]
        simp

/-- Eight bytes as a number. -/
def unbe (l : List UInt8) : Int := (foldB l : Int) - 9223372036854775808
theorem unbe_be8 (n : Int) (h : In64 n) : unbe (be8 n) = n := by
  rw [unbe, foldB_be8 n h]; omega

/-- What is no list, read: it and what is behind. -/
def one1 : List UInt8 → Option (It × List UInt8)
  | [] => none
  | c :: r =>
    if c = 1 then if 8 ≤ r.length then some (⟨1, unbe (r.take 8), ⟨#[]⟩, 0⟩, r.drop 8) else none
    else if c = 2 then
      match (scan [] r).2 with
      | some r' => if (scan [] r).1.length ≤ 32 then some (⟨2, 0, toBA (scan [] r).1, 0⟩, r') else none
      | none => none
    else none

theorem one1_enc {k n : Int} {s : ByteArray} {l : Nat} (h : simpleB k n s l = true) (hn : In64 n) (r : List UInt8) : one1 (enc1 k n s ++ r) = some (⟨k, n, s, 0⟩, r) := by
  rcases simple_parts h with ⟨rfl, rfl⟩ | ⟨rfl, rfl⟩
  · have h8 := be8_length n
    simp only [enc1, if_true, List.cons_append, List.nil_append, one1]
    rw [if_pos (by simp [h8]), ← h8, List.take_left' rfl, List.drop_left' rfl, unbe_be8 n hn]
  · have hs : s.size ≤ 32 := by
      rcases simple_kinds h with h | h
      · omega
      · exact h.2
    have h21 : ¬ (2 : Int) = 1 := by decide
    simp only [enc1, h21, if_false, List.cons_append, List.nil_append, one1, List.append_assoc, scan_esc]
    have hl : s.data.toList.length = s.size := by simp
    rw [if_neg (by decide)]
    simp only [if_true]
    rw [if_pos (by omega)]
    simp [toBA]

def decN : Nat → List It → List UInt8 → Option (List It × List UInt8)
  | 0, acc, l => some (acc, l)
  | k + 1, acc, l => match one1 l with
    | some (x, r) => decN k (acc ++ [x]) r
    | none => none

theorem decN_enc : ∀ (L : List It) (acc : List It) (r : List UInt8), (∀ x ∈ L, x.may = true ∧ In64 x.n ∧ x.ln = 0) → decN L.length acc (L.flatMap It.enc ++ r) = some (acc ++ L, r)
  | [], acc, r, _ => by simp [decN]
  | x :: L, acc, r, h => by
    obtain ⟨h1, h2, h3⟩ := h x List.mem_cons_self
    have ih := decN_enc L (acc ++ [x]) r (fun y hy => h y (List.mem_cons_of_mem _ hy))
    simp only [List.length_cons, decN, List.flatMap_cons, List.append_assoc]
    have e : one1 (x.enc ++ (L.flatMap It.enc ++ r)) = some (x, L.flatMap It.enc ++ r) := by
      rw [It.enc, one1_enc h1 h2, ← h3]
    rw [e]
    simp only [ih, List.append_assoc, List.singleton_append]

/-- Of's answer: the datum and how many bytes. -/
def ofL : List UInt8 → Option (Da × Nat)
  | [] => none
  | c :: r =>
    if c = 3 then
      match r with
      | [] => none
      | m :: r => if m.toNat ≤ 8 then
          match decN m.toNat [] r with
          | some (L, r') => some (⟨3, 0, ⟨#[]⟩, L⟩, r.length + 2 - r'.length)
          | none => none
        else none
    else match one1 (c :: r) with
      | some (x, r') => some (⟨x.k, x.n, x.s, []⟩, r.length + 1 - r'.length)
      | none => none

theorem ofL_enc (d : Da) (hm : d.may = true) (hn : In64 d.n) (hl : ∀ j (hj : j < d.l.length), In64 d.l[j].n) (tail : List UInt8) : ofL (d.enc ++ tail) = some (d, d.enc.length) := by
  by_cases h3 : d.k = 3
  · obtain ⟨h0, hs, h8, hit⟩ := may_items hm h3
    have hL : ∀ x ∈ d.l, x.may = true ∧ In64 x.n ∧ x.ln = 0 := by
      intro x hx
      obtain ⟨j, hj, rfl⟩ := List.getElem_of_mem hx
      refine ⟨hit j hj, hl j hj, ?_⟩
      have := hit j hj
      simp only [It.may, simpleB, Bool.and_eq_true, decide_eq_true_eq] at this
      exact this.1
    have hc : (UInt8.ofNat d.l.length).toNat = d.l.length := by
      rw [UInt8.toNat_ofNat']
      omega
    simp only [Da.enc, h3, if_true, List.cons_append, List.nil_append, ofL, hc, h8, decN_enc d.l [] tail hL]
    obtain ⟨k, n, s, l⟩ := d
    simp only at h3 h0 hs
    subst h3 h0 hs
    simp only [List.nil_append, List.length_append, List.length_cons, Option.some.injEq, Prod.mk.injEq, true_and]
    omega
  · have sm : simpleB d.k d.n d.s d.l.length = true := by simpa [Da.may, h3] using hm
    have hs := may_short hm h3
    have e := one1_enc sm hn tail
    have hne : ∃ c r, enc1 d.k d.n d.s = c :: r ∧ ¬ c = 3 := by
      unfold enc1
      split
      · exact ⟨1, be8 d.n, rfl, by decide⟩
      · exact ⟨2, esc d.s.data.toList ++ [0, 0], by simp, by decide⟩
    obtain ⟨c, r, hcr, hc3⟩ := hne
    rw [Da.enc, if_neg h3]
    rw [hcr] at e ⊢
    simp only [List.cons_append] at e ⊢
    simp only [ofL, hc3, if_false, e]
    obtain ⟨k, n, s, l⟩ := d
    simp only at hs
    obtain rfl := List.eq_nil_of_length_eq_zero hs
    simp only [List.length_append, List.length_cons, Option.some.injEq, Prod.mk.injEq, true_and]
    omega
end Go.Proofs.YtdjlbfepddcmeaaGreatDoor

namespace Go.Proofs.YtdjlbfepddcmeaaGreatDoor
open Go.RowKit

theorem pu_app (l m : List UInt8) : ∀ acc a : Nat, Lib.parseUint10 acc l = .ok a → Lib.parseUint10 acc (l ++ m) = Lib.parseUint10 a m := by
  induction l with
  | nil =>
    intro acc a h
    simp only [Lib.parseUint10] at h
    injection h with h
    rw [h]; rfl
  | cons c r ih =>
    intro acc a h
    simp only [Lib.parseUint10, List.cons_append] at h ⊢
    split at h
    · next h1 =>
      rw [if_pos h1]
      split at h
      · cases h
      · next h2 =>
        rw [if_neg h2]
        split at h
        · cases h
        · next h3 =>
          rw [if_neg h3]
          exact ih _ _ h
    · cases h

theorem digit_nat (d : Nat) (h : d < 10) : (UInt8.ofNat (48 + d)).toNat = 48 + d := by
  rw [UInt8.toNat_ofNat']; omega

theorem pu_dec (u : Nat) (h : u < 18446744073709551616) : Lib.parseUint10 0 (Lib.decDigits u) = .ok u := by
  induction u using Nat.strongRecOn with
  | ind u ih =>
    rw [Lib.decDigits]
    by_cases h10 : u < 10
    · have e := digit_nat u h10
      rw [dif_pos h10]
      simp only [Lib.parseUint10, e]
      rw [if_pos (by omega), if_neg (by omega), if_neg (by omega)]
      congr 1; omega
    · have e := digit_nat (u % 10) (by omega)
      rw [dif_neg h10, pu_app _ _ 0 (u / 10) (ih (u / 10) (by omega) (by omega))]
      simp only [Lib.parseUint10, e]
      rw [if_pos (by omega), if_neg (by omega), if_neg (by omega)]
      congr 1; omega

theorem dec_digits (u : Nat) : ∀ b ∈ Lib.decDigits u, 48 ≤ b.toNat ∧ b.toNat ≤ 57 := by
  induction u using Nat.strongRecOn with
  | ind u ih =>
    rw [Lib.decDigits]
    by_cases h10 : u < 10
    · rw [dif_pos h10]
      intro b hb
      have e := digit_nat u h10
      rw [List.mem_singleton] at hb
      subst hb; omega
    · rw [dif_neg h10]
      intro b hb
      have e := digit_nat (u % 10) (by omega)
      rcases List.mem_append.1 hb with hb | hb
      · exact ih _ (by omega) b hb
      · rw [List.mem_singleton] at hb
        subst hb; omega

theorem dec_ne (u : Nat) : Lib.decDigits u ≠ [] := by
  rw [Lib.decDigits]; split <;> simp

theorem atoi_itoa (n : Int) (h : In64 n) : Lib.atoiAll (Lib.itoa n) = .ok n := by
  unfold In64 at h
  unfold Lib.itoa
  by_cases hn : n < 0
  · rw [if_pos hn, Lib.atoiAll_minus, Lib.parseMag, if_neg (dec_ne _), pu_dec _ (by omega), Lib.signed, if_neg (by omega)]
    congr 1; omega
  · rw [if_neg hn]
    cases hd : Lib.decDigits n.toNat with
    | nil => exact absurd hd (dec_ne _)
    | cons c r =>
      have hc := dec_digits n.toNat c (by rw [hd]; exact List.mem_cons_self)
      rw [Lib.atoiAll_plain c r (by omega) (by omega), ← hd, Lib.parseMag, if_neg (dec_ne _), pu_dec _ (by omega), Lib.signless, if_neg (by omega)]
      congr 1; omega
theorem atoiV_itoa (n : Int) (h : In64 n) : atoiV (Lib.itoa n) = n := by rw [atoiV, atoi_itoa n h]

/-- An integer's text: its signs are '-' and digits. -/
theorem itoa_chars (n : Int) : ∀ b ∈ Lib.itoa n, b.toNat = 45 ∨ (48 ≤ b.toNat ∧ b.toNat ≤ 57) := by
  unfold Lib.itoa
  split
  · intro b hb
    rcases List.mem_cons.1 hb with hb | hb
    · subst hb; exact .inl rfl
    · exact .inr (dec_digits _ b hb)
  · exact fun b hb => .inr (dec_digits _ b hb)
theorem itoa_ne (n : Int) : Lib.itoa n ≠ [] := by
  unfold Lib.itoa
  split
  · simp
  · exact dec_ne _

set_option maxRecDepth 100000 in
theorem unhex_all : ∀ k : Fin 256, unhex (hexd (k.val / 16)) (hexd (k.val % 16)) = UInt8.ofNat k.val := by decide +kernel
theorem unhex_hexd (b : UInt8) : unhex (hexd (b.toNat / 16)) (hexd (b.toNat % 16)) = b := by
  have := unhex_all ⟨b.toNat, b.toNat_lt⟩
  simp only at this
  rw [this]; exact UInt8.ofNat_toNat

theorem not_esc37 {b : UInt8} (h : escB b = false) : ¬ b = 37 := fun e => by subst e; revert h; decide
theorem not_esc39 {b : UInt8} (h : escB b = false) : ¬ b = 39 := fun e => by subst e; revert h; decide

theorem unq_qu : ∀ t : List UInt8, unq (t.flatMap qu1) = t
  | [] => by simp [unq]
  | b :: t => by
    have ih := unq_qu t
    rw [List.flatMap_cons, qu1]
    cases hb : escB b with
    | true =>
      simp only [if_true, List.cons_append, List.nil_append]
      rw [unq, if_pos rfl, unhex_hexd, ih]
    | false =>
      simp only [Bool.false_eq_true, if_false, List.cons_append, List.nil_append]
      rw [unq_short _ _ (fun h => not_esc37 hb h.1), ih]

theorem hexd_all : ∀ k : Fin 16, hexd k.val ≠ 39 := by decide
theorem qu1_no39 (b : UInt8) : ∀ c ∈ qu1 b, ¬ c = 39 := by
  intro c hc
  unfold qu1 at hc
  split at hc
  · have h1 := hexd_all ⟨b.toNat / 16, by have := b.toNat_lt; omega⟩
    have h2 := hexd_all ⟨b.toNat % 16, by omega⟩
    simp only [List.mem_cons, List.not_mem_nil, or_false] at hc
    rcases hc with rfl | rfl | rfl
    · decide
    · exact h1
    · exact h2
  · next h =>
    rw [List.mem_singleton] at hc
    subst hc
    exact not_esc39 (by simpa using h)
theorem qu_no39 (t : List UInt8) : ∀ c ∈ t.flatMap qu1, ¬ c = 39 := by
  intro c hc
  obtain ⟨b, _, hb⟩ := List.mem_flatMap.1 hc
  exact qu1_no39 b c hb

theorem items_plain : ∀ (l cur rest : List UInt8), (∀ c ∈ l, ¬ c = 39 ∧ ¬ c = 44) → itemsL false cur (l ++ rest) = itemsL false (cur ++ l) rest
  | [], cur, rest, _ => by simp
  | c :: l, cur, rest, h => by
    have h1 := h c List.mem_cons_self
    rw [List.cons_append, itemsL_o false cur _ c h1.1 (fun e => h1.2 e.1), items_plain l _ rest (fun d hd => h d (List.mem_cons_of_mem _ hd))]
    simp
theorem items_in : ∀ (l cur rest : List UInt8), (∀ c ∈ l, ¬ c = 39) → itemsL true cur (l ++ rest) = itemsL true (cur ++ l) rest
  | [], cur, rest, _ => by simp
  | c :: l, cur, rest, h => by
    have h1 := h c List.mem_cons_self
    rw [List.cons_append, itemsL_o true cur _ c h1 (fun e => by cases e.2), items_in l _ rest (fun d hd => h d (List.mem_cons_of_mem _ hd))]
    simp

/-- A text that ends what it begins: no list's comma lies in it. -/
def Bal (t : List UInt8) : Prop := ∀ cur rest, itemsL false cur (t ++ rest) = itemsL false (cur ++ t) rest
theorem bal_itoa (n : Int) : Bal (Lib.itoa n) := fun cur rest => items_plain _ _ _ (fun c hc => by
  have := itoa_chars n c hc
  constructor
  · rintro rfl; revert this; decide
  · rintro rfl; revert this; decide)
theorem bal_quote (t : List UInt8) : Bal (quoteL t) := fun cur rest => by
  unfold quoteL
  simp only [List.cons_append, List.nil_append, List.append_assoc]
  rw [itemsL_q, Bool.not_false, items_in _ _ _ (qu_no39 t), itemsL_q]
  simp

theorem join_two (x y : List UInt8) (r : List (List UInt8)) : Lib.join (x :: y :: r) [44] = x ++ 44 :: Lib.join (y :: r) [44] := by
  rw [Lib.join_cons, Lib.join_cons]
  simp [Lib.joinTail]

theorem items_join : ∀ (x : List UInt8) (r : List (List UInt8)), (∀ t ∈ x :: r, Bal t) → itemsL false [] (Lib.join (x :: r) [44]) = x :: r
  | x, [], h => by
    have := h x List.mem_cons_self [] []
    rw [Lib.join_one]
    rw [List.append_nil] at this
    rw [this]; rfl
  | x, y :: r, h => by
    rw [join_two, h x List.mem_cons_self, List.nil_append, itemsL_c, items_join y r (fun t ht => h t (List.mem_cons_of_mem _ ht))]

theorem text1_bal (k n : Int) (s : ByteArray) : Bal (text1 k n s) := by
  unfold text1
  split
  · exact bal_itoa n
  · exact bal_quote _

/-- No text of what is no list begins with '['; none is empty. -/
theorem text1_head (k n : Int) (s : ByteArray) : ∃ c r, text1 k n s = c :: r ∧ ¬ c = 91 ∧ (k = 1 → ¬ c = 39) ∧ (¬ k = 1 → c = 39 ∧ r = s.data.toList.flatMap qu1 ++ [39]) := by
  unfold text1
  split
  · next hk =>
    cases hd : Lib.itoa n with
    | nil => exact absurd hd (itoa_ne n)
    | cons c r =>
      have := itoa_chars n c (by rw [hd]; exact List.mem_cons_self)
      refine ⟨c, r, rfl, ?_, fun _ => ?_, fun h => absurd hk h⟩
      · rintro rfl; revert this; decide
      · rintro rfl; revert this; decide
  · next hk => exact ⟨39, s.data.toList.flatMap qu1 ++ [39], by simp [quoteL], by decide, fun h => absurd h hk, fun _ => ⟨rfl, rfl⟩⟩

theorem toBA_data (l : List UInt8) : (toBA l).data.toList = l := toBA_list l

theorem read1_text {k n : Int} {s : ByteArray} {l : Nat} (h : simpleB k n s l = true) (hn : In64 n) : read1 (toBA (text1 k n s)) = ⟨k, n, s, 0⟩ := by
  obtain ⟨c, r, hcr, h91, h1, h2⟩ := text1_head k n s
  unfold read1
  rw [toBA_size, toBA_data]
  simp only [simpleB, Bool.and_eq_true, Bool.or_eq_true, decide_eq_true_eq, List.isEmpty_iff] at h
  rcases h.2 with ⟨hk, hs⟩ | ⟨⟨hk, h0⟩, hs⟩
  · subst hk
    have := h1 rfl
    rw [if_neg (fun e => by rw [hcr] at e; simp at e; exact this e.2)]
    have : text1 1 n s = Lib.itoa n := by simp [text1]
    rw [this, atoiV_itoa n hn, isEmpty_of hs]
  · subst hk h0
    obtain ⟨rfl, rfl⟩ := h2 (by decide)
    rw [hcr]
    have hl : (39 :: (s.data.toList.flatMap qu1 ++ [39])).length = (s.data.toList.flatMap qu1).length + 2 := by simp
    rw [if_pos ⟨by rw [hl]; omega, rfl⟩, hl]
    have hsub : sub (toBA (39 :: (s.data.toList.flatMap qu1 ++ [39]))) 1 ((s.data.toList.flatMap qu1).length + 2 - 1) = s.data.toList.flatMap qu1 := by
      unfold sub
      rw [toBA_data]
      simp
    rw [hsub, unq_qu]
    simp [toBA]

theorem open1 {k n : Int} {s : ByteArray} : isOpen (toBA (text1 k n s)) = false := by
  obtain ⟨c, r, hcr, h91, _⟩ := text1_head k n s
  unfold isOpen
  rw [toBA_data, hcr]
  simpa using h91

/-- What a datum that may be prints, is read as that datum. -/
theorem readDa_text (d : Da) (hm : d.may = true) (hn : In64 d.n) (hl : ∀ j (hj : j < d.l.length), In64 d.l[j].n) : readDa (toBA d.text) = d := by
  by_cases h3 : d.k = 3
  · obtain ⟨h0, hs, h8, hit⟩ := may_items hm h3
    obtain ⟨k, n, s, l⟩ := d
    simp only at h3 h0 hs h8 hit hl
    subst h3 h0 hs
    have ht : (Da.mk 3 0 ⟨#[]⟩ l).text = 91 :: (Lib.join (l.map It.text) [44] ++ [93]) := by simp [Da.text]
    rw [ht]
    unfold readDa
    rw [if_pos ⟨by rw [toBA_size]; simp, by rw [isOpen, toBA_data]; rfl⟩, Lib.toList_data, toBA_data]
    cases l with
    | nil => rw [if_pos (by simp [Lib.join_nil])]
    | cons x r =>
      have hx : ∀ y ∈ x :: r, y.may = true ∧ In64 y.n := fun y hy => by
        obtain ⟨j, hj, rfl⟩ := List.getElem_of_mem hy
        exact ⟨hit j hj, hl j hj⟩
      have hsub : sub (toBA (91 :: (Lib.join ((x :: r).map It.text) [44] ++ [93]))) 1 ((toBA (91 :: (Lib.join ((x :: r).map It.text) [44] ++ [93]))).size - 1) = Lib.join ((x :: r).map It.text) [44] := by
        unfold sub
        rw [toBA_data, toBA_size]
        simp
      have hit2 : itemsL false [] (Lib.join ((x :: r).map It.text) [44]) = (x :: r).map It.text := by
        rw [List.map_cons]
        exact items_join _ _ (fun t ht => by
          rw [← List.map_cons] at ht
          obtain ⟨y, _, rfl⟩ := List.mem_map.1 ht
          exact text1_bal _ _ _)
      have hne : ¬ ((91 :: (Lib.join ((x :: r).map It.text) [44] ++ [93]) == [91, 93]) = true) := by
        rw [beq_iff_eq]
        intro e
        obtain ⟨c, q, hcq, _⟩ := text1_head x.k x.n x.s
        rw [List.map_cons, Lib.join_cons, It.text, hcq] at e
        simp at e
      have hany : (((x :: r).map It.text).map toBA).any isOpen = false := by
        rw [List.any_eq_false]
        intro y hy
        obtain ⟨t, ht, rfl⟩ := List.mem_map.1 hy
        obtain ⟨z, _, rfl⟩ := List.mem_map.1 ht
        rw [It.text, open1]; decide
      rw [if_neg hne, hsub, hit2, hany, if_neg (by decide)]
      congr 1
      rw [List.map_map, List.map_map]
      conv => rhs; rw [← List.map_id (x :: r)]
      apply List.map_congr_left
      intro y hy
      obtain ⟨hym, hyn⟩ := hx y hy
      have hln : y.ln = 0 := by
        simp only [It.may, simpleB, Bool.and_eq_true, decide_eq_true_eq] at hym
        exact hym.1
      show read1 (toBA y.text) = y
      rw [It.text, read1_text (l := y.ln) hym hyn, ← hln]
  · have sm : simpleB d.k d.n d.s d.l.length = true := by simpa [Da.may, h3] using hm
    have ht : d.text = text1 d.k d.n d.s := by simp [Da.text, h3]
    have hlen : d.l.length = 0 := by
      simp only [simpleB, Bool.and_eq_true, decide_eq_true_eq] at sm
      exact sm.1
    rw [ht]
    unfold readDa
    rw [if_neg (fun e => by rw [open1] at e; cases e.2), read1_text sm hn]
    obtain ⟨k, n, s, l⟩ := d
    simp only at hlen
    rw [List.eq_nil_of_length_eq_zero hlen]

theorem parseDa_text (d : Da) (hm : d.may = true) (hn : In64 d.n) (hl : ∀ j (hj : j < d.l.length), In64 d.l[j].n) : parseDa (toBA d.text) = some d := by
  unfold parseDa
  rw [readDa_text d hm hn hl, if_pos ⟨hm, by rw [toBA_data]⟩]

theorem same_refl (d : Da) (hm : d.may = true) : d.same d = true := by
  obtain ⟨k, n, s, l⟩ := d
  refine (same_yes (j := l.length) rfl rfl (Nat.le_refl _) (fun i hi => ?_)).symm
  refine ⟨l[i], l[i], List.getElem?_eq_getElem hi, List.getElem?_eq_getElem hi, ?_⟩
  by_cases h3 : k = 3
  · obtain ⟨_, _, _, hit⟩ := may_items hm h3
    have := hit i hi
    simp only [It.may, simpleB, Bool.and_eq_true, decide_eq_true_eq] at this
    have h0 : l[i].ln = 0 := this.1
    simp [It.same, h0]
  · have h0 : l.length = 0 := by
      have : simpleB k n s l.length = true := by simpa [Da.may, h3] using hm
      simp only [simpleB, Bool.and_eq_true, decide_eq_true_eq] at this
      exact this.1
    omega
end Go.Proofs.YtdjlbfepddcmeaaGreatDoor

namespace Go.Proofs.YtdjlbfepddcmeaaGreatDoor
open Go.RowKit

theorem DaIs.items {w : World} {d : Da} {a : Option Addr} (h : DaIs w d a) : ∀ j (hj : j < d.l.length), In64 d.l[j].n := by
  intro j hj
  obtain ⟨b, off, a', c', _, _, _, _, _, _, _, hn⟩ := h.row.at_ j hj
  exact hn

/-- A datum that may be, its numbers of 64 bits. -/
structure Good (d : Da) : Prop where
  may : d.may = true
  n : In64 d.n
  l : ∀ j (hj : j < d.l.length), In64 d.l[j].n
theorem DaIs.good {w : World} {d : Da} {a : Option Addr} (h : DaIs w d a) (hm : d.may = true) : Good d := ⟨hm, h.n, h.items⟩

theorem ba_ext {s t : ByteArray} (h : s.toList = t.toList) : s = t := by
  rw [Lib.toList_data, Lib.toList_data] at h
  obtain ⟨a⟩ := s
  obtain ⟨b⟩ := t
  congr 1
  exact Array.toList_inj.1 h

theorem It.same_eq {x y : It} (h : x.same y = true) : x = y := by
  obtain ⟨k, n, s, l⟩ := x
  obtain ⟨k', n', s', l'⟩ := y
  simp only [It.same, Bool.and_eq_true, decide_eq_true_eq, beq_iff_eq] at h
  obtain ⟨⟨⟨rfl, rfl⟩, hs⟩, hl⟩ := h
  obtain rfl := ba_ext hs
  obtain rfl : l = 0 := by omega
  obtain rfl : l' = 0 := by omega
  rfl

theorem same_eq {d d' : Da} (h : d.same d' = true) : d = d' := by
  obtain ⟨k, n, s, l⟩ := d
  obtain ⟨k', n', s', l'⟩ := d'
  simp only [Da.same, Bool.and_eq_true, decide_eq_true_eq, beq_iff_eq, List.all_eq_true, List.mem_range] at h
  obtain ⟨⟨⟨⟨rfl, rfl⟩, hs⟩, hl⟩, hi⟩ := h
  obtain rfl := ba_ext hs
  congr 1
  refine List.ext_getElem hl fun i h1 h2 => ?_
  have := hi i h1
  rw [List.getElem?_eq_getElem h1, List.getElem?_eq_getElem h2] at this
  exact It.same_eq this

theorem enc_inj {d d' : Da} (h : Good d) (h' : Good d') (e : d.enc = d'.enc) : d = d' := by
  have h1 := ofL_enc d h.may h.n h.l []
  have h2 := ofL_enc d' h'.may h'.n h'.l []
  rw [e, h2] at h1
  have := Option.some.inj h1
  exact (Prod.mk.inj this).1.symm

theorem enc_same {d d' : Da} (h : Good d) (h' : Good d') : decide (d.enc = d'.enc) = d.same d' := by
  rw [Bool.eq_iff_iff, decide_eq_true_eq]
  constructor
  · intro e
    rw [enc_inj h h' e]
    exact same_refl d' h'.may
  · intro e
    rw [same_eq e]

theorem bS_good {d : Da} (h : d.may = true) : bS d = ⟨d.enc.toArray⟩ := by simp [bS, h]
theorem bS_data {d : Da} (h : d.may = true) : (bS d).data.toList = d.enc := by rw [bS_good h]
theorem bS_beq {d d' : Da} (h : Good d) (h' : Good d') : ((bS d).toList == (bS d').toList) = d.same d' := by
  rw [Lib.toList_data, Lib.toList_data, bS_data h.may, bS_data h'.may, ← enc_same h h']
  rw [Bool.eq_iff_iff]; simp

def cmpB (d d' : Da) : Int := Lib.compareBytes (bS d).data.toList (bS d').data.toList
theorem cmpB_zero {d d' : Da} (h : Good d) (h' : Good d') : (cmpB d d' == 0) = d.same d' := by
  rw [← enc_same h h', Bool.eq_iff_iff, decide_eq_true_eq, beq_iff_eq, cmpB, compareBytes_zero, bS_data h.may, bS_data h'.may]
theorem cmpB_ord {d d' : Da} (h : Good d) (h' : Good d') (hk : ¬ d.k = 3) (hk' : ¬ d'.k = 3) : cmpB d d' = ordD d d' := by
  have s1 : simpleB d.k d.n d.s d.l.length = true := by simpa [Da.may, hk] using h.may
  have s2 : simpleB d'.k d'.n d'.s d'.l.length = true := by simpa [Da.may, hk'] using h'.may
  rw [cmpB, bS_data h.may, bS_data h'.may]
  simp only [Da.enc, hk, hk', if_false]
  exact enc1_cmp s1 s2 h.n h'.n
end Go.Proofs.YtdjlbfepddcmeaaGreatDoor
