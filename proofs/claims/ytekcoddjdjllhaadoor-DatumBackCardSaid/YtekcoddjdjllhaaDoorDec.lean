/- Reading bytes, plainly: what decode and the reference's one compute; what data's bytes are read as. -/
import Derived.Test.YtekcoddjdjllhaaDoorEnc
import Derived.Test.YtekcoddjdjllhaaDoorDatZ
namespace Go.Proofs.YtekcoddjdjllhaaDoor
open Go.RowKit

/-- A text's bytes, read: as far as it goes, and what is behind it; none: it does not end. -/
def scan (out : List UInt8) : List UInt8 → List UInt8 × Option (List UInt8)
  | c :: d :: r =>
    if c = 0 then
      if d = 0 then (out, some r)
      else if d = 255 then scan (out ++ [0]) r
      else (out, none)
    else scan (out ++ [c]) (d :: r)
  | _ => (out, none)
  termination_by l => l.length

theorem scan_nil (out : List UInt8) : scan out [] = (out, none) := by rw [scan]; simp
theorem scan_one (out : List UInt8) (c : UInt8) : scan out [c] = (out, none) := by rw [scan]; simp
theorem scan_two (out : List UInt8) (c d : UInt8) (r : List UInt8) : scan out (c :: d :: r) =
    if c = 0 then if d = 0 then (out, some r) else if d = 255 then scan (out ++ [0]) r else (out, none) else scan (out ++ [c]) (d :: r) := by rw [scan]

theorem scan_short : ∀ (n : Nat) (l : List UInt8), l.length ≤ n → ∀ out, out.length ≤ (scan out l).1.length ∧ (scan out l).1.length ≤ out.length + l.length
  | _, [], _, out => by rw [scan_nil]; simp
  | _, [c], _, out => by rw [scan_one]; simp
  | 0, _ :: _ :: _, h, _ => by simp at h
  | n + 1, c :: d :: r, h, out => by
    rw [scan_two]
    simp only [List.length_cons] at h ⊢
    split
    · split
      · simp
      · split
        · have := scan_short n r (by omega) (out ++ [0])
          simp only [List.length_append, List.length_singleton] at this
          omega
        · simp
    · have := scan_short n (d :: r) (by simp; omega) (out ++ [c])
      simp only [List.length_append, List.length_cons, List.length_nil] at this
      omega

theorem scan_rest : ∀ (n : Nat) (l : List UInt8), l.length ≤ n → ∀ out r', (scan out l).2 = some r' → ∃ k, k + 2 ≤ l.length ∧ r' = l.drop (k + 2)
  | _, [], _, out, r', h => by rw [scan_nil] at h; simp at h
  | _, [c], _, out, r', h => by rw [scan_one] at h; simp at h
  | 0, _ :: _ :: _, h, _, _, _ => by simp at h
  | n + 1, c :: d :: r, hl, out, r', h => by
    rw [scan_two] at h
    simp only [List.length_cons] at hl ⊢
    split at h
    · split at h
      · simp at h; exact ⟨0, by omega, by simp [h]⟩
      · split at h
        · obtain ⟨k, hk, e⟩ := scan_rest n r (by omega) _ _ h
          exact ⟨k + 2, by omega, by rw [e]; rfl⟩
        · simp at h
    · obtain ⟨k, hk, e⟩ := scan_rest n (d :: r) (by simp; omega) _ _ h
      simp only [List.length_cons] at hk
      exact ⟨k + 1, by omega, by rw [e]; rfl⟩

theorem scan_esc : ∀ (t out r : List UInt8), scan out (esc t ++ 0 :: 0 :: r) = (out ++ t, some r)
  | [], out, r => by simp [esc, scan_two]
  | c :: t, out, r => by
    by_cases hc : c = 0
    · subst hc
      have := scan_esc t (out ++ [0]) r
      simp only [esc, if_true, List.cons_append, List.nil_append]
      rw [scan_two, if_pos rfl, if_neg (by decide), if_pos rfl, this]
      simp
    · have := scan_esc t (out ++ [c]) r
      simp only [esc, hc, if_false, List.cons_append, List.nil_append]
      cases he : esc t ++ 0 :: 0 :: r with
      | nil => simp at he
      | cons d r' =>
        rw [scan_two, if_neg hc, ← he, this]
        simp

/-- Eight bytes as a number. -/
def unbe (l : List UInt8) : Int := (foldB l : Int) - 9223372036854775808
theorem unbe_be8 (n : Int) (h : In64 n) : unbe (be8 n) = n := by
  rw [unbe, foldB_be8 n h]; omega

/-- What is no list, read: it and what is behind. -/
def one1 : List UInt8 → Option (It × List UInt8)
  | [] => none
  | c :: r =>
    if c = 1 then if 8 ≤ r.length then some (⟨1, unbe (r.take 8), ⟨#[]⟩, 0⟩, r.drop 8) else none
    else if c = 2 then
      match (scan [] r).2 with
      | some r' => if (scan [] r).1.length ≤ 32 then some (⟨2, 0, toBA (scan [] r).1, 0⟩, r') else none
      | none => none
    else none

theorem one1_enc {k n : Int} {s : ByteArray} {l : Nat} (h : simpleB k n s l = true) (hn : In64 n) (r : List UInt8) : one1 (enc1 k n s ++ r) = some (⟨k, n, s, 0⟩, r) := by
  rcases simple_parts h with ⟨rfl, rfl⟩ | ⟨rfl, rfl⟩
  · have h8 := be8_length n
    simp only [enc1, if_true, List.cons_append, List.nil_append, one1]
    rw [if_pos (by simp [h8]), ← h8, List.take_left' rfl, List.drop_left' rfl, unbe_be8 n hn]
  · have hs : s.size ≤ 32 := by
      rcases simple_kinds h with h | h
      · omega
      · exact h.2
    have h21 : ¬ (2 : Int) = 1 := by decide
    simp only [enc1, h21, if_false, List.cons_append, List.nil_append, one1, List.append_assoc, scan_esc]
    have hl : s.data.toList.length = s.size := by simp
    rw [if_neg (by decide)]
    simp only [if_true]
    rw [if_pos (by omega)]
    simp [toBA]

def decN : Nat → List It → List UInt8 → Option (List It × List UInt8)
  | 0, acc, l => some (acc, l)
  | k + 1, acc, l => match one1 l with
    | some (x, r) => decN k (acc ++ [x]) r
    | none => none

theorem decN_enc : ∀ (L : List It) (acc : List It) (r : List UInt8), (∀ x ∈ L, x.may = true ∧ In64 x.n ∧ x.ln = 0) → decN L.length acc (L.flatMap It.enc ++ r) = some (acc ++ L, r)
  | [], acc, r, _ => by simp [decN]
  | x :: L, acc, r, h => by
    obtain ⟨h1, h2, h3⟩ := h x List.mem_cons_self
    have ih := decN_enc L (acc ++ [x]) r (fun y hy => h y (List.mem_cons_of_mem _ hy))
    simp only [List.length_cons, decN, List.flatMap_cons, List.append_assoc]
    have e : one1 (x.enc ++ (L.flatMap It.enc ++ r)) = some (x, L.flatMap It.enc ++ r) := by
      rw [It.enc, one1_enc h1 h2, ← h3]
    rw [e]
    simp only [ih, List.append_assoc, List.singleton_append]

/-- Of's answer: the datum and how many bytes. -/
def ofL : List UInt8 → Option (Da × Nat)
  | [] => none
  | c :: r =>
    if c = 3 then
      match r with
      | [] => none
      | m :: r => if m.toNat ≤ 8 then
          match decN m.toNat [] r with
          | some (L, r') => some (⟨3, 0, ⟨#[]⟩, L⟩, r.length + 2 - r'.length)
          | none => none
        else none
    else match one1 (c :: r) with
      | some (x, r') => some (⟨x.k, x.n, x.s, []⟩, r.length + 1 - r'.length)
      | none => none

theorem ofL_enc (d : Da) (hm : d.may = true) (hn : In64 d.n) (hl : ∀ j (hj : j < d.l.length), In64 d.l[j].n) (tail : List UInt8) : ofL (d.enc ++ tail) = some (d, d.enc.length) := by
  by_cases h3 : d.k = 3
  · obtain ⟨h0, hs, h8, hit⟩ := may_items hm h3
    have hL : ∀ x ∈ d.l, x.may = true ∧ In64 x.n ∧ x.ln = 0 := by
      intro x hx
      obtain ⟨j, hj, rfl⟩ := List.getElem_of_mem hx
      refine ⟨hit j hj, hl j hj, ?_⟩
      have := hit j hj
      simp only [It.may, simpleB, Bool.and_eq_true, decide_eq_true_eq] at this
      exact this.1
    have hc : (UInt8.ofNat d.l.length).toNat = d.l.length := by
      rw [UInt8.toNat_ofNat']
      omega
    simp only [Da.enc, h3, if_true, List.cons_append, List.nil_append, ofL, hc, h8, decN_enc d.l [] tail hL]
    obtain ⟨k, n, s, l⟩ := d
    simp only at h3 h0 hs
    subst h3 h0 hs
    simp only [List.nil_append, List.length_append, List.length_cons, Option.some.injEq, Prod.mk.injEq, true_and]
    omega
  · have sm : simpleB d.k d.n d.s d.l.length = true := by simpa [Da.may, h3] using hm
    have hs := may_short hm h3
    have e := one1_enc sm hn tail
    have hne : ∃ c r, enc1 d.k d.n d.s = c :: r ∧ ¬ c = 3 := by
      unfold enc1
      split
      · exact ⟨1, be8 d.n, rfl, by decide⟩
      · exact ⟨2, esc d.s.data.toList ++ [0, 0], by simp, by decide⟩
    obtain ⟨c, r, hcr, hc3⟩ := hne
    rw [Da.enc, if_neg h3]
    rw [hcr] at e ⊢
    simp only [List.cons_append] at e ⊢
    simp only [ofL, hc3, if_false, e]
    obtain ⟨k, n, s, l⟩ := d
    simp only at hs
    obtain rfl := List.eq_nil_of_length_eq_zero hs
    simp only [List.length_append, List.length_cons, Option.some.injEq, Prod.mk.injEq, true_and]
    omega
end Go.Proofs.YtekcoddjdjllhaaDoor
