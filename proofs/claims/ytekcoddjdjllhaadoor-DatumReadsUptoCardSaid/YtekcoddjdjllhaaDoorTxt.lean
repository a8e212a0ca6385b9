/- Texts read back: plain laws. -/
import Derived.Test.YtekcoddjdjllhaaDoorDatZ
import Derived.Test.YtekcoddjdjllhaaDoorDatS
import Derived.Lib.AtoiAllCases
namespace Go.Proofs.YtekcoddjdjllhaaDoor
open Go.RowKit

theorem pu_app (l m : List UInt8) : ∀ acc a : Nat, Lib.parseUint10 acc l = .ok a → Lib.parseUint10 acc (l ++ m) = Lib.parseUint10 a m := by
  induction l with
  | nil =>
    intro acc a h
    simp only [Lib.parseUint10] at h
    injection h with h
    rw [h]; rfl
  | cons c r ih =>
    intro acc a h
    simp only [Lib.parseUint10, List.cons_append] at h ⊢
    split at h
    · next h1 =>
      rw [if_pos h1]
      split at h
      · cases h
      · next h2 =>
        rw [if_neg h2]
        split at h
        · cases h
        · next h3 =>
          rw [if_neg h3]
          exact ih _ _ h
    · cases h

theorem digit_nat (d : Nat) (h : d < 10) : (UInt8.ofNat (48 + d)).toNat = 48 + d := by
  rw [UInt8.toNat_ofNat']; omega

theorem pu_dec (u : Nat) (h : u < 18446744073709551616) : Lib.parseUint10 0 (Lib.decDigits u) = .ok u := by
  induction u using Nat.strongRecOn with
  | ind u ih =>
    rw [Lib.decDigits]
    by_cases h10 : u < 10
    · have e := digit_nat u h10
      rw [dif_pos h10]
      simp only [Lib.parseUint10, e]
      rw [if_pos (by omega), if_neg (by omega), if_neg (by omega)]
      congr 1; omega
    · have e := digit_nat (u % 10) (by omega)
      rw [dif_neg h10, pu_app _ _ 0 (u / 10) (ih (u / 10) (by omega) (by omega))]
      simp only [Lib.parseUint10, e]
      rw [if_pos (by omega), if_neg (by omega), if_neg (by omega)]
      congr 1; omega

theorem dec_digits (u : Nat) : ∀ b ∈ Lib.decDigits u, 48 ≤ b.toNat ∧ b.toNat ≤ 57 := by
  induction u using Nat.strongRecOn with
  | ind u ih =>
    rw [Lib.decDigits]
    by_cases h10 : u < 10
    · rw [dif_pos h10]
      intro b hb
      have e := digit_nat u h10
      rw [List.mem_singleton] at hb
      subst hb; omega
    · rw [dif_neg h10]
      intro b hb
      have e := digit_nat (u % 10) (by omega)
      rcases List.mem_append.1 hb with hb | hb
      · exact ih _ (by omega) b hb
      · rw [List.mem_singleton] at hb
        subst hb; omega

theorem dec_ne (u : Nat) : Lib.decDigits u ≠ [] := by
  rw [Lib.decDigits]; split <;> simp

theorem atoi_itoa (n : Int) (h : In64 n) : Lib.atoiAll (Lib.itoa n) = .ok n := by
  unfold In64 at h
  unfold Lib.itoa
  by_cases hn : n < 0
  · rw [if_pos hn, Lib.atoiAll_minus, Lib.parseMag, if_neg (dec_ne _), pu_dec _ (by omega), Lib.signed, if_neg (by omega)]
    congr 1; omega
  · rw [if_neg hn]
    cases hd : Lib.decDigits n.toNat with
    | nil => exact absurd hd (dec_ne _)
    | cons c r =>
      have hc := dec_digits n.toNat c (by rw [hd]; exact List.mem_cons_self)
      rw [Lib.atoiAll_plain c r (by omega) (by omega), ← hd, Lib.parseMag, if_neg (dec_ne _), pu_dec _ (by omega), Lib.signless, if_neg (by omega)]
      congr 1; omega
theorem atoiV_itoa (n : Int) (h : In64 n) : atoiV (Lib.itoa n) = n := by rw [atoiV, atoi_itoa n h]

/-- An integer's text: its signs are '-' and digits. -/
theorem itoa_chars (n : Int) : ∀ b ∈ Lib.itoa n, b.toNat = 45 ∨ (48 ≤ b.toNat ∧ b.toNat ≤ 57) := by
  unfold Lib.itoa
  split
  · intro b hb
    rcases List.mem_cons.1 hb with hb | hb
    · subst hb; exact .inl rfl
    · exact .inr (dec_digits _ b hb)
  · exact fun b hb => .inr (dec_digits _ b hb)
theorem itoa_ne (n : Int) : Lib.itoa n ≠ [] := by
  unfold Lib.itoa
  split
  · simp
  · exact dec_ne _

set_option maxRecDepth 100000 in
theorem unhex_all : ∀ k : Fin 256, unhex (hexd (k.val / 16)) (hexd (k.val % 16)) = UInt8.ofNat k.val := by decide +kernel
theorem unhex_hexd (b : UInt8) : unhex (hexd (b.toNat / 16)) (hexd (b.toNat % 16)) = b := by
  have := unhex_all ⟨b.toNat, b.toNat_lt⟩
  simp only at this
  rw [this]; exact UInt8.ofNat_toNat

theorem not_esc37 {b : UInt8} (h : escB b = false) : ¬ b = 37 := fun e => by subst e; revert h; decide
theorem not_esc39 {b : UInt8} (h : escB b = false) : ¬ b = 39 := fun e => by subst e; revert h; decide

theorem unq_qu : ∀ t : List UInt8, unq (t.flatMap qu1) = t
  | [] => by simp [unq]
  | b :: t => by
    have ih := unq_qu t
    rw [List.flatMap_cons, qu1]
    cases hb : escB b with
    | true =>
      simp only [if_true, List.cons_append, List.nil_append]
      rw [unq, if_pos rfl, unhex_hexd, ih]
    | false =>
      simp only [Bool.false_eq_true, if_false, List.cons_append, List.nil_append]
      rw [unq_short _ _ (fun h => not_esc37 hb h.1), ih]

theorem hexd_all : ∀ k : Fin 16, hexd k.val ≠ 39 := by decide
theorem qu1_no39 (b : UInt8) : ∀ c ∈ qu1 b, ¬ c = 39 := by
  intro c hc
  unfold qu1 at hc
  split at hc
  · have h1 := hexd_all ⟨b.toNat / 16, by have := b.toNat_lt; omega⟩
    have h2 := hexd_all ⟨b.toNat % 16, by omega⟩
    simp only [List.mem_cons, List.not_mem_nil, or_false] at hc
    rcases hc with rfl | rfl | rfl
    · decide
    · exact h1
    · exact h2
  · next h =>
    rw [List.mem_singleton] at hc
    subst hc
    exact not_esc39 (by simpa using h)
theorem qu_no39 (t : List UInt8) : ∀ c ∈ t.flatMap qu1, ¬ c = 39 := by
  intro c hc
  obtain ⟨b, _, hb⟩ := List.mem_flatMap.1 hc
  exact qu1_no39 b c hb

theorem items_plain : ∀ (l cur rest : List UInt8), (∀ c ∈ l, ¬ c = 39 ∧ ¬ c = 44) → itemsL false cur (l ++ rest) = itemsL false (cur ++ l) rest
  | [], cur, rest, _ => by simp
  | c :: l, cur, rest, h => by
    have h1 := h c List.mem_cons_self
    rw [List.cons_append, itemsL_o false cur _ c h1.1 (fun e => h1.2 e.1), items_plain l _ rest (fun d hd => h d (List.mem_cons_of_mem _ hd))]
    simp
theorem items_in : ∀ (l cur rest : List UInt8), (∀ c ∈ l, ¬ c = 39) → itemsL true cur (l ++ rest) = itemsL true (cur ++ l) rest
  | [], cur, rest, _ => by simp
  | c :: l, cur, rest, h => by
    have h1 := h c List.mem_cons_self
    rw [List.cons_append, itemsL_o true cur _ c h1 (fun e => by cases e.2), items_in l _ rest (fun d hd => h d (List.mem_cons_of_mem _ hd))]
    simp

/-- A text that ends what it begins: no list's comma lies in it. -/
def Bal (t : List UInt8) : Prop := ∀ cur rest, itemsL false cur (t ++ rest) = itemsL false (cur ++ t) rest
theorem bal_itoa (n : Int) : Bal (Lib.itoa n) := fun cur rest => items_plain _ _ _ (fun c hc => by
  have := itoa_chars n c hc
  constructor
  · rintro rfl; revert this; decide
  · rintro rfl; revert this; decide)
theorem bal_quote (t : List UInt8) : Bal (quoteL t) := fun cur rest => by
  unfold quoteL
  simp only [List.cons_append, List.nil_append, List.append_assoc]
  rw [itemsL_q, Bool.not_false, items_in _ _ _ (qu_no39 t), itemsL_q]
  simp

theorem join_two (x y : List UInt8) (r : List (List UInt8)) : Lib.join (x :: y :: r) [44] = x ++ 44 :: Lib.join (y :: r) [44] := by
  rw [Lib.join_cons, Lib.join_cons]
  simp [Lib.joinTail]

theorem items_join : ∀ (x : List UInt8) (r : List (List UInt8)), (∀ t ∈ x :: r, Bal t) → itemsL false [] (Lib.join (x :: r) [44]) = x :: r
  | x, [], h => by
    have := h x List.mem_cons_self [] []
    rw [Lib.join_one]
    rw [List.append_nil] at this
    rw [this]; rfl
  | x, y :: r, h => by
    rw [join_two, h x List.mem_cons_self, List.nil_append, itemsL_c, items_join y r (fun t ht => h t (List.mem_cons_of_mem _ ht))]

theorem text1_bal (k n : Int) (s : ByteArray) : Bal (text1 k n s) := by
  unfold text1
  split
  · exact bal_itoa n
  · exact bal_quote _

/-- No text of what is no list begins with '['; none is empty. -/
theorem text1_head (k n : Int) (s : ByteArray) : ∃ c r, text1 k n s = c :: r ∧ ¬ c = 91 ∧ (k = 1 → ¬ c = 39) ∧ (¬ k = 1 → c = 39 ∧ r = s.data.toList.flatMap qu1 ++ [39]) := by
  unfold text1
  split
  · next hk =>
    cases hd : Lib.itoa n with
    | nil => exact absurd hd (itoa_ne n)
    | cons c r =>
      have := itoa_chars n c (by rw [hd]; exact List.mem_cons_self)
      refine ⟨c, r, rfl, ?_, fun _ => ?_, fun h => absurd hk h⟩
      · rintro rfl; revert this; decide
      · rintro rfl; revert this; decide
  · next hk => exact ⟨39, s.data.toList.flatMap qu1 ++ [39], by simp [quoteL], by decide, fun h => absurd h hk, fun _ => ⟨rfl, rfl⟩⟩

theorem toBA_data (l : List UInt8) : (toBA l).data.toList = l := toBA_list l

theorem read1_text {k n : Int} {s : ByteArray} {l : Nat} (h : simpleB k n s l = true) (hn : In64 n) : read1 (toBA (text1 k n s)) = ⟨k, n, s, 0⟩ := by
  obtain ⟨c, r, hcr, h91, h1, h2⟩ := text1_head k n s
  unfold read1
  rw [toBA_size, toBA_data]
  simp only [simpleB, Bool.and_eq_true, Bool.or_eq_true, decide_eq_true_eq, List.isEmpty_iff] at h
  rcases h.2 with ⟨hk, hs⟩ | ⟨⟨hk, h0⟩, hs⟩
  · subst hk
    have := h1 rfl
    rw [if_neg (fun e => by rw [hcr] at e; simp at e; exact this e.2)]
    have : text1 1 n s = Lib.itoa n := by simp [text1]
    rw [this, atoiV_itoa n hn, isEmpty_of hs]
  · subst hk h0
    obtain ⟨rfl, rfl⟩ := h2 (by decide)
    rw [hcr]
    have hl : (39 :: (s.data.toList.flatMap qu1 ++ [39])).length = (s.data.toList.flatMap qu1).length + 2 := by simp
    rw [if_pos ⟨by rw [hl]; omega, rfl⟩, hl]
    have hsub : sub (toBA (39 :: (s.data.toList.flatMap qu1 ++ [39]))) 1 ((s.data.toList.flatMap qu1).length + 2 - 1) = s.data.toList.flatMap qu1 := by
      unfold sub
      rw [toBA_data]
      simp
    rw [hsub, unq_qu]
    simp [toBA]

theorem open1 {k n : Int} {s : ByteArray} : isOpen (toBA (text1 k n s)) = false := by
  obtain ⟨c, r, hcr, h91, _⟩ := text1_head k n s
  unfold isOpen
  rw [toBA_data, hcr]
  simpa using h91

/-- What a datum that may be prints, is read as that datum. -/
theorem readDa_text (d : Da) (hm : d.may = true) (hn : In64 d.n) (hl : ∀ j (hj : j < d.l.length), In64 d.l[j].n) : readDa (toBA d.text) = d := by
  by_cases h3 : d.k = 3
  · obtain ⟨h0, hs, h8, hit⟩ := may_items hm h3
    obtain ⟨k, n, s, l⟩ := d
    simp only at h3 h0 hs h8 hit hl
    subst h3 h0 hs
    have ht : (Da.mk 3 0 ⟨#[]⟩ l).text = 91 :: (Lib.join (l.map It.text) [44] ++ [93]) := by simp [Da.text]
    rw [ht]
    unfold readDa
    rw [if_pos ⟨by rw [toBA_size]; simp, by rw [isOpen, toBA_data]; rfl⟩, Lib.toList_data, toBA_data]
    cases l with
    | nil => rw [if_pos (by simp [Lib.join_nil])]
    | cons x r =>
      have hx : ∀ y ∈ x :: r, y.may = true ∧ In64 y.n := fun y hy => by
        obtain ⟨j, hj, rfl⟩ := List.getElem_of_mem hy
        exact ⟨hit j hj, hl j hj⟩
      have hsub : sub (toBA (91 :: (Lib.join ((x :: r).map It.text) [44] ++ [93]))) 1 ((toBA (91 :: (Lib.join ((x :: r).map It.text) [44] ++ [93]))).size - 1) = Lib.join ((x :: r).map It.text) [44] := by
        unfold sub
        rw [toBA_data, toBA_size]
        simp
      have hit2 : itemsL false [] (Lib.join ((x :: r).map It.text) [44]) = (x :: r).map It.text := by
        rw [List.map_cons]
        exact items_join _ _ (fun t ht => by
          rw [← List.map_cons] at ht
          obtain ⟨y, _, rfl⟩ := List.mem_map.1 ht
          exact text1_bal _ _ _)
      have hne : ¬ ((91 :: (Lib.join ((x :: r).map It.text) [44] ++ [93]) == [91, 93]) = true) := by
        rw [beq_iff_eq]
        intro e
        obtain ⟨c, q, hcq, _⟩ := text1_head x.k x.n x.s
        rw [List.map_cons, Lib.join_cons, It.text, hcq] at e
        simp at e
      have hany : (((x :: r).map It.text).map toBA).any isOpen = false := by
        rw [List.any_eq_false]
        intro y hy
        obtain ⟨t, ht, rfl⟩ := List.mem_map.1 hy
        obtain ⟨z, _, rfl⟩ := List.mem_map.1 ht
        rw [It.text, open1]; decide
      rw [if_neg hne, hsub, hit2, hany, if_neg (by decide)]
      congr 1
      rw [List.map_map, List.map_map]
      conv => rhs; rw [← List.map_id (x :: r)]
      apply List.map_congr_left
      intro y hy
      obtain ⟨hym, hyn⟩ := hx y hy
      have hln : y.ln = 0 := by
        simp only [It.may, simpleB, Bool.and_eq_true, decide_eq_true_eq] at hym
        exact hym.1
      show read1 (toBA y.text) = y
      rw [It.text, read1_text (l := y.ln) hym hyn, ← hln]
  · have sm : simpleB d.k d.n d.s d.l.length = true := by simpa [Da.may, h3] using hm
    have ht : d.text = text1 d.k d.n d.s := by simp [Da.text, h3]
    have hlen : d.l.length = 0 := by
      simp only [simpleB, Bool.and_eq_true, decide_eq_true_eq] at sm
      exact sm.1
    rw [ht]
    unfold readDa
    rw [if_neg (fun e => by rw [open1] at e; cases e.2), read1_text sm hn]
    obtain ⟨k, n, s, l⟩ := d
    simp only at hlen
    rw [List.eq_nil_of_length_eq_zero hlen]

theorem parseDa_text (d : Da) (hm : d.may = true) (hn : In64 d.n) (hl : ∀ j (hj : j < d.l.length), In64 d.l[j].n) : parseDa (toBA d.text) = some d := by
  unfold parseDa
  rw [readDa_text d hm hn hl, if_pos ⟨hm, by rw [toBA_data]⟩]

theorem same_refl (d : Da) (hm : d.may = true) : d.same d = true := by
  obtain ⟨k, n, s, l⟩ := d
  refine (same_yes (j := l.length) rfl rfl (Nat.le_refl _) (fun i hi => ?_)).symm
  refine ⟨l[i], l[i], List.getElem?_eq_getElem hi, List.getElem?_eq_getElem hi, ?_⟩
  by_cases h3 : k = 3
  · obtain ⟨_, _, _, hit⟩ := may_items hm h3
    have := hit i hi
    simp only [It.may, simpleB, Bool.and_eq_true, decide_eq_true_eq] at this
    have h0 : l[i].ln = 0 := this.1
    simp [It.same, h0]
  · have h0 : l.length = 0 := by
      have : simpleB k n s l.length = true := by simpa [Da.may, h3] using hm
      simp only [simpleB, Bool.and_eq_true, decide_eq_true_eq] at this
      exact this.1
    omega
end Go.Proofs.YtekcoddjdjllhaaDoor
