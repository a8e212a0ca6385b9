/- The reference's reading of texts, plainly. -/
import Derived.Test.YtekcoddjdjllhaaDoorNum
namespace Go.Proofs.YtekcoddjdjllhaaDoor
open Go.RowKit

theorem hexv_hexd : ∀ k : Fin 16, hexv (hexd k.val) = (k.val : Int) := by decide +kernel
set_option maxRecDepth 100000 in
theorem hexv_all : ∀ k : Fin 256, -1 ≤ hexv (UInt8.ofNat k.val) ∧ hexv (UInt8.ofNat k.val) ≤ 15 := by decide +kernel
theorem hexv_in (b : UInt8) : -1 ≤ hexv b ∧ hexv b ≤ 15 := by
  have := hexv_all ⟨b.toNat, b.toNat_lt⟩
  simp only at this
  rw [show UInt8.ofNat b.toNat = b from UInt8.ofNat_toNat] at this
  exact this

/-- What stands within quotes, read strictly. -/
def rqL : List UInt8 → Option (List UInt8)
  | [] => some []
  | [c] => if c = 37 then none else some [c]
  | [c, d] => if c = 37 then none else (rqL [d]).map (c :: ·)
  | c :: a :: b :: r => if c = 37 then (if hexv a < 0 ∨ hexv b < 0 then none else (rqL r).map (UInt8.ofNat (16 * hexv a + hexv b).toNat :: ·)) else (rqL (a :: b :: r)).map (c :: ·)

theorem rqL_plain (c : UInt8) (r : List UInt8) (h : ¬ c = 37) : rqL (c :: r) = (rqL r).map (c :: ·) := by
  match r with
  | [] => simp [rqL, h]
  | [d] => simp [rqL, h]
  | a :: b :: r => rw [rqL, if_neg h]
theorem rqL_short (r : List UInt8) (h : r.length < 2) : rqL (37 :: r) = none := by
  match r, h with
  | [], _ => rw [rqL, if_pos rfl]
  | [d], _ => rw [rqL, if_pos rfl]

theorem rqL_qu : ∀ t : List UInt8, rqL (t.flatMap qu1) = some t
  | [] => by simp [rqL]
  | b :: t => by
    have ih := rqL_qu t
    rw [List.flatMap_cons, qu1]
    cases hb : escB b with
    | true =>
      have h1 := hexv_hexd ⟨b.toNat / 16, by have := b.toNat_lt; omega⟩
      have h2 := hexv_hexd ⟨b.toNat % 16, by omega⟩
      simp only at h1 h2
      simp only [if_true, List.cons_append, List.nil_append]
      rw [rqL, if_pos rfl, h1, h2, if_neg (by omega), ih]
      have e : (16 * ((b.toNat / 16 : Nat) : Int) + ((b.toNat % 16 : Nat) : Int)).toNat = b.toNat := by omega
      rw [e, show UInt8.ofNat b.toNat = b from UInt8.ofNat_toNat]
      rfl
    | false =>
      simp only [Bool.false_eq_true, if_false, List.cons_append, List.nil_append]
      rw [rqL_plain _ _ (not_esc37 hb), ih]
      rfl

/-- Whose text a text is: what is no list. -/
def RdOk (s : List UInt8) (o : Option It) : Prop :=
  match o with
  | some x => x.may = true ∧ x.ok ∧ x.text = s
  | none => ∀ x : It, x.may = true → In64 x.n → x.text ≠ s

theorem it_parts {x : It} (h : x.may = true) : x.ln = 0 ∧ ((x.k = 1 ∧ x.s = ⟨#[]⟩) ∨ (x.k = 2 ∧ x.n = 0 ∧ x.s.size ≤ 32)) := by
  simp only [It.may, simpleB, Bool.and_eq_true, Bool.or_eq_true, decide_eq_true_eq, List.isEmpty_iff] at h
  refine ⟨h.1, ?_⟩
  rcases h.2 with h | h
  · exact .inl ⟨h.1, isEmpty_of h.2⟩
  · exact .inr ⟨h.1.1, h.1.2, h.2⟩

theorem rdOk_num (s : List UInt8) (h : s.head? ≠ some 39) : RdOk s ((numR s).map fun n => ⟨1, n, ⟨#[]⟩, 0⟩) := by
  cases hn : numR s with
  | some n =>
    obtain ⟨h1, h2⟩ := numR_text hn
    refine ⟨by simp [It.may, simpleB, Lib.toList_data], ⟨rfl, by show 0 ≤ _; omega, h2⟩, ?_⟩
    simp only [It.text, text1, if_true]
    exact h1
  | none =>
    intro x hm hx e
    rcases (it_parts hm).2 with ⟨hk, hs⟩ | ⟨hk, h0, hs⟩
    · simp only [It.text, text1, hk, if_true] at e
      rw [← e, numR_itoa x.n hx] at hn
      cases hn
    · simp only [It.text, text1, hk] at e
      rw [if_neg (by decide), quoteL] at e
      rw [← e] at h
      exact h rfl

theorem rdOk_text (s : List UInt8) (r : List UInt8) (hs : s = 39 :: r) :
    RdOk s (match rqL (r.take (r.length - 1)) with
      | some t => if t.length ≤ 32 ∧ quoteL t = s then some ⟨2, 0, toBA t, 0⟩ else none
      | none => none) := by
  have hno : ∀ x : It, x.may = true → x.text = s → rqL (r.take (r.length - 1)) = some x.s.data.toList ∧ x.s.data.toList.length ≤ 32 ∧ quoteL x.s.data.toList = s := by
    intro x hm e
    rcases (it_parts hm).2 with ⟨hk, _⟩ | ⟨hk, h0, h32⟩
    · exfalso
      obtain ⟨c, q, hc, _, h1, _⟩ := text1_head x.k x.n x.s
      rw [It.text, hc, hs] at e
      injection e with e1 e2
      exact h1 hk e1
    · have e2 : quoteL x.s.data.toList = s := by
        rw [← e, It.text, text1, hk, if_neg (by decide)]
      refine ⟨?_, by have : x.s.data.toList.length = x.s.size := by simp
                     omega, e2⟩
      rw [hs, quoteL] at e2
      simp only [List.cons_append, List.nil_append] at e2
      injection e2 with e3 e4
      rw [← e4]
      simp only [List.length_append, List.length_cons, List.length_nil, Nat.zero_add, Nat.add_sub_cancel]
      rw [List.take_left' rfl, rqL_qu]
  cases hq : rqL (r.take (r.length - 1)) with
  | none =>
    intro x hm _ e
    have := (hno x hm e).1
    rw [hq] at this
    cases this
  | some t =>
    simp only
    by_cases ht : t.length ≤ 32 ∧ quoteL t = s
    · rw [if_pos ht]
      refine ⟨?_, ⟨rfl, by rw [toBA_size]; omega, ⟨by show _ ≤ (0 : Int); omega, by show (0 : Int) ≤ _; omega⟩⟩, ?_⟩
      · simp [It.may, simpleB, toBA_size, ht.1]
      · simp only [It.text, text1]
        rw [if_neg (by decide), toBA_list]
        exact ht.2
    · rw [if_neg ht]
      intro x hm _ e
      obtain ⟨h1, h2, h3⟩ := hno x hm e
      rw [hq] at h1
      injection h1 with h1
      subst h1
      exact ht ⟨h2, h3⟩

/-- Items of a list that may be. -/
def Val (L : List It) : Prop := L.length ≤ 8 ∧ ∀ x ∈ L, x.may = true ∧ In64 x.n
def listText (L : List It) : List UInt8 := 91 :: (Lib.join (L.map It.text) [44] ++ [93])

/-- Where the reading of a list stands: acc is read, the next item begins at f, i is within it or at its end. -/
def St (s : List UInt8) (L : List It) (f i : Nat) (acc : List It) : Prop :=
  (∃ y R, L = acc ++ y :: R ∧ s.drop f = Lib.join ((y :: R).map It.text) [44] ++ [93] ∧ f ≤ i ∧ i ≤ f + y.text.length) ∨ (L = acc ∧ s.length ≤ i)

theorem tail_of (y : It) (R : List It) : ∃ c q, Lib.join ((y :: R).map It.text) [44] ++ [93] = y.text ++ c :: q ∧ ((R = [] ∧ c = 93 ∧ q = []) ∨ (∃ z R', R = z :: R' ∧ c = 44 ∧ q = Lib.join ((z :: R').map It.text) [44] ++ [93])) := by
  cases R with
  | nil => exact ⟨93, [], by simp [Lib.join_one], .inl ⟨rfl, rfl, rfl⟩⟩
  | cons z R => exact ⟨44, Lib.join ((z :: R).map It.text) [44] ++ [93], by rw [List.map_cons, List.map_cons, join_two]; simp, .inr ⟨z, R, rfl, rfl, rfl⟩⟩

theorem drop_len {s : List UInt8} {f : Nat} {a : List UInt8} {c : UInt8} {q : List UInt8} (h : s.drop f = a ++ c :: q) : s.length = f + a.length + 1 + q.length ∧ s[f + a.length]? = some c := by
  have h1 := congrArg List.length h
  rw [List.length_drop, List.length_append, List.length_cons] at h1
  refine ⟨by omega, ?_⟩
  rw [← List.getElem?_drop, h, List.getElem?_append_right (Nat.le_refl _), Nat.sub_self]
  rfl

/-- A sign that is neither ',' nor the last: the item goes on. -/
theorem st_skip {s : List UInt8} {L : List It} {f i : Nat} {acc : List It} (h : St s L f i acc) (hi : i + 1 < s.length) (hc : s[i]? ≠ some 44) : St s L f (i + 1) acc := by
  rcases h with ⟨y, R, hL, hd, h1, h2⟩ | ⟨hL, hl⟩
  · refine .inl ⟨y, R, hL, hd, by omega, ?_⟩
    rcases Nat.lt_or_ge i (f + y.text.length) with h3 | h3
    · omega
    · exfalso
      obtain ⟨c, q, ht, hcase⟩ := tail_of y R
      rw [ht] at hd
      obtain ⟨hlen, hat⟩ := drop_len hd
      have e : i = f + y.text.length := by omega
      rcases hcase with ⟨_, _, rfl⟩ | ⟨_, _, _, rfl, _⟩
      · simp at hlen; omega
      · rw [← e] at hat; exact hc hat
  · exfalso; omega

theorem text_inj {x y : It} (hx : x.may = true) (hy : y.may = true) (nx : In64 x.n) (ny : In64 y.n) (e : x.text = y.text) : x = y := by
  have h1 := read1_text (l := x.ln) (show simpleB x.k x.n x.s x.ln = true from hx) nx
  have h2 := read1_text (l := y.ln) (show simpleB y.k y.n y.s y.ln = true from hy) ny
  have e' : text1 x.k x.n x.s = text1 y.k y.n y.s := e
  rw [e', h2] at h1
  have lx := (it_parts hx).1
  have ly := (it_parts hy).1
  obtain ⟨k, n, s, l⟩ := x
  obtain ⟨k', n', s', l'⟩ := y
  simp only at lx ly h1
  subst lx ly
  exact h1.symm

/-- At a ',' or at the last sign: the item ends here, or it is a text with a ',' in it. -/
theorem st_end {s : List UInt8} {L : List It} {f i : Nat} {acc : List It} (h : St s L f i acc) (hv : Val L) (hi : i < s.length) (hc : s[i]? = some 44 ∨ i + 1 = s.length) :
    acc.length < 8 ∧ ((∃ y R, L = acc ++ y :: R ∧ (s.take i).drop f = y.text ∧ St s L (i + 1) (i + 1) (acc ++ [y])) ∨
      ((s.take i).drop f).head? = some 39 ∧ (∀ x : It, x.may = true → x.text ≠ (s.take i).drop f) ∧ St s L f (i + 1) acc) := by
  rcases h with ⟨y, R, hL, hd, h1, h2⟩ | ⟨hL, hl⟩
  · have hlen8 : acc.length < 8 := by
      have := hv.1
      rw [hL, List.length_append, List.length_cons] at this
      omega
    refine ⟨hlen8, ?_⟩
    obtain ⟨c, q, ht, hcase⟩ := tail_of y R
    have hd' := hd
    rw [ht] at hd'
    obtain ⟨hlen, hat⟩ := drop_len hd'
    have hsub : ∀ j, j ≤ y.text.length → (s.take (f + j)).drop f = y.text.take j := by
      intro j hj
      rw [List.drop_take, hd', show f + j - f = j by omega, List.take_append_of_le_length hj]
    rcases Nat.lt_or_ge i (f + y.text.length) with h3 | h3
    · -- a ',' inside
      refine .inr ?_
      obtain ⟨j, rfl⟩ : ∃ j, i = f + j := ⟨i - f, by omega⟩
      have hj : j < y.text.length := by omega
      have hs44 : y.text[j]? = some 44 := by
        have h4 : s[f + j]? = y.text[j]? := by
          rw [← List.getElem?_drop, hd', List.getElem?_append_left hj]
        rw [← h4]
        rcases hc with hc | hc
        · exact hc
        · exfalso; omega
      have hym := hv.2 y (by rw [hL]; simp)
      have hquote : y.text = 39 :: (y.s.data.toList.flatMap qu1 ++ [39]) := by
        rcases (it_parts hym.1).2 with ⟨hk, _⟩ | ⟨hk, _, _⟩
        · exfalso
          have e : y.text = Lib.itoa y.n := by rw [It.text, text1, if_pos hk]
          rw [e] at hs44
          have := itoa_chars y.n 44 (List.mem_of_getElem? hs44)
          revert this; decide
        · rw [It.text, text1, hk, if_neg (by decide), quoteL]; simp
      have hj0 : 0 < j := by
        rcases Nat.eq_zero_or_pos j with h0 | h0
        · subst h0
          rw [hquote] at hs44
          simp at hs44
        · exact h0
      have hjl : j ≤ (y.s.data.toList.flatMap qu1).length := by
        rcases Nat.lt_or_ge (y.s.data.toList.flatMap qu1).length j with h5 | h5
        · exfalso
          rw [hquote] at hj hs44
          simp only [List.length_cons, List.length_append, List.length_nil] at hj
          have e : j = (y.s.data.toList.flatMap qu1).length + 1 := by omega
          rw [e] at hs44
          simp at hs44
        · exact h5
      have hsj := hsub j (by omega)
      rw [hsj]
      have htk : y.text.take j = 39 :: (y.s.data.toList.flatMap qu1).take (j - 1) := by
        rw [hquote]
        obtain ⟨j', rfl⟩ : ∃ j', j = j' + 1 := ⟨j - 1, by omega⟩
        rw [List.take_succ_cons, Nat.add_sub_cancel, List.take_append_of_le_length (by omega)]
      rw [htk]
      refine ⟨rfl, ?_, .inl ⟨y, R, hL, hd, by omega, by omega⟩⟩
      intro x hxm e
      rcases (it_parts hxm).2 with ⟨hk, _⟩ | ⟨hk, _, _⟩
      · obtain ⟨c', q', hc', _, h1', _⟩ := text1_head x.k x.n x.s
        rw [It.text, hc'] at e
        injection e with e1 e2
        exact h1' hk e1
      · rw [It.text, text1, hk, if_neg (by decide), quoteL] at e
        simp only [List.cons_append, List.nil_append] at e
        injection e with e1 e2
        have h39 : (39 : UInt8) ∈ (y.s.data.toList.flatMap qu1).take (j - 1) := by rw [← e2]; simp
        exact qu_no39 _ _ (List.mem_of_mem_take h39) rfl
    · -- the end
      have e : i = f + y.text.length := by omega
      subst e
      refine .inl ⟨y, R, hL, by rw [hsub _ (Nat.le_refl _), List.take_length], ?_⟩
      have hdr : s.drop (f + y.text.length + 1) = q := by
        rw [show f + y.text.length + 1 = f + (y.text.length + 1) by omega, ← List.drop_drop, hd', List.drop_append, List.drop_of_length_le (by omega)]
        simp
      rcases hcase with ⟨hR, _, hq⟩ | ⟨z, R', hR, _, hq⟩
      · refine .inr ⟨by rw [hL, hR], ?_⟩
        rw [hlen, hq]; simp
      · refine .inl ⟨z, R', by rw [hL, hR]; simp, by rw [hdr, hq], by omega, by omega⟩
  · exfalso; omega

theorem st_start {s : List UInt8} {L : List It} (hs : listText L = s) (h2 : 2 < s.length) : St s L 1 1 [] := by
  cases L with
  | nil => rw [← hs] at h2; simp [listText, Lib.join_nil] at h2
  | cons y R => exact .inl ⟨y, R, rfl, by rw [← hs]; rfl, by omega, by omega⟩

/-- At the end all is read. -/
theorem st_done {s : List UInt8} {L : List It} {f i : Nat} {acc : List It} (h : St s L f i acc) (hi : s.length ≤ i) : L = acc := by
  rcases h with ⟨y, R, hL, hd, h1, h2⟩ | ⟨hL, _⟩
  · exfalso
    obtain ⟨c, q, ht, _⟩ := tail_of y R
    rw [ht] at hd
    obtain ⟨hlen, _⟩ := drop_len hd
    omega
  · exact hL
end Go.Proofs.YtekcoddjdjllhaaDoor
