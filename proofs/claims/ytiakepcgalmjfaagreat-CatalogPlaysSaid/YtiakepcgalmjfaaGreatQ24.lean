/- A catalog's leaf: what holds of it; Add answers as the reference. What Add answers, as a function. Add answers as the reference. A catalog as columns and a list of indexes: Add, Set, Drop, Open, Indexes, Columns. -/
import Derived.Test.YtiakepcgalmjfaaGreatQ23
import Derived.Test.YtiakepcgalmjfaaGreatQ17
set_option linter.unusedVariables false
set_option linter.unusedSimpArgs false
namespace Go.Proofs.YtiakepcgalmjfaaGreat
open Go.RowKit

theorem nodup_len : ∀ (a b : List Int), a.Nodup → (∀ x ∈ a, x ∈ b) → a.length ≤ b.length
  | [], _, _, _ => by simp
  | x :: a, b, hn, h => by
    rw [List.nodup_cons] at hn
    have hx := h x (by simp)
    have ih := nodup_len a (b.erase x) hn.2 (fun y hy => by
      have hne : y ≠ x := fun e => hn.1 (e ▸ hy)
      exact (List.mem_erase_of_ne hne).2 (h y (by simp [hy])))
    rw [List.length_erase_of_mem hx] at ih
    have : 0 < b.length := List.length_pos_of_mem hx
    rw [List.length_cons]
    omega
theorem XOk.nodup {X : List KV} (h : XOk X) : (X.map fun y => byteN y.v 4).Nodup := by
  unfold List.Nodup
  rw [List.pairwise_iff_getElem]
  intro i j hi hj hij
  rw [List.getElem_map, List.getElem_map]
  exact h.roots i j (by simpa using hi) (by simpa using hj) hij
theorem XOk.range {X : List KV} (h : XOk X) : ∀ x ∈ X.map fun y => byteN y.v 4, x ∈ ([2, 3, 4, 5, 6, 7] : List Int) := fun x hx => by
  obtain ⟨y, hy, rfl⟩ := List.mem_map.1 hx
  obtain ⟨s, _, _, _, _, h2, h8⟩ := h.ent y hy
  simp only [List.mem_cons, List.not_mem_nil, or_false]
  omega
theorem XOk.six {X : List KV} (h : XOk X) : X.length ≤ 6 := by
  have := nodup_len _ _ h.nodup h.range
  simpa using this
theorem XOk.free {X : List KV} (h : XOk X) {r : Int} (hr : 2 ≤ r ∧ r < 8) (ht : taken X r = false) : X.length ≤ 5 ∧ ∀ y ∈ X, byteN y.v 4 ≠ r := by
  have hne : ∀ y ∈ X, byteN y.v 4 ≠ r := fun y hy e => by
    unfold taken at ht
    rw [List.any_eq_false] at ht
    exact ht y hy (by simp [e])
  refine ⟨?_, hne⟩
  have := nodup_len _ (([2, 3, 4, 5, 6, 7] : List Int).erase r) h.nodup (fun x hx => by
    obtain ⟨y, hy, rfl⟩ := List.mem_map.1 hx
    exact (List.mem_erase_of_ne (hne y hy)).2 (h.range _ hx))
  rw [List.length_map, List.length_erase_of_mem (by simp only [List.mem_cons, List.not_mem_nil, or_false]; omega)] at this
  exact this
theorem XOk.full {X : List KV} (h : XOk X) (ht : ∀ t : Int, 2 ≤ t → t < 8 → taken X t = true) : 6 ≤ X.length := by
  have := nodup_len ([2, 3, 4, 5, 6, 7] : List Int) (X.map fun y => byteN y.v 4) (by decide) (fun x hx => by
    simp only [List.mem_cons, List.not_mem_nil, or_false] at hx
    have := ht x (by omega) (by omega)
    unfold taken at this
    obtain ⟨y, hy, e⟩ := List.any_eq_true.1 this
    exact List.mem_map.2 ⟨y, hy, by simpa using e⟩)
  simpa using this
theorem XOk.item {X : List KV} (h : XOk X) {y : KV} (hy : y ∈ X) : y.ok ∧ (itemB y).length ≤ 24 ∧ xOk y ∧ pre ⟨#[120]⟩ y = true ∧ pre ⟨#[99]⟩ y = false := by
  obtain ⟨s, hk, hn, hv, h0, _⟩ := h.ent y hy
  have hs : s.size ≤ 16 := by
    have e : s.data.toList.length = s.size := by simp
    simp only [nameX, Bool.and_eq_true, decide_eq_true_eq] at hn
    omega
  have hks : y.k.size = s.size + 1 := by rw [hk, xkey_size]
  refine ⟨⟨by omega, by omega⟩, by rw [itemB_length]; omega, ⟨hv, h0⟩, pre_of_key (by rw [hk]), ?_⟩
  unfold pre
  rw [hk, xkey_data]
  rfl
/-- What holds of a catalog's leaf. -/
theorem catL_laws {cols : List Co} (hc : colsB cols = true) {X : List KV} (h : XOk X) :
    (∀ y ∈ catL cols X, y.ok) ∧ Sorted (catL cols X) ∧ (leafB (catL cols X)).length ≤ 512 ∧ (catL cols X).length ≤ 10 ∧ 1 ≤ cols.length ∧ cols.length ≤ 4 := by
  obtain ⟨c1, c4, co⟩ := colsB_facts hc
  obtain ⟨a1, a2, a3, a4⟩ := colL_laws hc cols.length (Nat.le_refl _)
  have h6 := h.six
  refine ⟨fun y hy => ?_, fun i j hi hj hij => ?_, ?_, by rw [catL_length]; omega, c1, c4⟩
  · rcases List.mem_append.1 hy with hy | hy
    · exact a1 y hy
    · exact (h.item hy).1
  · have hl := catL_length cols X
    by_cases j1 : j < cols.length
    · have i1 : i < cols.length := by omega
      have := a2 i j (by rw [colL_length]; exact i1) (by rw [colL_length]; exact j1) hij
      rw [colL_at, colL_at] at this
      rw [catL_col cols X i i1 hi, catL_col cols X j j1 hj]
      exact this
    · obtain ⟨q, rfl⟩ : ∃ q, j = cols.length + q := ⟨j - cols.length, by omega⟩
      rw [catL_ix cols X q (by omega) hj]
      by_cases i1 : i < cols.length
      · rw [catL_col cols X i i1 hi]
        obtain ⟨s, hk, _⟩ := h.ent _ (List.getElem_mem (show q < X.length by omega))
        rw [hk]
        exact colK_xkey i s
      · obtain ⟨p, rfl⟩ : ∃ p, i = cols.length + p := ⟨i - cols.length, by omega⟩
        rw [catL_ix cols X p (by omega) hi]
        exact h.rises p q (by omega) (by omega) (by omega)
  · have hb := flat_le 24 (catL cols X) (fun y hy => by
      rcases List.mem_append.1 hy with hy | hy
      · obtain ⟨i, hi, rfl⟩ := colL_mem hy
        have := (colX_ok hc i hi).2.2
        omega
      · exact (h.item hy).2.1)
    rw [catL_length] at hb
    unfold leafB
    simp only [List.length_cons]
    omega
theorem pre_col (cols : List Co) (t : Nat) : pre ⟨#[99]⟩ (colX cols t) = true ∧ pre ⟨#[120]⟩ (colX cols t) = false := ⟨rfl, rfl⟩
theorem catL_spans {cols : List Co} (hc : colsB cols = true) {X : List KV} (h : XOk X) : Span (catL cols X) 99 0 cols.length ∧ Span (catL cols X) 120 cols.length X.length := by
  have hl := catL_length cols X
  have k99 : ∀ y ∈ X, 0 ≤ cmpK y ⟨#[99]⟩ := fun y hy => by
    obtain ⟨s, hk, _⟩ := h.ent y hy
    unfold cmpK
    rw [hk, xkey_data]
    show 0 ≤ Go.Lib.compareBytes (120 :: s.data.toList) [99]
    simp [Go.Lib.compareBytes]
  have k120 : ∀ y ∈ X, 0 ≤ cmpK y ⟨#[120]⟩ := fun y hy => by
    obtain ⟨s, hk, _⟩ := h.ent y hy
    unfold cmpK
    rw [hk, xkey_data]
    show 0 ≤ Go.Lib.compareBytes (120 :: s.data.toList) [120]
    cases s.data.toList <;> simp [Go.Lib.compareBytes]
  have c99 : ∀ t, 0 ≤ cmpK (colX cols t) ⟨#[99]⟩ := fun t => by
    show 0 ≤ Go.Lib.compareBytes [99, UInt8.ofNat t] [99]
    simp [Go.Lib.compareBytes]
  have c120 : ∀ t, cmpK (colX cols t) ⟨#[120]⟩ < 0 := fun t => by
    show Go.Lib.compareBytes [99, UInt8.ofNat t] [120] < 0
    simp [Go.Lib.compareBytes]
  refine ⟨⟨⟨Nat.zero_le _, fun t ht h0 => by omega, fun t ht _ => ?_⟩, by omega, fun t ht _ h2 => ?_, fun ht => ?_⟩, ⟨⟨by omega, fun t ht h2 => ?_, fun t ht h2 => ?_⟩, by omega, fun t ht h1 h2 => ?_, fun ht => by omega⟩⟩
  · by_cases t1 : t < cols.length
    · rw [catL_col cols X t t1 ht]; exact c99 t
    · obtain ⟨q, rfl⟩ : ∃ q, t = cols.length + q := ⟨t - cols.length, by omega⟩
      rw [catL_ix cols X q (by omega) ht]; exact k99 _ (List.getElem_mem _)
  · rw [catL_col cols X t (by omega) ht]; exact (pre_col cols t).1
  · have e : (catL cols X)[0 + cols.length]'ht = (catL cols X)[cols.length + 0]'(by omega) := by congr 1; omega
    rw [e, catL_ix cols X 0 (by omega)]
    exact (h.item (List.getElem_mem _)).2.2.2.2
  · rw [catL_col cols X t h2 ht]; exact c120 t
  · obtain ⟨q, rfl⟩ : ∃ q, t = cols.length + q := ⟨t - cols.length, by omega⟩
    rw [catL_ix cols X q (by omega) ht]; exact k120 _ (List.getElem_mem _)
  · obtain ⟨q, rfl⟩ : ∃ q, t = cols.length + q := ⟨t - cols.length, by omega⟩
    rw [catL_ix cols X q (by omega) ht]; exact (h.item (List.getElem_mem _)).2.2.2.1
theorem catL_drop (cols : List Co) (X : List KV) : ((catL cols X).drop cols.length).take X.length = X := by
  unfold catL
  rw [List.drop_append_of_le_length (by rw [colL_length]; exact Nat.le_refl _), List.drop_of_length_le (by rw [colL_length]; exact Nat.le_refl _), List.nil_append, List.take_length]
end Go.Proofs.YtiakepcgalmjfaaGreat

namespace Go.Proofs.YtiakepcgalmjfaaGreat
open Go.RowKit

theorem Span.uniq {L : List KV} {b : UInt8} {i n i' n' : Nat} (h : Span L b i n) (h' : Span L b i' n') : i = i' ∧ n = n' := by
  have e := h.cut.uniq h'.cut
  subst e
  refine ⟨rfl, ?_⟩
  rcases Nat.lt_trichotomy n n' with hl | he | hg
  · have h1 := h.no (by have := h'.le; omega)
    have h2 := h'.yes (i + n) (by have := h'.le; omega) (by omega) (by omega)
    rw [h1] at h2; cases h2
  · exact he
  · have h1 := h'.no (by have := h.le; omega)
    have h2 := h.yes (i + n') (by have := h.le; omega) (by omega) (by omega)
    rw [h1] at h2; cases h2
theorem IsKind.uniq {m : ByteArray} {a b : Int} (h : IsKind m a) (h' : IsKind m b) : a = b := by
  rcases h with ⟨rfl, h⟩ | ⟨i, hi, rfl, hr, hlo⟩ <;> rcases h' with ⟨rfl, h'⟩ | ⟨j, hj, rfl, hr', hlo'⟩
  · rfl
  · rw [h j hj] at hr'; cases hr'
  · rw [h' i hi] at hr; cases hr
  · rcases Nat.lt_trichotomy i j with hl | he | hg
    · rw [hlo' i hl] at hr; cases hr
    · rw [he]
    · rw [hlo j hg] at hr'; cases hr'
theorem IsRoot.uniq {l : List KV} {a b : Int} (h : IsRoot l a) (h' : IsRoot l b) : a = b := by
  rcases h with ⟨rfl, h⟩ | ⟨h1, h2, h3, h4⟩ <;> rcases h' with ⟨rfl, h'⟩ | ⟨g1, g2, g3, g4⟩
  · rfl
  · rw [h b g1 g2] at g3; cases g3
  · rw [h' a h1 h2] at h3; cases h3
  · rcases Int.lt_trichotomy a b with hl | he | hg
    · rw [g4 a h1 hl] at h3; cases h3
    · exact he
    · rw [h4 b g1 hg] at g3; cases g3
/-- What Add answers, and what it puts. -/
def addR (L : List KV) (x : Xi) (i ic nc : Nat) (at_ r : Int) : Int × ByteArray :=
  if nameX x.name.data.toList = false ∨ isAt L (xkey x.name) i = true then (160, ⟨#[]⟩)
  else if at_ < 0 ∨ x.col < 0 ∨ (nc : Int) ≤ x.col then (3, ⟨#[]⟩)
  else if (kcols at_.toNat).contains (colOf (yv L (ic + x.col.toNat))).kind = false then (10, ⟨#[]⟩)
  else if x.uniq = true ∧ kuniq at_.toNat = false then (90, ⟨#[]⟩)
  else if r = 0 then (2, ⟨#[]⟩) else (0, xent at_ x.col x.uniq r)
theorem AddIs.eq {L : List KV} {x : Xi} {e : Int} {v : ByteArray} (h : AddIs L x e v) {i ic nc ix nx : Nat} {at_ r : Int} (hi : Cut L (xkey x.name) i) (hc : Span L 99 ic nc) (hx : Span L 120 ix nx) (hk : IsKind x.meth at_) (hr : IsRoot ((L.drop ix).take nx) r) : (e, v) = addR L x i ic nc at_ r := by
  unfold addR
  cases h with
  | name h =>
    rw [if_pos]
    rcases h with h | ⟨j, hj, h⟩
    · exact .inl h
    · rw [hj.uniq hi] at h; exact .inr h
  | none i' ic' nc' a' h hi' hf hk' hc' hn =>
    obtain rfl := hi'.uniq hi
    obtain ⟨rfl, rfl⟩ := hc'.uniq hc
    obtain rfl := hk'.uniq hk
    rw [if_neg (by rw [h, hf]; simp), if_pos hn]
  | kind i' ic' nc' k c h hi' hf hk' hc' hcol hn hb =>
    obtain rfl := hi'.uniq hi
    obtain ⟨rfl, rfl⟩ := hc'.uniq hc
    obtain rfl := hk'.uniq hk
    rw [if_neg (by rw [h, hf]; simp), if_neg (by omega), hcol, Int.toNat_natCast, Int.toNat_natCast, if_pos hb]
  | able i' ic' nc' k c h hi' hf hk' hc' hcol hn hb hu hk2 =>
    obtain rfl := hi'.uniq hi
    obtain ⟨rfl, rfl⟩ := hc'.uniq hc
    obtain rfl := hk'.uniq hk
    rw [if_neg (by rw [h, hf]; simp), if_neg (by omega), hcol, Int.toNat_natCast, Int.toNat_natCast, if_neg (by rw [hb]; simp), if_pos ⟨hu, hk2⟩]
  | full i' ic' nc' k c ix' nx' h hi' hf hk' hc' hcol hn hb hu hx' hr' =>
    obtain rfl := hi'.uniq hi
    obtain ⟨rfl, rfl⟩ := hc'.uniq hc
    obtain rfl := hk'.uniq hk
    obtain ⟨rfl, rfl⟩ := hx'.uniq hx
    obtain rfl := hr'.uniq hr
    rw [if_neg (by rw [h, hf]; simp), if_neg (by omega), hcol, Int.toNat_natCast, Int.toNat_natCast, if_neg (by rw [hb]; simp), if_neg (by rintro ⟨a, b⟩; rw [hu a] at b; cases b), if_pos rfl]
  | ok i' ic' nc' k c ix' nx' r' h hi' hf hk' hc' hcol hn hb hu hx' hr' hr0 =>
    obtain rfl := hi'.uniq hi
    obtain ⟨rfl, rfl⟩ := hc'.uniq hc
    obtain rfl := hk'.uniq hk
    obtain ⟨rfl, rfl⟩ := hx'.uniq hx
    obtain rfl := hr'.uniq hr
    rw [if_neg (by rw [h, hf]; simp), if_neg (by omega), hcol, Int.toNat_natCast, Int.toNat_natCast, if_neg (by rw [hb]; simp), if_neg (by rintro ⟨a, b⟩; rw [hu a] at b; cases b), if_neg hr0]

/- By computing. -/
theorem Cut.of {L : List KV} {key : ByteArray} {i : Nat} (h : i ≤ L.length ∧ ∀ t : Fin L.length, (t.1 < i → cmpK L[t.1] key < 0) ∧ (i ≤ t.1 → 0 ≤ cmpK L[t.1] key)) : Cut L key i :=
  ⟨h.1, fun t ht => (h.2 ⟨t, ht⟩).1, fun t ht => (h.2 ⟨t, ht⟩).2⟩
theorem Span.of {L : List KV} {b : UInt8} {i n : Nat} (hc : Cut L ⟨#[b]⟩ i) (h : i + n ≤ L.length ∧ (∀ t : Fin L.length, i ≤ t.1 → t.1 < i + n → pre ⟨#[b]⟩ L[t.1] = true) ∧ ∀ t : Fin L.length, t.1 = i + n → pre ⟨#[b]⟩ L[t.1] = false) : Span L b i n :=
  ⟨hc, h.1, fun t ht => h.2.1 ⟨t, ht⟩, fun ht => h.2.2 ⟨i + n, ht⟩ rfl⟩
theorem IsKind.of {m : ByteArray} {k : Nat} (h : k < 4 ∧ isK m k = true ∧ ∀ t : Fin k, isK m t.1 = false) : IsKind m k := .inr ⟨k, h.1, rfl, h.2.1, fun t ht => h.2.2 ⟨t, ht⟩⟩

/- The table of two columns, and its index. -/
def twoL : List Co := [⟨⟨#[97]⟩, 1⟩, ⟨⟨#[108]⟩, 3⟩]
def wL0 : List KV := [⟨⟨#[99, 0]⟩, ⟨#[1, 97]⟩⟩, ⟨⟨#[99, 1]⟩, ⟨#[3, 108]⟩⟩]
def wX : KV := ⟨⟨#[120, 105]⟩, ⟨#[1, 0, 0, 1, 2]⟩⟩
def wL1 : List KV := [⟨⟨#[99, 0]⟩, ⟨#[1, 97]⟩⟩, ⟨⟨#[99, 1]⟩, ⟨#[3, 108]⟩⟩, ⟨⟨#[120, 105]⟩, ⟨#[1, 0, 0, 1, 2]⟩⟩]
def wXi : Xi := ⟨⟨#[105]⟩, ⟨#[98, 116, 114, 101, 101]⟩, 0, false, 0⟩
def wXj : Xi := ⟨⟨#[105]⟩, ⟨#[104, 97, 115, 104]⟩, 0, false, 0⟩
def wXh : Xi := ⟨⟨#[104]⟩, ⟨#[105, 110, 118, 101, 114, 116, 101, 100]⟩, 0, false, 0⟩
theorem wL0_eq : colL twoL 2 = wL0 := by
  have e0 : colX twoL 0 = ⟨⟨#[99, 0]⟩, ⟨#[1, 97]⟩⟩ := by
    unfold colX
    rw [show colK 0 = ⟨#[99, 0]⟩ by decide +kernel, show colV (twoL.getD 0 ⟨⟨#[]⟩, 0⟩) = ⟨#[1, 97]⟩ by decide +kernel]
  have e1 : colX twoL 1 = ⟨⟨#[99, 1]⟩, ⟨#[3, 108]⟩⟩ := by
    unfold colX
    rw [show colK 1 = ⟨#[99, 1]⟩ by decide +kernel, show colV (twoL.getD 1 ⟨⟨#[]⟩, 0⟩) = ⟨#[3, 108]⟩ by decide +kernel]
  rw [colL_succ, colL_succ, e0, e1]
  rfl
theorem two_ok : colsB twoL = true := by decide +kernel
theorem spans0 : Span wL0 99 0 2 ∧ Span wL0 120 2 0 := ⟨.of (.of (by decide +kernel)) (by decide +kernel), .of (.of (by decide +kernel)) (by decide +kernel)⟩
theorem spans1 : Span wL1 99 0 2 ∧ Span wL1 120 2 1 := ⟨.of (.of (by decide +kernel)) (by decide +kernel), .of (.of (by decide +kernel)) (by decide +kernel)⟩
theorem add_i {e : Int} {v : ByteArray} (h : AddIs wL0 wXi e v) : e = 0 ∧ v = wX.v := by
  have hr : IsRoot ((wL0.drop 2).take 0) 2 := .inr ⟨by omega, by omega, rfl, fun t h1 h2 => by omega⟩
  have := h.eq (i := 2) (.of (by decide +kernel)) spans0.1 spans0.2 (IsKind.of (k := 1) (by decide +kernel)) hr
  have e2 : addR wL0 wXi 2 0 2 ((1 : Nat) : Int) 2 = (0, wX.v) := by decide +kernel
  rw [e2] at this
  exact Prod.mk.inj this
theorem root1 : IsRoot ((wL1.drop 2).take 1) 3 := .inr ⟨by omega, by omega, by decide +kernel, fun t h1 h2 => by
  have : t = 2 := by omega
  subst this
  decide +kernel⟩
theorem add_j {e : Int} {v : ByteArray} (h : AddIs wL1 wXj e v) : e = 160 := by
  have := h.eq (i := 2) (.of (by decide +kernel)) spans1.1 spans1.2 (IsKind.of (k := 2) (by decide +kernel)) root1
  have e2 : addR wL1 wXj 2 0 2 ((2 : Nat) : Int) 3 = (160, ⟨#[]⟩) := by decide +kernel
  rw [e2] at this
  exact (Prod.mk.inj this).1
theorem add_h {e : Int} {v : ByteArray} (h : AddIs wL1 wXh e v) : e = 10 := by
  have := h.eq (i := 2) (.of (by decide +kernel)) spans1.1 spans1.2 (IsKind.of (k := 3) (by decide +kernel)) root1
  have e2 : addR wL1 wXh 2 0 2 ((3 : Nat) : Int) 3 = (10, ⟨#[]⟩) := by decide +kernel
  rw [e2] at this
  exact (Prod.mk.inj this).1
theorem wL1_rises : ∀ j : Fin wL1.length, ∀ i : Fin j.1, Go.Lib.compareBytes (wL1[i.1]'(Nat.lt_trans i.2 j.2)).k.data.toList wL1[j.1].k.data.toList < 0 := by decide +kernel
theorem wL1_laws : (∀ x ∈ wL1, x.ok) ∧ Sorted wL1 ∧ (leafB wL1).length ≤ 512 ∧ wL1.length < 256 := by
  refine ⟨?_, fun i j hi hj hij => ?_, by decide +kernel, by decide +kernel⟩
  · intro x hx
    simp only [wL1, List.mem_cons, List.not_mem_nil, or_false] at hx
    rcases hx with rfl | rfl | rfl <;> exact ⟨by decide +kernel, by decide +kernel⟩
  · exact wL1_rises ⟨j, hj⟩ ⟨i, hij⟩
theorem w_ok (y : KV) (h : y ∈ wL1) : (pre ⟨#[99]⟩ y = true → 0 < y.v.size) ∧ (pre ⟨#[120]⟩ y = true → xOk y) := by
  simp only [wL1, List.mem_cons, List.not_mem_nil, or_false] at h
  rcases h with rfl | rfl | rfl
  · exact ⟨fun _ => by decide +kernel, fun h => by have : pre ⟨#[120]⟩ ⟨⟨#[99, 0]⟩, ⟨#[1, 97]⟩⟩ = false := by decide +kernel
                                                   rw [this] at h; cases h⟩
  · exact ⟨fun _ => by decide +kernel, fun h => by have : pre ⟨#[120]⟩ ⟨⟨#[99, 1]⟩, ⟨#[3, 108]⟩⟩ = false := by decide +kernel
                                                   rw [this] at h; cases h⟩
  · exact ⟨fun _ => by decide +kernel, fun _ => ⟨by decide +kernel, by decide +kernel⟩⟩
theorem w_ok0 (y : KV) (h : y ∈ wL0) : y ∈ wL1 := by
  simp only [wL1, wL0, List.mem_cons, List.not_mem_nil, or_false] at *
  rcases h with h | h
  · exact .inl h
  · exact .inr (.inl h)
end Go.Proofs.YtiakepcgalmjfaaGreat

namespace Go.Proofs.YtiakepcgalmjfaaGreat
open Go.RowKit

theorem kname_inj : ∀ i : Fin 4, ∀ j : Fin 4, (kname i.1).toList = (kname j.1).toList → i = j := by decide +kernel
theorem isK_one {m : ByteArray} {i j : Nat} (hi : i < 4) (hj : j < 4) (h : isK m i = true) (h' : isK m j = true) : i = j := by
  unfold isK at h h'
  rw [beq_iff_eq] at h h'
  exact congrArg Fin.val (kname_inj ⟨i, hi⟩ ⟨j, hj⟩ (h.trans h'.symm))
theorem isK_not {m : ByteArray} {i j : Nat} (hi : i < 4) (hj : j < 4) (h : isK m i = true) (hne : i ≠ j) : isK m j = false := by
  cases h' : isK m j with
  | false => rfl
  | true => exact absurd (isK_one hi hj h h') hne
theorem IsKind.is {m : ByteArray} {k : Nat} (h : IsKind m k) : k < 4 ∧ isK m k = true := by
  rcases h with ⟨e, _⟩ | ⟨i, hi, e, hr, _⟩
  · omega
  · have : k = i := by omega
    subst this
    exact ⟨hi, hr⟩
theorem IsKind.isnt {m : ByteArray} {a : Int} (h : IsKind m a) (ha : a < 0) (z : Int) : rfor m z = (false, false) := by
  rcases h with ⟨_, h⟩ | ⟨i, hi, e, _⟩
  · unfold rfor
    rw [h 0 (by decide), h 1 (by decide), h 2 (by decide), h 3 (by decide)]
    rfl
  · omega
theorem IsKind.rfor {m : ByteArray} {k : Nat} (h : IsKind m k) (z : Int) : rfor m z = ((kcols k).contains z, true) := by
  obtain ⟨h4, hk⟩ := h.is
  have hc : ∀ a b : Int, ([a, b] : List Int).contains z = (z == a || z == b) := fun a b => by simp only [List.contains_cons, List.contains_nil, Bool.or_false]
  have hc1 : ∀ a : Int, ([a] : List Int).contains z = (z == a) := fun a => by simp only [List.contains_cons, List.contains_nil, Bool.or_false]
  unfold Go.Proofs.YtiakepcgalmjfaaGreat.rfor kcols
  match k, h4, hk with
  | 0, _, hk => rw [hk, if_neg (show ¬ (0 = 3) by decide), hc]; simp only [Bool.true_or, Bool.or_true, if_true]
  | 1, _, hk => rw [hk, if_neg (show ¬ (1 = 3) by decide), hc]; simp only [Bool.true_or, Bool.or_true, if_true]
  | 2, _, hk => rw [hk, if_neg (show ¬ (2 = 3) by decide), hc]; simp only [Bool.true_or, Bool.or_true, if_true]
  | 3, _, hk =>
    rw [isK_not (j := 0) (by decide) (by decide) hk (by decide), isK_not (j := 1) (by decide) (by decide) hk (by decide), isK_not (j := 2) (by decide) (by decide) hk (by decide), hk, if_pos (rfl : true = true), if_pos (rfl : (3 : Nat) = 3), hc1]
    simp only [Bool.or_false, Bool.false_eq_true, if_false, if_true]
theorem IsKind.uniqs {m : ByteArray} {k : Nat} (h : IsKind m k) : kuniq k = false ↔ isK m 1 = false ∧ isK m 2 = false := by
  obtain ⟨h4, hk⟩ := h.is
  constructor
  · intro hu
    have h1 : k ≠ 1 := by rintro rfl; exact absurd hu (by decide)
    have h2 : k ≠ 2 := by rintro rfl; exact absurd hu (by decide)
    exact ⟨isK_not h4 (by decide) hk h1, isK_not h4 (by decide) hk h2⟩
  · rintro ⟨h1, h2⟩
    unfold kuniq
    have n1 : k ≠ 1 := by rintro rfl; rw [hk] at h1; cases h1
    have n2 : k ≠ 2 := by rintro rfl; rw [hk] at h2; cases h2
    simp [n1, n2]
theorem kindOf_colV (c : Co) (h : 0 ≤ c.kind ∧ c.kind < 256) : kindOf (colV c) = c.kind := by
  unfold kindOf
  have e : (colV c).data.getD 0 0 = UInt8.ofNat c.kind.toNat := by
    rw [Array.getD_eq_getD_getElem?, ← Array.getElem?_toList]
    unfold colV
    rw [ByteArray.data_append, Array.toList_append]
    rfl
  rw [e, UInt8.toNat_ofNat_of_lt' (by show _ < 256; omega)]
  omega
theorem colV_name (c : Co) : (colV c).extract 1 (colV c).size = c.name := by
  apply ByteArray.ext
  apply Array.toList_inj.1
  rw [ByteArray.data_extract, Array.toList_extract, colV_size]
  unfold colV
  rw [ByteArray.data_append, Array.toList_append]
  have e : c.name.data.toList.length = c.name.size := by simp
  show (UInt8.ofNat c.kind.toNat :: c.name.data.toList).extract 1 (c.name.size + 1) = _
  rw [List.extract_eq_take_drop, List.drop_succ_cons, List.drop_zero]
  exact List.take_of_length_le (by omega)
theorem colOf_colX {cols : List Co} (hc : colsB cols = true) (i : Nat) (hi : i < cols.length) : colOf (colX cols i) = cols[i] := by
  obtain ⟨_, _, ho⟩ := colsB_facts hc
  obtain ⟨_, _, k1, k3⟩ := Co.ok_facts (ho i hi)
  have e : cols.getD i ⟨⟨#[]⟩, 0⟩ = cols[i] := by rw [List.getD_eq_getElem?_getD, List.getElem?_eq_getElem hi]; rfl
  unfold colOf colX
  rw [e]
  show Co.mk ((colV cols[i]).extract 1 (colV cols[i]).size) (kindOf (colV cols[i])) = _
  rw [colV_name, kindOf_colV _ (by omega)]
theorem colL_cols {cols : List Co} (hc : colsB cols = true) : (colL cols cols.length).map colOf = cols := by
  apply List.ext_getElem
  · rw [List.length_map, colL_length]
  · intro i h1 h2
    rw [List.getElem_map, colL_at, colOf_colX hc i h2]
/-- The leaf's columns. -/
theorem catL_cols {cols : List Co} (hc : colsB cols = true) (X : List KV) : (((catL cols X).drop 0).take cols.length).map colOf = cols := by
  unfold catL
  rw [List.drop_zero, List.take_append_of_le_length (by rw [colL_length]; exact Nat.le_refl _), List.take_of_length_le (by rw [colL_length]; exact Nat.le_refl _), colL_cols hc]
theorem catL_oks {cols : List Co} {X : List KV} (hX : XOk X) (y : KV) (hy : y ∈ catL cols X) : (pre ⟨#[99]⟩ y = true → 0 < y.v.size) ∧ (pre ⟨#[120]⟩ y = true → xOk y) ∧ (pre ⟨#[120]⟩ y = true → y.v.size = 5) := by
  rcases List.mem_append.1 hy with hy | hy
  · obtain ⟨i, hi, rfl⟩ := colL_mem hy
    have e := (pre_col cols i).2
    refine ⟨fun _ => ?_, fun h => ?_, fun h => ?_⟩
    · show 0 < (colV _).size
      rw [colV_size]; omega
    · rw [e] at h; cases h
    · rw [e] at h; cases h
  · obtain ⟨_, _, hx, _, h99⟩ := hX.item hy
    exact ⟨fun h => by (rw [h99] at h; cases h), fun _ => hx, fun _ => hx.1⟩
/-- Add's answer is the reference's; what it puts is the list's. -/
theorem AddIs.ref {cols : List Co} {X : List KV} {x : Xi} {e : Int} {v : ByteArray} (hc : colsB cols = true) (hX : XOk X) (h : AddIs (catL cols X) x e v) :
    e = refX cols (X.map xiOf) x ∧ (e = 0 → ∃ i : Nat, Cut (catL cols X) (xkey x.name) i ∧ isAt (catL cols X) (xkey x.name) i = false ∧ v.size = 5 ∧ nameX x.name.data.toList = true ∧ X.length ≤ 5 ∧ cols.length ≤ i ∧
      XOk (insL X (i - cols.length) ⟨xkey x.name, v⟩) ∧ (insL X (i - cols.length) ⟨xkey x.name, v⟩).map xiOf = addXi (X.map xiOf) x) := by
  obtain ⟨s1, s2⟩ := catL_spans hc hX
  obtain ⟨_, c4, ho⟩ := colsB_facts hc
  have hlen : (X.map xiOf).length = X.length := by simp
  have hkd : ∀ c : Nat, c < cols.length → x.col = c → (colOf (yv (catL cols X) (0 + c))).kind = (cols.getD x.col.toNat ⟨⟨#[]⟩, 0⟩).kind := fun c hcl hcol => by
    have hlt : 0 + c < (catL cols X).length := by rw [catL_length]; omega
    rw [yv_at _ _ hlt, hcol, Int.toNat_natCast]
    have e1 : (catL cols X)[0 + c]'hlt = (catL cols X)[c]'(by omega) := by congr 1; omega
    rw [e1, catL_col cols X c hcl, colOf_colX hc c hcl, List.getD_eq_getElem?_getD, List.getElem?_eq_getElem hcl]
    rfl
  have hno : ∀ {i : Nat}, nameX x.name.data.toList = true → Cut (catL cols X) (xkey x.name) i → isAt (catL cols X) (xkey x.name) i = false → ¬ (nameX x.name.data.toList = false ∨ 0 ≤ findXi (X.map xiOf) x.name) := by
    intro i hn hcut hat hh
    rcases hh with hh | hh
    · rw [hn] at hh; cases hh
    · have := (has_find hX hcut).2 (by unfold hasX; rw [hat, Bool.and_false])
      omega
  unfold refX
  cases h with
  | name h =>
    refine ⟨?_, fun h => absurd h (by decide)⟩
    rw [if_pos]
    by_cases hn : nameX x.name.data.toList = false
    · exact .inl hn
    · rcases h with h | ⟨j, hj, h⟩
      · exact .inl h
      · have := (has_find hX hj).1 (by unfold hasX; rw [h, Bool.and_true]; simpa using hn)
        exact .inr (by omega)
  | none i ic nc a hn hi hf hk hsc hbad =>
    obtain ⟨rfl, rfl⟩ := hsc.uniq s1
    refine ⟨?_, fun h => absurd h (by decide)⟩
    rw [if_neg (hno hn hi hf), if_pos]
    rcases hbad with h1 | h1 | h1
    · exact .inl (by rw [hk.isnt h1])
    · exact .inr (.inl h1)
    · exact .inr (.inr h1)
  | kind i ic nc k c hn hi hf hk hsc hcol hcn hb =>
    obtain ⟨rfl, rfl⟩ := hsc.uniq s1
    refine ⟨?_, fun h => absurd h (by decide)⟩
    rw [hkd c hcn hcol] at hb
    rw [if_neg (hno hn hi hf), if_neg (by rw [hk.rfor]; simp; omega), if_pos (by rw [hk.rfor]; exact hb)]
  | able i ic nc k c hn hi hf hk hsc hcol hcn hb hu hk2 =>
    obtain ⟨rfl, rfl⟩ := hsc.uniq s1
    refine ⟨?_, fun h => absurd h (by decide)⟩
    rw [hkd c hcn hcol] at hb
    rw [if_neg (hno hn hi hf), if_neg (by rw [hk.rfor]; simp; omega), if_neg (by rw [hk.rfor, hb]; decide), if_pos ⟨hu, hk.uniqs.1 hk2⟩]
  | full i ic nc k c ix nx hn hi hf hk hsc hcol hcn hb hu hsx hr =>
    obtain ⟨rfl, rfl⟩ := hsc.uniq s1
    obtain ⟨rfl, rfl⟩ := hsx.uniq s2
    refine ⟨?_, fun h => absurd h (by decide)⟩
    rw [hkd c hcn hcol] at hb
    rw [catL_drop] at hr
    have h6 : 6 ≤ X.length := by
      rcases hr with ⟨_, ht⟩ | ⟨h2, _⟩
      · exact hX.full ht
      · omega
    rw [if_neg (hno hn hi hf), if_neg (by rw [hk.rfor]; simp; omega), if_neg (by rw [hk.rfor, hb]; decide), if_neg (by rintro ⟨a, b⟩; have := hk.uniqs.2 b; rw [hu a] at this; cases this), if_pos (by rw [hlen]; exact h6)]
  | ok i ic nc k c ix nx r hn hi hf hk hsc hcol hcn hb hu hsx hr hr0 =>
    obtain ⟨rfl, rfl⟩ := hsc.uniq s1
    obtain ⟨rfl, rfl⟩ := hsx.uniq s2
    rw [hkd c hcn hcol] at hb
    rw [catL_drop] at hr
    obtain ⟨r', rfl, h2, h8, ht⟩ : ∃ r' : Nat, r = r' ∧ 2 ≤ r' ∧ r' < 8 ∧ taken X r = false := by
      rcases hr with ⟨e, _⟩ | ⟨h2, h8, ht, _⟩
      · exact absurd e hr0
      · exact ⟨r.toNat, by omega, by omega, by omega, ht⟩
    obtain ⟨f5, fr⟩ := hX.free (r := (r' : Int)) (by omega) ht
    obtain ⟨k4, hkk⟩ := hk.is
    obtain ⟨hle, hcut⟩ := cut_cat hi
    have hat := hf
    rw [isAt_cat hle] at hat
    obtain ⟨a1, a2⟩ := add_laws hX (r := r') hn hcut hat k4 hkk hcol (by omega) ⟨h2, h8⟩ fr
    refine ⟨?_, fun _ => ⟨i, hi, hf, rfl, hn, f5, hle, ?_, ?_⟩⟩
    · rw [if_neg (hno hn hi hf), if_neg (by rw [hk.rfor]; simp; omega), if_neg (by rw [hk.rfor, hb]; decide), if_neg (by rintro ⟨a, b⟩; have := hk.uniqs.2 b; rw [hu a] at this; cases this), if_neg (by rw [hlen]; omega)]
    · rw [hcol]; exact a1
    · rw [hcol]; exact a2
end Go.Proofs.YtiakepcgalmjfaaGreat

namespace Go.Proofs.YtiakepcgalmjfaaGreat
open Go.RowKit

/-- A catalog of columns and indexes; every index is empty. -/
structure Pl {bs : Nat} (B : Base bs) (w : World) (gb ba tb : Nat) (F : Nat → Prop) (cols : List Co) (X : List KV) (R : Raw) : Prop where
  cat : CatIs B w gb ba tb F R (catL cols X)
  good : colsB cols = true
  ok : XOk X
  roots : ∀ r : Nat, 2 ≤ r → r < 8 → R.root r = 0
def PlS {bs : Nat} (B : Base bs) (gb ba tb : Nat) (w : World) (F : Nat → Prop) (cols : List Co) (X' : List KV) (w' : World) : Prop := ∃ F' R', Pl B w' gb ba tb F' cols X' R' ∧ (∀ k, k < w.heap.size → F' k → F k) ∧ Off F w w'
section
variable {bs : Nat} {B : Base bs} {w w' : World} {gb ba tb : Nat} {F : Nat → Prop} {cols : List Co} {X X' : List KV} {R R' : Raw}
theorem Pl.step (h : Pl B w gb ba tb F cols X R) (hX : XOk X') (hR : ∀ j : Nat, j < 16 → R'.root j = R.root j) (hs : CStep B gb ba tb w F R' (catL cols X') w') : PlS B gb ba tb w F cols X' w' := by
  obtain ⟨F', hc, hF, ho⟩ := hs
  exact ⟨F', R', ⟨hc, h.good, hX, fun r h2 h8 => (hR r (by omega)).trans (h.roots r h2 h8)⟩, hF, ho⟩
theorem Pl.same (h : Pl B w gb ba tb F cols X R) (hs : CStep B gb ba tb w F R (catL cols X) w') : PlS B gb ba tb w F cols X w' := h.step h.ok (fun _ _ => rfl) hs
theorem Pl.below (h : Pl B w gb ba tb F cols X R) (hb : Below w.heap.size w w') : Pl B w' gb ba tb F cols X R := ⟨h.cat.below hb, h.good, h.ok, h.roots⟩
theorem Pl.oks (h : Pl B w gb ba tb F cols X R) (y : KV) (hy : y ∈ catL cols X) : (pre ⟨#[99]⟩ y = true → 0 < y.v.size) ∧ (pre ⟨#[120]⟩ y = true → xOk y) ∧ (pre ⟨#[120]⟩ y = true → y.v.size = 5) := catL_oks h.ok y hy
theorem Pl.idx (h : Pl B w gb ba tb F cols X R) (y : KV) (hy : y ∈ catL cols X) (hp : pre ⟨#[120]⟩ y = true) : xOk y ∧ byteN y.v 4 < 16 ∧ 1 ≤ byteN y.v 4 ∧ R.root (byteN y.v 4).toNat = 0 := by
  refine ⟨(h.oks y hy).2.1 hp, ?_⟩
  rcases List.mem_append.1 hy with hy | hy
  · obtain ⟨i, hi, rfl⟩ := colL_mem hy
    rw [(pre_col cols i).2] at hp
    cases hp
  · obtain ⟨s, _, _, _, _, h2, h8⟩ := h.ok.ent y hy
    exact ⟨by omega, by omega, h.roots _ (by omega) (by omega)⟩
theorem insL_has (L : List KV) (i : Nat) (x : KV) : x ∈ insL L i x := by simp [insL]
theorem Pl.put (h : Pl B w gb ba tb F cols X R) {L' : List KV} (hok : ∀ x ∈ L', x.ok) (hs : Sorted L') (hlen : (leafB L').length ≤ 512) (hn : L'.length < 256) (j : Nat) : (R.put (R.root 0) 0 (pageL (leafB L'))).root j = R.root j := by
  obtain ⟨_, _, n3, _⟩ := h.cat.leaf.next h.cat.fine hok hs hlen hn
  exact congrArg (fun q => num q (8 + 4 * j)) n3
/-- Add. -/
theorem Pl.add (h : Pl B w gb ba tb F cols X R) (x : Xi) :
    Calls Tryz.prog 15 #[.pointer (some ⟨gb, 0, none⟩), xiV x] w fun e w' => e = .returned (.int .i64 (refX cols (X.map xiOf) x)) ∧
      ((refX cols (X.map xiOf) x ≠ 0 ∧ PlS B gb ba tb w F cols X w') ∨ (refX cols (X.map xiOf) x = 0 ∧ ∃ X', X'.map xiOf = addXi (X.map xiOf) x ∧ PlS B gb ba tb w F cols X' w')) := by
  obtain ⟨i0, hi0⟩ : ∃ i0, ∀ i, Cut (catL cols X) (xkey x.name) i → i = i0 := by
    by_cases hh : ∃ i, Cut (catL cols X) (xkey x.name) i
    · exact ⟨hh.choose, fun i hi => hi.uniq hh.choose_spec⟩
    · exact ⟨0, fun i hi => absurd ⟨i, hi⟩ hh⟩
  refine (Add_any h.cat x (fun y hy => (h.oks y hy).1) (fun y hy => (h.oks y hy).2.1) (R' := fun v => R.put (R.root 0) 0 (pageL (leafB (catL cols (insL X (i0 - cols.length) ⟨xkey x.name, v⟩))))) (L' := fun v => catL cols (insL X (i0 - cols.length) ⟨xkey x.name, v⟩)) (fun v w1 F1 ha hc1 => ?_)).mono ?_
  · obtain ⟨i, hcut, hat, hv, hn, h5, hle, hX', hm⟩ := (ha.ref h.good h.ok).2 rfl
    obtain rfl := hi0 i hcut
    obtain ⟨a1, a2, a3, a4, _, _⟩ := catL_laws h.good hX'
    have e : putL (catL cols X) i ⟨xkey x.name, v⟩ = catL cols (insL X (i - cols.length) ⟨xkey x.name, v⟩) := by
      unfold putL
      rw [if_neg (by show ¬ isAt (catL cols X) (xkey x.name) i = true; rw [hat]; decide), catL_ins cols X i _ hle]
    have hl := catL_length cols X
    have hc4 := (colsB_facts h.good).2.1
    have := catPut hc1 ⟨xkey x.name, v⟩ (hX'.item (insL_has _ _ _)).1 (by show 0 < (xkey x.name).size; rw [xkey_size]; omega) i hcut (by rw [e]; exact a3) (by omega)
    rw [e] at this
    refine this.mono ?_
    rintro e' w2 ⟨rfl, hs⟩
    refine ⟨?_, hs⟩
    show Ending.returned (.tuple #[.bool (!isAt (catL cols X) (xkey x.name) i), .int .i64 0]) = _
    rw [hat]
    rfl
  · rintro e w2 ⟨r, v, rfl, ha, hs⟩
    obtain ⟨q1, q2⟩ := ha.ref h.good h.ok
    subst q1
    refine ⟨rfl, ?_⟩
    rcases hs with ⟨hr, hs⟩ | ⟨hr, hs⟩
    · exact .inl ⟨hr, h.same hs⟩
    · obtain ⟨i, hcut, hat, hv, hn, h5, hle, hX', hm⟩ := q2 hr
      obtain rfl := hi0 i hcut
      obtain ⟨a1, a2, a3, a4, _, _⟩ := catL_laws h.good hX'
      exact .inr ⟨hr, _, hm, h.step hX' (fun j _ => h.put a1 a2 a3 (by omega) j) hs⟩
theorem hasX_at {L : List KV} {s : ByteArray} {i : Nat} (h : hasX L s i = true) : isAt L (xkey s) i = true := by
  unfold hasX at h
  simp only [Bool.and_eq_true] at h
  exact h.2
theorem hasX_key {cols : List Co} {X : List KV} {s : ByteArray} {i : Nat} (hc : Cut (catL cols X) (xkey s) i) (h : hasX (catL cols X) s i = true) : cols.length ≤ i ∧ ∃ hj : i - cols.length < X.length, X[i - cols.length].k.data.toList = (xkey s).data.toList ∧ yv (catL cols X) i = X[i - cols.length] := by
  obtain ⟨hle, hcx⟩ := cut_cat hc
  have hat := hasX_at h
  have hat2 := hat
  rw [isAt_cat hle] at hat
  obtain ⟨hj, hk⟩ := isAt_key hat
  refine ⟨hle, hj, hk, ?_⟩
  obtain ⟨hi, _⟩ := isAt_key hat2
  rw [yv_at _ _ hi]
  have e : (catL cols X)[i]'hi = (catL cols X)[cols.length + (i - cols.length)]'(by omega) := by congr 1; omega
  rw [e, catL_ix cols X _ hj]
/-- Set. -/
theorem Pl.set (h : Pl B w gb ba tb F cols X R) (s : ByteArray) (k : Int) :
    Calls Tryz.prog 25 #[.pointer (some ⟨gb, 0, none⟩), .string s, .int .i64 k] w fun e w' =>
      (findXi (X.map xiOf) s < 0 ∧ e = .returned (.int .i64 3) ∧ PlS B gb ba tb w F cols X w') ∨ (0 ≤ findXi (X.map xiOf) s ∧ ¬ (1 ≤ k ∧ k ≤ 3) ∧ e = .returned (.int .i64 1) ∧ PlS B gb ba tb w F cols X w') ∨
      (0 ≤ findXi (X.map xiOf) s ∧ (1 ≤ k ∧ k ≤ 3) ∧ e = .returned (.int .i64 0) ∧ ∃ X', X'.map xiOf = setXi (X.map xiOf) (findXi (X.map xiOf) s).toNat k ∧ PlS B gb ba tb w F cols X' w') := by
  obtain ⟨a1, a2, a3, a4, _, _⟩ := catL_laws h.good h.ok
  refine (Set_any h.cat s k (fun y hy => (h.oks y hy).2.2) (by omega)).mono ?_
  rintro e w2 ⟨i, hc, ⟨hx, he, hs⟩ | ⟨hx, hk, he, hs⟩ | ⟨hx, hk1, hk3, he, hs⟩⟩
  · refine .inl ⟨?_, he, h.same hs⟩
    rw [(has_find h.ok hc).2 hx]
    decide
  · refine .inr (.inl ⟨?_, hk, he, h.same hs⟩)
    rw [((has_find h.ok hc).1 hx).1]
    omega
  · obtain ⟨hle, hj, hkey, hyv⟩ := hasX_key hc hx
    obtain ⟨s1, s2⟩ := set_laws h.ok hj hkey k ⟨hk1, hk3⟩
    obtain ⟨b1, b2, b3, b4, _, _⟩ := catL_laws h.good s1
    have hf := ((has_find h.ok hc).1 hx).1
    rw [hyv, catL_set cols X i _ hle] at hs
    refine .inr (.inr ⟨by rw [hf]; omega, ⟨hk1, hk3⟩, he, _, ?_, h.step s1 (fun j _ => h.put b1 b2 b3 (by omega) j) hs⟩)
    rw [s2, hf, Int.toNat_natCast]
/-- Drop. -/
theorem Pl.drop (h : Pl B w gb ba tb F cols X R) (s : ByteArray) :
    Calls Tryz.prog 27 #[.pointer (some ⟨gb, 0, none⟩), .string s] w fun e w' =>
      (findXi (X.map xiOf) s < 0 ∧ e = .returned (.int .i64 3) ∧ PlS B gb ba tb w F cols X w') ∨
      (0 ≤ findXi (X.map xiOf) s ∧ e = .returned (.int .i64 0) ∧ ∃ X', X'.map xiOf = dropXi (X.map xiOf) s ∧ PlS B gb ba tb w F cols X' w') := by
  have h2 : ∀ i, Cut (catL cols X) (xkey s) i → isAt (catL cols X) (xkey s) i = true → 2 ≤ (catL cols X).length := fun i hc hat => by
    obtain ⟨hle, hcx⟩ := cut_cat hc
    rw [isAt_cat hle] at hat
    obtain ⟨hj, _⟩ := isAt_some hat
    have := (colsB_facts h.good).1
    rw [catL_length]
    omega
  · refine (Drop_any h.cat s h.idx h2).mono ?_
    rintro e w2 ⟨i, hc, ⟨hx, he, hs⟩ | ⟨hx, he, R', hR, hs⟩⟩
    · refine .inl ⟨?_, he, h.same hs⟩
      rw [(has_find h.ok hc).2 hx]
      decide
    · obtain ⟨hle, hj, hkey, hyv⟩ := hasX_key hc hx
      obtain ⟨s1, s2⟩ := drop_laws h.ok hj hkey
      have hf := ((has_find h.ok hc).1 hx).1
      rw [catL_erase cols X i hle] at hs
      exact .inr ⟨by rw [hf]; omega, he, _, s2, h.step s1 hR hs⟩
/-- Open. -/
theorem Pl.open_ (h : Pl B w gb ba tb F cols X R) (s : ByteArray) :
    Calls Tryz.prog 10 #[.pointer (some ⟨gb, 0, none⟩), .string s] w fun e w' =>
      (findXi (X.map xiOf) s < 0 ∧ e = .returned (.tuple #[Value.nilIface, .int .i64 3]) ∧ PlS B gb ba tb w F cols X w') ∨
      (0 ≤ findXi (X.map xiOf) s ∧ ∃ (k mb : Nat) (hj : (findXi (X.map xiOf) s).toNat < (X.map xiOf).length), k < 4 ∧ (X.map xiOf)[(findXi (X.map xiOf) s).toNat].meth = kname k ∧ e = .returned (.tuple #[methV k mb, .int .i64 0]) ∧ PlS B gb ba tb w F cols X w') := by
  refine (Open_any h.cat s (fun y hy hp => ⟨(h.idx y hy hp).1, (h.idx y hy hp).2.1⟩)).mono ?_
  rintro e w2 ⟨i, hc, ⟨hx, he, hs⟩ | ⟨hx, mb, F', he, hop, hc', hlt, hF, ho⟩⟩
  · refine .inl ⟨?_, he, h.same hs⟩
    rw [(has_find h.ok hc).2 hx]
    decide
  · obtain ⟨hle, hj, hkey, hyv⟩ := hasX_key hc hx
    have hf := ((has_find h.ok hc).1 hx).1
    rw [hf]
    refine .inr ⟨by omega, (byteN (yv (catL cols X) i).v 0).toNat, mb, by rw [Int.toNat_natCast, List.length_map]; exact hj, ?_, ?_, he, h.same ⟨F', hc', hF, ho⟩⟩
    · rw [hyv]
      obtain ⟨_, _, _, _, h0, _⟩ := h.ok.ent _ (List.getElem_mem hj)
      omega
    · have e1 : ∀ (n : Nat) (hn : n < (X.map xiOf).length), n = i - cols.length → (X.map xiOf)[n].meth = kname (byteN (yv (catL cols X) i).v 0).toNat := by
        rintro n hn rfl
        rw [List.getElem_map, hyv]
        rfl
      exact e1 _ _ (Int.toNat_natCast _)
/-- Indexes. -/
theorem Pl.indexes (h : Pl B w gb ba tb F cols X R) :
    Calls Tryz.prog 9 #[.pointer (some ⟨gb, 0, none⟩)] w fun e w' => ∃ A c, e = .returned (.slice A (X.map xiOf).length c) ∧ IxR w' A (X.map xiOf) ∧ PlS B gb ba tb w F cols X w' := by
  refine (Indexes_any h.cat (fun y hy => (h.oks y hy).2.1)).mono ?_
  rintro e w2 ⟨v, i, n, rfl, hsp, hr, hlo, F', hc', _, hF, ho⟩
  obtain ⟨rfl, rfl⟩ := hsp.uniq (catL_spans h.good h.ok).2
  rw [catL_drop] at hr
  obtain ⟨A, c, rfl⟩ := hr.slice
  exact ⟨A, c, rfl, hr.read, h.same ⟨F', hc', hF, ho⟩⟩
/-- Columns. -/
theorem Pl.columns (h : Pl B w gb ba tb F cols X R) :
    Calls Tryz.prog 13 #[.pointer (some ⟨gb, 0, none⟩)] w fun e w' => ∃ A c, e = .returned (.slice A cols.length c) ∧ CoR w' A cols ∧ PlS B gb ba tb w F cols X w' := by
  refine (Columns_any h.cat (fun y hy => (h.oks y hy).1)).mono ?_
  rintro e w2 ⟨v, i, n, rfl, hsp, hr, hlo, F', hc', _, hF, ho⟩
  obtain ⟨rfl, rfl⟩ := hsp.uniq (catL_spans h.good h.ok).1
  rw [catL_cols h.good] at hr
  obtain ⟨A, c, rfl⟩ := hr.slice
  exact ⟨A, c, rfl, hr.read, h.same ⟨F', hc', hF, ho⟩⟩
end
end Go.Proofs.YtiakepcgalmjfaaGreat
