/- What Add answers, as a function. -/
import Derived.Test.YtddddjpmeegedaaGreatSqN
set_option linter.unusedVariables false
set_option linter.unusedSimpArgs false
namespace Go.Proofs.YtddddjpmeegedaaGreat
open Go.RowKit

theorem Span.uniq {L : List KV} {b : UInt8} {i n i' n' : Nat} (h : Span L b i n) (h' : Span L b i' n') : i = i' ∧ n = n' := by
  have e := h.cut.uniq h'.cut
  subst e
  refine ⟨rfl, ?_⟩
  rcases Nat.lt_trichotomy n n' with hl | he | hg
  · have h1 := h.no (by have := h'.le; omega)
    have h2 := h'.yes (i + n) (by have := h'.le; omega) (by omega) (by omega)
    rw [h1] at h2; cases h2
  · exact he
  · have h1 := h'.no (by have := h.le; omega)
    have h2 := h.yes (i + n') (by have := h.le; omega) (by omega) (by omega)
    rw [h1] at h2; cases h2
theorem IsKind.uniq {m : ByteArray} {a b : Int} (h : IsKind m a) (h' : IsKind m b) : a = b := by
  rcases h with ⟨rfl, h⟩ | ⟨i, hi, rfl, hr, hlo⟩ <;> rcases h' with ⟨rfl, h'⟩ | ⟨j, hj, rfl, hr', hlo'⟩
  · rfl
  · rw [h j hj] at hr'; cases hr'
  · rw [h' i hi] at hr; cases hr
  · rcases Nat.lt_trichotomy i j with hl | he | hg
    · rw [hlo' i hl] at hr; cases hr
    · rw [he]
    · rw [hlo j hg] at hr'; cases hr'
theorem IsRoot.uniq {l : List KV} {a b : Int} (h : IsRoot l a) (h' : IsRoot l b) : a = b := by
  rcases h with ⟨rfl, h⟩ | ⟨h1, h2, h3, h4⟩ <;> rcases h' with ⟨rfl, h'⟩ | ⟨g1, g2, g3, g4⟩
  · rfl
  · rw [h b g1 g2] at g3; cases g3
  · rw [h' a h1 h2] at h3; cases h3
  · rcases Int.lt_trichotomy a b with hl | he | hg
    · rw [g4 a h1 hl] at h3; cases h3
    · exact he
    · rw [h4 b g1 hg] at g3; cases g3
/-- What Add answers, and what it puts. -/
def addR (L : List KV) (x : Xi) (i ic nc : Nat) (at_ r : Int) : Int × ByteArray :=
  if nameX x.name.data.toList = false ∨ isAt L (xkey x.name) i = true then (160, ⟨#[]⟩)
  else if at_ < 0 ∨ x.col < 0 ∨ (nc : Int) ≤ x.col then (3, ⟨#[]⟩)
  else if (kcols at_.toNat).contains (colOf (yv L (ic + x.col.toNat))).kind = false then (10, ⟨#[]⟩)
  else if x.uniq = true ∧ kuniq at_.toNat = false then (90, ⟨#[]⟩)
  else if r = 0 then (2, ⟨#[]⟩) else (0, xent at_ x.col x.uniq r)
theorem AddIs.eq {L : List KV} {x : Xi} {e : Int} {v : ByteArray} (h : AddIs L x e v) {i ic nc ix nx : Nat} {at_ r : Int} (hi : Cut L (xkey x.name) i) (hc : Span L 99 ic nc) (hx : Span L 120 ix nx) (hk : IsKind x.meth at_) (hr : IsRoot ((L.drop ix).take nx) r) : (e, v) = addR L x i ic nc at_ r := by
  unfold addR
  cases h with
  | name h =>
    rw [if_pos]
    rcases h with h | ⟨j, hj, h⟩
    · exact .inl h
    · rw [hj.uniq hi] at h; exact .inr h
  | none i' ic' nc' a' h hi' hf hk' hc' hn =>
    obtain rfl := hi'.uniq hi
    obtain ⟨rfl, rfl⟩ := hc'.uniq hc
    obtain rfl := hk'.uniq hk
    rw [if_neg (by rw [h, hf]; simp), if_pos hn]
  | kind i' ic' nc' k c h hi' hf hk' hc' hcol hn hb =>
    obtain rfl := hi'.uniq hi
    obtain ⟨rfl, rfl⟩ := hc'.uniq hc
    obtain rfl := hk'.uniq hk
    rw [if_neg (by rw [h, hf]; simp), if_neg (by omega), hcol, Int.toNat_natCast, Int.toNat_natCast, if_pos hb]
  | able i' ic' nc' k c h hi' hf hk' hc' hcol hn hb hu hk2 =>
    obtain rfl := hi'.uniq hi
    obtain ⟨rfl, rfl⟩ := hc'.uniq hc
    obtain rfl := hk'.uniq hk
    rw [if_neg (by rw [h, hf]; simp), if_neg (by omega), hcol, Int.toNat_natCast, Int.toNat_natCast, if_neg (by rw [hb]; simp), if_pos ⟨hu, hk2⟩]
  | full i' ic' nc' k c ix' nx' h hi' hf hk' hc' hcol hn hb hu hx' hr' =>
    obtain rfl := hi'.uniq hi
    obtain ⟨rfl, rfl⟩ := hc'.uniq hc
    obtain rfl := hk'.uniq hk
    obtain ⟨rfl, rfl⟩ := hx'.uniq hx
    obtain rfl := hr'.uniq hr
    rw [if_neg (by rw [h, hf]; simp), if_neg (by omega), hcol, Int.toNat_natCast, Int.toNat_natCast, if_neg (by rw [hb]; simp), if_neg (by rintro ⟨a, b⟩; rw [hu a] at b; cases b), if_pos rfl]
  | ok i' ic' nc' k c ix' nx' r' h hi' hf hk' hc' hcol hn hb hu hx' hr' hr0 =>
    obtain rfl := hi'.uniq hi
    obtain ⟨rfl, rfl⟩ := hc'.uniq hc
    obtain rfl := hk'.uniq hk
    obtain ⟨rfl, rfl⟩ := hx'.uniq hx
    obtain rfl := hr'.uniq hr
    rw [if_neg (by rw [h, hf]; simp), if_neg (by omega), hcol, Int.toNat_natCast, Int.toNat_natCast, if_neg (by rw [hb]; simp), if_neg (by rintro ⟨a, b⟩; rw [hu a] at b; cases b), if_neg hr0]

/- By computing. -/
theorem Cut.of {L : List KV} {key : ByteArray} {i : Nat} (h : i ≤ L.length ∧ ∀ t : Fin L.length, (t.1 < i → cmpK L[t.1] key < 0) ∧ (i ≤ t.1 → 0 ≤ cmpK L[t.1] key)) : Cut L key i :=
  ⟨h.1, fun t ht => (h.2 ⟨t, ht⟩).1, fun t ht => (h.2 ⟨t, ht⟩).2⟩
theorem Span.of {L : List KV} {b : UInt8} {i n : Nat} (hc : Cut L ⟨#[b]⟩ i) (h : i + n ≤ L.length ∧ (∀ t : Fin L.length, i ≤ t.1 → t.1 < i + n → pre ⟨#[b]⟩ L[t.1] = true) ∧ ∀ t : Fin L.length, t.1 = i + n → pre ⟨#[b]⟩ L[t.1] = false) : Span L b i n :=
  ⟨hc, h.1, fun t ht => h.2.1 ⟨t, ht⟩, fun ht => h.2.2 ⟨i + n, ht⟩ rfl⟩
theorem IsKind.of {m : ByteArray} {k : Nat} (h : k < 4 ∧ isK m k = true ∧ ∀ t : Fin k, isK m t.1 = false) : IsKind m k := .inr ⟨k, h.1, rfl, h.2.1, fun t ht => h.2.2 ⟨t, ht⟩⟩

/- The table of two columns, and its index. -/
def twoL : List Co := [⟨⟨#[97]⟩, 1⟩, ⟨⟨#[108]⟩, 3⟩]
def wL0 : List KV := [⟨⟨#[99, 0]⟩, ⟨#[1, 97]⟩⟩, ⟨⟨#[99, 1]⟩, ⟨#[3, 108]⟩⟩]
def wX : KV := ⟨⟨#[120, 105]⟩, ⟨#[1, 0, 0, 1, 2]⟩⟩
def wL1 : List KV := [⟨⟨#[99, 0]⟩, ⟨#[1, 97]⟩⟩, ⟨⟨#[99, 1]⟩, ⟨#[3, 108]⟩⟩, ⟨⟨#[120, 105]⟩, ⟨#[1, 0, 0, 1, 2]⟩⟩]
def wXi : Xi := ⟨⟨#[105]⟩, ⟨#[98, 116, 114, 101, 101]⟩, 0, false, 0⟩
def wXj : Xi := ⟨⟨#[105]⟩, ⟨#[104, 97, 115, 104]⟩, 0, false, 0⟩
def wXh : Xi := ⟨⟨#[104]⟩, ⟨#[105, 110, 118, 101, 114, 116, 101, 100]⟩, 0, false, 0⟩
theorem wL0_eq : colL twoL 2 = wL0 := by
  have e0 : colX twoL 0 = ⟨⟨#[99, 0]⟩, ⟨#[1, 97]⟩⟩ := by
    unfold colX
    rw [show colK 0 = ⟨#[99, 0]⟩ by decide +kernel, show colV (twoL.getD 0 ⟨⟨#[]⟩, 0⟩) = ⟨#[1, 97]⟩ by decide +kernel]
  have e1 : colX twoL 1 = ⟨⟨#[99, 1]⟩, ⟨#[3, 108]⟩⟩ := by
    unfold colX
    rw [show colK 1 = ⟨#[99, 1]⟩ by decide +kernel, show colV (twoL.getD 1 ⟨⟨#[]⟩, 0⟩) = ⟨#[3, 108]⟩ by decide +kernel]
  rw [colL_succ, colL_succ, e0, e1]
  rfl
theorem two_ok : colsB twoL = true := by decide +kernel
theorem spans0 : Span wL0 99 0 2 ∧ Span wL0 120 2 0 := ⟨.of (.of (by decide +kernel)) (by decide +kernel), .of (.of (by decide +kernel)) (by decide +kernel)⟩
theorem spans1 : Span wL1 99 0 2 ∧ Span wL1 120 2 1 := ⟨.of (.of (by decide +kernel)) (by decide +kernel), .of (.of (by decide +kernel)) (by decide +kernel)⟩
theorem add_i {e : Int} {v : ByteArray} (h : AddIs wL0 wXi e v) : e = 0 ∧ v = wX.v := by
  have hr : IsRoot ((wL0.drop 2).take 0) 2 := .inr ⟨by omega, by omega, rfl, fun t h1 h2 => by omega⟩
  have := h.eq (i := 2) (.of (by decide +kernel)) spans0.1 spans0.2 (IsKind.of (k := 1) (by decide +kernel)) hr
  have e2 : addR wL0 wXi 2 0 2 ((1 : Nat) : Int) 2 = (0, wX.v) := by decide +kernel
  rw [e2] at this
  exact Prod.mk.inj this
theorem root1 : IsRoot ((wL1.drop 2).take 1) 3 := .inr ⟨by omega, by omega, by decide +kernel, fun t h1 h2 => by
  have : t = 2 := by omega
  subst this
  decide +kernel⟩
theorem add_j {e : Int} {v : ByteArray} (h : AddIs wL1 wXj e v) : e = 160 := by
  have := h.eq (i := 2) (.of (by decide +kernel)) spans1.1 spans1.2 (IsKind.of (k := 2) (by decide +kernel)) root1
  have e2 : addR wL1 wXj 2 0 2 ((2 : Nat) : Int) 3 = (160, ⟨#[]⟩) := by decide +kernel
  rw [e2] at this
  exact (Prod.mk.inj this).1
theorem add_h {e : Int} {v : ByteArray} (h : AddIs wL1 wXh e v) : e = 10 := by
  have := h.eq (i := 2) (.of (by decide +kernel)) spans1.1 spans1.2 (IsKind.of (k := 3) (by decide +kernel)) root1
  have e2 : addR wL1 wXh 2 0 2 ((3 : Nat) : Int) 3 = (10, ⟨#[]⟩) := by decide +kernel
  rw [e2] at this
  exact (Prod.mk.inj this).1
theorem wL1_rises : ∀ j : Fin wL1.length, ∀ i : Fin j.1, Go.Lib.compareBytes (wL1[i.1]'(Nat.lt_trans i.2 j.2)).k.data.toList wL1[j.1].k.data.toList < 0 := by decide +kernel
theorem wL1_laws : (∀ x ∈ wL1, x.ok) ∧ Sorted wL1 ∧ (leafB wL1).length ≤ 512 ∧ wL1.length < 256 := by
  refine ⟨?_, fun i j hi hj hij => ?_, by decide +kernel, by decide +kernel⟩
  · intro x hx
    simp only [wL1, List.mem_cons, List.not_mem_nil, or_false] at hx
    rcases hx with rfl | rfl | rfl <;> exact ⟨by decide +kernel, by decide +kernel⟩
  · exact wL1_rises ⟨j, hj⟩ ⟨i, hij⟩
theorem w_ok (y : KV) (h : y ∈ wL1) : (pre ⟨#[99]⟩ y = true → 0 < y.v.size) ∧ (pre ⟨#[120]⟩ y = true → xOk y) := by
  simp only [wL1, List.mem_cons, List.not_mem_nil, or_false] at h
  rcases h with rfl | rfl | rfl
  · exact ⟨fun _ => by decide +kernel, fun h => by have : pre ⟨#[120]⟩ ⟨⟨#[99, 0]⟩, ⟨#[1, 97]⟩⟩ = false := by decide +kernel
                                                   rw [this] at h; cases h⟩
  · exact ⟨fun _ => by decide +kernel, fun h => by have : pre ⟨#[120]⟩ ⟨⟨#[99, 1]⟩, ⟨#[3, 108]⟩⟩ = false := by decide +kernel
                                                   rw [this] at h; cases h⟩
  · exact ⟨fun _ => by decide +kernel, fun _ => ⟨by decide +kernel, by decide +kernel⟩⟩
theorem w_ok0 (y : KV) (h : y ∈ wL0) : y ∈ wL1 := by
  simp only [wL1, wL0, List.mem_cons, List.not_mem_nil, or_false] at *
  rcases h with h | h
  · exact .inl h
  · exact .inr (.inl h)
end Go.Proofs.YtddddjpmeegedaaGreat
