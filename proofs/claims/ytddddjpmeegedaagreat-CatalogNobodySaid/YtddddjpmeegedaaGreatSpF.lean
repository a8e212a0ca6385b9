/- An action of a space: there, Read, Write, Root, SetRoot. -/
import Derived.Test.YtddddjpmeegedaaGreatSpE
set_option linter.unusedVariables false
set_option linter.unusedSimpArgs false
namespace Go.Proofs.YtddddjpmeegedaaGreat
open Go.RowKit

abbrev I64 (p : Int) : Prop := -9223372036854775808 ≤ p ∧ p ≤ 9223372036854775807
def Raw.total (R : Raw) : Int := num (R.page 0) 0
def thereE (R : Raw) (p : Int) : Int := if 1 ≤ p ∧ p ≤ R.total ∧ R.gone p = false then 0 else 3
/-- Each page that there is can be had. -/
def Cov {bs : Nat} (B : Base bs) (R : Raw) : Prop := (∀ q, 0 ≤ q → q ≤ R.total → R.dirty q = true ∨ B.dom q) ∧ R.total < 4096
theorem Cov.zero {bs : Nat} {B : Base bs} {R : Raw} (h : Cov B R) : R.dirty 0 = true ∨ B.dom 0 := h.1 0 (by omega) (num_range _ _).1

set_option maxRecDepth 100000 in
set_option maxHeartbeats 1000000 in
theorem there_any {bs : Nat} {B : Base bs} {w : World} {ba bp bg : Nat} {Fb : Nat → Prop} {R : Raw} {blk cap : Int → Nat} (h : ActAt B w ba bp bg Fb R blk cap) (hc : Cov B R) (p : Int) (hp : I64 p) :
    Calls Tryz.prog 123 #[.pointer (some ⟨ba, 0, none⟩), .int .i64 p] w fun e w' =>
      e = .returned (.int .i64 (thereE R p)) ∧ ∃ Fb', ActAt B w' ba bp bg Fb' R blk cap ∧ (∀ k, k < w.heap.size → Fb' k → Fb k) ∧ Off Fb w w' := by
  have HG := Lib.hid (going_any h.a)
  have H0 := Lib.hid h
  clear h
  go_enter Tryz.func123, Tryz.ntmps123
  go_wp2_with fail
  refine HG.out.mono ?_
  rintro e w1 ⟨rfl, hb1⟩
  have h1 := H0.out.below hb1
  have HT := Lib.hid (total_any h1 hc.zero)
  have H1 := Lib.hid (And.intro h1 hb1)
  clear h1 hb1 HG
  by_cases hp1 : p < 1
  · have HE := Lib.hid (show thereE R p = 3 from by rw [thereE, if_neg (by omega)])
    go_wp2
    go_ret
    exact ⟨ret_i HE.out.symm, Fb, H1.out.1, fun _ _ h => h, Off.of_below H1.out.2⟩
  · go_wp2_with fail
    refine HT.out.mono ?_
    rintro e w2 ⟨rfl, Fb', h2, hF, ho⟩
    have hl := h2.goneM.look (t := 98) (e := 4) (z := .bool false) Tryz.underlying98 (by kernel_rfl) (i := p) (wfI hp)
    obtain ⟨c0, c1, c2, c3⟩ := act4 h2.a
    have H2 := Lib.hid (And.intro h2 (And.intro hF (show Off Fb w w2 from (Off.of_below H1.out.2).trans ho (fun k hk e => e))))
    clear h2 hF ho HT
    by_cases ht : p > R.total
    · have HE := Lib.hid (show thereE R p = 3 from by rw [thereE, if_neg (by omega)])
      unfold Raw.total at ht
      go_wp2
      go_ret
      exact ⟨ret_i HE.out.symm, Fb', H2.out.1, fun k hk h => H2.out.2.1 k (by have := H1.out.2.size; omega) h, H2.out.2.2⟩
    · cases hgo : R.gone p with
      | true =>
        have HE := Lib.hid (show thereE R p = 3 from by rw [thereE, if_neg (by rw [hgo]; simp)])
        rw [goneF, if_pos hgo] at hl
        unfold Raw.total at ht
        clear hgo
        go_wp2
        go_ret
        exact ⟨ret_i HE.out.symm, Fb', H2.out.1, fun k hk h => H2.out.2.1 k (by have := H1.out.2.size; omega) h, H2.out.2.2⟩
      | false =>
        have HE := Lib.hid (show thereE R p = 0 from by rw [thereE, if_pos ⟨by omega, by omega, hgo⟩])
        rw [goneF, if_neg (by rw [hgo]; simp)] at hl
        unfold Raw.total at ht
        clear hgo
        go_wp2
        go_ret
        exact ⟨ret_i HE.out.symm, Fb', H2.out.1, fun k hk h => H2.out.2.1 k (by have := H1.out.2.size; omega) h, H2.out.2.2⟩

def readS (R : Raw) (p : Int) : ByteArray := if thereE R p = 0 then ⟨(R.page p).toArray⟩ else ⟨#[]⟩
/-- A step that turns nothing. -/
theorem Step.same {bs : Nat} {B : Base bs} {ba : Nat} {w w' : World} {F : Nat → Prop} {R : Raw} {bp bg : Nat} {Fb Fb' : Nat → Prop} {blk cap : Int → Nat} (hA : ActAt B w ba bp bg Fb R blk cap) (hft : ∀ k, foot ba bp bg Fb R blk k → F k)
    (h : ActAt B w' ba bp bg Fb' R blk cap) (hF : ∀ k, k < w.heap.size → Fb' k → Fb k) (ho : Off Fb w w') : Step B ba w F R w' :=
  Step.of_at h (fun k hk hf => hft k (by
    rcases hf with h | h | h | h | h
    · exact .inl h
    · exact .inr (.inl h)
    · exact .inr (.inr (.inl h))
    · exact .inr (.inr (.inr (.inl (hF k hk h))))
    · exact .inr (.inr (.inr (.inr h))))) (ho.mono fun k hk => hft k (.inr (.inr (.inr (.inl hk)))))

set_option maxRecDepth 100000 in
set_option maxHeartbeats 1000000 in
theorem read_any {bs : Nat} {B : Base bs} {w : World} {ba : Nat} {F : Nat → Prop} {R : Raw} (h : ActIs B w ba F R) (hc : Cov B R) (p : Int) (hp : I64 p) :
    Calls Tryz.prog 124 #[.pointer (some ⟨ba, 0, none⟩), .int .i64 p] w fun e w' =>
      e = .returned (.tuple #[.string (readS R p), .int .i64 (thereE R p)]) ∧ Step B ba w F R w' := by
  obtain ⟨hlt, bp, bg, Fb, blk, cap, hA, hft⟩ := h
  have HT := Lib.hid (there_any hA hc p hp)
  have H0 := Lib.hid (And.intro hA hft)
  clear hA hft hlt
  go_enter Tryz.func124, Tryz.ntmps124
  go_wp2_with fail
  refine HT.out.mono ?_
  rintro e w1 ⟨rfl, Fb1, h1, hF1, ho1⟩
  clear HT
  by_cases hE : thereE R p = 0
  · have hpr : 1 ≤ p ∧ p ≤ R.total := by
      unfold thereE at hE
      by_cases hh : 1 ≤ p ∧ p ≤ R.total ∧ R.gone p = false
      · exact ⟨hh.1, hh.2.1⟩
      · rw [if_neg hh] at hE; cases hE
    have HP := Lib.hid (page_any h1 p ⟨by omega, by have := hc.2; omega⟩ (hc.1 p (by omega) hpr.2))
    have H1 := Lib.hid (And.intro h1 (And.intro hF1 ho1))
    have HC := Lib.hid hc
    have HE := Lib.hid hE
    rw [hE]
    clear h1 hF1 ho1 hE hpr hc
    go_wp2_with fail
    refine HP.out.mono ?_
    rintro e w2 ⟨b, c, Fb2, rfl, hpg, h2, hF2, _, ho2⟩
    have hstr := hpg.string
    have HS := Lib.hid (show Step B ba w F R w2 from Step.same H0.out.1 H0.out.2 h2 (fun k hk h => H1.out.2.1 k hk (hF2 k (Nat.lt_of_lt_of_le hk H1.out.2.2.size) h)) (H1.out.2.2.trans ho2 H1.out.2.1))
    clear hpg h2 hF2 ho2
    go_wp2
    go_ret2
    exact ⟨ret_two (by rw [readS, if_pos HE.out]; rfl) (by rw [HE.out]; rfl), HS.out⟩
  · have hE' : (thereE R p != 0) = true := by simpa using hE
    have HS := Lib.hid (show Step B ba w F R w1 from Step.same H0.out.1 H0.out.2 h1 hF1 ho1)
    have HE := Lib.hid hE
    clear h1 hF1 ho1 hE
    go_wp2
    go_ret2
    exact ⟨ret_two (by rw [readS, if_neg HE.out]; rfl) rfl, HS.out⟩
end Go.Proofs.YtddddjpmeegedaaGreat
