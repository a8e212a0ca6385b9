/- An action of a space: Write, Root, SetRoot. -/
import Derived.Test.YtddddjpmeegedaaGreatSpF
set_option linter.unusedVariables false
set_option linter.unusedSimpArgs false
namespace Go.Proofs.YtddddjpmeegedaaGreat
open Go.RowKit

theorem Step.of_put {bs : Nat} {B : Base bs} {ba : Nat} {w w1 w2 : World} {F : Nat → Prop} {R R2 : Raw} {bp bg : Nat} {Fb Fb1 Fb2 : Nat → Prop} {blk blk2 cap2 : Int → Nat} (hft : ∀ k, foot ba bp bg Fb R blk k → F k)
    (hF1 : ∀ k, k < w.heap.size → Fb1 k → Fb k) (ho1 : Off Fb w w1) (h2 : ActAt B w2 ba bp bg Fb2 R2 blk2 cap2) (hft2 : ∀ k, k < w1.heap.size → foot ba bp bg Fb2 R2 blk2 k → foot ba bp bg Fb1 R blk k) (ho2 : Off (foot ba bp bg Fb1 R blk) w1 w2) : Step B ba w F R2 w2 := by
  have up : ∀ k, k < w.heap.size → foot ba bp bg Fb1 R blk k → F k := fun k hk hf => hft k (by
    rcases hf with h | h | h | h | h
    · exact .inl h
    · exact .inr (.inl h)
    · exact .inr (.inr (.inl h))
    · exact .inr (.inr (.inr (.inl (hF1 k hk h))))
    · exact .inr (.inr (.inr (.inr h))))
  exact Step.of_at h2 (fun k hk hf => up k hk (hft2 k (Nat.lt_of_lt_of_le hk ho1.size) hf)) ((ho1.mono fun k hk => hft k (.inr (.inr (.inr (.inl hk))))).trans ho2 up)
def writeR (R : Raw) (p : Int) (o : Nat) (s : List UInt8) : Raw := if thereE R p = 0 then R.put p o s else R
theorem thereE_rng {R : Raw} {p : Int} (h : thereE R p = 0) : 1 ≤ p ∧ p ≤ R.total ∧ R.gone p = false := by
  unfold thereE at h
  by_cases hh : 1 ≤ p ∧ p ≤ R.total ∧ R.gone p = false
  · exact hh
  · rw [if_neg hh] at h; cases h

set_option maxRecDepth 100000 in
set_option maxHeartbeats 1000000 in
theorem write_any {bs : Nat} {B : Base bs} {w : World} {ba : Nat} {F : Nat → Prop} {R : Raw} (h : ActIs B w ba F R) (hc : Cov B R) (p : Int) (hp : I64 p) (o : Nat) (s : ByteArray) (ho : o < 512) (hs : o + s.size ≤ 512) :
    Calls Tryz.prog 113 #[.pointer (some ⟨ba, 0, none⟩), .int .i64 p, .int .i64 o, .string s] w fun e w' =>
      e = .returned (.int .i64 (thereE R p)) ∧ Step B ba w F (writeR R p o s.data.toList) w' := by
  obtain ⟨hlt, bp, bg, Fb, blk, cap, hA, hft⟩ := h
  have HT := Lib.hid (there_any hA hc p hp)
  have H0 := Lib.hid (And.intro hA hft)
  clear hA hft hlt
  go_enter Tryz.func113, Tryz.ntmps113
  go_wp2_with fail
  refine HT.out.mono ?_
  rintro e w1 ⟨rfl, Fb1, h1, hF1, ho1⟩
  clear HT
  by_cases hE : thereE R p = 0
  · have hpr := thereE_rng hE
    have HP := Lib.hid (put_any h1 p ⟨by omega, by have := hc.2; omega⟩ (hc.1 p (by omega) hpr.2.1) o s ho hs)
    have H1 := Lib.hid (And.intro h1 (And.intro hF1 ho1))
    have HC := Lib.hid hc
    have HE := Lib.hid hE
    have f1 : ¬ (o : Int) < 0 := by omega
    have f2 : ¬ (o : Int) > 512 := by omega
    have f3 : ¬ (s.size : Int) > 512 - (o : Int) := by omega
    rw [hE]
    clear h1 hF1 ho1 hE hpr hc
    go_wp2_with fail
    refine HP.out.mono ?_
    rintro e w2 ⟨rfl, Fb2, blk2, cap2, h2, hft2, ho2⟩
    have HS := Lib.hid (show Step B ba w F (writeR R p o s.data.toList) w2 from by
      rw [writeR, if_pos HE.out]
      exact Step.of_put H0.out.2 H1.out.2.1 H1.out.2.2 h2 hft2 ho2)
    clear h2 hft2 ho2
    go_wp2
    go_ret
    exact ⟨ret_i HE.out.symm, HS.out⟩
  · have hE' : (thereE R p != 0) = true := by simpa using hE
    have HS := Lib.hid (show Step B ba w F (writeR R p o s.data.toList) w1 from by
      rw [writeR, if_neg hE]
      exact Step.same H0.out.1 H0.out.2 h1 hF1 ho1)
    clear h1 hF1 ho1 hE
    go_wp2
    go_ret
    exact ⟨rfl, HS.out⟩

set_option maxRecDepth 100000 in
set_option maxHeartbeats 1000000 in
theorem root_any {bs : Nat} {B : Base bs} {w : World} {ba : Nat} {F : Nat → Prop} {R : Raw} (h : ActIs B w ba F R) (hc : Cov B R) (k : Nat) (hk : k < 16) :
    Calls Tryz.prog 59 #[.pointer (some ⟨ba, 0, none⟩), .int .i64 k] w fun e w' =>
      e = .returned (.tuple #[.int .i64 (num (R.page 0) (8 + 4 * k)), .int .i64 0]) ∧ Step B ba w F R w' := by
  obtain ⟨hlt, bp, bg, Fb, blk, cap, hA, hft⟩ := h
  have HG := Lib.hid (going_any hA.a)
  have H0 := Lib.hid (And.intro hA hft)
  clear hA hft hlt
  have f1 : ¬ (k : Int) < 0 := by omega
  have f2 : ¬ (k : Int) ≥ 16 := by omega
  go_enter Tryz.func59, Tryz.ntmps59
  go_wp2_with fail
  refine HG.out.mono ?_
  rintro e w1 ⟨rfl, hb1⟩
  have HP := Lib.hid (page_any (H0.out.1.below hb1) 0 ⟨by omega, by omega⟩ hc.zero)
  have HB1 := Lib.hid hb1
  clear hb1 HG
  go_wp2_with fail
  refine HP.out.mono ?_
  rintro e w2 ⟨b, c, Fb2, rfl, hpg, h2, hF2, _, ho2⟩
  have hcap : 512 ≤ c := by obtain ⟨_, _, _, _, _, h, _⟩ := hpg; exact h
  have HN := Lib.hid (number_at hpg (8 + 4 * k) (512 - (8 + 4 * k)) (c - (8 + 4 * k)) (by omega) (by omega))
  have H2 := Lib.hid (And.intro h2 (And.intro hF2 ho2))
  clear hpg h2 hF2 ho2 HP
  go_wp2_with fail
  refine HN.out.mono ?_
  rintro e w3 ⟨rfl, hb3⟩
  have HS := Lib.hid (show Step B ba w F R w3 from Step.same H0.out.1 H0.out.2 (H2.out.1.below hb3) (fun i hi h => H2.out.2.1 i (Nat.lt_of_lt_of_le hi HB1.out.size) h) (((Off.of_below HB1.out).trans H2.out.2.2 (fun _ _ h => h)).trans (Off.of_below hb3 (F := fun _ => False)) (fun _ _ h => h.elim)))
  clear hb3 HN
  go_wp2
  go_ret2
  exact ⟨rfl, HS.out⟩

set_option maxRecDepth 100000 in
set_option maxHeartbeats 1000000 in
theorem root_bad {bs : Nat} {B : Base bs} {w : World} {ba : Nat} {F : Nat → Prop} {R : Raw} (h : ActIs B w ba F R) (k : Int) (hk : k < 0 ∨ 16 ≤ k) :
    Calls Tryz.prog 59 #[.pointer (some ⟨ba, 0, none⟩), .int .i64 k] w fun e w' =>
      e = .returned (.tuple #[.int .i64 0, .int .i64 1]) ∧ Step B ba w F R w' := by
  obtain ⟨hlt, bp, bg, Fb, blk, cap, hA, hft⟩ := h
  have HG := Lib.hid (going_any hA.a)
  have H0 := Lib.hid (And.intro hA hft)
  clear hA hft hlt
  have f1 : (decide (k < 0) || decide (16 ≤ k)) = true := by rcases hk with h | h <;> simp [h]
  go_enter Tryz.func59, Tryz.ntmps59
  go_wp2_with fail
  refine HG.out.mono ?_
  rintro e w1 ⟨rfl, hb1⟩
  have HS := Lib.hid (show Step B ba w F R w1 from Step.same H0.out.1 H0.out.2 (H0.out.1.below hb1) (fun i hi h => h) (Off.of_below hb1))
  clear hb1
  rcases hk with hk | hk
  · go_wp2
    go_ret2
    exact ⟨rfl, HS.out⟩
  · have hk' : ¬ k < 0 := by omega
    go_wp2
    go_ret2
    exact ⟨rfl, HS.out⟩

set_option maxRecDepth 100000 in
set_option maxHeartbeats 1000000 in
theorem setRoot_any {bs : Nat} {B : Base bs} {w : World} {ba : Nat} {F : Nat → Prop} {R : Raw} (h : ActIs B w ba F R) (hc : Cov B R) (k : Nat) (hk : k < 16) (n : Int) (hn : 0 ≤ n ∧ n ≤ 2147483647) :
    Calls Tryz.prog 66 #[.pointer (some ⟨ba, 0, none⟩), .int .i64 k, .int .i64 n] w fun e w' =>
      e = .returned (.int .i64 0) ∧ Step B ba w F (R.put 0 (8 + 4 * k) (digL n)) w' := by
  obtain ⟨hlt, bp, bg, Fb, blk, cap, hA, hft⟩ := h
  have HG := Lib.hid (going_any hA.a)
  have H0 := Lib.hid (And.intro hA hft)
  clear hA hft hlt
  have f1 : ¬ (k : Int) < 0 := by omega
  have f2 : ¬ (k : Int) ≥ 16 := by omega
  have f3 : ¬ n < 0 := by omega
  have f4 : ¬ n > 2147483647 := by omega
  go_enter Tryz.func66, Tryz.ntmps66
  go_wp2_with fail
  refine HG.out.mono ?_
  rintro e w1 ⟨rfl, hb1⟩
  have HD := Lib.hid (digits_any n w1)
  have HB1 := Lib.hid hb1
  clear hb1 HG
  go_wp2_with fail
  refine HD.out.mono ?_
  rintro e w2 ⟨rfl, hb2⟩
  have HB2 := Lib.hid (HB1.out.trans (hb2.mono HB1.out.size))
  have HP := Lib.hid (put_any (H0.out.1.below HB2.out) 0 ⟨by omega, by omega⟩ hc.zero (8 + 4 * k) ⟨(digL n).toArray⟩ (by omega) (by show 8 + 4 * k + 4 ≤ 512; omega))
  clear hb2 HD
  go_wp2_with fail
  refine HP.out.mono ?_
  rintro e w3 ⟨rfl, Fb2, blk2, cap2, h2, hft2, ho2⟩
  have HS := Lib.hid (show Step B ba w F (R.put 0 (8 + 4 * k) (digL n)) w3 from Step.of_put H0.out.2 (fun _ _ h => h) (Off.of_below HB2.out) h2 hft2 ho2)
  clear h2 hft2 ho2
  go_wp2
  go_ret
  exact ⟨rfl, HS.out⟩
end Go.Proofs.YtddddjpmeegedaaGreat
