/- catalog.New; two; the reference's For. -/
import Derived.Test.YtddddjpmeegedaaGreatSqP
import Derived.Test.YtddddjpmeegedaaGreatSqQ
set_option linter.unusedVariables false
set_option linter.unusedSimpArgs false
namespace Go.Proofs.YtddddjpmeegedaaGreat
open Go.RowKit

def forB (i : Nat) (z : Int) : Bool := if i = 3 then z == 3 else z == 1 || z == 2
set_option maxRecDepth 100000 in
set_option maxHeartbeats 2000000 in
theorem For_any (i : Nat) (hi : i < 4) (z : Int) (w : World) :
    Calls Tryz.prog 94 #[.string (kname i), .int .i64 z] w fun e w' => e = .returned (.tuple #[.bool (forB i z), .bool true]) ∧ w' = w := by
  by_cases h1 : z = 1
  · subst h1
    match i, hi with
    | 0, _ => 
      go_enter Tryz.func94, Tryz.ntmps94
      rw [show kname 0 = ⟨#[98, 105, 116, 109, 97, 112]⟩ from rfl]
      go_wp2
      go_ret2
      exact ⟨rfl, rfl⟩
    | 1, _ =>
      go_enter Tryz.func94, Tryz.ntmps94
      rw [show kname 1 = ⟨#[98, 116, 114, 101, 101]⟩ from rfl]
      go_wp2
      go_ret2
      exact ⟨rfl, rfl⟩
    | 2, _ =>
      go_enter Tryz.func94, Tryz.ntmps94
      rw [show kname 2 = ⟨#[104, 97, 115, 104]⟩ from rfl]
      go_wp2
      go_ret2
      exact ⟨rfl, rfl⟩
    | 3, _ =>
      go_enter Tryz.func94, Tryz.ntmps94
      rw [show kname 3 = ⟨#[105, 110, 118, 101, 114, 116, 101, 100]⟩ from rfl]
      go_wp2
      go_ret2
      exact ⟨rfl, rfl⟩
  · have d1 : decide (z = 1) = false := decide_eq_false h1
    match i, hi with
    | 0, _ => 
      go_enter Tryz.func94, Tryz.ntmps94
      rw [show kname 0 = ⟨#[98, 105, 116, 109, 97, 112]⟩ from rfl]
      go_wp2
      go_ret2
      exact ⟨by unfold forB; rw [if_neg (by decide)]; rfl, rfl⟩
    | 1, _ =>
      go_enter Tryz.func94, Tryz.ntmps94
      rw [show kname 1 = ⟨#[98, 116, 114, 101, 101]⟩ from rfl]
      go_wp2
      go_ret2
      exact ⟨by unfold forB; rw [if_neg (by decide)]; rfl, rfl⟩
    | 2, _ =>
      go_enter Tryz.func94, Tryz.ntmps94
      rw [show kname 2 = ⟨#[104, 97, 115, 104]⟩ from rfl]
      go_wp2
      go_ret2
      exact ⟨by unfold forB; rw [if_neg (by decide)]; rfl, rfl⟩
    | 3, _ =>
      go_enter Tryz.func94, Tryz.ntmps94
      rw [show kname 3 = ⟨#[105, 110, 118, 101, 114, 116, 101, 100]⟩ from rfl]
      go_wp2
      go_ret2
      exact ⟨by unfold forB; rw [if_pos rfl]; rfl, rfl⟩

abbrev twoO : Obj := .cells #[.string ⟨#[97]⟩, .int .i64 1, .string ⟨#[108]⟩, .int .i64 3] 71
theorem two_any (w : World) :
    Calls Tryz.prog 8 #[] w fun e w' => e = .returned (.slice (some ⟨w.heap.size, 0, none⟩) 2 2) ∧ w' = w.alloc twoO := by
  go_enter Tryz.func8, Tryz.ntmps8
  go_wp2
  go_ret
  exact ⟨rfl, rfl⟩
theorem two_cols {w : World} {b : Nat} (h : w.heap[b]? = some twoO) : ColIs w (some ⟨b, 0, none⟩) twoL := by
  refine .inr ⟨b, 0, rfl, fun i hi => ?_⟩
  have hi2 : i < 2 := hi
  match i, hi2 with
  | 0, _ =>
    refine ⟨?_, ?_, by show 1 ≤ 140737488351232; omega, by show -9223372036854775808 ≤ (1 : Int) ∧ (1 : Int) ≤ 9223372036854775807; omega⟩
    · unfold World.cell?; rw [h]; rfl
    · unfold World.cell?; rw [h]; rfl
  | 1, _ =>
    refine ⟨?_, ?_, by show 1 ≤ 140737488351232; omega, by show -9223372036854775808 ≤ (3 : Int) ∧ (3 : Int) ≤ 9223372036854775807; omega⟩
    · unfold World.cell?; rw [h]; rfl
    · unfold World.cell?; rw [h]; rfl

set_option maxRecDepth 100000 in
set_option maxHeartbeats 2000000 in
theorem New_any {bs : Nat} {B : Base bs} {w : World} {ba : Nat} {F : Nat → Prop} {R : Raw} (hA : ActIs B w ba F R) (hf : Fine B R) {L : List KV} (hL : Leaf R 0 L) (h0 : L.length ≠ 0) :
    Calls Tryz.prog 6 #[.pointer (some ⟨ba, 0, none⟩)] w fun e w' => ∃ gb tb, e = .returned (.tuple #[.pointer (some ⟨gb, 0, none⟩), .int .i64 0]) ∧ CStep B gb ba tb w F R L w' := by
  have HT := Lib.hid (treeNew_any hA hf.cov 0 (by decide))
  have H := Lib.hid (And.intro hf hL)
  have hne : ((L.length : Int) == 0) = false := by rw [beq_eq_false_iff_ne]; omega
  clear hA hf hL
  go_enter Tryz.func6, Tryz.ntmps6
  go_wp2_with fail
  refine HT.out.mono ?_
  rintro e w1 ⟨tb, F1, rfl, ht1, hlt1, htF1, hA1, hF1, ho1⟩
  have HLen := Lib.hid (Len_leaf ht1 hA1 H.out.1 htF1 (by decide) H.out.2)
  have H1 := Lib.hid (And.intro ht1 (And.intro htF1 (And.intro hF1 ho1)))
  clear ht1 hlt1 htF1 hA1 hF1 ho1 HT
  go_wp2_with fail
  refine HLen.out.mono ?_
  rintro e w2 ⟨rfl, hs2⟩
  have ht2 := hs2.block H1.out.1 H1.out.2.1
  obtain ⟨F2, hA2, hF2, ho2⟩ := hs2
  have hb : Below w2.heap.size w2 (w2.alloc (catO ba tb)) := by go_grown
  have HR := Lib.hid (show CStep B w2.heap.size ba tb w F R L (w2.alloc (catO ba tb)) from by
    refine ⟨F2, ⟨hnew w2 _, (hb.block tb (Array.getElem?_eq_some_iff.1 ht2).1).trans ht2, hA2.below hb, H.out.1, fun e => H1.out.2.1 (hF2 _ (Array.getElem?_eq_some_iff.1 H1.out.1).1 e), fun e => by have := hA2.1 _ e; omega, H.out.2⟩,
      fun k hk e => H1.out.2.2.1 k hk (hF2 k (Nat.lt_of_lt_of_le hk H1.out.2.2.2.size) e), (H1.out.2.2.2.trans ho2 (fun k hk e => H1.out.2.2.1 k hk e)).trans (Off.of_below hb (F := fun _ => False)) (fun _ _ e => e.elim)⟩)
  clear ht2 hA2 hF2 ho2 hb HLen
  have hne' : decide ((L.length : Int) = 0) = false := decide_eq_false (by omega)
  go_wp2
  go_ret2
  exact ⟨w2.heap.size, tb, rfl, HR.out⟩
end Go.Proofs.YtddddjpmeegedaaGreat
