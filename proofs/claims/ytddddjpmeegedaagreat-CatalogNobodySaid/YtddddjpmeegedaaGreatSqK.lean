/- Whether a text may be an index's name; what is held of an index. -/
import Derived.Test.YtddddjpmeegedaaGreatSqJ
set_option linter.unusedVariables false
set_option linter.unusedSimpArgs false
namespace Go.Proofs.YtddddjpmeegedaaGreat
open Go.RowKit

theorem codd_pays (w : World) : PredGrows Tryz.prog 82 #[] oddR w := fun W x _ _ => by
  by_cases h1 : x < 97
  · go_enter Tryz.func82, Tryz.ntmps82
    go_wp2
    go_ret
    exact ⟨ret_bool (by simp [oddR, h1]), Below.refl _ _⟩
  · by_cases h2 : 122 < x
    all_goals
      go_enter Tryz.func82, Tryz.ntmps82
      go_wp2
      go_ret
      exact ⟨ret_bool (by simp [oddR, h1, h2] <;> omega), Below.refl _ _⟩
theorem codd_call (s : ByteArray) (w : World) (b : Bool) (hb : s.data.toList.all letter = b) :
    Calls Tryz.prog 81 #[.string s, .func (.func 82) #[] #[]] w fun e w' => e = .returned (.bool (!b)) ∧ Below w.heap.size w w' := by
  rw [← hb, ← odd_any]
  exact Tryz.strings_ContainsFunc_grows 82 #[] (fun _ _ => by kernel_rfl) oddR s w (codd_pays w)
/-- May a text be an index's name? -/
def nameX (s : List UInt8) : Bool := decide (1 ≤ s.length) && decide (s.length ≤ 16) && s.all letter

set_option maxHeartbeats 1000000 in
theorem named_any (s : ByteArray) (w : World) :
    Calls Tryz.prog 31 #[.string s] w fun e w' => e = .returned (.bool (nameX s.data.toList)) ∧ Below w.heap.size w w' := by
  have hsz : s.data.toList.length = s.size := by simp
  have HS := Lib.hid hsz
  clear hsz
  by_cases h1 : 1 ≤ s.size
  · have e1 : s.toList.isEmpty = false := by rw [Lib.toList_data, List.isEmpty_eq_false_iff]; intro e; have := HS.out; rw [e] at this; simp at this; omega
    have e1' : ¬ s.toList = [] := by simpa using e1
    by_cases h2 : s.size ≤ 16
    · have e2 : decide ((s.size : Int) ≤ 16) = true := by simp; omega
      cases h3 : s.data.toList.all letter with
      | false =>
        have HN := Lib.hid (show nameX s.data.toList = false by simp [nameX, h3])
        have HC := Lib.hid (codd_call s · false h3)
        clear h3
        go_enter Tryz.func31, Tryz.ntmps31
        go_wp2_with (go_at_call 81; refine (HC.out _).mono ?_; rintro e w' ⟨rfl, hb⟩)
        go_ret
        exact ⟨ret_bool HN.out.symm, hb⟩
      | true =>
        have HC := Lib.hid (codd_call s · true h3)
        have HN := Lib.hid (show nameX s.data.toList = true by simp [nameX, h3, HS.out, h1, h2])
        clear h3
        go_enter Tryz.func31, Tryz.ntmps31
        go_wp2_with (go_at_call 81; refine (HC.out _).mono ?_; rintro e w' ⟨rfl, hb⟩)
        go_ret
        exact ⟨ret_bool HN.out.symm, hb⟩
    · have e2 : decide ((s.size : Int) ≤ 16) = false := by simp; omega
      have HN := Lib.hid (show nameX s.data.toList = false by simp [nameX, HS.out]; omega)
      go_enter Tryz.func31, Tryz.ntmps31
      go_wp2
      go_ret
      exact ⟨ret_bool HN.out.symm, by go_grown⟩
  · have e1 : s.toList.isEmpty = true := by rw [Lib.toList_data, List.isEmpty_iff, ← List.length_eq_zero_iff, HS.out]; omega
    have e1' : s.toList = [] := by simpa using e1
    have HN := Lib.hid (show nameX s.data.toList = false by simp [nameX, HS.out]; omega)
    go_enter Tryz.func31, Tryz.ntmps31
    go_wp2
    go_ret
    exact ⟨ret_bool HN.out.symm, by go_grown⟩

theorem cut_from {L : List KV} (hs : Sorted L) (key : ByteArray) : ∀ n, n ≤ L.length → (∀ t (h : t < L.length), n ≤ t → 0 ≤ cmpK L[t] key) → ∃ i, Cut L key i
  | 0, _, h => ⟨0, Nat.zero_le _, fun _ _ h => by omega, h⟩
  | n + 1, hn, h => by
    by_cases hc : cmpK (L[n]'hn) key < 0
    · exact ⟨n + 1, hn, fun t ht hl => hs.mono key t n ht hn (by omega) hc, h⟩
    · exact cut_from hs key n (by omega) (fun t ht hl => by
        by_cases e : t = n
        · subst e; omega
        · exact h t ht (by omega))
theorem cut_any {L : List KV} (hs : Sorted L) (key : ByteArray) : ∃ i, Cut L key i := cut_from hs key L.length (Nat.le_refl _) (fun t h h' => by omega)
/-- The key of an index. -/
def xkey (s : ByteArray) : ByteArray := ⟨#[120]⟩ ++ s
/-- What get answers. -/
def getR (L : List KV) (s : ByteArray) (i : Nat) : Value := if nameX s.data.toList then gotR L (xkey s) i else .tuple #[.string ⟨#[]⟩, .int .i64 3]

theorem got_two (L : List KV) (key : ByteArray) (i : Nat) : (∃ v, gotR L key i = .tuple #[.string v, .int .i64 0] ∧ isAt L key i = true) ∨ (gotR L key i = .tuple #[.string ⟨#[]⟩, .int .i64 3] ∧ isAt L key i = false) := by
  unfold gotR
  cases h : isAt L key i with
  | true => exact .inl ⟨_, rfl, rfl⟩
  | false => exact .inr ⟨rfl, rfl⟩

set_option maxRecDepth 100000 in
set_option maxHeartbeats 2000000 in
theorem get_any {bs : Nat} {B : Base bs} {w : World} {gb ba tb : Nat} {F : Nat → Prop} {R : Raw} {L : List KV} (h : CatIs B w gb ba tb F R L) (s : ByteArray) :
    Calls Tryz.prog 28 #[.pointer (some ⟨gb, 0, none⟩), .string s] w fun e w' => ∃ i, Cut L (xkey s) i ∧ e = .returned (getR L s i) ∧ CStep B gb ba tb w F R L w' := by
  have HG := Lib.hid (cgoing_any h)
  have HC0 := Lib.hid h
  clear h
  go_enter Tryz.func28, Tryz.ntmps28
  go_wp2_with fail
  refine HG.out.mono ?_
  rintro e w1 ⟨rfl, F1, h1, hF1, ho1⟩
  have HN := Lib.hid (named_any s w1)
  have H1 := Lib.hid (And.intro h1 (And.intro hF1 ho1))
  clear h1 hF1 ho1
  go_wp2_with fail
  refine HN.out.mono ?_
  rintro e w2 ⟨rfl, hb2⟩
  have h2 := H1.out.1.below hb2
  have HS2 := Lib.hid (show CStep B gb ba tb w F R L w2 from ⟨F1, h2, H1.out.2.1, H1.out.2.2.trans (Off.of_below hb2 (F := fun _ => False)) (fun _ _ e => e.elim)⟩)
  have HGt := Lib.hid (Get_leaf h2.tree h2.act h2.fine h2.tF (by decide) h2.leaf (xkey s))
  obtain ⟨c0, c1⟩ := h2.cells
  have H2 := Lib.hid h2
  have HB2 := Lib.hid hb2
  clear h2 hb2
  cases hn : nameX s.data.toList with
  | false =>
    have HN2 := Lib.hid (show ∀ i, getR L s i = .tuple #[.string ⟨#[]⟩, .int .i64 3] from fun i => by rw [getR, hn]; rfl)
    have hcut : ∃ i, Cut L (xkey s) i := cut_any H2.out.leaf.rises _
    clear hn c0 c1
    obtain ⟨i, hcut⟩ := hcut
    have HCut := Lib.hid hcut
    clear hcut
    go_wp2
    go_ret2
    exact ⟨i, HCut.out, by rw [HN2.out]; exact ret_two rfl rfl, HS2.out⟩
  | true =>
    have HN2 := Lib.hid (show ∀ i, getR L s i = gotR L (xkey s) i from fun i => by rw [getR, hn]; rfl)
    have hs16 : s.size ≤ 16 := by
      have e : s.data.toList.length = s.size := by simp
      simp only [nameX, Bool.and_eq_true, decide_eq_true_eq] at hn
      omega
    clear hn
    go_wp2_with fail
    refine HGt.out.mono ?_
    rintro e w3 ⟨i, hcut, rfl, hst⟩
    have HS3 := Lib.hid (show CStep B gb ba tb w F R L w3 from CStep.of_off (H1.out.2.2.trans (Off.of_below HB2.out (F := fun _ => False)) (fun _ _ e => e.elim)) H1.out.2.1 (H2.out.same hst))
    have HCut := Lib.hid hcut
    clear hcut hst
    rcases got_two L (xkey s) i with ⟨v, hv, _⟩ | ⟨hv, _⟩
    all_goals
      rw [hv]
      have HV := Lib.hid hv
      clear hv
      go_wp2
      go_ret2
      exact ⟨i, HCut.out, by rw [HN2.out, HV.out]; exact ret_two rfl rfl, HS3.out⟩
end Go.Proofs.YtddddjpmeegedaaGreat
