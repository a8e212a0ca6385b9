/- vestibulelaw01.DatumStands: the walk. -/
import Derived.Test.YtekcoddjdjllhaaDoorCal
import Derived.Test.YtekcoddjdjllhaaDoorEnc
namespace Go.Proofs.YtekcoddjdjllhaaDoor
open Go.RowKit

/-- What the two strings answer. -/
def StandsOk (S T : ByteArray) (C : Int) : Prop :=
  (Op.bytesLess S.toList T.toList = decide (C = -1)) ∧ (Op.bytesLess T.toList S.toList = decide (C = 1)) ∧ (C = -1 ∨ C = 0 ∨ C = 1) ∧ ((S.toList == T.toList) = decide (C = 0)) ∧
  ((S.size ≤ T.size ∧ ((T.extract 0 S.size).toList == S.toList) = decide (C = 0)) ∨ (¬ S.size ≤ T.size ∧ ¬ C = 0))

theorem stands_ok (x y : Da) (hx : In64 x.n) (hy : In64 y.n) (h : cE x y = 0) : StandsOk (bS x) (bS y) (cV x y) ∧ dE x = 0 ∧ dE y = 0 := by
  obtain ⟨mx, my, kx, ky⟩ := cE_zero h
  obtain ⟨hc, hb⟩ := stands_pure x y hx hy h
  have ex : bS x = toBA x.enc := by simp [bS, mx, toBA]
  have ey : bS y = toBA y.enc := by simp [bS, my, toBA]
  refine ⟨?_, by simp [dE, mx], by simp [dE, my]⟩
  rw [ex, ey]
  unfold StandsOk
  have l1 : (toBA x.enc).toList = x.enc := by rw [Lib.toList_data]; exact toBA_list _
  have l2 : (toBA y.enc).toList = y.enc := by rw [Lib.toList_data]; exact toBA_list _
  rw [l1, l2, bytesLess_iff, bytesLess_iff, ← hc, cb_anti, ← hc, toBA_size, toBA_size]
  have h3 : cV x y = -1 ∨ cV x y = 0 ∨ cV x y = 1 := by rw [hc]; exact compareBytes_three _ _
  have h4 : (x.enc == y.enc) = decide (cV x y = 0) := by
    rw [hc]
    by_cases h : x.enc = y.enc
    · rw [decide_eq_true ((compareBytes_zero _ _).2 h), beq_iff_eq]; exact h
    · rw [decide_eq_false (fun e => h ((compareBytes_zero _ _).1 e)), beq_eq_false_iff_ne]; exact h
  refine ⟨rfl, by rw [decide_eq_decide]; omega, h3, h4, ?_⟩
  have lt : ((toBA y.enc).extract 0 x.enc.length).toList = y.enc.take x.enc.length := by
    rw [Lib.toList_data, ByteArray.data_extract]
    simp [toBA]
  by_cases hl : x.enc.length ≤ y.enc.length
  · refine .inl ⟨hl, ?_⟩
    rw [lt, ← hb]
    simp [begB, hl]
  · refine .inr ⟨hl, fun h0 => ?_⟩
    rw [h0] at hb
    simp [begB, hl] at hb

set_option maxRecDepth 100000 in
set_option maxHeartbeats 8000000 in
theorem stands_law (x y : Da) (a : Option Addr) (c : Nat) (a' : Option Addr) (c' : Nat) (w : World) (hx : DaIs w x a) (hy : DaIs w y a') (hG : GlobsM w) (h16 : 8 ≤ w.heap.size) :
    Calls Tryd.prog 6 #[dv x.k x.n x.s a x.l.length c, dv y.k y.n y.s a' y.l.length c'] w fun e w' => e = .returned (.bool true) ∧ Below w.heap.size w w' := by
  have hW : Below w.heap.size w ((w.alloc (.cells #[.int .i64 x.k, .int .i64 x.n, .string x.s, .slice a x.l.length c] 24)).alloc (.cells #[.int .i64 y.k, .int .i64 y.n, .string y.s, .slice a' y.l.length c'] 24)) := ((Below.refl _ _).alloc (Nat.le_refl _) _).alloc (by simp) _
  have LAW := Lib.hid (stands_ok x y hx.n hy.n)
  have bx0 : Bx ((w.alloc (.cells #[.int .i64 x.k, .int .i64 x.n, .string x.s, .slice a x.l.length c] 24)).alloc (.cells #[.int .i64 y.k, .int .i64 y.n, .string y.s, .slice a' y.l.length c'] 24)) (w.heap.size) x a c := ⟨by go_simp, by go_simp, by go_simp, by go_simp⟩
  have by0 : Bx ((w.alloc (.cells #[.int .i64 x.k, .int .i64 x.n, .string x.s, .slice a x.l.length c] 24)).alloc (.cells #[.int .i64 y.k, .int .i64 y.n, .string y.s, .slice a' y.l.length c'] 24)) (w.heap.size + 1) y a' c' := ⟨by go_simp, by go_simp, by go_simp, by go_simp⟩
  go_enter Tryd.func6, Tryd.ntmps6
  go_wp2_with fail
  refine (cmp_call x y a c a' c' _ (hx.below hW) (hy.below hW)).mono ?_
  rintro e w1 ⟨rfl, hb1⟩
  have zz := hb1.size
  simp at zz
  have hb01 : Below w.heap.size w w1 := hW.trans (hb1.mono (by simp; try omega))
  have bx1 := bx0.later hb1 (by simp; try omega)
  have by1 := by0.later hb1 (by simp; try omega)
  have hz1 : w.heap.size + 1 < w1.heap.size := by omega
  clear zz
  have bq := bx1
  obtain ⟨x0, x1, x2, x3⟩ := bq
  have bq := by1
  obtain ⟨y0, y1, y2, y3⟩ := bq
  go_wp2_with fail
  refine (bytes_call x a c _ (hx.below hb01) (hG.below hb01) (by omega)).mono ?_
  rintro e w2 ⟨rfl, hb2⟩
  have zz := hb2.size
  have hb02 : Below w.heap.size w w2 := hb01.trans (hb2.mono (by omega))
  clear x0 x1 x2 x3 y0 y1 y2 y3
  have bx2 := bx1.later hb2 (by omega)
  have by2 := by1.later hb2 (by omega)
  have hz2 : w.heap.size + 1 < w2.heap.size := by omega
  clear zz
  have bq := bx2
  obtain ⟨x0, x1, x2, x3⟩ := bq
  have bq := by2
  obtain ⟨y0, y1, y2, y3⟩ := bq
  go_wp2_with fail
  refine (bytes_call y a' c' _ (hy.below hb02) (hG.below hb02) (by omega)).mono ?_
  rintro e w3 ⟨rfl, hb3⟩
  have zz := hb3.size
  have hb03 : Below w.heap.size w w3 := hb02.trans (hb3.mono (by omega))
  clear x0 x1 x2 x3 y0 y1 y2 y3
  have bx3 := bx2.later hb3 (by omega)
  have by3 := by2.later hb3 (by omega)
  have hz3 : w.heap.size + 1 < w3.heap.size := by omega
  clear zz
  have bq := bx3
  obtain ⟨x0, x1, x2, x3⟩ := bq
  have bq := by3
  obtain ⟨y0, y1, y2, y3⟩ := bq
  have L0 := Lib.hid LAW.out
  clear LAW
  generalize hX : cV x y = X at L0 ⊢
  generalize hE : cE x y = E at L0 ⊢
  generalize hS : bS x = S at L0 ⊢
  generalize hT : bS y = T at L0 ⊢
  generalize hF : dE x = F at L0 ⊢
  generalize hGG : dE y = G at L0 ⊢
  have HX := Lib.hid hX
  have HE := Lib.hid hE
  clear hX hE hS hT hF hGG
  by_cases hE0 : E = 0
  · obtain ⟨⟨s1, s2, s3, s0, s4⟩, hf, hg⟩ := L0.out hE0
    clear L0
    subst hE0 hf hg
    rcases s3 with rfl | rfl | rfl
    all_goals simp only [Int.reduceNeg, Int.reduceEq, decide_true, decide_false, not_true_eq_false, not_false_eq_true, and_false, and_true, or_false, reduceCtorEq] at s0 s1 s2 s4
    · rcases s4 with ⟨h5, h6⟩ | h5
      · go_wp2_with fail
        refine (awake_any _ (hG.toGlobs.below hb03)).mono ?_
        rintro e w8 ⟨rfl, hb8⟩
        go_wp2
        go_ret
        exact ⟨rfl, hb03.trans (hb8.mono (by omega))⟩
      · go_wp2_with fail
        refine (awake_any _ (hG.toGlobs.below hb03)).mono ?_
        rintro e w8 ⟨rfl, hb8⟩
        go_wp2
        go_ret
        exact ⟨rfl, hb03.trans (hb8.mono (by omega))⟩
    · obtain ⟨h5, h6⟩ := s4
      go_wp2_with fail
      refine (awake_any _ (hG.toGlobs.below hb03)).mono ?_
      rintro e w8 ⟨rfl, hb8⟩
      go_wp2
      go_ret
      exact ⟨rfl, hb03.trans (hb8.mono (by omega))⟩
    · rcases s4 with ⟨h5, h6⟩ | h5
      · go_wp2_with fail
        refine (awake_any _ (hG.toGlobs.below hb03)).mono ?_
        rintro e w8 ⟨rfl, hb8⟩
        go_wp2
        go_ret
        exact ⟨rfl, hb03.trans (hb8.mono (by omega))⟩
      · go_wp2_with fail
        refine (awake_any _ (hG.toGlobs.below hb03)).mono ?_
        rintro e w8 ⟨rfl, hb8⟩
        go_wp2
        go_ret
        exact ⟨rfl, hb03.trans (hb8.mono (by omega))⟩
  · clear L0
    go_wp2_with fail
    refine (rcmp_call x y a c a' c' _ (hx.below hb03) (hy.below hb03)).mono ?_
    rintro e w5 ⟨rfl, hb5⟩
    rw [HX.out, HE.out]
    have zz := hb5.size
    have hb05 : Below w.heap.size w w5 := hb03.trans (hb5.mono (by omega))
    clear x0 x1 x2 x3 y0 y1 y2 y3
    go_wp2_with fail
    refine (awake_any _ (hG.toGlobs.below hb05)).mono ?_
    rintro e w8 ⟨rfl, hb8⟩
    go_wp2
    go_ret
    exact ⟨rfl, hb05.trans (hb8.mono (by omega))⟩
end Go.Proofs.YtekcoddjdjllhaaDoor
