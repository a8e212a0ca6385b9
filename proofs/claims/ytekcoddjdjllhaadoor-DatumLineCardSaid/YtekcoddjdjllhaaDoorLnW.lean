/- vestibulelaw01.DatumLine: the walk. -/
import Derived.Test.YtekcoddjdjllhaaDoorBx
import Derived.Deep.DeepCutAuto
namespace Go.Proofs.YtekcoddjdjllhaaDoor
open Go.RowKit

set_option maxRecDepth 100000 in
set_option maxHeartbeats 20000000 in
theorem line_any (x y z : Da) (a : Option Addr) (c : Nat) (a' : Option Addr) (c' : Nat) (a'' : Option Addr) (c'' : Nat) (w : World) (hx : DaIs w x a) (hy : DaIs w y a') (hz : DaIs w z a'') (hG : Globs w) :
    Calls Tryd.prog 3 #[dv x.k x.n x.s a x.l.length c, dv y.k y.n y.s a' y.l.length c', dv z.k z.n z.s a'' z.l.length c''] w fun e w' => e = .returned (.bool true) ∧ Below w.heap.size w w' := by
  have hW : Below w.heap.size w (((w.alloc (.cells #[.int .i64 x.k, .int .i64 x.n, .string x.s, .slice a x.l.length c] 24)).alloc (.cells #[.int .i64 y.k, .int .i64 y.n, .string y.s, .slice a' y.l.length c'] 24)).alloc (.cells #[.int .i64 z.k, .int .i64 z.n, .string z.s, .slice a'' z.l.length c''] 24)) := (((Below.refl _ _).alloc (Nat.le_refl _) _).alloc (by simp) _).alloc (by simp; omega) _
  have LAW := Lib.hid (line_law x y z)
  have bx0 : Bx ((((w.alloc (.cells #[.int .i64 x.k, .int .i64 x.n, .string x.s, .slice a x.l.length c] 24)).alloc (.cells #[.int .i64 y.k, .int .i64 y.n, .string y.s, .slice a' y.l.length c'] 24)).alloc (.cells #[.int .i64 z.k, .int .i64 z.n, .string z.s, .slice a'' z.l.length c''] 24))) (w.heap.size) x a c := ⟨by go_simp, by go_simp, by go_simp, by go_simp⟩
  have by0 : Bx ((((w.alloc (.cells #[.int .i64 x.k, .int .i64 x.n, .string x.s, .slice a x.l.length c] 24)).alloc (.cells #[.int .i64 y.k, .int .i64 y.n, .string y.s, .slice a' y.l.length c'] 24)).alloc (.cells #[.int .i64 z.k, .int .i64 z.n, .string z.s, .slice a'' z.l.length c''] 24))) (w.heap.size + 1) y a' c' := ⟨by go_simp, by go_simp, by go_simp, by go_simp⟩
  have bz0 : Bx ((((w.alloc (.cells #[.int .i64 x.k, .int .i64 x.n, .string x.s, .slice a x.l.length c] 24)).alloc (.cells #[.int .i64 y.k, .int .i64 y.n, .string y.s, .slice a' y.l.length c'] 24)).alloc (.cells #[.int .i64 z.k, .int .i64 z.n, .string z.s, .slice a'' z.l.length c''] 24))) (w.heap.size + 1 + 1) z a'' c'' := ⟨by go_simp, by go_simp, by go_simp, by go_simp⟩
  go_enter Tryd.func3, Tryd.ntmps3
  go_wp2_with fail
  refine (cmp_call x y a c a' c' _ (hx.below hW) (hy.below hW)).mono ?_
  rintro e w1 ⟨rfl, hb1⟩
  have zz := hb1.size
  simp at zz
  have hb01 : Below w.heap.size w w1 := hW.trans (hb1.mono (by simp; omega))
  have bx1 := bx0.later hb1 (by simp; try omega)
  have by1 := by0.later hb1 (by simp; try omega)
  have bz1 := bz0.later hb1 (by simp; try omega)
  have hz1 : w.heap.size + 1 + 1 < w1.heap.size := by omega
  clear zz
  have bq := bx1
  obtain ⟨x0, x1, x2, x3⟩ := bq
  have bq := by1
  obtain ⟨y0, y1, y2, y3⟩ := bq
  have bq := bz1
  obtain ⟨z0, z1, z2, z3⟩ := bq
  go_wp2_with fail
  refine (cmp_call y z a' c' a'' c'' _ (hy.below hb01) (hz.below hb01)).mono ?_
  rintro e w2 ⟨rfl, hb2⟩
  have zz := hb2.size
  have hb02 : Below w.heap.size w w2 := hb01.trans (hb2.mono (by omega))
  clear x0 x1 x2 x3 y0 y1 y2 y3 z0 z1 z2 z3
  have bx2 := bx1.later hb2 (by omega)
  have by2 := by1.later hb2 (by omega)
  have bz2 := bz1.later hb2 (by omega)
  have hz2 : w.heap.size + 1 + 1 < w2.heap.size := by omega
  clear zz
  have bq := bx2
  obtain ⟨x0, x1, x2, x3⟩ := bq
  have bq := by2
  obtain ⟨y0, y1, y2, y3⟩ := bq
  have bq := bz2
  obtain ⟨z0, z1, z2, z3⟩ := bq
  go_wp2_with fail
  refine (cmp_call x z a c a'' c'' _ (hx.below hb02) (hz.below hb02)).mono ?_
  rintro e w3 ⟨rfl, hb3⟩
  have zz := hb3.size
  have hb03 : Below w.heap.size w w3 := hb02.trans (hb3.mono (by omega))
  clear x0 x1 x2 x3 y0 y1 y2 y3 z0 z1 z2 z3
  have bx3 := bx2.later hb3 (by omega)
  have by3 := by2.later hb3 (by omega)
  have bz3 := bz2.later hb3 (by omega)
  have hz3 : w.heap.size + 1 + 1 < w3.heap.size := by omega
  clear zz
  have bq := bx3
  obtain ⟨x0, x1, x2, x3⟩ := bq
  have bq := by3
  obtain ⟨y0, y1, y2, y3⟩ := bq
  have bq := bz3
  obtain ⟨z0, z1, z2, z3⟩ := bq
  go_wp2_with fail
  refine (cmp_call y x a' c' a c _ (hy.below hb03) (hx.below hb03)).mono ?_
  rintro e w4 ⟨rfl, hb4⟩
  have zz := hb4.size
  have hb04 : Below w.heap.size w w4 := hb03.trans (hb4.mono (by omega))
  clear x0 x1 x2 x3 y0 y1 y2 y3 z0 z1 z2 z3
  have bx4 := bx3.later hb4 (by omega)
  have by4 := by3.later hb4 (by omega)
  have bz4 := bz3.later hb4 (by omega)
  have hz4 : w.heap.size + 1 + 1 < w4.heap.size := by omega
  clear zz
  have bq := bx4
  obtain ⟨x0, x1, x2, x3⟩ := bq
  have bq := by4
  obtain ⟨y0, y1, y2, y3⟩ := bq
  have bq := bz4
  obtain ⟨z0, z1, z2, z3⟩ := bq
  have L0 := Lib.hid (LAW.out)
  clear LAW
  generalize hX : cV x y = X at L0 ⊢
  generalize hY : cV y z = Y at L0 ⊢
  generalize hZ : cV x z = Z at L0 ⊢
  generalize hE : cE x y = E at L0 ⊢
  generalize hF : cE y z = F at L0 ⊢
  generalize hGG : cE x z = G at L0 ⊢
  generalize hR : cV y x = R at L0 ⊢
  generalize hH : cE y x = HH at L0 ⊢
  by_cases hE0 : E = 0 ∧ F = 0 ∧ G = 0
  · obtain ⟨rfl, rfl, rfl⟩ := hE0
    have QQ := Lib.hid (L0.out rfl rfl rfl)
    clear L0
    obtain rfl : HH = 0 := QQ.out.1
    go_upto_region 10 with fail
    obtain ⟨_, rfl, q1, q2, q3, q4, q5, q6⟩ := QQ.out
    clear QQ
    rcases q1 with rfl | rfl | rfl
    · by_cases hY0 : 0 < Y
      · have hZ0 := hY0
        have hsm : x.same y = false := (by rw [q6]; rfl)
        clear q2 q3 q4 q5 q6
        go_wp2_with fail
        refine (rsame_any x y a c a' c' _ (hx.row.below hb04) (hy.row.below hb04) hx.l hy.l).mono ?_
        rintro e w5 ⟨rfl, hb5⟩
        rw [hsm]
        have hb05 : Below w.heap.size w w5 := hb04.trans (hb5.mono (by omega))
        have hz5 := hb5.size
        go_wp2_with fail
        refine (awake_any _ (hG.below hb05)).mono ?_
        rintro e w6 ⟨rfl, hb6⟩
        go_wp2
        go_ret
        exact ⟨rfl, hb05.trans (hb6.mono (by omega))⟩
      · have hZ0 : Z ≤ 0 := by omega
        have hsm : x.same y = false := (by rw [q6]; rfl)
        clear q2 q3 q4 q5 q6
        go_wp2_with fail
        refine (rsame_any x y a c a' c' _ (hx.row.below hb04) (hy.row.below hb04) hx.l hy.l).mono ?_
        rintro e w5 ⟨rfl, hb5⟩
        rw [hsm]
        have hb05 : Below w.heap.size w w5 := hb04.trans (hb5.mono (by omega))
        have hz5 := hb5.size
        go_wp2_with fail
        refine (awake_any _ (hG.below hb05)).mono ?_
        rintro e w6 ⟨rfl, hb6⟩
        go_wp2
        go_ret
        exact ⟨rfl, hb05.trans (hb6.mono (by omega))⟩
    · obtain rfl : Z = Y := q5 rfl
      by_cases hY0 : 0 < Z
      · have hZ0 := hY0
        have hsm : x.same y = true := (by rw [q6]; rfl)
        clear q2 q3 q4 q5 q6
        go_wp2_with fail
        refine (rsame_any x y a c a' c' _ (hx.row.below hb04) (hy.row.below hb04) hx.l hy.l).mono ?_
        rintro e w5 ⟨rfl, hb5⟩
        rw [hsm]
        have hb05 : Below w.heap.size w w5 := hb04.trans (hb5.mono (by omega))
        have hz5 := hb5.size
        go_wp2_with fail
        refine (awake_any _ (hG.below hb05)).mono ?_
        rintro e w6 ⟨rfl, hb6⟩
        go_wp2
        go_ret
        exact ⟨rfl, hb05.trans (hb6.mono (by omega))⟩
      · have hZ0 : Z ≤ 0 := by omega
        have hsm : x.same y = true := (by rw [q6]; rfl)
        clear q2 q3 q4 q5 q6
        go_wp2_with fail
        refine (rsame_any x y a c a' c' _ (hx.row.below hb04) (hy.row.below hb04) hx.l hy.l).mono ?_
        rintro e w5 ⟨rfl, hb5⟩
        rw [hsm]
        have hb05 : Below w.heap.size w w5 := hb04.trans (hb5.mono (by omega))
        have hz5 := hb5.size
        go_wp2_with fail
        refine (awake_any _ (hG.below hb05)).mono ?_
        rintro e w6 ⟨rfl, hb6⟩
        go_wp2
        go_ret
        exact ⟨rfl, hb05.trans (hb6.mono (by omega))⟩
    · have hZ0 := hz4
      have hsm : x.same y = false := (by rw [q6]; rfl)
      clear q2 q3 q4 q5 q6
      go_wp2_with fail
      refine (rsame_any x y a c a' c' _ (hx.row.below hb04) (hy.row.below hb04) hx.l hy.l).mono ?_
      rintro e w5 ⟨rfl, hb5⟩
      rw [hsm]
      have hb05 : Below w.heap.size w w5 := hb04.trans (hb5.mono (by omega))
      have hz5 := hb5.size
      go_wp2_with fail
      refine (awake_any _ (hG.below hb05)).mono ?_
      rintro e w6 ⟨rfl, hb6⟩
      go_wp2
      go_ret
      exact ⟨rfl, hb05.trans (hb6.mono (by omega))⟩
  · clear L0
    by_cases hE1 : E = 0
    · by_cases hF1 : F = 0
      · have e1 : (E == 0) = true := by simp [hE1]
        have e2 : (F == 0) = true := by simp [hF1]
        have e3 : (G == 0) = false := by simp; exact fun h => hE0 ⟨hE1, hF1, h⟩
        clear hE0 hE1 hF1
        go_wp2_with fail
        refine (rcmp_call x y a c a' c' _ (hx.below hb04) (hy.below hb04)).mono ?_
        rintro e w5 ⟨rfl, hb5⟩
        have zz := hb5.size
        have hb05 : Below w.heap.size w w5 := hb04.trans (hb5.mono (by omega))
        clear x0 x1 x2 x3 y0 y1 y2 y3 z0 z1 z2 z3
        have bx5 := bx4.later hb5 (by omega)
        have by5 := by4.later hb5 (by omega)
        have bz5 := bz4.later hb5 (by omega)
        have hz5 : w.heap.size + 1 + 1 < w5.heap.size := by omega
        clear zz
        have bq := bx5
        obtain ⟨x0, x1, x2, x3⟩ := bq
        have bq := by5
        obtain ⟨y0, y1, y2, y3⟩ := bq
        have bq := bz5
        obtain ⟨z0, z1, z2, z3⟩ := bq
        rw [hX, hE]
        go_wp2_with fail
        refine (rcmp_call y z a' c' a'' c'' _ (hy.below hb05) (hz.below hb05)).mono ?_
        rintro e w6 ⟨rfl, hb6⟩
        have zz := hb6.size
        have hb06 : Below w.heap.size w w6 := hb05.trans (hb6.mono (by omega))
        clear x0 x1 x2 x3 y0 y1 y2 y3 z0 z1 z2 z3
        have bx6 := bx5.later hb6 (by omega)
        have by6 := by5.later hb6 (by omega)
        have bz6 := bz5.later hb6 (by omega)
        have hz6 : w.heap.size + 1 + 1 < w6.heap.size := by omega
        clear zz
        have bq := bx6
        obtain ⟨x0, x1, x2, x3⟩ := bq
        have bq := by6
        obtain ⟨y0, y1, y2, y3⟩ := bq
        have bq := bz6
        obtain ⟨z0, z1, z2, z3⟩ := bq
        rw [hY, hF]
        go_wp2_with fail
        refine (rcmp_call x z a c a'' c'' _ (hx.below hb06) (hz.below hb06)).mono ?_
        rintro e w7 ⟨rfl, hb7⟩
        have zz := hb7.size
        have hb07 : Below w.heap.size w w7 := hb06.trans (hb7.mono (by omega))
        clear x0 x1 x2 x3 y0 y1 y2 y3 z0 z1 z2 z3
        have bx7 := bx6.later hb7 (by omega)
        have by7 := by6.later hb7 (by omega)
        have bz7 := bz6.later hb7 (by omega)
        have hz7 : w.heap.size + 1 + 1 < w7.heap.size := by omega
        clear zz
        have bq := bx7
        obtain ⟨x0, x1, x2, x3⟩ := bq
        have bq := by7
        obtain ⟨y0, y1, y2, y3⟩ := bq
        have bq := bz7
        obtain ⟨z0, z1, z2, z3⟩ := bq
        rw [hZ, hGG]
        go_wp2_with fail
        refine (awake_any _ (hG.below hb07)).mono ?_
        rintro e w8 ⟨rfl, hb8⟩
        go_wp2
        go_ret
        exact ⟨rfl, hb07.trans (hb8.mono (by omega))⟩
      · have e1 : (E == 0) = true := by simp [hE1]
        have e2 : (F == 0) = false := by simp [hF1]
        clear hE0 hE1 hF1
        go_wp2_with fail
        refine (rcmp_call x y a c a' c' _ (hx.below hb04) (hy.below hb04)).mono ?_
        rintro e w5 ⟨rfl, hb5⟩
        have zz := hb5.size
        have hb05 : Below w.heap.size w w5 := hb04.trans (hb5.mono (by omega))
        clear x0 x1 x2 x3 y0 y1 y2 y3 z0 z1 z2 z3
        have bx5 := bx4.later hb5 (by omega)
        have by5 := by4.later hb5 (by omega)
        have bz5 := bz4.later hb5 (by omega)
        have hz5 : w.heap.size + 1 + 1 < w5.heap.size := by omega
        clear zz
        have bq := bx5
        obtain ⟨x0, x1, x2, x3⟩ := bq
        have bq := by5
        obtain ⟨y0, y1, y2, y3⟩ := bq
        have bq := bz5
        obtain ⟨z0, z1, z2, z3⟩ := bq
        rw [hX, hE]
        go_wp2_with fail
        refine (rcmp_call y z a' c' a'' c'' _ (hy.below hb05) (hz.below hb05)).mono ?_
        rintro e w6 ⟨rfl, hb6⟩
        have zz := hb6.size
        have hb06 : Below w.heap.size w w6 := hb05.trans (hb6.mono (by omega))
        clear x0 x1 x2 x3 y0 y1 y2 y3 z0 z1 z2 z3
        have bx6 := bx5.later hb6 (by omega)
        have by6 := by5.later hb6 (by omega)
        have bz6 := bz5.later hb6 (by omega)
        have hz6 : w.heap.size + 1 + 1 < w6.heap.size := by omega
        clear zz
        have bq := bx6
        obtain ⟨x0, x1, x2, x3⟩ := bq
        have bq := by6
        obtain ⟨y0, y1, y2, y3⟩ := bq
        have bq := bz6
        obtain ⟨z0, z1, z2, z3⟩ := bq
        rw [hY, hF]
        go_wp2_with fail
        refine (rcmp_call x z a c a'' c'' _ (hx.below hb06) (hz.below hb06)).mono ?_
        rintro e w7 ⟨rfl, hb7⟩
        have zz := hb7.size
        have hb07 : Below w.heap.size w w7 := hb06.trans (hb7.mono (by omega))
        clear x0 x1 x2 x3 y0 y1 y2 y3 z0 z1 z2 z3
        have bx7 := bx6.later hb7 (by omega)
        have by7 := by6.later hb7 (by omega)
        have bz7 := bz6.later hb7 (by omega)
        have hz7 : w.heap.size + 1 + 1 < w7.heap.size := by omega
        clear zz
        have bq := bx7
        obtain ⟨x0, x1, x2, x3⟩ := bq
        have bq := by7
        obtain ⟨y0, y1, y2, y3⟩ := bq
        have bq := bz7
        obtain ⟨z0, z1, z2, z3⟩ := bq
        rw [hZ, hGG]
        go_wp2_with fail
        refine (awake_any _ (hG.below hb07)).mono ?_
        rintro e w8 ⟨rfl, hb8⟩
        go_wp2
        go_ret
        exact ⟨rfl, hb07.trans (hb8.mono (by omega))⟩
    · have e1 : (E == 0) = false := by simp [hE1]
      clear hE0
      go_wp2_with fail
      refine (rcmp_call x y a c a' c' _ (hx.below hb04) (hy.below hb04)).mono ?_
      rintro e w5 ⟨rfl, hb5⟩
      have zz := hb5.size
      have hb05 : Below w.heap.size w w5 := hb04.trans (hb5.mono (by omega))
      clear x0 x1 x2 x3 y0 y1 y2 y3 z0 z1 z2 z3
      have bx5 := bx4.later hb5 (by omega)
      have by5 := by4.later hb5 (by omega)
      have bz5 := bz4.later hb5 (by omega)
      have hz5 : w.heap.size + 1 + 1 < w5.heap.size := by omega
      clear zz
      have bq := bx5
      obtain ⟨x0, x1, x2, x3⟩ := bq
      have bq := by5
      obtain ⟨y0, y1, y2, y3⟩ := bq
      have bq := bz5
      obtain ⟨z0, z1, z2, z3⟩ := bq
      rw [hX, hE]
      go_wp2_with fail
      refine (rcmp_call y z a' c' a'' c'' _ (hy.below hb05) (hz.below hb05)).mono ?_
      rintro e w6 ⟨rfl, hb6⟩
      have zz := hb6.size
      have hb06 : Below w.heap.size w w6 := hb05.trans (hb6.mono (by omega))
      clear x0 x1 x2 x3 y0 y1 y2 y3 z0 z1 z2 z3
      have bx6 := bx5.later hb6 (by omega)
      have by6 := by5.later hb6 (by omega)
      have bz6 := bz5.later hb6 (by omega)
      have hz6 : w.heap.size + 1 + 1 < w6.heap.size := by omega
      clear zz
      have bq := bx6
      obtain ⟨x0, x1, x2, x3⟩ := bq
      have bq := by6
      obtain ⟨y0, y1, y2, y3⟩ := bq
      have bq := bz6
      obtain ⟨z0, z1, z2, z3⟩ := bq
      rw [hY, hF]
      go_wp2_with fail
      refine (rcmp_call x z a c a'' c'' _ (hx.below hb06) (hz.below hb06)).mono ?_
      rintro e w7 ⟨rfl, hb7⟩
      have zz := hb7.size
      have hb07 : Below w.heap.size w w7 := hb06.trans (hb7.mono (by omega))
      clear x0 x1 x2 x3 y0 y1 y2 y3 z0 z1 z2 z3
      have bx7 := bx6.later hb7 (by omega)
      have by7 := by6.later hb7 (by omega)
      have bz7 := bz6.later hb7 (by omega)
      have hz7 : w.heap.size + 1 + 1 < w7.heap.size := by omega
      clear zz
      have bq := bx7
      obtain ⟨x0, x1, x2, x3⟩ := bq
      have bq := by7
      obtain ⟨y0, y1, y2, y3⟩ := bq
      have bq := bz7
      obtain ⟨z0, z1, z2, z3⟩ := bq
      rw [hZ, hGG]
      go_wp2_with fail
      refine (awake_any _ (hG.below hb07)).mono ?_
      rintro e w8 ⟨rfl, hb8⟩
      go_wp2
      go_ret
      exact ⟨rfl, hb07.trans (hb8.mono (by omega))⟩
end Go.Proofs.YtekcoddjdjllhaaDoor
