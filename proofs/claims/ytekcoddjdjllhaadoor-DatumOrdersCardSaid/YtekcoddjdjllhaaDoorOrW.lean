/- vestibulelaw01.DatumOrders: the walk. -/
import Derived.Test.YtekcoddjdjllhaaDoorCal
import Derived.Deep.RegionHeld3
import Derived.Deep.DeepCutAuto
namespace Go.Proofs.YtekcoddjdjllhaaDoor
open Go.RowKit

set_option maxRecDepth 100000 in
set_option maxHeartbeats 8000000 in
theorem orders_law (x y : Da) (a : Option Addr) (c : Nat) (a' : Option Addr) (c' : Nat) (w : World) (hx : DaIs w x a) (hy : DaIs w y a') (hG : GlobsM w) (h16 : 8 ≤ w.heap.size) :
    Calls Tryd.prog 8 #[dv x.k x.n x.s a x.l.length c, dv y.k y.n y.s a' y.l.length c'] w fun e w' => e = .returned (.bool true) ∧ Below w.heap.size w w' := by
  have hW : Below w.heap.size w ((w.alloc (.cells #[.int .i64 x.k, .int .i64 x.n, .string x.s, .slice a x.l.length c] 24)).alloc (.cells #[.int .i64 y.k, .int .i64 y.n, .string y.s, .slice a' y.l.length c'] 24)) := ((Below.refl _ _).alloc (Nat.le_refl _) _).alloc (by simp) _
  have bx0 : Bx ((w.alloc (.cells #[.int .i64 x.k, .int .i64 x.n, .string x.s, .slice a x.l.length c] 24)).alloc (.cells #[.int .i64 y.k, .int .i64 y.n, .string y.s, .slice a' y.l.length c'] 24)) (w.heap.size) x a c := ⟨by go_simp, by go_simp, by go_simp, by go_simp⟩
  have by0 : Bx ((w.alloc (.cells #[.int .i64 x.k, .int .i64 x.n, .string x.s, .slice a x.l.length c] 24)).alloc (.cells #[.int .i64 y.k, .int .i64 y.n, .string y.s, .slice a' y.l.length c'] 24)) (w.heap.size + 1) y a' c' := ⟨by go_simp, by go_simp, by go_simp, by go_simp⟩
  go_enter Tryd.func8, Tryd.ntmps8
  go_wp2_with fail
  refine (cmp_call x y a c a' c' _ (hx.below hW) (hy.below hW)).mono ?_
  rintro e w1 ⟨rfl, hb1⟩
  have zz := hb1.size
  simp at zz
  have hb01 : Below w.heap.size w w1 := hW.trans (hb1.mono (by simp; try omega))
  have bx1 := bx0.later hb1 (by simp; try omega)
  have by1 := by0.later hb1 (by simp; try omega)
  have hz1 : w.heap.size + 1 < w1.heap.size := by omega
  clear zz
  have bq := bx1
  obtain ⟨x0, x1, x2, x3⟩ := bq
  have bq := by1
  obtain ⟨y0, y1, y2, y3⟩ := bq
  go_wp2_with fail
  refine (rcmp_call x y a c a' c' _ (hx.below hb01) (hy.below hb01)).mono ?_
  rintro e w2 ⟨rfl, hb2⟩
  have zz := hb2.size
  have hb02 : Below w.heap.size w w2 := hb01.trans (hb2.mono (by omega))
  clear x0 x1 x2 x3 y0 y1 y2 y3
  have bx2 := bx1.later hb2 (by omega)
  have hz2 : w.heap.size + 1 < w2.heap.size := by omega
  clear zz
  have bq := bx2
  obtain ⟨x0, x1, x2, x3⟩ := bq
  generalize cV x y = X
  generalize cE x y = F
  go_wp2_with fail
  refine (hash_call x a c _ (hx.below hb02) (hG.below hb02) (by omega)).mono ?_
  rintro e w3 ⟨rfl, hb3⟩
  have zz := hb3.size
  have hb03 : Below w.heap.size w w3 := hb02.trans (hb3.mono (by omega))
  clear x0 x1 x2 x3
  have bx3 := bx2.later hb3 (by omega)
  have hz3 : w.heap.size + 1 < w3.heap.size := by omega
  clear zz
  have bq := bx3
  obtain ⟨x0, x1, x2, x3⟩ := bq
  go_wp2_with fail
  refine (rhash_call x a c _ (hx.below hb03)).mono ?_
  rintro e w4 ⟨rfl, hb4⟩
  have zz := hb4.size
  have hb04 : Below w.heap.size w w4 := hb03.trans (hb4.mono (by omega))
  clear x0 x1 x2 x3
  have bx4 := bx3.later hb4 (by omega)
  have hz4 : w.heap.size + 1 < w4.heap.size := by omega
  clear zz
  have bq := bx4
  obtain ⟨x0, x1, x2, x3⟩ := bq
  generalize hH : hV x = H
  clear hH
  generalize hEE : dE x = E
  have HE := Lib.hid hEE
  clear hEE
  clear bx0 by0 bx1 by1 bx2 bx3 hb1 hb2 hb3 hb4 hb01 hb02 hb03 hW hz1 hz2 hz3
  go_upto_region 5 with fail
  have bx4d := bx4.drew
  go_region_held3 (fun w' => w'.cell? ⟨w.heap.size, 0, none⟩ = some (.int .i64 x.k) ∧ w'.cell? ⟨w.heap.size, 1, none⟩ = some (.int .i64 x.n) ∧ w'.cell? ⟨w.heap.size, 2, none⟩ = some (.string x.s) ∧ w'.cell? ⟨w.heap.size, 3, none⟩ = some (.slice a x.l.length c))
    (first | (exact ⟨bx4d.c0, bx4d.c1, bx4d.c2, bx4d.c3⟩) | (exact ⟨bx4.c0, bx4.c1, bx4.c2, bx4.c3⟩) | (exact ⟨bx6.c0, bx6.c1, bx6.c2, bx6.c3⟩) | (exact ⟨bx5.c0, bx5.c1, bx5.c2, bx5.c3⟩) | (exact ⟨bx8.c0, bx8.c1, bx8.c2, bx8.c3⟩) | go_keep)
    (first
    | (go_at_call 25; refine (check_call x a c _ (hx.below (by first | exact hb04.drew | exact hb04 | exact hb06))).mono ?_; rintro e w5 ⟨rfl, hb5⟩; rw [HE.out]; have hb05 : Below w.heap.size w w5 := (by first | exact hb04.drew.trans (hb5.mono (by simp; try omega)) | exact hb04.trans (hb5.mono (by omega)) | exact hb06.trans (hb5.mono (by omega))); have bx5 := (by first | exact (Bx.later bx4d hb5 (by simp; try omega)) | exact (Bx.later bx6 hb5 (by omega)) : Bx w5 w.heap.size x a c); have hz5 : w.heap.size + 1 < w5.heap.size := (by have := hb5.size; (try simp at this); omega))
    | (go_at_call 22; refine (rcheck_call x a c _ (hx.below (by first | exact hb05 | exact hb04.drew | exact hb04))).mono ?_; rintro e w6 ⟨rfl, hb6⟩; rw [HE.out]; have hb06 : Below w.heap.size w w6 := (by first | exact hb05.trans (hb6.mono (by omega)) | exact hb04.drew.trans (hb6.mono (by simp; try omega)) | exact hb04.trans (hb6.mono (by omega))); have bx6 := (by first | exact (Bx.later bx5 hb6 (by omega)) | exact (Bx.later bx4d hb6 (by simp; try omega)) : Bx w6 w.heap.size x a c); have hz6 : w.heap.size + 1 < w6.heap.size := (by have := hb6.size; (try simp at this); omega))
    | (go_at_call 12; refine (awake_any _ (hG.toGlobs.below (by first | exact hb06 | exact hb05))).mono ?_; rintro e w8 ⟨rfl, hb8⟩; have bx8 := (by first | exact (Bx.later bx6 hb8 (by omega)) | exact (Bx.later bx5 hb8 (by omega)) : Bx w8 w.heap.size x a c); have hb08 : Below w.heap.size w w8 := (by first | exact hb06.trans (hb8.mono (by omega)) | exact hb05.trans (hb8.mono (by omega)))))
  all_goals
    go_wp2
    go_ret
    exact ⟨rfl, hb08⟩
end Go.Proofs.YtekcoddjdjllhaaDoor
