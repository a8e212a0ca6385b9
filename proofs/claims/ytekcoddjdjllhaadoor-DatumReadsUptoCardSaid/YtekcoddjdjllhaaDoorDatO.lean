/- The order of data: datum.Compare and the reference's. -/
import Derived.Test.YtekcoddjdjllhaaDoorDatB
import Derived.StillTailTactics
namespace Go.Proofs.YtekcoddjdjllhaaDoor
open Go.RowKit

/-- cmp.Or of three. -/
def or3 (x y z : Int) : Int := if x ≠ 0 then x else if y ≠ 0 then y else z

theorem cmpOr_any (x y z : Int) (b : Nat) (w : World) (h0 : w.cell? ⟨b, 0, none⟩ = some (.int .i64 x)) (h1 : w.cell? ⟨b, 1, none⟩ = some (.int .i64 y)) (h2 : w.cell? ⟨b, 2, none⟩ = some (.int .i64 z)) :
    Calls Tryd.prog 27 #[.slice (some ⟨b, 0, none⟩) 3 3] w fun e w' => e = .returned (.int .i64 (or3 x y z)) ∧ w' = w := by
  by_cases hx : x = 0
  · subst hx
    by_cases hy : y = 0
    · subst hy
      have HH := Lib.hid (show or3 0 0 z = z by simp [or3])
      by_cases hz : z = 0
      · subst hz
        go_enter Tryd.func27, Tryd.ntmps27
        go_wp2
        go_rounds 4
        all_goals (go_ret; exact ⟨ret_int HH.out.symm, rfl⟩)
      · go_enter Tryd.func27, Tryd.ntmps27
        go_wp2
        go_rounds 4
        all_goals (go_ret; exact ⟨ret_int HH.out.symm, rfl⟩)
    · have HH := Lib.hid (show or3 0 y z = y by simp [or3, hy])
      go_enter Tryd.func27, Tryd.ntmps27
      go_wp2
      go_rounds 4
      all_goals (go_ret; exact ⟨ret_int HH.out.symm, rfl⟩)
  · have HH := Lib.hid (show or3 x y z = x by simp [or3, hx])
    go_enter Tryd.func27, Tryd.ntmps27
    go_wp2
    go_rounds 4
    all_goals (go_ret; exact ⟨ret_int HH.out.symm, rfl⟩)

/-- -1, 0, 1 of what are no lists. -/
def ordB (k n : Int) (s : ByteArray) (k' n' : Int) (s' : ByteArray) : Int :=
  if k ≠ k' then (if k < k' then -1 else 1) else if n < n' then -1 else if n' < n then 1 else Go.Lib.compareBytes s.data.toList s'.data.toList

theorem compareInt_eq (x y : Int) : Go.Lib.compareInt x y = if x < y then -1 else if y < x then 1 else 0 := by
  unfold Go.Lib.compareInt; rfl

theorem ordB_eq (k n : Int) (s : ByteArray) (k' n' : Int) (s' : ByteArray) :
    or3 (Go.Lib.compareInt k k') (Go.Lib.compareInt n n') (Go.Lib.compareBytes s.data.toList s'.data.toList) = ordB k n s k' n' s' := by
  simp only [or3, compareInt_eq, ordB]
  by_cases h1 : k < k'
  · simp [h1, show k ≠ k' by omega]
  · by_cases h2 : k' < k
    · simp [h1, h2, show k ≠ k' by omega]
    · obtain rfl : k = k' := by omega
      by_cases h3 : n < n' <;> by_cases h4 : n' < n <;> simp [h3, h4] <;> omega

/-- What Compare answers. -/
def cmpAns (d d' : Da) : Value :=
  if d.may && d'.may then (if decide (d.k = 3) || decide (d'.k = 3) then .tuple #[.int .i64 0, .int .i64 10] else .tuple #[.int .i64 (ordB d.k d.n d.s d'.k d'.n d'.s), .int .i64 0]) else .tuple #[.int .i64 0, .int .i64 11]

set_option maxRecDepth 100000 in
set_option maxHeartbeats 2000000 in
theorem compare_any (d d' : Da) (a : Option Addr) (c : Nat) (a' : Option Addr) (c' : Nat) (w : World) (hr : RowIs w a d.l) (hl : d.l.length ≤ 140737488351232) (hr' : RowIs w a' d'.l) (hl' : d'.l.length ≤ 140737488351232) :
    Calls Tryd.prog 10 #[dv d.k d.n d.s a d.l.length c, dv d'.k d'.n d'.s a' d'.l.length c'] w fun e w' =>
      e = .returned (cmpAns d d') ∧ Below w.heap.size w w' := by
  by_cases h1 : d.may = true
  · by_cases h2 : d'.may = true
    · by_cases h3 : d.k = 3
      · have HA := Lib.hid (show cmpAns d d' = .tuple #[.int .i64 0, .int .i64 10] by simp [cmpAns, h1, h2, h3])
        have hk4 : (d.k == 3) = true := by simpa using h3
        have H1 := Lib.hid h3
        clear h3
        go_enter Tryd.func10, Tryd.ntmps10
        go_wp2_with fail
        refine (may_any d a c _ (hr.below (by go_grown)) hl).mono ?_
        rintro e w1 ⟨rfl, hb1⟩
        obtain ⟨hc1, hf1⟩ := bcell hb1
        simp only [World.size_alloc] at hc1 hf1
        have hz1 : w.heap.size + 1 < w1.heap.size := by have := hb1.size; simp at this; omega
        have hz0 : w.heap.size < w1.heap.size := by omega
        go_wp2_with fail
        refine (may_any d' a' c' _ ((hr'.below (by go_grown)).below hb1) hl').mono ?_
        rintro e w2 ⟨rfl, hb2⟩
        obtain ⟨hc2, hf2⟩ := bcell hb2
        go_wp2
        go_ret2
        exact ⟨ret_val HA.out.symm, ((Below.refl w.heap.size w).alloc (Nat.le_refl _) _).alloc (by simp) _ |>.trans (hb1.mono (by simp; omega)) |>.trans (hb2.mono (by omega))⟩
      · by_cases h4 : d'.k = 3
        · have HA := Lib.hid (show cmpAns d d' = .tuple #[.int .i64 0, .int .i64 10] by simp [cmpAns, h1, h2, h4])
          have hk4 : (d.k == 3) = false := by simpa using h3
          have hk5 : (d'.k == 3) = true := by simpa using h4
          have H1 := Lib.hid h4
          clear h4
          go_enter Tryd.func10, Tryd.ntmps10
          go_wp2_with fail
          refine (may_any d a c _ (hr.below (by go_grown)) hl).mono ?_
          rintro e w1 ⟨rfl, hb1⟩
          obtain ⟨hc1, hf1⟩ := bcell hb1
          simp only [World.size_alloc] at hc1 hf1
          have hz1 : w.heap.size + 1 < w1.heap.size := by have := hb1.size; simp at this; omega
          have hz0 : w.heap.size < w1.heap.size := by omega
          go_wp2_with fail
          refine (may_any d' a' c' _ ((hr'.below (by go_grown)).below hb1) hl').mono ?_
          rintro e w2 ⟨rfl, hb2⟩
          obtain ⟨hc2, hf2⟩ := bcell hb2
          go_wp2
          go_ret2
          exact ⟨ret_val HA.out.symm, ((Below.refl w.heap.size w).alloc (Nat.le_refl _) _).alloc (by simp) _ |>.trans (hb1.mono (by simp; omega)) |>.trans (hb2.mono (by omega))⟩
        · have HA := Lib.hid (show cmpAns d d' = .tuple #[.int .i64 (ordB d.k d.n d.s d'.k d'.n d'.s), .int .i64 0] by simp [cmpAns, h1, h2, h3, h4])
          have hk4 : (d.k == 3) = false := by simpa using h3
          have hk5 : (d'.k == 3) = false := by simpa using h4
          go_enter Tryd.func10, Tryd.ntmps10
          go_wp2_with fail
          refine (may_any d a c _ (hr.below (by go_grown)) hl).mono ?_
          rintro e w1 ⟨rfl, hb1⟩
          obtain ⟨hc1, hf1⟩ := bcell hb1
          simp only [World.size_alloc] at hc1 hf1
          have hz1 : w.heap.size + 1 < w1.heap.size := by have := hb1.size; simp at this; omega
          have hz0 : w.heap.size < w1.heap.size := by omega
          go_wp2_with fail
          refine (may_any d' a' c' _ ((hr'.below (by go_grown)).below hb1) hl').mono ?_
          rintro e w2 ⟨rfl, hb2⟩
          obtain ⟨hc2, hf2⟩ := bcell hb2
          go_wp2_with fail
          refine wp_region_still_tail 15 (by kernel_rfl) (by kernel_rfl) ?_
          simp only [List.take_succ_cons, List.take_zero, List.drop_succ_cons, List.drop_zero]
          iterate 4 still_step
          still_call (Tryd.cmp_Compare_int _ _ _)
          iterate 4 still_step
          still_call (Tryd.cmp_Compare_int _ _ _)
          iterate 4 still_step
          still_call (Tryd.strings_Compare _ _ _)
          refine wpStill_nil ?_
          go_wp2_with fail
          refine (cmpOr_any (Go.Lib.compareInt d.k d'.k) (Go.Lib.compareInt d.n d'.n) (Go.Lib.compareBytes d.s.data.toList d'.s.data.toList) _ _ (by go_simp) (by go_simp) (by go_simp)).mono ?_
          rintro e w3 ⟨rfl, hw3⟩
          subst hw3
          go_wp2
          go_ret2
          refine ⟨ret_val (Eq.trans (congrArg (fun z => Value.tuple #[.int .i64 z, .int .i64 0]) (ordB_eq _ _ _ _ _ _)) HA.out.symm), (((Below.refl w.heap.size w).alloc (Nat.le_refl _) _).alloc (by simp) _ |>.trans (hb1.mono (by simp; omega)) |>.trans (hb2.mono (by omega)) |>.alloc (by have := hb2.size; omega) _).drew⟩
    · have HA := Lib.hid (show cmpAns d d' = .tuple #[.int .i64 0, .int .i64 11] by simp [cmpAns, h2])
      go_enter Tryd.func10, Tryd.ntmps10
      go_wp2_with fail
      refine (may_any d a c _ (hr.below (by go_grown)) hl).mono ?_
      rintro e w1 ⟨rfl, hb1⟩
      obtain ⟨hc1, hf1⟩ := bcell hb1
      simp only [World.size_alloc] at hc1 hf1
      have hz1 : w.heap.size + 1 < w1.heap.size := by have := hb1.size; simp at this; omega
      have hz0 : w.heap.size < w1.heap.size := by omega
      go_wp2_with fail
      refine (may_any d' a' c' _ ((hr'.below (by go_grown)).below hb1) hl').mono ?_
      rintro e w2 ⟨rfl, hb2⟩
      obtain ⟨hc2, hf2⟩ := bcell hb2
      go_wp2
      go_ret2
      exact ⟨ret_val HA.out.symm, ((Below.refl w.heap.size w).alloc (Nat.le_refl _) _).alloc (by simp) _ |>.trans (hb1.mono (by simp; omega)) |>.trans (hb2.mono (by omega))⟩
  · have HA := Lib.hid (show cmpAns d d' = .tuple #[.int .i64 0, .int .i64 11] by simp [cmpAns, h1])
    go_enter Tryd.func10, Tryd.ntmps10
    go_wp2_with fail
    refine (may_any d a c _ (hr.below (by go_grown)) hl).mono ?_
    rintro e w1 ⟨rfl, hb1⟩
    go_wp2
    go_ret2
    exact ⟨ret_val HA.out.symm, ((Below.refl w.heap.size w).alloc (Nat.le_refl _) _).alloc (by simp) _ |>.trans (hb1.mono (by simp; omega))⟩

theorem bytesLess_iff (a b : List UInt8) : Op.bytesLess a b = decide (Go.Lib.compareBytes a b = -1) := by
  induction a generalizing b with
  | nil => cases b <;> simp [Op.bytesLess, Go.Lib.compareBytes]
  | cons x a ih =>
    cases b with
    | nil => simp [Op.bytesLess, Go.Lib.compareBytes]
    | cons y b =>
      simp only [Op.bytesLess, Go.Lib.compareBytes]
      by_cases h1 : x < y
      · simp [h1]
      · by_cases h2 : y < x
        · simp [h1, h2]; intro h; subst h; exact absurd h2 (by simp)
        · have h3 : x = y := by
            have a1 : ¬ x.toNat < y.toNat := h1
            have a2 : ¬ y.toNat < x.toNat := h2
            exact UInt8.toNat_inj.1 (by omega)
          subst h3
          simp [ih]

theorem compareBytes_zero (a b : List UInt8) : Go.Lib.compareBytes a b = 0 ↔ a = b := by
  induction a generalizing b with
  | nil => cases b <;> simp [Go.Lib.compareBytes]
  | cons x a ih =>
    cases b with
    | nil => simp [Go.Lib.compareBytes]
    | cons y b =>
      simp only [Go.Lib.compareBytes]
      by_cases h1 : x < y
      · simp [h1]; intro h; subst h; exact absurd h1 (by simp)
      · by_cases h2 : y < x
        · simp [h1, h2]; intro h; subst h; exact absurd h2 (by simp)
        · have h3 : x = y := by
            have a1 : ¬ x.toNat < y.toNat := h1
            have a2 : ¬ y.toNat < x.toNat := h2
            exact UInt8.toNat_inj.1 (by omega)
          subst h3
          simp [ih]

theorem compareBytes_three (a b : List UInt8) : Go.Lib.compareBytes a b = -1 ∨ Go.Lib.compareBytes a b = 0 ∨ Go.Lib.compareBytes a b = 1 := by
  induction a generalizing b with
  | nil => cases b <;> simp [Go.Lib.compareBytes]
  | cons x a ih =>
    cases b with
    | nil => simp [Go.Lib.compareBytes]
    | cons y b =>
      simp only [Go.Lib.compareBytes]
      by_cases h1 : x < y
      · simp [h1]
      · by_cases h2 : y < x
        · simp [h1, h2]
        · simp only [h1, h2, if_false]; exact ih b

set_option maxRecDepth 100000 in
set_option maxHeartbeats 1000000 in
theorem order_any (k n : Int) (s : ByteArray) (a : Option Addr) (l c : Nat) (k' n' : Int) (s' : ByteArray) (a' : Option Addr) (l' c' : Nat) (w : World) :
    Calls Tryd.prog 31 #[dv k n s a l c, dv k' n' s' a' l' c'] w fun e w' => e = .returned (.int .i64 (ordB k n s k' n' s')) ∧ Below w.heap.size w w' := by
  by_cases h1 : k = k'
  · subst h1
    by_cases h2 : n < n'
    · have H := Lib.hid (show ordB k n s k n' s' = -1 by simp [ordB, h2])
      go_enter Tryd.func31, Tryd.ntmps31
      go_wp2
      go_ret
      exact ⟨ret_int H.out.symm, by go_grown⟩
    · by_cases h3 : n = n'
      · subst h3
        have hc := compareBytes_three s.data.toList s'.data.toList
        have hl := bytesLess_iff s.data.toList s'.data.toList
        have hz := compareBytes_zero s.data.toList s'.data.toList
        rw [← Go.Lib.toList_data, ← Go.Lib.toList_data] at hl hz
        rcases hc with hc | hc | hc
        · have H := Lib.hid (show ordB k n s k n s' = -1 by simp [ordB, hc])
          have hl1 : Op.bytesLess s.toList s'.toList = true := by rw [hl]; simp [Go.Lib.toList_data, hc]
          clear hc hl hz
          go_enter Tryd.func31, Tryd.ntmps31
          go_wp2
          go_ret
          exact ⟨ret_int H.out.symm, by go_grown⟩
        · have H := Lib.hid (show ordB k n s k n s' = 0 by simp [ordB, hc])
          have hl1 : Op.bytesLess s.toList s'.toList = false := by rw [hl]; simp [Go.Lib.toList_data, hc]
          have hl2 : (s.toList == s'.toList) = true := by rw [beq_iff_eq]; exact hz.1 (by simpa [Go.Lib.toList_data] using hc)
          have hl3 := Lib.hid hl2
          have hl4 : s.toList = s'.toList := by simpa using hl2
          clear hc hl hz hl4
          go_enter Tryd.func31, Tryd.ntmps31
          go_wp2
          go_ret
          exact ⟨ret_int H.out.symm, by go_grown⟩
        · have H := Lib.hid (show ordB k n s k n s' = 1 by simp [ordB, hc])
          have hl1 : Op.bytesLess s.toList s'.toList = false := by rw [hl]; simp [Go.Lib.toList_data, hc]
          have hl2 : (s.toList == s'.toList) = false := by
            rw [beq_eq_false_iff_ne]
            intro e
            have := hz.2 e
            simp only [Go.Lib.toList_data] at this
            omega
          clear hc hl hz
          go_enter Tryd.func31, Tryd.ntmps31
          go_wp2
          go_ret
          exact ⟨ret_int H.out.symm, by go_grown⟩
      · have H := Lib.hid (show ordB k n s k n' s' = 1 by simp [ordB, h2]; omega)
        go_enter Tryd.func31, Tryd.ntmps31
        go_wp2
        go_ret
        exact ⟨ret_int H.out.symm, by go_grown⟩
  · by_cases h2 : k < k'
    · have H := Lib.hid (show ordB k n s k' n' s' = -1 by simp [ordB, h1, h2])
      go_enter Tryd.func31, Tryd.ntmps31
      go_wp2
      go_ret
      exact ⟨ret_int H.out.symm, by go_grown⟩
    · have H := Lib.hid (show ordB k n s k' n' s' = 1 by simp [ordB, h1, h2])
      go_enter Tryd.func31, Tryd.ntmps31
      go_wp2
      go_ret
      exact ⟨ret_int H.out.symm, by go_grown⟩

set_option maxRecDepth 100000 in
set_option maxHeartbeats 2000000 in
theorem rcompare_any (d d' : Da) (a : Option Addr) (c : Nat) (a' : Option Addr) (c' : Nat) (w : World) (hr : RowIs w a d.l) (hl : d.l.length ≤ 140737488351232) (hr' : RowIs w a' d'.l) (hl' : d'.l.length ≤ 140737488351232) (hs : d.s.size ≤ 140737488351232) (hs' : d'.s.size ≤ 140737488351232) :
    Calls Tryd.prog 11 #[dv d.k d.n d.s a d.l.length c, dv d'.k d'.n d'.s a' d'.l.length c'] w fun e w' =>
      e = .returned (cmpAns d d') ∧ Below w.heap.size w w' := by
  by_cases h1 : d.may = true
  · by_cases h2 : d'.may = true
    · by_cases h3 : d.k = 3
      · have HA := Lib.hid (show cmpAns d d' = .tuple #[.int .i64 0, .int .i64 10] by simp [cmpAns, h1, h2, h3])
        have hk4 : (d.k == 3) = true := by simpa using h3
        have H1 := Lib.hid h3
        clear h3
        go_enter Tryd.func11, Tryd.ntmps11
        go_wp2_with fail
        refine (rmay_any d a c _ (hr.below (by go_grown)) hs hl).mono ?_
        rintro e w1 ⟨rfl, hb1⟩
        obtain ⟨hc1, hf1⟩ := bcell hb1
        simp only [World.size_alloc] at hc1 hf1
        have hz1 : w.heap.size + 1 < w1.heap.size := by have := hb1.size; simp at this; omega
        have hz0 : w.heap.size < w1.heap.size := by omega
        go_wp2_with fail
        refine (rmay_any d' a' c' _ ((hr'.below (by go_grown)).below hb1) hs' hl').mono ?_
        rintro e w2 ⟨rfl, hb2⟩
        obtain ⟨hc2, hf2⟩ := bcell hb2
        go_wp2
        go_ret2
        exact ⟨ret_val HA.out.symm, ((Below.refl w.heap.size w).alloc (Nat.le_refl _) _).alloc (by simp) _ |>.trans (hb1.mono (by simp; omega)) |>.trans (hb2.mono (by omega))⟩
      · by_cases h4 : d'.k = 3
        · have HA := Lib.hid (show cmpAns d d' = .tuple #[.int .i64 0, .int .i64 10] by simp [cmpAns, h1, h2, h4])
          have hk4 : (d.k == 3) = false := by simpa using h3
          have hk5 : (d'.k == 3) = true := by simpa using h4
          have H1 := Lib.hid h4
          clear h4
          go_enter Tryd.func11, Tryd.ntmps11
          go_wp2_with fail
          refine (rmay_any d a c _ (hr.below (by go_grown)) hs hl).mono ?_
          rintro e w1 ⟨rfl, hb1⟩
          obtain ⟨hc1, hf1⟩ := bcell hb1
          simp only [World.size_alloc] at hc1 hf1
          have hz1 : w.heap.size + 1 < w1.heap.size := by have := hb1.size; simp at this; omega
          have hz0 : w.heap.size < w1.heap.size := by omega
          go_wp2_with fail
          refine (rmay_any d' a' c' _ ((hr'.below (by go_grown)).below hb1) hs' hl').mono ?_
          rintro e w2 ⟨rfl, hb2⟩
          obtain ⟨hc2, hf2⟩ := bcell hb2
          go_wp2
          go_ret2
          exact ⟨ret_val HA.out.symm, ((Below.refl w.heap.size w).alloc (Nat.le_refl _) _).alloc (by simp) _ |>.trans (hb1.mono (by simp; omega)) |>.trans (hb2.mono (by omega))⟩
        · have HA := Lib.hid (show cmpAns d d' = .tuple #[.int .i64 (ordB d.k d.n d.s d'.k d'.n d'.s), .int .i64 0] by simp [cmpAns, h1, h2, h3, h4])
          have hk4 : (d.k == 3) = false := by simpa using h3
          have hk5 : (d'.k == 3) = false := by simpa using h4
          go_enter Tryd.func11, Tryd.ntmps11
          go_wp2_with fail
          refine (rmay_any d a c _ (hr.below (by go_grown)) hs hl).mono ?_
          rintro e w1 ⟨rfl, hb1⟩
          obtain ⟨hc1, hf1⟩ := bcell hb1
          simp only [World.size_alloc] at hc1 hf1
          have hz1 : w.heap.size + 1 < w1.heap.size := by have := hb1.size; simp at this; omega
          have hz0 : w.heap.size < w1.heap.size := by omega
          go_wp2_with fail
          refine (rmay_any d' a' c' _ ((hr'.below (by go_grown)).below hb1) hs' hl').mono ?_
          rintro e w2 ⟨rfl, hb2⟩
          obtain ⟨hc2, hf2⟩ := bcell hb2
          go_wp2_with fail
          refine (order_any _ _ _ _ _ _ _ _ _ _ _ _ _).mono ?_
          rintro e w3 ⟨rfl, hb3⟩
          go_wp2
          go_ret2
          exact ⟨ret_val HA.out.symm, ((Below.refl w.heap.size w).alloc (Nat.le_refl _) _).alloc (by simp) _ |>.trans (hb1.mono (by simp; omega)) |>.trans (hb2.mono (by omega)) |>.trans (hb3.mono (by have := hb2.size; omega))⟩
    · have HA := Lib.hid (show cmpAns d d' = .tuple #[.int .i64 0, .int .i64 11] by simp [cmpAns, h2])
      go_enter Tryd.func11, Tryd.ntmps11
      go_wp2_with fail
      refine (rmay_any d a c _ (hr.below (by go_grown)) hs hl).mono ?_
      rintro e w1 ⟨rfl, hb1⟩
      obtain ⟨hc1, hf1⟩ := bcell hb1
      simp only [World.size_alloc] at hc1 hf1
      have hz1 : w.heap.size + 1 < w1.heap.size := by have := hb1.size; simp at this; omega
      have hz0 : w.heap.size < w1.heap.size := by omega
      go_wp2_with fail
      refine (rmay_any d' a' c' _ ((hr'.below (by go_grown)).below hb1) hs' hl').mono ?_
      rintro e w2 ⟨rfl, hb2⟩
      obtain ⟨hc2, hf2⟩ := bcell hb2
      go_wp2
      go_ret2
      exact ⟨ret_val HA.out.symm, ((Below.refl w.heap.size w).alloc (Nat.le_refl _) _).alloc (by simp) _ |>.trans (hb1.mono (by simp; omega)) |>.trans (hb2.mono (by omega))⟩
  · have HA := Lib.hid (show cmpAns d d' = .tuple #[.int .i64 0, .int .i64 11] by simp [cmpAns, h1])
    go_enter Tryd.func11, Tryd.ntmps11
    go_wp2_with fail
    refine (rmay_any d a c _ (hr.below (by go_grown)) hs hl).mono ?_
    rintro e w1 ⟨rfl, hb1⟩
    go_wp2
    go_ret2
    exact ⟨ret_val HA.out.symm, ((Below.refl w.heap.size w).alloc (Nat.le_refl _) _).alloc (by simp) _ |>.trans (hb1.mono (by simp; omega))⟩
end Go.Proofs.YtekcoddjdjllhaaDoor
