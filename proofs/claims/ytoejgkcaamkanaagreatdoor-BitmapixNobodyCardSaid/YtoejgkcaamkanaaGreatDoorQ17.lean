/- The law's walk: BitmapixNobody. -/
import Derived.Test.YtoejgkcaamkanaaGreatDoorQ16
import Derived.BigQuiet
import Derived.BigRegion
import Derived.Deep.RegionHeld3
import Derived.Deep.RegionLaw
set_option linter.unusedVariables false
set_option linter.unusedSimpArgs false
namespace Go.Proofs.YtoejgkcaamkanaaGreatDoor
open Go.RowKit

theorem rootOut {w : World} {ba bs bp bg : Nat} (h : w.heap[ba]? = some (actO bs bp bg false)) (m : Int) (hm : m < 0 ∨ 16 ≤ m) :
    Calls Tryz.prog 52 #[.pointer (some ⟨ba, 0, none⟩), .int .i64 m] w fun e w' => e = .returned (.tuple #[.int .i64 0, .int .i64 1]) ∧ Below w.heap.size w w' := by
  have H := Lib.hid (going_any h)
  clear h
  go_enter Tryz.func52, Tryz.ntmps52
  go_wp2_with fail
  refine H.out.mono ?_
  rintro e w1 ⟨rfl, hb⟩
  have HB := Lib.hid hb
  clear hb
  rcases hm with hm | hm
  · go_wp2
    go_ret2
    exact ⟨rfl, HB.out⟩
  · have h0 : ¬ m < 0 := by omega
    go_wp2
    go_ret2
    exact ⟨rfl, HB.out⟩
theorem treeOut {w : World} {ba bs bp bg : Nat} (h : w.heap[ba]? = some (actO bs bp bg false)) (m : Int) (hm : m < 0 ∨ 16 ≤ m) :
    Calls Tryz.prog 36 #[.pointer (some ⟨ba, 0, none⟩), .int .i64 m] w fun e w' => e = .returned (.tuple #[.pointer none, .int .i64 1]) ∧ Below w.heap.size w w' := by
  have H := Lib.hid (rootOut h m hm)
  clear h hm
  go_enter Tryz.func36, Tryz.ntmps36
  go_wp2_with fail
  refine H.out.mono ?_
  rintro e w1 ⟨rfl, hb⟩
  have HB := Lib.hid hb
  clear hb
  go_wp2
  go_ret2
  exact ⟨rfl, HB.out⟩
theorem bmNewOut {w : World} {ba bs bp bg : Nat} (h : w.heap[ba]? = some (actO bs bp bg false)) (m : Int) (hm : m < 0 ∨ 16 ≤ m) :
    Calls Tryz.prog 9 #[.pointer (some ⟨ba, 0, none⟩), .int .i64 m] w fun e w' => e = .returned (.tuple #[.pointer none, .int .i64 1]) ∧ Below w.heap.size w w' := by
  have H := Lib.hid (treeOut h m hm)
  clear h hm
  go_enter Tryz.func9, Tryz.ntmps9
  go_wp2_with fail
  refine H.out.mono ?_
  rintro e w1 ⟨rfl, hb⟩
  have HB := Lib.hid hb
  clear hb
  go_wp2
  go_ret2
  exact ⟨rfl, HB.out⟩
/-- What New answers, for any number. -/
theorem bmNewAny {bs : Nat} {B : Base bs} {w : World} {ba : Nat} {F : Nat → Prop} {R : Raw} (hA : ActIs B w ba F R) (hc : Cov B R) (m : Int) :
    Calls Tryz.prog 9 #[.pointer (some ⟨ba, 0, none⟩), .int .i64 m] w fun e w' => ∃ p : Option Addr, e = .returned (.tuple #[.pointer p, .int .i64 (if 0 ≤ m ∧ m < 16 then 0 else 1)]) ∧ (p.isSome = decide (0 ≤ m ∧ m < 16)) ∧ Off F w w' := by
  by_cases hm : 0 ≤ m ∧ m < 16
  · rw [if_pos hm, decide_eq_true hm]
    obtain ⟨k, rfl⟩ : ∃ k : Nat, m = k := ⟨m.toNat, by omega⟩
    refine (bmNew hA hc k (by omega)).mono ?_
    rintro e w1 ⟨mb, tb, F', rfl, _, _, _, _, ho⟩
    exact ⟨_, rfl, rfl, ho⟩
  · rw [if_neg hm, decide_eq_false hm]
    obtain ⟨_, bp, bg, Fb, blk, cap, hat, _⟩ := hA
    refine (bmNewOut hat.a m (by omega)).mono ?_
    rintro e w1 ⟨rfl, hb⟩
    exact ⟨none, rfl, rfl, Off.of_below hb⟩

abbrev nobmsO (g : Nat) : Obj := .cells #[.pointer none, .pointer (some ⟨g, 0, none⟩)] 27
def nobm (g k : Nat) : Value := if k = 0 then .pointer none else .pointer (some ⟨g, 0, none⟩)
/-- While the law goes. -/
structure NB (w wr : World) (bx lb g : Nat) (eo : Obj) : Prop where
  box : wr.heap[bx]? = some eo
  row : wr.heap[lb]? = some (nobmsO g)
  bm : wr.heap[g]? = some noBmO
  bel : Below w.heap.size w wr
section
variable {w wr w' : World} {bx lb g : Nat} {eo : Obj}
theorem NB.below (h : NB w wr bx lb g eo) (hb : Below wr.heap.size wr w') : NB w w' bx lb g eo :=
  ⟨(hb.block bx (Array.getElem?_eq_some_iff.1 h.box).1).trans h.box, (hb.block lb (Array.getElem?_eq_some_iff.1 h.row).1).trans h.row, (hb.block g (Array.getElem?_eq_some_iff.1 h.bm).1).trans h.bm, h.bel.trans (hb.mono h.bel.size)⟩
theorem NB.at_ (h : NB w wr bx lb g eo) (k : Nat) (hk : k < 2) : wr.cell? ⟨lb, k, none⟩ = some (nobm g k) ∧ NoBm wr (nobm g k) := by
  have hr := h.row
  match k, hk with
  | 0, _ => exact ⟨by unfold World.cell?; rw [hr]; rfl, .inl rfl⟩
  | 1, _ => exact ⟨by unfold World.cell?; rw [hr]; rfl, .inr ⟨g, rfl, h.bm⟩⟩
end

set_option maxRecDepth 100000 in
set_option maxHeartbeats 8000000 in
theorem bmNobody_walk (k n : Int) (s : ByteArray) (a : Option Addr) (l c : Nat) (t m : Int) (w : World) (hG : GlobsM w) (h8 : 1 ≤ w.heap.size) :
    Calls Tryz.prog 6 #[env k n s a l c t, .int .i64 m] w fun e w' => e = .returned (.bool true) ∧ Below w.heap.size w w' := by
  have hb0 : Below w.heap.size w (w.alloc (enO k n s a l c t)) := by go_grown
  have hx0 := hnew w (enO k n s a l c t)
  have HB := Lib.hid (begun_any (w.alloc (enO k n s a l c t)))
  have H := Lib.hid (And.intro hG (And.intro h8 (And.intro hb0 hx0)))
  clear hG h8 hb0 hx0
  go_enter Tryz.func6, Tryz.ntmps6
  go_wp2_with fail
  refine HB.out.mono ?_
  rintro e w1 ⟨bd, bs, ba, F, rfl, hA, hF, hb1⟩
  have HN := Lib.hid (bmNewAny hA (cov0 bs) m)
  have H1 := Lib.hid (And.intro hF hb1)
  clear hA hF hb1 HB
  go_wp2_with fail
  refine HN.out.mono ?_
  rintro e w2 ⟨p, rfl, hp, ho2⟩
  have hb2 : Below w.heap.size w w2 := by
    have h1 := (H.out.2.2.1.trans (H1.out.2.mono (by simp)))
    exact h1.trans (ho2.below (fun j hj => by have := H1.out.1 j hj; simp at this; omega) h1.size)
  have hx2 : w2.heap[w.heap.size]? = some (enO k n s a l c t) := by
    have h1 := (H1.out.2.block w.heap.size (by simp)).trans H.out.2.2.2
    exact (ho2.block w.heap.size (Array.getElem?_eq_some_iff.1 h1).1 (fun e => by have := H1.out.1 _ e; simp at this; omega)).trans h1
  have H2 := Lib.hid (And.intro hb2 hx2)
  clear hb2 hx2 ho2 HN
  have hways : (0 ≤ m ∧ m < 16 ∧ (∃ x, p = some x) ∧ (if 0 ≤ m ∧ m < 16 then (0 : Int) else 1) = 0) ∨ (m < 0 ∧ p = none ∧ (if 0 ≤ m ∧ m < 16 then (0 : Int) else 1) = 1) ∨ (0 ≤ m ∧ 16 ≤ m ∧ p = none ∧ (if 0 ≤ m ∧ m < 16 then (0 : Int) else 1) = 1) := by
    by_cases hm : 0 ≤ m ∧ m < 16
    · rw [decide_eq_true hm] at hp
      exact .inl ⟨hm.1, hm.2, Option.isSome_iff_exists.1 hp, if_pos hm⟩
    · rw [decide_eq_false hm] at hp
      have hn : p = none := by simpa using hp
      by_cases h0 : m < 0
      · exact .inr (.inl ⟨h0, hn, if_neg hm⟩)
      · exact .inr (.inr ⟨by omega, by omega, hn, if_neg hm⟩)
  obtain ⟨er, her⟩ : ∃ er, (if 0 ≤ m ∧ m < 16 then (0 : Int) else 1) = er := ⟨_, rfl⟩
  rw [her] at hways
  rw [her]
  clear her hp
  have H0 := Lib.hid (show NB w ((w2.alloc noBmO).alloc (nobmsO w2.heap.size)) w.heap.size (w2.heap.size + 1) w2.heap.size (enO k n s a l c t) from by
    have hb4 : Below w2.heap.size w2 ((w2.alloc noBmO).alloc (nobmsO w2.heap.size)) := by go_grown
    refine ⟨(hb4.block w.heap.size (Array.getElem?_eq_some_iff.1 H2.out.2).1).trans H2.out.2, ?_, (Below.heap_alloc _ _ _ (by simp)).trans (hnew w2 _), H2.out.1.trans (hb4.mono H2.out.1.size)⟩
    have := hnew (w2.alloc noBmO) (nobmsO w2.heap.size)
    have e1 : (w2.alloc noBmO).heap.size = w2.heap.size + 1 := by simp
    rw [e1] at this
    exact this)
  have HCo := Lib.hid (fun (W : World) (v : Value) (h : NoBm W v) => noBmCounts h)
  have HNb := Lib.hid (fun (W : World) (v : Value) (h : NoBm W v) => noBmNobody h k n s a l c t)
  have HAw := Lib.hid (fun (W : World) (hb : Below w.heap.size w W) => awake12 W (H.out.1.below hb) (Nat.le_trans H.out.2.1 hb.size))
  rcases hways with ⟨m0, m1, ⟨x, rfl⟩, rfl⟩ | ⟨m0, rfl, rfl⟩ | ⟨m0, m1, rfl, rfl⟩
  all_goals
    go_wp2
    go_loopw [12] (fun i wr => ∃ q : Nat, q ≤ 2 ∧ i = .int .i64 q ∧ NB w wr w.heap.size (w2.heap.size + 1) w2.heap.size (enO k n s a l c t)) (fun i _ => 2 - (intOf i).toNat)
    case atStart => exact ⟨0, by omega, rfl, H0.out⟩
    case round =>
      obtain ⟨q, hq, rfl, hnw⟩ := hrel
      clear H0 H H1 H2
      by_cases hlt : q < 2
      · have hq2 : (q : Int) < 2 := by omega
        have HF := Lib.hid (fun (W : World) (h : NB w W w.heap.size (w2.heap.size + 1) w2.heap.size (enO k n s a l c t)) => And.intro (h.at_ q hlt).1 (en5 h.box))
        have HNo := Lib.hid (fun (W : World) (h : NB w W w.heap.size (w2.heap.size + 1) w2.heap.size (enO k n s a l c t)) => (h.at_ q hlt).2)
        have hc0 := (hnw.at_ q hlt).1
        have HW := Lib.hid hnw
        clear hnw
        obtain ⟨lb, hlb⟩ : ∃ lb, w2.heap.size + 1 = lb := ⟨_, rfl⟩
        obtain ⟨g, hg⟩ : ∃ g, w2.heap.size = g := ⟨_, rfl⟩
        rw [hlb, hg] at HF HNo HW
        rw [hlb] at hc0 ⊢
        rw [hg] at hc0 ⊢
        clear hlb hg
        obtain ⟨v, hv⟩ : ∃ v, nobm g q = v := ⟨_, rfl⟩
        rw [hv] at HF HNo hc0
        clear hv
        go_wp2_with fail
        refine (HCo.out _ _ (HNo.out _ HW.out)).mono ?_
        rintro e w4 ⟨rfl, hb4⟩
        have h4 := HW.out.below hb4
        have h4d := h4.below ((Below.refl w4.heap.size w4).drew)
        have hS4 := HF.out _ h4
        have hS4d := HF.out _ h4d
        have H4 := Lib.hid h4d
        clear hb4 h4 h4d hc0
        obtain ⟨y0, y1, y2, y3, y4, y5⟩ := hS4
        go_wp2
        refine wp_region_noPanic ?_
        refine wp_region_held_drew (S := (fun w' => w'.cell? ⟨lb, q, none⟩ = some v ∧ w'.cell? ⟨w.heap.size, 0, none⟩ = some (.int .i64 k) ∧ w'.cell? ⟨w.heap.size, 1, none⟩ = some (.int .i64 n) ∧ w'.cell? ⟨w.heap.size, 2, none⟩ = some (.string s) ∧ w'.cell? ⟨w.heap.size, 3, none⟩ = some (.slice a l c) ∧ w'.cell? ⟨w.heap.size, 4, none⟩ = some (.int .i64 t))) (by kernel_rfl) hS4d (fun hS => ?_)
        refine wpAnyH_take (i := 0) (v := ?_) rfl (by kernel_rfl) (by kernel_rfl) (by kernel_rfl) (fun _ _ _ h => h) (Or.inl ⟨by rfl, ?_⟩) hS ?_
        rotate_left
        · rintro w9 ⟨t0, t1, t2, t3, t4, t5⟩
          go_simp
          try with_reducible rfl
        try simp only [Act.put, List.getElem_toArray, List.getElem_cons_succ, List.getElem_cons_zero, List.setIfInBounds_toArray, List.set_cons_zero, List.set_cons_succ]
        refine wpAnyH_take (i := 1) (v := ?_) rfl (by kernel_rfl) (by kernel_rfl) (by kernel_rfl) (fun _ _ _ h => h) (Or.inl ⟨by rfl, ?_⟩) hS ?_
        rotate_left
        · rintro w9 ⟨t0, t1, t2, t3, t4, t5⟩
          go_simp
          try with_reducible rfl
        try simp only [Act.put, List.getElem_toArray, List.getElem_cons_succ, List.getElem_cons_zero, List.setIfInBounds_toArray, List.set_cons_zero, List.set_cons_succ]
        refine wpAnyH_take (i := 2) (v := ?_) rfl (by kernel_rfl) (by kernel_rfl) (by kernel_rfl) (fun _ _ _ h => h) (Or.inl ⟨by rfl, ?_⟩) hS ?_
        rotate_left
        · rintro w9 ⟨t0, t1, t2, t3, t4, t5⟩
          go_simp
          try with_reducible rfl
        try simp only [Act.put, List.getElem_toArray, List.getElem_cons_succ, List.getElem_cons_zero, List.setIfInBounds_toArray, List.set_cons_zero, List.set_cons_succ]
        refine wpAnyH_take (i := 3) (v := ?_) rfl (by kernel_rfl) (by kernel_rfl) (by kernel_rfl) (fun _ _ _ h => h) (Or.inl ⟨by rfl, ?_⟩) hS ?_
        rotate_left
        · rintro w9 ⟨t0, t1, t2, t3, t4, t5⟩
          go_simp
          try with_reducible rfl
        try simp only [Act.put, List.getElem_toArray, List.getElem_cons_succ, List.getElem_cons_zero, List.setIfInBounds_toArray, List.set_cons_zero, List.set_cons_succ]
        refine wpAnyH_take (i := 4) (v := ?_) rfl (by kernel_rfl) (by kernel_rfl) (by kernel_rfl) (fun _ _ _ h => h) (Or.inl ⟨by rfl, ?_⟩) hS ?_
        rotate_left
        · rintro w9 ⟨t0, t1, t2, t3, t4, t5⟩
          go_simp
          try with_reducible rfl
        try simp only [Act.put, List.getElem_toArray, List.getElem_cons_succ, List.getElem_cons_zero, List.setIfInBounds_toArray, List.set_cons_zero, List.set_cons_succ]
        refine wpAnyH_take (i := 5) (v := ?_) rfl (by kernel_rfl) (by kernel_rfl) (by kernel_rfl) (fun _ _ _ h => h) (Or.inl ⟨by rfl, ?_⟩) hS ?_
        rotate_left
        · rintro w9 ⟨t0, t1, t2, t3, t4, t5⟩
          go_simp
          try with_reducible rfl
        try simp only [Act.put, List.getElem_toArray, List.getElem_cons_succ, List.getElem_cons_zero, List.setIfInBounds_toArray, List.set_cons_zero, List.set_cons_succ]
        refine wpAnyH_ready (rs := [6]) (by kernel_rfl) (by simp) ?_
        refine AllReadyH.cons rfl (fun K hK => ?_) AllReadyH.nil
        go_simp
        refine (HNb.out _ _ (HNo.out _ H4.out)).mono ?_
        rintro e w5 ⟨rfl, hb5⟩
        have h5 := H4.out.below hb5
        have hS5 := HF.out _ h5
        have H5 := Lib.hid h5
        clear hb5 h5
        refine hK.out _ _ hS5 (fun _ => ?_)
        clear hK K
        try simp only [Act.put, List.getElem_toArray, List.getElem_cons_succ, List.getElem_cons_zero, List.setIfInBounds_toArray, List.set_cons_zero, List.set_cons_succ]
        refine wpAnyH_take (i := 7) (v := ?_) rfl (by kernel_rfl) (by kernel_rfl) (by kernel_rfl) (fun _ _ _ h => h) (Or.inl ⟨by rfl, ?_⟩) hS5 ?_
        rotate_left
        · rintro w9 ⟨t0, t1, t2, t3, t4, t5⟩
          go_simp
          try with_reducible rfl
        try simp only [Act.put, List.getElem_toArray, List.getElem_cons_succ, List.getElem_cons_zero, List.setIfInBounds_toArray, List.set_cons_zero, List.set_cons_succ]
        refine wpAnyH_take (i := 8) (v := ?_) rfl (by kernel_rfl) (by kernel_rfl) (by kernel_rfl) (fun _ _ _ h => h) (Or.inl ⟨by rfl, ?_⟩) hS5 ?_
        rotate_left
        · rintro w9 ⟨t0, t1, t2, t3, t4, t5⟩
          go_simp
          try with_reducible rfl
        try simp only [Act.put, List.getElem_toArray, List.getElem_cons_succ, List.getElem_cons_zero, List.setIfInBounds_toArray, List.set_cons_zero, List.set_cons_succ]
        refine wpAnyH_take (i := 9) (v := ?_) rfl (by kernel_rfl) (by kernel_rfl) (by kernel_rfl) (fun _ _ _ h => h) (Or.inl ⟨by rfl, ?_⟩) hS5 ?_
        rotate_left
        · rintro w9 ⟨t0, t1, t2, t3, t4, t5⟩
          go_simp
          try with_reducible rfl
        try simp only [Act.put, List.getElem_toArray, List.getElem_cons_succ, List.getElem_cons_zero, List.setIfInBounds_toArray, List.set_cons_zero, List.set_cons_succ]
        refine wpAnyH_take (i := 10) (v := ?_) rfl (by kernel_rfl) (by kernel_rfl) (by kernel_rfl) (fun _ _ _ h => h) (Or.inl ⟨by rfl, ?_⟩) hS5 ?_
        rotate_left
        · rintro w9 ⟨t0, t1, t2, t3, t4, t5⟩
          go_simp
          try with_reducible rfl
        try simp only [Act.put, List.getElem_toArray, List.getElem_cons_succ, List.getElem_cons_zero, List.setIfInBounds_toArray, List.set_cons_zero, List.set_cons_succ]
        refine wpAnyH_take (i := 11) (v := ?_) rfl (by kernel_rfl) (by kernel_rfl) (by kernel_rfl) (fun _ _ _ h => h) (Or.inl ⟨by rfl, ?_⟩) hS5 ?_
        rotate_left
        · rintro w9 ⟨t0, t1, t2, t3, t4, t5⟩
          go_simp
          try with_reducible rfl
        try simp only [Act.put, List.getElem_toArray, List.getElem_cons_succ, List.getElem_cons_zero, List.setIfInBounds_toArray, List.set_cons_zero, List.set_cons_succ]
        refine wpAnyH_take (i := 12) (v := ?_) rfl (by kernel_rfl) (by kernel_rfl) (by kernel_rfl) (fun _ _ _ h => h) (Or.inl ⟨by rfl, ?_⟩) hS5 ?_
        rotate_left
        · rintro w9 ⟨t0, t1, t2, t3, t4, t5⟩
          go_simp
          try with_reducible rfl
        try simp only [Act.put, List.getElem_toArray, List.getElem_cons_succ, List.getElem_cons_zero, List.setIfInBounds_toArray, List.set_cons_zero, List.set_cons_succ]
        refine wpAnyH_take (i := 13) (v := ?_) rfl (by kernel_rfl) (by kernel_rfl) (by kernel_rfl) (fun _ _ _ h => h) (Or.inl ⟨by rfl, ?_⟩) hS5 ?_
        rotate_left
        · rintro w9 ⟨t0, t1, t2, t3, t4, t5⟩
          go_simp
          try with_reducible rfl
        try simp only [Act.put, List.getElem_toArray, List.getElem_cons_succ, List.getElem_cons_zero, List.setIfInBounds_toArray, List.set_cons_zero, List.set_cons_succ]
        refine wpAnyH_take (i := 14) (v := ?_) rfl (by kernel_rfl) (by kernel_rfl) (by kernel_rfl) (fun _ _ _ h => h) (Or.inl ⟨by rfl, ?_⟩) hS5 ?_
        rotate_left
        · rintro w9 ⟨t0, t1, t2, t3, t4, t5⟩
          go_simp
          try with_reducible rfl
        try simp only [Act.put, List.getElem_toArray, List.getElem_cons_succ, List.getElem_cons_zero, List.setIfInBounds_toArray, List.set_cons_zero, List.set_cons_succ]
        refine wpAnyH_take (i := 15) (v := ?_) rfl (by kernel_rfl) (by kernel_rfl) (by kernel_rfl) (fun _ _ _ h => h) (Or.inl ⟨by rfl, ?_⟩) hS5 ?_
        rotate_left
        · rintro w9 ⟨t0, t1, t2, t3, t4, t5⟩
          go_simp
          try with_reducible rfl
        try simp only [Act.put, List.getElem_toArray, List.getElem_cons_succ, List.getElem_cons_zero, List.setIfInBounds_toArray, List.set_cons_zero, List.set_cons_succ]
        refine wpAnyH_done (by kernel_rfl) ?_ _
        refine NoPanic.normal ?_
        go_wp2
        go_roundw
        case rel => exact ⟨q + 1, by omega, by go_num, H5.out⟩
        case measure => simp [intOf]; omega
      · have hq2 : q = 2 := by omega
        subst hq2
        have HW := Lib.hid hnw
        clear hnw
        go_wp2_with fail
        refine (HAw.out _ HW.out.bel).mono ?_
        rintro e w4 ⟨rfl, hb4⟩
        have HB4 := Lib.hid hb4
        clear hb4
        go_wp2
        go_ret
        exact ⟨rfl, HW.out.bel.trans (HB4.out.mono HW.out.bel.size)⟩
end Go.Proofs.YtoejgkcaamkanaaGreatDoor
