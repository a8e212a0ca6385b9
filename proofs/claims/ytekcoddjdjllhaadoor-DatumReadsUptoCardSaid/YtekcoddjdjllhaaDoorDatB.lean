/- datum.may, Check; the order. -/
import Derived.Test.YtekcoddjdjllhaaDoorDatA
import Derived.Test.YtekcoddjdjllhaaDoorShelf
namespace Go.Proofs.YtekcoddjdjllhaaDoor
open Go.RowKit

/-- A predicate on items, as a closure: in every later world it answers 'p'. -/
def PredIt (f : Nat) (lb : Array Value) (p : It → Bool) (w : World) : Prop :=
  ∀ (W : World) (x : It) (a : Option Addr) (c : Nat), Below w.heap.size w W → w.heap.size ≤ W.heap.size → Calls Tryd.prog f (#[dv x.k x.n x.s a x.ln c] ++ lb) W fun e w' => e = .returned (.bool (p x)) ∧ Below W.heap.size W w'

theorem any_take_succ {α : Type} (l : List α) (p : α → Bool) (k : Nat) (h : k < l.length) : (l.take (k + 1)).any p = ((l.take k).any p || p l[k]) := by
  rw [List.take_succ_eq_append_getElem h, List.any_append]; simp

theorem any_true_of {α : Type} (l : List α) (p : α → Bool) (k : Nat) (h : k < l.length) (hp : p l[k] = true) : l.any p = true := by
  rw [List.any_eq_true]; exact ⟨_, List.getElem_mem h, hp⟩

def idxOr (b : Bool) (e : Ending) : Prop := if b = true then ∃ n : Int, 0 ≤ n ∧ e = .returned (.int .i64 n) else e = .returned (.int .i64 (-1))

set_option maxHeartbeats 1000000 in
theorem indexFunc_it (f : Nat) (lb : Array Value) (p : It → Bool) (l : List It) (a : Option Addr) (c : Nat) (w : World) (hr : RowIs w a l) (hl : l.length ≤ 140737488351232)
    (hp : PredIt f lb p w) (eg : ∀ args w, (callFunc f args).run Tryd.prog w = .ok (.enter f args) w) :
    Calls Tryd.prog 59 #[.slice a l.length c, .func (.func f) #[] lb] w fun e w' => idxOr (l.any p) e ∧ Below w.heap.size w w' := by
  go_enter Tryd.func59, Tryd.ntmps59
  go_wp2
  go_loopw [5, 8] (fun _ i wr => ∃ j : Nat, j ≤ l.length ∧ i = .int .i64 j ∧ (l.take j).any p = false ∧ Below w.heap.size w wr) (fun _ i _ => l.length - (intOf i).toNat)
  case atStart => exact ⟨0, Nat.zero_le _, rfl, rfl, Below.refl _ _⟩
  case round =>
    obtain ⟨j, hj, rfl, hall, hb⟩ := hrel
    have HA := Lib.hid hall
    clear hall
    by_cases hlt : j < l.length
    · obtain ⟨b, off, a', c', rfl, g0, g1, g2, g3, _⟩ := (hr.below hb).at_ j hlt
      have HP := Lib.hid hp
      clear hp
      go_wp2_with (go_at_fn f; refine (HP.out wr l[j] a' c' hb hb.size).mono ?_; rintro e w' ⟨rfl, hb'⟩)
      all_goals first
        | (go_roundw
           case rel => exact ⟨j + 1, by omega, by go_num, by rw [any_take_succ _ _ _ hlt, HA.out, show p l[j] = false by assumption]; rfl, hb.trans (hb'.mono hb.size)⟩
           case measure => simp [intOf]; omega)
        | (go_ret
           refine ⟨?_, hb.trans (hb'.mono hb.size)⟩
           rw [any_true_of l p j hlt (by assumption)]
           exact ⟨j, by omega, rfl⟩)
    · go_wp2
      go_ret
      refine ⟨?_, hb⟩
      have : l.any p = false := by rw [← HA.out, List.take_of_length_le (by omega)]
      rw [this]; rfl

theorem not_any_not {α : Type} (l : List α) (p : α → Bool) : (!l.any fun x => !p x) = l.all p := by
  induction l with
  | nil => rfl
  | cons x l ih => simp only [List.any_cons, List.all_cons, Bool.not_or, Bool.not_not, ih]

theorem containsFunc_it (f : Nat) (lb : Array Value) (p : It → Bool) (l : List It) (a : Option Addr) (c : Nat) (w : World) (hr : RowIs w a l) (hl : l.length ≤ 140737488351232)
    (hp : PredIt f lb p w) (eg : ∀ args w, (callFunc f args).run Tryd.prog w = .ok (.enter f args) w) :
    Calls Tryd.prog 41 #[.slice a l.length c, .func (.func f) #[] lb] w fun e w' => e = .returned (.bool (l.any p)) ∧ Below w.heap.size w w' := by
  have HP := Lib.hid hp
  clear hp
  cases hq : l.any p with
  | true =>
    go_enter Tryd.func41, Tryd.ntmps41
    go_wp2_with fail
    refine (indexFunc_it f lb p l a c _ hr hl HP.out eg).mono ?_
    rintro e w' ⟨he, hb⟩
    rw [hq] at he
    obtain ⟨n, hn, rfl⟩ := he
    go_wp2
    go_ret
    exact ⟨ret_bool (by simp), hb⟩
  | false =>
    go_enter Tryd.func41, Tryd.ntmps41
    go_wp2_with fail
    refine (indexFunc_it f lb p l a c _ hr hl HP.out eg).mono ?_
    rintro e w' ⟨he, hb⟩
    rw [hq] at he
    obtain rfl : e = .returned (.int .i64 (-1)) := he
    go_wp2
    go_ret
    exact ⟨rfl, hb⟩

/-- may(x, 0): no list. -/
theorem may0_any (k n : Int) (s : ByteArray) (a : Option Addr) (l c : Nat) (w : World) :
    Calls Tryd.prog 26 #[dv k n s a l c, .int .i64 0] w fun e w' => e = .returned (.bool (simpleB k n s l)) ∧ Below w.heap.size w w' := by
  by_cases h1 : k = 1
  · subst h1
    by_cases h2 : s.toList = []
    all_goals
      go_enter Tryd.func26, Tryd.ntmps26
      go_wp2
      all_goals (go_ret; refine ⟨ret_bool ?_, by go_grown⟩; go_light; (by_cases hl0 : l = 0 <;> simp_all [simpleB]); try omega)
  · by_cases h2 : k = 2
    · subst h2
      by_cases h3 : n = 0
      all_goals
        go_enter Tryd.func26, Tryd.ntmps26
        go_wp2
        all_goals (go_ret; refine ⟨ret_bool ?_, by go_grown⟩; go_light; (by_cases hl0 : l = 0 <;> simp_all [simpleB]); try omega)
    · have HS := Lib.hid (show false = simpleB k n s l by simp [simpleB, h1, h2])
      by_cases h3 : k = 3
      · subst h3
        go_enter Tryd.func26, Tryd.ntmps26
        go_wp2
        go_ret
        exact ⟨ret_bool HS.out, by go_grown⟩
      · go_enter Tryd.func26, Tryd.ntmps26
        go_wp2
        go_ret
        exact ⟨ret_bool HS.out, by go_grown⟩

set_option maxHeartbeats 1000000 in
/-- The closure in may: not may(x, deep - 1), at deep = 1. -/
theorem mayC_any (k n : Int) (s : ByteArray) (a : Option Addr) (l c : Nat) (w : World) (b : Nat) (hc : w.cell? ⟨b, 0, none⟩ = some (.int .i64 1)) :
    Calls Tryd.prog 42 #[dv k n s a l c, .pointer (some ⟨b, 0, none⟩)] w fun e w' => e = .returned (.bool (!simpleB k n s l)) ∧ Below w.heap.size w w' := by
  have hb : b < w.heap.size := World.block_lt_of_cell? w _ hc
  go_enter Tryd.func42, Tryd.ntmps42
  go_wp2_with (go_at_call 26; refine (may0_any _ _ _ _ _ _ _).mono ?_; rintro e w' ⟨rfl, hb'⟩)
  go_ret
  exact ⟨rfl, ((Below.refl _ _).alloc (Nat.le_refl _) _).trans (hb'.mono (by simp))⟩

set_option maxHeartbeats 1000000 in
/-- may(d, 1). -/
theorem may_any (d : Da) (a : Option Addr) (c : Nat) (w : World) (hr : RowIs w a d.l) (hl : d.l.length ≤ 140737488351232) :
    Calls Tryd.prog 26 #[dv d.k d.n d.s a d.l.length c, .int .i64 1] w fun e w' => e = .returned (.bool d.may) ∧ Below w.heap.size w w' := by
  obtain ⟨k, n, s, l⟩ := d
  simp only at *
  by_cases h3 : k = 3
  · subst h3
    by_cases hn : n = 0
    · subst hn
      by_cases he : s.toList = []
      · obtain rfl := isEmpty_of he
        by_cases h8 : l.length ≤ 8
        · have h8' : decide ((l.length : Int) ≤ (8 : Int)) = true := by simp; omega
          have HM := Lib.hid (may_list h8 _ he)
          have HE := Lib.hid he
          clear he
          go_enter Tryd.func26, Tryd.ntmps26
          go_wp2_with fail
          refine (containsFunc_it _ _ (fun x => !x.may) l a c _ (hr.below (by go_grown)) hl ?_ (fun _ _ => by kernel_rfl)).mono ?_
          · intro W x a' c' hb hz
            refine (mayC_any x.k x.n x.s a' x.ln c' W (w.heap.size + 1) ?_).mono fun e w' h => h
            rw [hb.cell (p := ⟨w.heap.size + 1, 0, none⟩) (by simp)]
            go_simp
          · rintro e w' ⟨rfl, hb⟩
            go_wp2
            go_ret
            refine ⟨ret_bool ?_, ((Below.refl w.heap.size w).alloc (Nat.le_refl _) _).alloc (by simp) _ |>.trans (hb.mono (by simp; omega))⟩
            rw [HM.out]
            exact (not_any_not l It.may)
        · have h8' : decide ((l.length : Int) ≤ (8 : Int)) = false := by simp; omega
          have HM := Lib.hid (may_long (n := 0) (s := ⟨#[]⟩) h8)
          go_enter Tryd.func26, Tryd.ntmps26
          go_wp2
          go_ret
          exact ⟨ret_bool (by rw [HM.out]), by go_grown⟩
      · have HM := Lib.hid (show (Da.mk 3 0 s l).may = false by simp [Da.may, he])
        go_enter Tryd.func26, Tryd.ntmps26
        go_wp2
        go_ret
        exact ⟨ret_bool (by rw [HM.out]), by go_grown⟩
    · have HM := Lib.hid (show (Da.mk 3 n s l).may = false by simp [Da.may, hn])
      go_enter Tryd.func26, Tryd.ntmps26
      go_wp2
      go_ret
      exact ⟨ret_bool (by rw [HM.out]), by go_grown⟩
  · have HM := Lib.hid (show (Da.mk k n s l).may = simpleB k n s l.length by simp [Da.may, h3])
    by_cases h1 : k = 1
    · subst h1
      by_cases h2 : s.toList = []
      all_goals
        go_enter Tryd.func26, Tryd.ntmps26
        go_wp2
        all_goals (go_ret; refine ⟨ret_bool (Eq.trans ?_ HM.out.symm), by go_grown⟩; go_light; (by_cases hl0 : l.length = 0 <;> simp_all [simpleB]); try omega)
    · by_cases h2 : k = 2
      · subst h2
        by_cases h4 : n = 0
        all_goals
          go_enter Tryd.func26, Tryd.ntmps26
          go_wp2
          all_goals (go_ret; refine ⟨ret_bool (Eq.trans ?_ HM.out.symm), by go_grown⟩; go_light; (by_cases hl0 : l.length = 0 <;> simp_all [simpleB]); try omega)
      · have HS := Lib.hid (show false = simpleB k n s l.length by simp [simpleB, h1, h2])
        go_enter Tryd.func26, Tryd.ntmps26
        go_wp2
        go_ret
        exact ⟨ret_bool (HS.out.trans HM.out.symm), by go_grown⟩

theorem check_any (d : Da) (a : Option Addr) (c : Nat) (w : World) (hr : RowIs w a d.l) (hl : d.l.length ≤ 140737488351232) :
    Calls Tryd.prog 25 #[dv d.k d.n d.s a d.l.length c] w fun e w' => e = .returned (.int .i64 (if d.may then 0 else 11)) ∧ Below w.heap.size w w' := by
  by_cases hm : d.may = true
  all_goals
    go_enter Tryd.func25, Tryd.ntmps25
    go_wp2_with (go_at_call 26; refine (may_any d a c _ (hr.below (by go_grown)) hl).mono ?_; rintro e w' ⟨rfl, hb'⟩)
    go_ret
    exact ⟨rfl, ((Below.refl w.heap.size w).alloc (Nat.le_refl _) _).trans (hb'.mono (by simp))⟩
end Go.Proofs.YtekcoddjdjllhaaDoor
