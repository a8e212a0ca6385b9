/- Data as plain values, and how they lie in memory. datum.may, Check; the order. A list of bytes that a call of its own has made, and appending to it. Numbers: bits and bytes. -/
import Derived.Test.YtdjlbfepddcmeaaGreatDoorChecked
import Derived.WalkKit
import Derived.WalkLawsBesides
import Derived.WalkSpells
import Derived.Outline
import Derived.Handy
import Derived.BigQuiet
import Derived.Deep.QuietTactic
import Derived.BigRegion
import Derived.Deep.Light
import Derived.Lib.Strings
import Derived.Lib.Hide
import Derived.Test.YtdjlbfepddcmeaaGreatDoorShelf
import Derived.Lib.AppendStr
import Derived.Lib.UnsafeStr
import Derived.Lib.ConvBytes
import Derived.Laws.BytesArg
import Derived.Laws.OwnMore
import Derived.Laws.BitsAllLaws
import Derived.Laws.Bits64
import Derived.RowKit
import Derived.Laws.BitsLemmas
set_option linter.unusedVariables false
set_option linter.unusedSimpArgs false
namespace Go.Proofs.YtdjlbfepddcmeaaGreatDoor
open Go.RowKit

/-- A datum as a value. -/
abbrev dv (k n : Int) (s : ByteArray) (a : Option Addr) (l c : Nat) : Value := .agg #[.int .i64 k, .int .i64 n, .string s, .slice a l c]

/-- An item of a list: of its own list the length alone. -/
structure It where
  k : Int
  n : Int
  s : ByteArray
  ln : Nat

structure Da where
  k : Int
  n : Int
  s : ByteArray
  l : List It

/-- A number of 64 bits. -/
def In64 (n : Int) : Prop := -9223372036854775808 ≤ n ∧ n ≤ 9223372036854775807

/-- Items in a row, four cells each. -/
def RowIs (w : World) (a : Option Addr) (l : List It) : Prop :=
  l = [] ∨ ∃ b off, a = some ⟨b, off, none⟩ ∧ ∀ i (h : i < l.length),
    w.cell? ⟨b, off + i * 4, none⟩ = some (.int .i64 l[i].k) ∧ w.cell? ⟨b, off + i * 4 + 1, none⟩ = some (.int .i64 l[i].n) ∧
    w.cell? ⟨b, off + i * 4 + 2, none⟩ = some (.string l[i].s) ∧ (∃ a' c', w.cell? ⟨b, off + i * 4 + 3, none⟩ = some (.slice a' l[i].ln c')) ∧ l[i].ln ≤ 140737488351232 ∧ l[i].s.size ≤ 140737488351232 ∧ In64 l[i].n

theorem RowIs.below {w w1 : World} {a : Option Addr} {l : List It} (h : RowIs w a l) (hb : Below w.heap.size w w1) : RowIs w1 a l := by
  rcases h with h | ⟨b, off, ha, h⟩
  · exact .inl h
  · refine .inr ⟨b, off, ha, fun i hi => ?_⟩
    obtain ⟨h0, h1, h2, ⟨a', c', h3⟩, h4⟩ := h i hi
    exact ⟨(hb.cell (World.block_lt_of_cell? w _ h0)).trans h0, (hb.cell (World.block_lt_of_cell? w _ h1)).trans h1,
      (hb.cell (World.block_lt_of_cell? w _ h2)).trans h2, ⟨a', c', (hb.cell (World.block_lt_of_cell? w _ h3)).trans h3⟩, h4⟩

theorem RowIs.at_ {w : World} {a : Option Addr} {l : List It} (h : RowIs w a l) (k : Nat) (hk : k < l.length) :
    ∃ b off a' c', a = some ⟨b, off, none⟩ ∧ w.cell? ⟨b, off + k * 4, none⟩ = some (.int .i64 l[k].k) ∧ w.cell? ⟨b, off + k * 4 + 1, none⟩ = some (.int .i64 l[k].n) ∧
    w.cell? ⟨b, off + k * 4 + 2, none⟩ = some (.string l[k].s) ∧ w.cell? ⟨b, off + k * 4 + 3, none⟩ = some (.slice a' l[k].ln c') ∧ l[k].ln ≤ 140737488351232 ∧ l[k].s.size ≤ 140737488351232 ∧ In64 l[k].n := by
  rcases h with h | ⟨b, off, ha, h⟩
  · subst h; simp at hk
  · obtain ⟨h0, h1, h2, ⟨a', c', h3⟩, h4⟩ := h k hk
    exact ⟨b, off, a', c', ha, h0, h1, h2, h3, h4⟩

def simpleB (k n : Int) (s : ByteArray) (l : Nat) : Bool := decide (l = 0) && ((decide (k = 1) && s.toList.isEmpty) || (decide (k = 2) && decide (n = 0) && decide (s.size ≤ 32)))

set_option maxHeartbeats 400000 in
theorem simple_any (k n : Int) (s : ByteArray) (a : Option Addr) (l c : Nat) (w : World) :
    Calls Tryz.prog 70 #[dv k n s a l c] w fun e w' => e = .returned (.bool (simpleB k n s l)) ∧ Below w.heap.size w w' := by
  go_enter Tryz.func70, Tryz.ntmps70
  go_wp2
  all_goals (go_ret; refine ⟨?_, (Below.refl _ _).alloc (Nat.le_refl _) _⟩; go_light; simp_all [simpleB]; try omega)

def It.may (x : It) : Bool := simpleB x.k x.n x.s x.ln

/-- May a datum be? -/
def Da.may (d : Da) : Bool :=
  if d.k = 3 then decide (d.n = 0) && d.s.toList.isEmpty && decide (d.l.length ≤ 8) && d.l.all It.may else simpleB d.k d.n d.s d.l.length

theorem bcell {W w1 : World} (hb : Below W.heap.size W w1) : (∀ b o, b < W.heap.size → w1.cell? ⟨b, o, none⟩ = W.cell? ⟨b, o, none⟩) ∧ (∀ b o, b < W.heap.size → w1.frozen? ⟨b, o, none⟩ = W.frozen? ⟨b, o, none⟩) :=
  ⟨fun b o h => hb.cell (p := ⟨b, o, none⟩) h, fun b o h => hb.frozen (p := ⟨b, o, none⟩) h⟩

theorem ret_val {a b : Value} (h : a = b) : Ending.returned a = .returned b := by rw [h]
theorem ret_bool {a b : Bool} (h : a = b) : Ending.returned (.bool a) = .returned (.bool b) := by rw [h]
theorem ret_int {k : IntKind} {a b : Int} (h : a = b) : Ending.returned (.int k a) = .returned (.int k b) := by rw [h]
theorem ret_str {a b : ByteArray} (h : a = b) : Ending.returned (.string a) = .returned (.string b) := by rw [h]

theorem isEmpty_of {s : ByteArray} (h : s.toList = []) : s = ⟨#[]⟩ := by
  rw [Go.Lib.toList_data] at h
  obtain ⟨d⟩ := s
  simp at h
  subst h; rfl

theorem all_take_succ {α : Type} (l : List α) (p : α → Bool) (k : Nat) (h : k < l.length) : (l.take (k + 1)).all p = ((l.take k).all p && p l[k]) := by
  rw [List.take_succ_eq_append_getElem h, List.all_append]; simp

theorem all_false_of {α : Type} (l : List α) (p : α → Bool) (k : Nat) (h : k < l.length) (hp : p l[k] = false) : l.all p = false := by
  rw [List.all_eq_false]; exact ⟨_, List.getElem_mem h, by simp [hp]⟩

theorem may_list {l : List It} (h8 : l.length ≤ 8) (s : ByteArray) (hs : s.toList = []) : (Da.mk 3 0 s l).may = l.all It.may := by
  simp [Da.may, hs, h8]
theorem may_long {l : List It} (h8 : ¬ l.length ≤ 8) (n : Int) (s : ByteArray) : (Da.mk 3 n s l).may = false := by
  simp [Da.may, h8]

set_option maxHeartbeats 400000 in
theorem rmay_any (d : Da) (a : Option Addr) (c : Nat) (w : World) (hr : RowIs w a d.l) (hs : d.s.size ≤ 140737488351232) (hl : d.l.length ≤ 140737488351232) :
    Calls Tryz.prog 49 #[dv d.k d.n d.s a d.l.length c] w fun e w' => e = .returned (.bool d.may) ∧ Below w.heap.size w w' := by
  obtain ⟨k, n, s, l⟩ := d
  simp only at *
  have hB := (Below.refl w.heap.size w).alloc (Nat.le_refl _) (.cells #[.int .i64 k, .int .i64 n, .string s, .slice a l.length c] 24)
  by_cases hk : k = 3
  · subst hk
    by_cases hn : n = 0
    · subst hn
      by_cases he : s.toList = []
      · obtain rfl := isEmpty_of he
        by_cases h8 : l.length ≤ 8
        · have h8' : decide ((8 : Int) < (l.length : Int)) = false := by simp; omega
          have HM := Lib.hid (may_list h8 _ he)
          go_enter Tryz.func49, Tryz.ntmps49
          go_wp2
          go_loopw [3] (fun i wr => ∃ j : Nat, j ≤ l.length ∧ i = .int .i64 j ∧ (l.take j).all It.may = true ∧ Below w.heap.size w wr ∧
              wr.cell? ⟨w.heap.size, 3, none⟩ = some (.slice a l.length c) ∧ w.heap.size < wr.heap.size) (fun i _ => l.length - (intOf i).toNat)
          case atStart => exact ⟨0, Nat.zero_le _, rfl, rfl, hB, by go_simp, by simp⟩
          case round =>
            obtain ⟨j, hj, rfl, hall, hb, hc3, hz⟩ := hrel
            by_cases hlt : j < l.length
            · obtain ⟨b, off, a', c', rfl, g0, g1, g2, g3, _⟩ := (hr.below hb).at_ j hlt
              by_cases hm : (l[j]).may = true
              · have hm' : simpleB l[j].k l[j].n l[j].s l[j].ln = true := hm
                go_wp2_with (go_at_call 70; refine (simple_any _ _ _ _ _ _ _).mono ?_; rintro e w' ⟨rfl, hb'⟩)
                go_roundw
                case rel => exact ⟨j + 1, by omega, by go_num, by rw [all_take_succ _ _ _ hlt, hall, hm]; rfl, hb.trans (hb'.mono (by omega)), (hb'.cell (p := ⟨w.heap.size, 3, none⟩) hz).trans hc3, by have := hb'.size; omega⟩
                case measure => simp [intOf]; omega
              · have hm' : simpleB l[j].k l[j].n l[j].s l[j].ln = false := by simpa [It.may] using hm
                go_wp2_with (go_at_call 70; refine (simple_any _ _ _ _ _ _ _).mono ?_; rintro e w' ⟨rfl, hb'⟩)
                go_ret
                exact ⟨ret_bool (by rw [HM.out, all_false_of l _ j hlt (by simpa using hm)]), hb.trans (hb'.mono (by omega))⟩
            · go_wp2
              go_ret
              exact ⟨ret_bool (by rw [HM.out, ← List.take_of_length_le (show l.length ≤ j by omega), hall]), hb⟩
        · have h8' : decide ((8 : Int) < (l.length : Int)) = true := by simp; omega
          have HM := Lib.hid (may_long (n := 0) (s := ⟨#[]⟩) h8)
          go_enter Tryz.func49, Tryz.ntmps49
          go_wp2
          go_ret
          exact ⟨ret_bool (by rw [HM.out]), hB⟩
      · have HM := Lib.hid (show (Da.mk 3 0 s l).may = false by simp [Da.may, he])
        go_enter Tryz.func49, Tryz.ntmps49
        go_wp2
        go_ret
        exact ⟨ret_bool (by rw [HM.out]), hB⟩
    · have HM := Lib.hid (show (Da.mk 3 n s l).may = false by simp [Da.may, hn])
      go_enter Tryz.func49, Tryz.ntmps49
      go_wp2
      go_ret
      exact ⟨ret_bool (by rw [HM.out]), hB⟩
  · have HM := Lib.hid (show (Da.mk k n s l).may = simpleB k n s l.length by simp [Da.may, hk])
    go_enter Tryz.func49, Tryz.ntmps49
    go_wp2_with (go_at_call 70; refine (simple_any _ _ _ _ _ _ _).mono ?_; rintro e w' ⟨rfl, hb'⟩)
    go_ret
    exact ⟨ret_bool (by rw [HM.out]), hB.trans (hb'.mono (by simp))⟩

end Go.Proofs.YtdjlbfepddcmeaaGreatDoor

namespace Go.Proofs.YtdjlbfepddcmeaaGreatDoor
open Go.RowKit

/-- A predicate on items, as a closure: in every later world it answers 'p'. -/
def PredIt (f : Nat) (lb : Array Value) (p : It → Bool) (w : World) : Prop :=
  ∀ (W : World) (x : It) (a : Option Addr) (c : Nat), Below w.heap.size w W → w.heap.size ≤ W.heap.size → Calls Tryz.prog f (#[dv x.k x.n x.s a x.ln c] ++ lb) W fun e w' => e = .returned (.bool (p x)) ∧ Below W.heap.size W w'

theorem any_take_succ {α : Type} (l : List α) (p : α → Bool) (k : Nat) (h : k < l.length) : (l.take (k + 1)).any p = ((l.take k).any p || p l[k]) := by
  rw [List.take_succ_eq_append_getElem h, List.any_append]; simp

theorem any_true_of {α : Type} (l : List α) (p : α → Bool) (k : Nat) (h : k < l.length) (hp : p l[k] = true) : l.any p = true := by
  rw [List.any_eq_true]; exact ⟨_, List.getElem_mem h, hp⟩

def idxOr (b : Bool) (e : Ending) : Prop := if b = true then ∃ n : Int, 0 ≤ n ∧ e = .returned (.int .i64 n) else e = .returned (.int .i64 (-1))

set_option maxHeartbeats 1000000 in
theorem indexFunc_it (f : Nat) (lb : Array Value) (p : It → Bool) (l : List It) (a : Option Addr) (c : Nat) (w : World) (hr : RowIs w a l) (hl : l.length ≤ 140737488351232)
    (hp : PredIt f lb p w) (eg : ∀ args w, (callFunc f args).run Tryz.prog w = .ok (.enter f args) w) :
    Calls Tryz.prog 67 #[.slice a l.length c, .func (.func f) #[] lb] w fun e w' => idxOr (l.any p) e ∧ Below w.heap.size w w' := by
  go_enter Tryz.func67, Tryz.ntmps67
  go_wp2
  go_loopw [5, 8] (fun _ i wr => ∃ j : Nat, j ≤ l.length ∧ i = .int .i64 j ∧ (l.take j).any p = false ∧ Below w.heap.size w wr) (fun _ i _ => l.length - (intOf i).toNat)
  case atStart => exact ⟨0, Nat.zero_le _, rfl, rfl, Below.refl _ _⟩
  case round =>
    obtain ⟨j, hj, rfl, hall, hb⟩ := hrel
    have HA := Lib.hid hall
    clear hall
    by_cases hlt : j < l.length
    · obtain ⟨b, off, a', c', rfl, g0, g1, g2, g3, _⟩ := (hr.below hb).at_ j hlt
      have HP := Lib.hid hp
      clear hp
      go_wp2_with (go_at_fn f; refine (HP.out wr l[j] a' c' hb hb.size).mono ?_; rintro e w' ⟨rfl, hb'⟩)
      all_goals first
        | (go_roundw
           case rel => exact ⟨j + 1, by omega, by go_num, by rw [any_take_succ _ _ _ hlt, HA.out, show p l[j] = false by assumption]; rfl, hb.trans (hb'.mono hb.size)⟩
           case measure => simp [intOf]; omega)
        | (go_ret
           refine ⟨?_, hb.trans (hb'.mono hb.size)⟩
           rw [any_true_of l p j hlt (by assumption)]
           exact ⟨j, by omega, rfl⟩)
    · go_wp2
      go_ret
      refine ⟨?_, hb⟩
      have : l.any p = false := by rw [← HA.out, List.take_of_length_le (by omega)]
      rw [this]; rfl

theorem not_any_not {α : Type} (l : List α) (p : α → Bool) : (!l.any fun x => !p x) = l.all p := by
  induction l with
  | nil => rfl
  | cons x l ih => simp only [List.any_cons, List.all_cons, Bool.not_or, Bool.not_not, ih]

theorem containsFunc_it (f : Nat) (lb : Array Value) (p : It → Bool) (l : List It) (a : Option Addr) (c : Nat) (w : World) (hr : RowIs w a l) (hl : l.length ≤ 140737488351232)
    (hp : PredIt f lb p w) (eg : ∀ args w, (callFunc f args).run Tryz.prog w = .ok (.enter f args) w) :
    Calls Tryz.prog 44 #[.slice a l.length c, .func (.func f) #[] lb] w fun e w' => e = .returned (.bool (l.any p)) ∧ Below w.heap.size w w' := by
  have HP := Lib.hid hp
  clear hp
  cases hq : l.any p with
  | true =>
    go_enter Tryz.func44, Tryz.ntmps44
    go_wp2_with fail
    refine (indexFunc_it f lb p l a c _ hr hl HP.out eg).mono ?_
    rintro e w' ⟨he, hb⟩
    rw [hq] at he
    obtain ⟨n, hn, rfl⟩ := he
    go_wp2
    go_ret
    exact ⟨ret_bool (by simp), hb⟩
  | false =>
    go_enter Tryz.func44, Tryz.ntmps44
    go_wp2_with fail
    refine (indexFunc_it f lb p l a c _ hr hl HP.out eg).mono ?_
    rintro e w' ⟨he, hb⟩
    rw [hq] at he
    obtain rfl : e = .returned (.int .i64 (-1)) := he
    go_wp2
    go_ret
    exact ⟨rfl, hb⟩

/-- may(x, 0): no list. -/
theorem may0_any (k n : Int) (s : ByteArray) (a : Option Addr) (l c : Nat) (w : World) :
    Calls Tryz.prog 75 #[dv k n s a l c, .int .i64 0] w fun e w' => e = .returned (.bool (simpleB k n s l)) ∧ Below w.heap.size w w' := by
  by_cases h1 : k = 1
  · subst h1
    by_cases h2 : s.toList = []
    all_goals
      go_enter Tryz.func75, Tryz.ntmps75
      go_wp2
      all_goals (go_ret; refine ⟨ret_bool ?_, by go_grown⟩; go_light; (by_cases hl0 : l = 0 <;> simp_all [simpleB]); try omega)
  · by_cases h2 : k = 2
    · subst h2
      by_cases h3 : n = 0
      all_goals
        go_enter Tryz.func75, Tryz.ntmps75
        go_wp2
        all_goals (go_ret; refine ⟨ret_bool ?_, by go_grown⟩; go_light; (by_cases hl0 : l = 0 <;> simp_all [simpleB]); try omega)
    · have HS := Lib.hid (show false = simpleB k n s l by simp [simpleB, h1, h2])
      by_cases h3 : k = 3
      · subst h3
        go_enter Tryz.func75, Tryz.ntmps75
        go_wp2
        go_ret
        exact ⟨ret_bool HS.out, by go_grown⟩
      · go_enter Tryz.func75, Tryz.ntmps75
        go_wp2
        go_ret
        exact ⟨ret_bool HS.out, by go_grown⟩

set_option maxHeartbeats 1000000 in
/-- The closure in may: not may(x, deep - 1), at deep = 1. -/
theorem mayC_any (k n : Int) (s : ByteArray) (a : Option Addr) (l c : Nat) (w : World) (b : Nat) (hc : w.cell? ⟨b, 0, none⟩ = some (.int .i64 1)) :
    Calls Tryz.prog 85 #[dv k n s a l c, .pointer (some ⟨b, 0, none⟩)] w fun e w' => e = .returned (.bool (!simpleB k n s l)) ∧ Below w.heap.size w w' := by
  have hb : b < w.heap.size := World.block_lt_of_cell? w _ hc
  go_enter Tryz.func85, Tryz.ntmps85
  go_wp2_with (go_at_call 75; refine (may0_any _ _ _ _ _ _ _).mono ?_; rintro e w' ⟨rfl, hb'⟩)
  go_ret
  exact ⟨rfl, ((Below.refl _ _).alloc (Nat.le_refl _) _).trans (hb'.mono (by simp))⟩

set_option maxHeartbeats 1000000 in
/-- may(d, 1). -/
theorem may_any (d : Da) (a : Option Addr) (c : Nat) (w : World) (hr : RowIs w a d.l) (hl : d.l.length ≤ 140737488351232) :
    Calls Tryz.prog 75 #[dv d.k d.n d.s a d.l.length c, .int .i64 1] w fun e w' => e = .returned (.bool d.may) ∧ Below w.heap.size w w' := by
  obtain ⟨k, n, s, l⟩ := d
  simp only at *
  by_cases h3 : k = 3
  · subst h3
    by_cases hn : n = 0
    · subst hn
      by_cases he : s.toList = []
      · obtain rfl := isEmpty_of he
        by_cases h8 : l.length ≤ 8
        · have h8' : decide ((l.length : Int) ≤ (8 : Int)) = true := by simp; omega
          have HM := Lib.hid (may_list h8 _ he)
          have HE := Lib.hid he
          clear he
          go_enter Tryz.func75, Tryz.ntmps75
          go_wp2_with fail
          refine (containsFunc_it _ _ (fun x => !x.may) l a c _ (hr.below (by go_grown)) hl ?_ (fun _ _ => by kernel_rfl)).mono ?_
          · intro W x a' c' hb hz
            refine (mayC_any x.k x.n x.s a' x.ln c' W (w.heap.size + 1) ?_).mono fun e w' h => h
            rw [hb.cell (p := ⟨w.heap.size + 1, 0, none⟩) (by simp)]
            go_simp
          · rintro e w' ⟨rfl, hb⟩
            go_wp2
            go_ret
            refine ⟨ret_bool ?_, ((Below.refl w.heap.size w).alloc (Nat.le_refl _) _).alloc (by simp) _ |>.trans (hb.mono (by simp; omega))⟩
            rw [HM.out]
            exact (not_any_not l It.may)
        · have h8' : decide ((l.length : Int) ≤ (8 : Int)) = false := by simp; omega
          have HM := Lib.hid (may_long (n := 0) (s := ⟨#[]⟩) h8)
          go_enter Tryz.func75, Tryz.ntmps75
          go_wp2
          go_ret
          exact ⟨ret_bool (by rw [HM.out]), by go_grown⟩
      · have HM := Lib.hid (show (Da.mk 3 0 s l).may = false by simp [Da.may, he])
        go_enter Tryz.func75, Tryz.ntmps75
        go_wp2
        go_ret
        exact ⟨ret_bool (by rw [HM.out]), by go_grown⟩
    · have HM := Lib.hid (show (Da.mk 3 n s l).may = false by simp [Da.may, hn])
      go_enter Tryz.func75, Tryz.ntmps75
      go_wp2
      go_ret
      exact ⟨ret_bool (by rw [HM.out]), by go_grown⟩
  · have HM := Lib.hid (show (Da.mk k n s l).may = simpleB k n s l.length by simp [Da.may, h3])
    by_cases h1 : k = 1
    · subst h1
      by_cases h2 : s.toList = []
      all_goals
        go_enter Tryz.func75, Tryz.ntmps75
        go_wp2
        all_goals (go_ret; refine ⟨ret_bool (Eq.trans ?_ HM.out.symm), by go_grown⟩; go_light; (by_cases hl0 : l.length = 0 <;> simp_all [simpleB]); try omega)
    · by_cases h2 : k = 2
      · subst h2
        by_cases h4 : n = 0
        all_goals
          go_enter Tryz.func75, Tryz.ntmps75
          go_wp2
          all_goals (go_ret; refine ⟨ret_bool (Eq.trans ?_ HM.out.symm), by go_grown⟩; go_light; (by_cases hl0 : l.length = 0 <;> simp_all [simpleB]); try omega)
      · have HS := Lib.hid (show false = simpleB k n s l.length by simp [simpleB, h1, h2])
        go_enter Tryz.func75, Tryz.ntmps75
        go_wp2
        go_ret
        exact ⟨ret_bool (HS.out.trans HM.out.symm), by go_grown⟩

theorem check_any (d : Da) (a : Option Addr) (c : Nat) (w : World) (hr : RowIs w a d.l) (hl : d.l.length ≤ 140737488351232) :
    Calls Tryz.prog 56 #[dv d.k d.n d.s a d.l.length c] w fun e w' => e = .returned (.int .i64 (if d.may then 0 else 11)) ∧ Below w.heap.size w w' := by
  by_cases hm : d.may = true
  all_goals
    go_enter Tryz.func56, Tryz.ntmps56
    go_wp2_with (go_at_call 75; refine (may_any d a c _ (hr.below (by go_grown)) hl).mono ?_; rintro e w' ⟨rfl, hb'⟩)
    go_ret
    exact ⟨rfl, ((Below.refl w.heap.size w).alloc (Nat.le_refl _) _).trans (hb'.mono (by simp))⟩
end Go.Proofs.YtdjlbfepddcmeaaGreatDoor

namespace Go.Proofs.YtdjlbfepddcmeaaGreatDoor
open Go.RowKit

theorem info_u8 : (Tryz.prog.info? 5).map (fun i => (i.zero, i.size, i.bytes)) = some (some (.int .u8 0), 1, 1) := by kernel_rfl

/-- v owns just the bytes l, in a row from block B on (or is nil). -/
def Buf (w : World) (B : Nat) (v : Value) (l : List UInt8) : Prop := w.ownsRow B 5 1 v l.length (Lib.byteCells l)

theorem Buf.nil (w : World) (B : Nat) : Buf w B (.slice none 0 0) [] := World.ownsRow_nil _ _ _ _

theorem Buf.alloc {w : World} {B : Nat} {v : Value} {l : List UInt8} (h : Buf w B v l) (o : Obj) : Buf (w.alloc o) B v l := World.ownsRow.alloc h o

theorem Buf.drew {w : World} {B : Nat} {v : Value} {l : List UInt8} (h : Buf w B v l) : Buf w.drew B v l := World.ownsRow.drew h

theorem Buf.later {w w1 : World} {B : Nat} {v : Value} {l : List UInt8} (h : Buf w B v l) (hb : Below w.heap.size w w1) : Buf w1 B v l :=
  World.ownsRow.kept h (row := none) ⟨hb.os, hb.tape, hb.output, hb.size, fun i hi _ => hb.block i hi⟩ (by cases v.ownBlock <;> simp)

theorem Buf.slice {w : World} {B : Nat} {v : Value} {l : List UInt8} (h : Buf w B v l) : ∃ A c, v = .slice A l.length c := by
  rcases h.2 with ⟨rfl, h0⟩ | ⟨g, cap, cur, rfl, _⟩
  · rw [h0]; exact ⟨none, 0, rfl⟩
  · exact ⟨_, cap, rfl⟩

/-- What is written is the row's own block or new: below B all stands. -/
theorem Buf.below {w w1 : World} {B : Nat} {v : Value} {l : List UInt8} (h : Buf w B v l) (hB : B ≤ w.heap.size) (hg : w.grownBy w1 v.ownBlock) : Below B w w1 :=
  (Below.refl B w).grown hg hB fun k hk => by
    rcases h.2 with ⟨rfl, _⟩ | ⟨g, cap, cur, rfl, hb, _⟩
    · simp [Value.ownBlock] at hk
    · have : g = k := by simpa [Value.ownBlock] using hk
      omega

theorem byteCells_one (b : UInt8) : Lib.byteCells [b] = [.int .u8 b.toNat] := rfl

theorem byteCells_oneCell (l : List UInt8) : ∀ u ∈ Lib.byteCells l, u.oneCell' = true := by
  intro u hu
  simp only [Lib.byteCells, List.mem_map] at hu
  obtain ⟨b, _, rfl⟩ := hu
  rfl

theorem byteCells_append (l m : List UInt8) : Lib.byteCells (l ++ m) = Lib.byteCells l ++ Lib.byteCells m := by simp [Lib.byteCells]
theorem byteCells_length (l : List UInt8) : (Lib.byteCells l).length = l.length := by simp [Lib.byteCells]

/-- append of bytes that lie at an address. -/
theorem wp_appB {ops : Array Oper} {rest : List Oper} {o : Oper} {a : Act} {Q : Exit → Act → World → Prop} {w : World} (hgd : o.guard = none) (s x : Operand)
    (ho : o.op = .call { callee := .builtin .append, args := #[s, x], argTypes := #[60, 60] })
    (B : Nat) (v : Value) (l : List UInt8) (hs : a.eval s = v) (hb : Buf w B v l) (ad : Addr) (m c : Nat) (new : List UInt8) (hx : a.eval x = .slice (some ad) m c) (hm : new.length = m)
    (hnew : ∀ j u, (Lib.byteCells new)[j]? = some u → w.cell? (ad.add j) = some u) (hlen : l.length + new.length ≤ 70368744177664) (hB : B ≤ w.heap.size)
    (h : ∀ v' w', Buf w' B v' (l ++ new) → Below B w w' → w.grownBy w' v.ownBlock → wpList Tryz.prog ops Q rest (a.put o.dst v') w') : wpList Tryz.prog ops Q (o :: rest) a w := by
  obtain ⟨i0, hi, hz0, hz1, hz2⟩ := info_parts info_u8
  subst hm
  refine wpList_append_own w hgd s x 60 ho B 5 i0 (.int .u8 0) 1 1 Tryz.underlying60 hi hz0 hz1 hz2 rfl (by decide) v l.length (Lib.byteCells l) hs hb ad new.length c (Lib.byteCells new) hx (by simp [byteCells_length]) hnew (byteCells_oneCell _) (by unfold maxLen; omega) (by omega) hB ?_
  intro v' w' hown hg _
  exact h v' w' (by unfold Buf; rw [List.length_append, byteCells_append]; exact hown) (hb.below hB hg) hg

/-- append of bytes that lie at an address, in a region that draws its order. -/
theorem step_appB {ops : Array Oper} {o : Oper} {a : Act} {K : Act → World → Prop} {Q : Exit → Act → World → Prop} {E : Prop} {w : World} (hgd : o.guard = none) (s x : Operand)
    (ho : o.op = .call { callee := .builtin .append, args := #[s, x], argTypes := #[60, 60] })
    (B : Nat) (v : Value) (l : List UInt8) (hs : a.eval s = v) (hb : Buf w B v l) (ad : Addr) (m c : Nat) (new : List UInt8) (hx : a.eval x = .slice (some ad) m c) (hm : new.length = m)
    (hnew : ∀ j u, (Lib.byteCells new)[j]? = some u → w.cell? (ad.add j) = some u) (hlen : l.length + new.length ≤ 70368744177664) (hB : B ≤ w.heap.size)
    (h : ∀ v' w', Buf w' B v' (l ++ new) → Below B w w' → w.grownBy w' v.ownBlock → K (a.put o.dst v') w') : if Region.wanted o (yielded ops a.tmps) = true then Oper.wp Tryz.prog o a w K Q else E := by
  have hw : Region.wanted o (yielded ops a.tmps) = true := by simp [Region.wanted, hgd]
  rw [if_pos hw]
  obtain ⟨i0, hi, hz0, hz1, hz2⟩ := info_parts info_u8
  subst hm
  refine wp_append_own w s x 60 ho B 5 i0 (.int .u8 0) 1 1 Tryz.underlying60 hi hz0 hz1 hz2 rfl (by decide) v l.length (Lib.byteCells l) hs hb ad new.length c (Lib.byteCells new) hx (by simp [byteCells_length]) hnew (byteCells_oneCell _) (by unfold maxLen; omega) (by omega) hB ?_
  intro v' w' hown hg _
  exact h v' w' (by unfold Buf; rw [List.length_append, byteCells_append]; exact hown) (hb.below hB hg) hg

theorem grown_alloc {W w' : World} {o : Obj} {r : Option Nat} (h : (W.alloc o).grownBy w' r) : W.grownBy w' r := by
  obtain ⟨h1, h2, h3, h4, h5⟩ := h
  refine ⟨h1, h2, h3, by simp at h4; omega, fun i hi hr => ?_⟩
  rw [h5 i (by simp; omega) hr]
  exact heap_alloc_old W o hi

/-- append of one byte that has just been laid. -/
theorem wp_app1 {ops : Array Oper} {rest : List Oper} {o : Oper} {a : Act} {Q : Exit → Act → World → Prop} {W : World} (hgd : o.guard = none) (s x : Operand)
    (ho : o.op = .call { callee := .builtin .append, args := #[s, x], argTypes := #[60, 60] })
    (B : Nat) (v : Value) (l : List UInt8) (hs : a.eval s = v) (hb : Buf W B v l) (x0 : Int) (b : UInt8) (hx0 : x0 = (b.toNat : Int)) (k c : Nat) (hx : a.eval x = .slice (some ⟨k, 0, none⟩) 1 c) (hk : k = W.heap.size)
    (hlen : l.length ≤ 35184372088832) (hB : B ≤ W.heap.size)
    (h : ∀ v' w', Buf w' B v' (l ++ [b]) → Below B W w' → W.grownBy w' v.ownBlock → W.heap.size ≤ w'.heap.size → wpList Tryz.prog ops Q rest (a.put o.dst v') w') : wpList Tryz.prog ops Q (o :: rest) a (W.alloc (.cells #[.int .u8 x0] 5)) := by
  subst hx0 hk
  refine wp_appB hgd s x ho B v l hs (hb.alloc _) ⟨W.heap.size, 0, none⟩ 1 c [b] hx rfl ?_ (by simp; omega) (by simp; omega) ?_
  · intro j u hj
    match j, hj with
    | 0, hj => simp [Lib.byteCells] at hj; subst hj; simp [Addr.add]
  · intro v' w' h1 h2 h3
    exact h v' w' h1 (((Below.refl B W).alloc hB _).trans h2) (grown_alloc h3) (by have := h2.size; simp at this; omega)

/-- append of two bytes that have just been laid. -/
theorem wp_app2 {ops : Array Oper} {rest : List Oper} {o : Oper} {a : Act} {Q : Exit → Act → World → Prop} {W : World} (hgd : o.guard = none) (s x : Operand)
    (ho : o.op = .call { callee := .builtin .append, args := #[s, x], argTypes := #[60, 60] })
    (B : Nat) (v : Value) (l : List UInt8) (hs : a.eval s = v) (hb : Buf W B v l) (x0 x1 : Int) (b0 b1 : UInt8) (hx0 : x0 = (b0.toNat : Int)) (hx1 : x1 = (b1.toNat : Int)) (k c : Nat) (hx : a.eval x = .slice (some ⟨k, 0, none⟩) 2 c) (hk : k = W.heap.size)
    (hlen : l.length ≤ 35184372088832) (hB : B ≤ W.heap.size)
    (h : ∀ v' w', Buf w' B v' (l ++ [b0, b1]) → Below B W w' → W.grownBy w' v.ownBlock → W.heap.size ≤ w'.heap.size → wpList Tryz.prog ops Q rest (a.put o.dst v') w') : wpList Tryz.prog ops Q (o :: rest) a (W.alloc (.cells #[.int .u8 x0, .int .u8 x1] 5)) := by
  subst hx0 hx1 hk
  refine wp_appB hgd s x ho B v l hs (hb.alloc _) ⟨W.heap.size, 0, none⟩ 2 c [b0, b1] hx rfl ?_ (by simp; omega) (by simp; omega) ?_
  · intro j u hj
    match j, hj with
    | 0, hj => simp [Lib.byteCells] at hj; subst hj; simp [Addr.add]
    | 1, hj => simp [Lib.byteCells] at hj; subst hj; simp [Addr.add]
  · intro v' w' h1 h2 h3
    exact h v' w' h1 (((Below.refl B W).alloc hB _).trans h2) (grown_alloc h3) (by have := h2.size; simp at this; omega)

/-- A block of another type stands where bytes are appended. -/
theorem Buf.keep {w w1 : World} {B : Nat} {v : Value} {l : List UInt8} {k : Nat} {cs : Array Value} {T : TypeId} {fr : Nat × Nat} (h : Buf w B v l) (hg : w.grownBy w1 v.ownBlock)
    (hk : w.heap[k]? = some (.cells cs T fr)) (hT : (T == 5) = false) : w1.heap[k]? = some (.cells cs T fr) := by
  have hlt : k < w.heap.size := (Array.getElem?_eq_some_iff.1 hk).1
  rw [hg.block k hlt ?_]
  · exact hk
  · rcases h.2 with ⟨rfl, _⟩ | ⟨g, cap, cur, rfl, _, hh, _⟩
    · simp [Value.ownBlock]
    · simp only [Value.ownBlock]
      intro e
      simp only [Option.some.injEq] at e
      subst e
      rw [hk] at hh
      simp only [Option.some.injEq, Obj.cells.injEq] at hh
      rw [hh.2.1] at hT
      simp at hT

/-- append of a text's bytes. -/
theorem wp_appS {ops : Array Oper} {rest : List Oper} {o : Oper} {a : Act} {Q : Exit → Act → World → Prop} {w : World} (hgd : o.guard = none) (s x : Operand)
    (ho : o.op = .call { callee := .builtin .append, args := #[s, x], argTypes := #[60, 9] })
    (B : Nat) (v : Value) (l : List UInt8) (hs : a.eval s = v) (hb : Buf w B v l) (t : ByteArray) (hx : a.eval x = .string t) (hlen : l.length + t.size ≤ 70368744177664) (hB : B ≤ w.heap.size)
    (h : ∀ v' w', Buf w' B v' (l ++ t.data.toList) → Below B w w' → w.grownBy w' v.ownBlock → wpList Tryz.prog ops Q rest (a.put o.dst v') w') : wpList Tryz.prog ops Q (o :: rest) a w := by
  obtain ⟨i0, hi, hz0, hz1, hz2⟩ := info_parts info_u8
  have hsz : t.data.toList.length = t.size := by simp
  refine Go.Lib.wpList_append_own_string w hgd s x 60 9 ho B 5 i0 Tryz.underlying60 Tryz.underlying9 hi hz0 hz1 hz2 v l.length (Lib.byteCells l) hs hb t hx (by unfold maxLen; omega) (by omega) hB ?_
  intro v' w' hown hg _
  exact h v' w' (by unfold Buf; rw [List.length_append, byteCells_append, hsz]; exact hown) (hb.below hB hg) hg

theorem strOf_bytes (l : List UInt8) : strOfNums (l.map fun b => (b.toNat : Int)) = ⟨l.toArray⟩ := by
  unfold strOfNums
  rw [List.map_map]
  have : (l.map ((fun n : Int => UInt8.ofNat n.toNat) ∘ fun b : UInt8 => (b.toNat : Int))) = l := by
    induction l with
    | nil => rfl
    | cons b l ih => simp only [List.map_cons, ih, Function.comp, Int.toNat_natCast, UInt8.ofNat_toNat]
  rw [this]

/-- Its bytes as a text. -/
theorem Buf.string {w : World} {B : Nat} {v : Value} {l : List UInt8} (h : Buf w B v l) : (convert 60 9 v).run Tryz.prog w = .ok (.string ⟨l.toArray⟩) w := by
  rcases h.2 with ⟨rfl, h0⟩ | ⟨g, cap, cur, rfl, _⟩
  · obtain rfl : l = [] := List.eq_nil_of_length_eq_zero h0
    exact run_convert_bytes_nil w 60 5 Tryz.underlying60 Tryz.underlying5 0 0 9 Tryz.underlying9
  · have := run_convert_bytes_arg w 60 5 Tryz.underlying60 Tryz.underlying5 g 0 l.length cap (l.map fun b => (b.toNat : Int)) (by simp) (fun i hi => by
      have hc := World.ownsRow.cells h (g := g) rfl i (.int .u8 ((l.map fun b => (b.toNat : Int)).getD i 0)) (by simp [Lib.byteCells, hi])
      have ha : (⟨g, 0, none⟩ : Addr).add i = ⟨g, 0 + i, none⟩ := by unfold Addr.add; split <;> simp_all
      rw [← ha]; exact hc) 9 Tryz.underlying9
    rw [this, strOf_bytes]
end Go.Proofs.YtdjlbfepddcmeaaGreatDoor

namespace Go.Proofs.YtdjlbfepddcmeaaGreatDoor
open Go Go.RowKit

theorem i64_and255 (n : Int) : bits .and .i64 n 255 = n % 256 := by
  have h255 : (BitVec.ofInt 64 255).toNat = 2 ^ 8 - 1 := by decide
  have key : (BitVec.ofInt 64 n &&& BitVec.ofInt 64 255).toNat = (n % ((2 ^ 64 : Nat) : Int)).toNat % 2 ^ 8 := by
    rw [BitVec.toNat_and, BitVec.toNat_ofInt, h255, Nat.and_two_pow_sub_one_eq_mod]
  show IntKind.i64.wrap ((BitVec.ofInt 64 n &&& BitVec.ofInt 64 255).toNat : Nat) = n % 256
  rw [key, IntKind.wrap_i64]
  omega

set_option maxRecDepth 100000 in
theorem xor128_nat : ∀ a : Fin 256, (a.val ^^^ 128) = (a.val + 128) % 256 := by decide

theorem u8_xor128 (y : Int) (h1 : 0 ≤ y) (h2 : y < 256) : bits .xor .u8 y 128 = (y + 128) % 256 := by
  rw [u8_xor y 128 h1 h2 (by decide) (by decide)]
  have := xor128_nat ⟨y.toNat, by omega⟩
  simp only at this
  rw [show ((128 : Int).toNat) = 128 from rfl, this]
  omega

theorem xor_top_low (Y : Nat) (h : Y < 2 ^ 63) : Y ^^^ 2 ^ 63 = Y + 2 ^ 63 := by
  have e : Y + 2 ^ 63 = 2 ^ 63 * 1 ||| Y := by rw [← Nat.two_pow_add_eq_or_of_lt h]; omega
  rw [e]
  apply Nat.eq_of_testBit_eq
  intro i
  simp only [Nat.testBit_xor, Nat.testBit_or, Nat.mul_one, Nat.testBit_two_pow]
  by_cases hi : 63 = i
  · subst hi
    simp [Nat.testBit_lt_two_pow h]
  · simp [hi]

theorem xor_top (X : Nat) (h : X < 2 ^ 64) : X ^^^ 2 ^ 63 = (X + 2 ^ 63) % 2 ^ 64 := by
  by_cases hl : X < 2 ^ 63
  · rw [xor_top_low X hl]; omega
  · obtain ⟨Y, rfl⟩ : ∃ Y, X = Y + 2 ^ 63 := ⟨X - 2 ^ 63, by omega⟩
    have hy : Y < 2 ^ 63 := by omega
    rw [← xor_top_low Y hy, Nat.xor_assoc, Nat.xor_self, Nat.xor_zero, xor_top_low Y hy]
    omega

theorem u64_xor_top (x : Int) (h1 : 0 ≤ x) (h2 : x < 18446744073709551616) : bits .xor .u64 x 9223372036854775808 = (x + 9223372036854775808) % 18446744073709551616 := by
  rw [u64_xor x 9223372036854775808 h1 h2 (by decide) (by decide)]
  have := xor_top x.toNat (by omega)
  rw [show ((9223372036854775808 : Int).toNat) = 2 ^ 63 from rfl, this]
  omega

/-- The k-th of the eight bytes of an integer, the highest first. -/
def byteAt (n : Int) (k : Nat) : UInt8 := UInt8.ofNat (((n + 9223372036854775808) / (256 ^ (7 - k) : Nat)) % 256).toNat
def be8 (n : Int) : List UInt8 := (List.range 8).map (byteAt n)

theorem byteAt_toNat (n : Int) (k : Nat) : ((byteAt n k).toNat : Int) = ((n + 9223372036854775808) / (256 ^ (7 - k) : Nat)) % 256 := by
  unfold byteAt
  have h : 0 ≤ ((n + 9223372036854775808) / ((256 ^ (7 - k) : Nat) : Int)) % 256 := Int.emod_nonneg _ (by decide)
  have h2 : ((n + 9223372036854775808) / ((256 ^ (7 - k) : Nat) : Int)) % 256 < 256 := Int.emod_lt_of_pos _ (by decide)
  generalize ((n + 9223372036854775808) / ((256 ^ (7 - k) : Nat) : Int)) % 256 = x at *
  simp only [UInt8.toNat_ofNat']
  omega

theorem rbyte0 (n : Int) : bits .xor .u8 (bits .and .i64 (n / 72057594037927936) 255 % 256) 128 = ((byteAt n 0).toNat : Int) := by
  rw [byteAt_toNat, i64_and255, u8_xor128 _ (by omega) (by omega)]
  show _ = ((n + 9223372036854775808) / 72057594037927936) % 256
  omega
theorem rbyte1 (n : Int) : bits .and .i64 (n / 281474976710656) 255 % 256 = ((byteAt n 1).toNat : Int) := by
  rw [byteAt_toNat, i64_and255]
  show _ = ((n + 9223372036854775808) / 281474976710656) % 256
  omega
theorem rbyte2 (n : Int) : bits .and .i64 (n / 1099511627776) 255 % 256 = ((byteAt n 2).toNat : Int) := by
  rw [byteAt_toNat, i64_and255]
  show _ = ((n + 9223372036854775808) / 1099511627776) % 256
  omega
theorem rbyte3 (n : Int) : bits .and .i64 (n / 4294967296) 255 % 256 = ((byteAt n 3).toNat : Int) := by
  rw [byteAt_toNat, i64_and255]
  show _ = ((n + 9223372036854775808) / 4294967296) % 256
  omega
theorem rbyte4 (n : Int) : bits .and .i64 (n / 16777216) 255 % 256 = ((byteAt n 4).toNat : Int) := by
  rw [byteAt_toNat, i64_and255]
  show _ = ((n + 9223372036854775808) / 16777216) % 256
  omega
theorem rbyte5 (n : Int) : bits .and .i64 (n / 65536) 255 % 256 = ((byteAt n 5).toNat : Int) := by
  rw [byteAt_toNat, i64_and255]
  show _ = ((n + 9223372036854775808) / 65536) % 256
  omega
theorem rbyte6 (n : Int) : bits .and .i64 (n / 256) 255 % 256 = ((byteAt n 6).toNat : Int) := by
  rw [byteAt_toNat, i64_and255]
  show _ = ((n + 9223372036854775808) / 256) % 256
  omega
theorem rbyte7 (n : Int) : bits .and .i64 n 255 % 256 = ((byteAt n 7).toNat : Int) := by
  rw [byteAt_toNat, i64_and255]
  show _ = ((n + 9223372036854775808) / 1) % 256
  omega

/-- What the program holds: uint64(n) with the highest bit turned. -/
def top (n : Int) : Int := n + 9223372036854775808
theorem top_eq (n : Int) (h : -9223372036854775808 ≤ n ∧ n ≤ 9223372036854775807) : bits .xor .u64 (n % 18446744073709551616) 9223372036854775808 = top n := by
  rw [u64_xor_top _ (by omega) (by omega)]
  unfold top
  omega
theorem top_eq' (n : Int) (h : -9223372036854775808 ≤ n ∧ n ≤ 9223372036854775807) : bits .xor .u64 (IntKind.u64.wrap n) 9223372036854775808 = top n := by
  rw [IntKind.wrap_u64]; exact top_eq n h
theorem top_pos (n : Int) (h : -9223372036854775808 ≤ n ∧ n ≤ 9223372036854775807) : 0 ≤ top n := by unfold top; omega
theorem top_bd (n : Int) (h : -9223372036854775808 ≤ n ∧ n ≤ 9223372036854775807) : 0 ≤ top n ∧ top n < 18446744073709551616 := by
  unfold top; omega
theorem be8_take_succ (n : Int) (j : Nat) (h : j < 8) : (be8 n).take (j + 1) = (be8 n).take j ++ [byteAt n j] := by
  rw [List.take_succ_eq_append_getElem (by simp [be8]; omega)]
  simp [be8]
theorem be8_length (n : Int) : (be8 n).length = 8 := by simp [be8]
theorem pbyte0 (n : Int) : top n / 72057594037927936 % 256 = ((byteAt n 0).toNat : Int) := by
  rw [byteAt_toNat]
  show _ = ((n + 9223372036854775808) / 72057594037927936) % 256
  unfold top
  omega
theorem pbyte1 (n : Int) : top n / 281474976710656 % 256 = ((byteAt n 1).toNat : Int) := by
  rw [byteAt_toNat]
  show _ = ((n + 9223372036854775808) / 281474976710656) % 256
  unfold top
  omega
theorem pbyte2 (n : Int) : top n / 1099511627776 % 256 = ((byteAt n 2).toNat : Int) := by
  rw [byteAt_toNat]
  show _ = ((n + 9223372036854775808) / 1099511627776) % 256
  unfold top
  omega
theorem pbyte3 (n : Int) : top n / 4294967296 % 256 = ((byteAt n 3).toNat : Int) := by
  rw [byteAt_toNat]
  show _ = ((n + 9223372036854775808) / 4294967296) % 256
  unfold top
  omega
theorem pbyte4 (n : Int) : top n / 16777216 % 256 = ((byteAt n 4).toNat : Int) := by
  rw [byteAt_toNat]
  show _ = ((n + 9223372036854775808) / 16777216) % 256
  unfold top
  omega
theorem pbyte5 (n : Int) : top n / 65536 % 256 = ((byteAt n 5).toNat : Int) := by
  rw [byteAt_toNat]
  show _ = ((n + 9223372036854775808) / 65536) % 256
  unfold top
  omega
theorem pbyte6 (n : Int) : top n / 256 % 256 = ((byteAt n 6).toNat : Int) := by
  rw [byteAt_toNat]
  show _ = ((n + 9223372036854775808) / 256) % 256
  unfold top
  omega
theorem pbyte7 (n : Int) : top n % 256 = ((byteAt n 7).toNat : Int) := by
  rw [byteAt_toNat]
  show _ = ((n + 9223372036854775808) / 1) % 256
  unfold top
  omega
end Go.Proofs.YtdjlbfepddcmeaaGreatDoor
