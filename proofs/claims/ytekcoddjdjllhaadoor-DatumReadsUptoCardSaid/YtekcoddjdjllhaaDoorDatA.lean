/- Data as plain values, and how they lie in memory. -/
import Derived.Test.YtekcoddjdjllhaaDoorChecked
import Derived.WalkKit
import Derived.WalkLawsBesides
import Derived.WalkSpells
import Derived.Outline
import Derived.Handy
import Derived.BigQuiet
import Derived.Deep.QuietTactic
import Derived.BigRegion
import Derived.Deep.Light
import Derived.Lib.Strings
import Derived.Lib.Hide
namespace Go.Proofs.YtekcoddjdjllhaaDoor
open Go.RowKit

/-- A datum as a value. -/
abbrev dv (k n : Int) (s : ByteArray) (a : Option Addr) (l c : Nat) : Value := .agg #[.int .i64 k, .int .i64 n, .string s, .slice a l c]

/-- An item of a list: of its own list the length alone. -/
structure It where
  k : Int
  n : Int
  s : ByteArray
  ln : Nat

structure Da where
  k : Int
  n : Int
  s : ByteArray
  l : List It

/-- A number of 64 bits. -/
def In64 (n : Int) : Prop := -9223372036854775808 ≤ n ∧ n ≤ 9223372036854775807

/-- Items in a row, four cells each. -/
def RowIs (w : World) (a : Option Addr) (l : List It) : Prop :=
  l = [] ∨ ∃ b off, a = some ⟨b, off, none⟩ ∧ ∀ i (h : i < l.length),
    w.cell? ⟨b, off + i * 4, none⟩ = some (.int .i64 l[i].k) ∧ w.cell? ⟨b, off + i * 4 + 1, none⟩ = some (.int .i64 l[i].n) ∧
    w.cell? ⟨b, off + i * 4 + 2, none⟩ = some (.string l[i].s) ∧ (∃ a' c', w.cell? ⟨b, off + i * 4 + 3, none⟩ = some (.slice a' l[i].ln c')) ∧ l[i].ln ≤ 140737488351232 ∧ l[i].s.size ≤ 140737488351232 ∧ In64 l[i].n

theorem RowIs.below {w w1 : World} {a : Option Addr} {l : List It} (h : RowIs w a l) (hb : Below w.heap.size w w1) : RowIs w1 a l := by
  rcases h with h | ⟨b, off, ha, h⟩
  · exact .inl h
  · refine .inr ⟨b, off, ha, fun i hi => ?_⟩
    obtain ⟨h0, h1, h2, ⟨a', c', h3⟩, h4⟩ := h i hi
    exact ⟨(hb.cell (World.block_lt_of_cell? w _ h0)).trans h0, (hb.cell (World.block_lt_of_cell? w _ h1)).trans h1,
      (hb.cell (World.block_lt_of_cell? w _ h2)).trans h2, ⟨a', c', (hb.cell (World.block_lt_of_cell? w _ h3)).trans h3⟩, h4⟩

theorem RowIs.at_ {w : World} {a : Option Addr} {l : List It} (h : RowIs w a l) (k : Nat) (hk : k < l.length) :
    ∃ b off a' c', a = some ⟨b, off, none⟩ ∧ w.cell? ⟨b, off + k * 4, none⟩ = some (.int .i64 l[k].k) ∧ w.cell? ⟨b, off + k * 4 + 1, none⟩ = some (.int .i64 l[k].n) ∧
    w.cell? ⟨b, off + k * 4 + 2, none⟩ = some (.string l[k].s) ∧ w.cell? ⟨b, off + k * 4 + 3, none⟩ = some (.slice a' l[k].ln c') ∧ l[k].ln ≤ 140737488351232 ∧ l[k].s.size ≤ 140737488351232 ∧ In64 l[k].n := by
  rcases h with h | ⟨b, off, ha, h⟩
  · subst h; simp at hk
  · obtain ⟨h0, h1, h2, ⟨a', c', h3⟩, h4⟩ := h k hk
    exact ⟨b, off, a', c', ha, h0, h1, h2, h3, h4⟩

def simpleB (k n : Int) (s : ByteArray) (l : Nat) : Bool := decide (l = 0) && ((decide (k = 1) && s.toList.isEmpty) || (decide (k = 2) && decide (n = 0) && decide (s.size ≤ 32)))

set_option maxHeartbeats 400000 in
theorem simple_any (k n : Int) (s : ByteArray) (a : Option Addr) (l c : Nat) (w : World) :
    Calls Tryd.prog 45 #[dv k n s a l c] w fun e w' => e = .returned (.bool (simpleB k n s l)) ∧ Below w.heap.size w w' := by
  go_enter Tryd.func45, Tryd.ntmps45
  go_wp2
  all_goals (go_ret; refine ⟨?_, (Below.refl _ _).alloc (Nat.le_refl _) _⟩; go_light; simp_all [simpleB]; try omega)

def It.may (x : It) : Bool := simpleB x.k x.n x.s x.ln

/-- May a datum be? -/
def Da.may (d : Da) : Bool :=
  if d.k = 3 then decide (d.n = 0) && d.s.toList.isEmpty && decide (d.l.length ≤ 8) && d.l.all It.may else simpleB d.k d.n d.s d.l.length

theorem bcell {W w1 : World} (hb : Below W.heap.size W w1) : (∀ b o, b < W.heap.size → w1.cell? ⟨b, o, none⟩ = W.cell? ⟨b, o, none⟩) ∧ (∀ b o, b < W.heap.size → w1.frozen? ⟨b, o, none⟩ = W.frozen? ⟨b, o, none⟩) :=
  ⟨fun b o h => hb.cell (p := ⟨b, o, none⟩) h, fun b o h => hb.frozen (p := ⟨b, o, none⟩) h⟩

theorem ret_val {a b : Value} (h : a = b) : Ending.returned a = .returned b := by rw [h]
theorem ret_bool {a b : Bool} (h : a = b) : Ending.returned (.bool a) = .returned (.bool b) := by rw [h]
theorem ret_int {k : IntKind} {a b : Int} (h : a = b) : Ending.returned (.int k a) = .returned (.int k b) := by rw [h]
theorem ret_str {a b : ByteArray} (h : a = b) : Ending.returned (.string a) = .returned (.string b) := by rw [h]

theorem isEmpty_of {s : ByteArray} (h : s.toList = []) : s = ⟨#[]⟩ := by
  rw [Go.Lib.toList_data] at h
  obtain ⟨d⟩ := s
  simp at h
  subst h; rfl

theorem all_take_succ {α : Type} (l : List α) (p : α → Bool) (k : Nat) (h : k < l.length) : (l.take (k + 1)).all p = ((l.take k).all p && p l[k]) := by
  rw [List.take_succ_eq_append_getElem h, List.all_append]; simp

theorem all_false_of {α : Type} (l : List α) (p : α → Bool) (k : Nat) (h : k < l.length) (hp : p l[k] = false) : l.all p = false := by
  rw [List.all_eq_false]; exact ⟨_, List.getElem_mem h, by simp [hp]⟩

theorem may_list {l : List It} (h8 : l.length ≤ 8) (s : ByteArray) (hs : s.toList = []) : (Da.mk 3 0 s l).may = l.all It.may := by
  simp [Da.may, hs, h8]
theorem may_long {l : List It} (h8 : ¬ l.length ≤ 8) (n : Int) (s : ByteArray) : (Da.mk 3 n s l).may = false := by
  simp [Da.may, h8]

set_option maxHeartbeats 400000 in
theorem rmay_any (d : Da) (a : Option Addr) (c : Nat) (w : World) (hr : RowIs w a d.l) (hs : d.s.size ≤ 140737488351232) (hl : d.l.length ≤ 140737488351232) :
    Calls Tryd.prog 30 #[dv d.k d.n d.s a d.l.length c] w fun e w' => e = .returned (.bool d.may) ∧ Below w.heap.size w w' := by
  obtain ⟨k, n, s, l⟩ := d
  simp only at *
  have hB := (Below.refl w.heap.size w).alloc (Nat.le_refl _) (.cells #[.int .i64 k, .int .i64 n, .string s, .slice a l.length c] 24)
  by_cases hk : k = 3
  · subst hk
    by_cases hn : n = 0
    · subst hn
      by_cases he : s.toList = []
      · obtain rfl := isEmpty_of he
        by_cases h8 : l.length ≤ 8
        · have h8' : decide ((8 : Int) < (l.length : Int)) = false := by simp; omega
          have HM := Lib.hid (may_list h8 _ he)
          go_enter Tryd.func30, Tryd.ntmps30
          go_wp2
          go_loopw [3] (fun i wr => ∃ j : Nat, j ≤ l.length ∧ i = .int .i64 j ∧ (l.take j).all It.may = true ∧ Below w.heap.size w wr ∧
              wr.cell? ⟨w.heap.size, 3, none⟩ = some (.slice a l.length c) ∧ w.heap.size < wr.heap.size) (fun i _ => l.length - (intOf i).toNat)
          case atStart => exact ⟨0, Nat.zero_le _, rfl, rfl, hB, by go_simp, by simp⟩
          case round =>
            obtain ⟨j, hj, rfl, hall, hb, hc3, hz⟩ := hrel
            by_cases hlt : j < l.length
            · obtain ⟨b, off, a', c', rfl, g0, g1, g2, g3, _⟩ := (hr.below hb).at_ j hlt
              by_cases hm : (l[j]).may = true
              · have hm' : simpleB l[j].k l[j].n l[j].s l[j].ln = true := hm
                go_wp2_with (go_at_call 45; refine (simple_any _ _ _ _ _ _ _).mono ?_; rintro e w' ⟨rfl, hb'⟩)
                go_roundw
                case rel => exact ⟨j + 1, by omega, by go_num, by rw [all_take_succ _ _ _ hlt, hall, hm]; rfl, hb.trans (hb'.mono (by omega)), (hb'.cell (p := ⟨w.heap.size, 3, none⟩) hz).trans hc3, by have := hb'.size; omega⟩
                case measure => simp [intOf]; omega
              · have hm' : simpleB l[j].k l[j].n l[j].s l[j].ln = false := by simpa [It.may] using hm
                go_wp2_with (go_at_call 45; refine (simple_any _ _ _ _ _ _ _).mono ?_; rintro e w' ⟨rfl, hb'⟩)
                go_ret
                exact ⟨ret_bool (by rw [HM.out, all_false_of l _ j hlt (by simpa using hm)]), hb.trans (hb'.mono (by omega))⟩
            · go_wp2
              go_ret
              exact ⟨ret_bool (by rw [HM.out, ← List.take_of_length_le (show l.length ≤ j by omega), hall]), hb⟩
        · have h8' : decide ((8 : Int) < (l.length : Int)) = true := by simp; omega
          have HM := Lib.hid (may_long (n := 0) (s := ⟨#[]⟩) h8)
          go_enter Tryd.func30, Tryd.ntmps30
          go_wp2
          go_ret
          exact ⟨ret_bool (by rw [HM.out]), hB⟩
      · have HM := Lib.hid (show (Da.mk 3 0 s l).may = false by simp [Da.may, he])
        go_enter Tryd.func30, Tryd.ntmps30
        go_wp2
        go_ret
        exact ⟨ret_bool (by rw [HM.out]), hB⟩
    · have HM := Lib.hid (show (Da.mk 3 n s l).may = false by simp [Da.may, hn])
      go_enter Tryd.func30, Tryd.ntmps30
      go_wp2
      go_ret
      exact ⟨ret_bool (by rw [HM.out]), hB⟩
  · have HM := Lib.hid (show (Da.mk k n s l).may = simpleB k n s l.length by simp [Da.may, hk])
    go_enter Tryd.func30, Tryd.ntmps30
    go_wp2_with (go_at_call 45; refine (simple_any _ _ _ _ _ _ _).mono ?_; rintro e w' ⟨rfl, hb'⟩)
    go_ret
    exact ⟨ret_bool (by rw [HM.out]), hB.trans (hb'.mono (by simp))⟩

theorem rcheck_any (d : Da) (a : Option Addr) (c : Nat) (w : World) (hr : RowIs w a d.l) (hs : d.s.size ≤ 140737488351232) (hl : d.l.length ≤ 140737488351232) :
    Calls Tryd.prog 22 #[dv d.k d.n d.s a d.l.length c] w fun e w' => e = .returned (.int .i64 (if d.may then 0 else 11)) ∧ Below w.heap.size w w' := by
  have hB := (Below.refl w.heap.size w).alloc (Nat.le_refl _) (.cells #[.int .i64 d.k, .int .i64 d.n, .string d.s, .slice a d.l.length c] 24)
  by_cases hm : d.may = true
  all_goals
    go_enter Tryd.func22, Tryd.ntmps22
    go_wp2_with (go_at_call 30; refine (rmay_any d a c _ (hr.below (by assumption)) hs hl).mono ?_; rintro e w' ⟨rfl, hb'⟩)
    go_ret
    exact ⟨rfl, hB.trans (hb'.mono (by simp))⟩

end Go.Proofs.YtekcoddjdjllhaaDoor
