/- datum.may, Check; the order. The bytes of data. What the calls know of the library's variables. datum.encode. datum.encode of whatever may be; Bytes. A bitmap index: a key's bytes; where a bit stands; a row of bits in memory. -/
import Derived.Test.YtoejgkcaamkanaaGreatDoorQ13
import Derived.Test.YtoejgkcaamkanaaGreatDoorShelf
import Derived.Test.YtoejgkcaamkanaaGreatDoorQ01
import Derived.Lib.Replace
import Derived.Lib.SplitLaws
import Derived.WalkSmall
import Derived.Lib.LaidTab
set_option linter.unusedVariables false
set_option linter.unusedSimpArgs false
namespace Go.Proofs.YtoejgkcaamkanaaGreatDoor
open Go.RowKit

/-- A predicate on items, as a closure: in every later world it answers 'p'. -/
def PredIt (f : Nat) (lb : Array Value) (p : It → Bool) (w : World) : Prop :=
  ∀ (W : World) (x : It) (a : Option Addr) (c : Nat), Below w.heap.size w W → w.heap.size ≤ W.heap.size → Calls Tryz.prog f (#[dv x.k x.n x.s a x.ln c] ++ lb) W fun e w' => e = .returned (.bool (p x)) ∧ Below W.heap.size W w'

theorem any_take_succ {α : Type} (l : List α) (p : α → Bool) (k : Nat) (h : k < l.length) : (l.take (k + 1)).any p = ((l.take k).any p || p l[k]) := by
  rw [List.take_succ_eq_append_getElem h, List.any_append]; simp

theorem any_true_of {α : Type} (l : List α) (p : α → Bool) (k : Nat) (h : k < l.length) (hp : p l[k] = true) : l.any p = true := by
  rw [List.any_eq_true]; exact ⟨_, List.getElem_mem h, hp⟩

def idxOr (b : Bool) (e : Ending) : Prop := if b = true then ∃ n : Int, 0 ≤ n ∧ e = .returned (.int .i64 n) else e = .returned (.int .i64 (-1))

set_option maxHeartbeats 1000000 in
theorem indexFunc_it (f : Nat) (lb : Array Value) (p : It → Bool) (l : List It) (a : Option Addr) (c : Nat) (w : World) (hr : RowIs w a l) (hl : l.length ≤ 140737488351232)
    (hp : PredIt f lb p w) (eg : ∀ args w, (callFunc f args).run Tryz.prog w = .ok (.enter f args) w) :
    Calls Tryz.prog 205 #[.slice a l.length c, .func (.func f) #[] lb] w fun e w' => idxOr (l.any p) e ∧ Below w.heap.size w w' := by
  go_enter Tryz.func205, Tryz.ntmps205
  go_wp2
  go_loopw [5, 8] (fun _ i wr => ∃ j : Nat, j ≤ l.length ∧ i = .int .i64 j ∧ (l.take j).any p = false ∧ Below w.heap.size w wr) (fun _ i _ => l.length - (intOf i).toNat)
  case atStart => exact ⟨0, Nat.zero_le _, rfl, rfl, Below.refl _ _⟩
  case round =>
    obtain ⟨j, hj, rfl, hall, hb⟩ := hrel
    have HA := Lib.hid hall
    clear hall
    by_cases hlt : j < l.length
    · obtain ⟨b, off, a', c', rfl, g0, g1, g2, g3, _⟩ := (hr.below hb).at_ j hlt
      have HP := Lib.hid hp
      clear hp
      go_wp2_with (go_at_fn f; refine (HP.out wr l[j] a' c' hb hb.size).mono ?_; rintro e w' ⟨rfl, hb'⟩)
      all_goals first
        | (go_roundw
           case rel => exact ⟨j + 1, by omega, by go_num, by rw [any_take_succ _ _ _ hlt, HA.out, show p l[j] = false by assumption]; rfl, hb.trans (hb'.mono hb.size)⟩
           case measure => simp [intOf]; omega)
        | (go_ret
           refine ⟨?_, hb.trans (hb'.mono hb.size)⟩
           rw [any_true_of l p j hlt (by assumption)]
           exact ⟨j, by omega, rfl⟩)
    · go_wp2
      go_ret
      refine ⟨?_, hb⟩
      have : l.any p = false := by rw [← HA.out, List.take_of_length_le (by omega)]
      rw [this]; rfl

theorem not_any_not {α : Type} (l : List α) (p : α → Bool) : (!l.any fun x => !p x) = l.all p := by
  induction l with
  | nil => rfl
  | cons x l ih => simp only [List.any_cons, List.all_cons, Bool.not_or, Bool.not_not, ih]

theorem containsFunc_it (f : Nat) (lb : Array Value) (p : It → Bool) (l : List It) (a : Option Addr) (c : Nat) (w : World) (hr : RowIs w a l) (hl : l.length ≤ 140737488351232)
    (hp : PredIt f lb p w) (eg : ∀ args w, (callFunc f args).run Tryz.prog w = .ok (.enter f args) w) :
    Calls Tryz.prog 194 #[.slice a l.length c, .func (.func f) #[] lb] w fun e w' => e = .returned (.bool (l.any p)) ∧ Below w.heap.size w w' := by
  have HP := Lib.hid hp
  clear hp
  cases hq : l.any p with
  | true =>
    go_enter Tryz.func194, Tryz.ntmps194
    go_wp2_with fail
    refine (indexFunc_it f lb p l a c _ hr hl HP.out eg).mono ?_
    rintro e w' ⟨he, hb⟩
    rw [hq] at he
    obtain ⟨n, hn, rfl⟩ := he
    go_wp2
    go_ret
    exact ⟨ret_bool (by simp), hb⟩
  | false =>
    go_enter Tryz.func194, Tryz.ntmps194
    go_wp2_with fail
    refine (indexFunc_it f lb p l a c _ hr hl HP.out eg).mono ?_
    rintro e w' ⟨he, hb⟩
    rw [hq] at he
    obtain rfl : e = .returned (.int .i64 (-1)) := he
    go_wp2
    go_ret
    exact ⟨rfl, hb⟩

/-- may(x, 0): no list. -/
theorem may0_any (k n : Int) (s : ByteArray) (a : Option Addr) (l c : Nat) (w : World) :
    Calls Tryz.prog 166 #[dv k n s a l c, .int .i64 0] w fun e w' => e = .returned (.bool (simpleB k n s l)) ∧ Below w.heap.size w w' := by
  by_cases h1 : k = 1
  · subst h1
    by_cases h2 : s.toList = []
    all_goals
      go_enter Tryz.func166, Tryz.ntmps166
      go_wp2
      all_goals (go_ret; refine ⟨ret_bool ?_, by go_grown⟩; go_light; (by_cases hl0 : l = 0 <;> simp_all [simpleB]); try omega)
  · by_cases h2 : k = 2
    · subst h2
      by_cases h3 : n = 0
      all_goals
        go_enter Tryz.func166, Tryz.ntmps166
        go_wp2
        all_goals (go_ret; refine ⟨ret_bool ?_, by go_grown⟩; go_light; (by_cases hl0 : l = 0 <;> simp_all [simpleB]); try omega)
    · have HS := Lib.hid (show false = simpleB k n s l by simp [simpleB, h1, h2])
      by_cases h3 : k = 3
      · subst h3
        go_enter Tryz.func166, Tryz.ntmps166
        go_wp2
        go_ret
        exact ⟨ret_bool HS.out, by go_grown⟩
      · go_enter Tryz.func166, Tryz.ntmps166
        go_wp2
        go_ret
        exact ⟨ret_bool HS.out, by go_grown⟩

set_option maxHeartbeats 1000000 in
/-- The closure in may: not may(x, deep - 1), at deep = 1. -/
theorem mayC_any (k n : Int) (s : ByteArray) (a : Option Addr) (l c : Nat) (w : World) (b : Nat) (hc : w.cell? ⟨b, 0, none⟩ = some (.int .i64 1)) :
    Calls Tryz.prog 195 #[dv k n s a l c, .pointer (some ⟨b, 0, none⟩)] w fun e w' => e = .returned (.bool (!simpleB k n s l)) ∧ Below w.heap.size w w' := by
  have hb : b < w.heap.size := World.block_lt_of_cell? w _ hc
  go_enter Tryz.func195, Tryz.ntmps195
  go_wp2_with (go_at_call 166; refine (may0_any _ _ _ _ _ _ _).mono ?_; rintro e w' ⟨rfl, hb'⟩)
  go_ret
  exact ⟨rfl, ((Below.refl _ _).alloc (Nat.le_refl _) _).trans (hb'.mono (by simp))⟩

set_option maxHeartbeats 1000000 in
/-- may(d, 1). -/
theorem may_any (d : Da) (a : Option Addr) (c : Nat) (w : World) (hr : RowIs w a d.l) (hl : d.l.length ≤ 140737488351232) :
    Calls Tryz.prog 166 #[dv d.k d.n d.s a d.l.length c, .int .i64 1] w fun e w' => e = .returned (.bool d.may) ∧ Below w.heap.size w w' := by
  obtain ⟨k, n, s, l⟩ := d
  simp only at *
  by_cases h3 : k = 3
  · subst h3
    by_cases hn : n = 0
    · subst hn
      by_cases he : s.toList = []
      · obtain rfl := isEmpty_of he
        by_cases h8 : l.length ≤ 8
        · have h8' : decide ((l.length : Int) ≤ (8 : Int)) = true := by simp; omega
          have HM := Lib.hid (may_list h8 _ he)
          have HE := Lib.hid he
          clear he
          go_enter Tryz.func166, Tryz.ntmps166
          go_wp2_with fail
          refine (containsFunc_it _ _ (fun x => !x.may) l a c _ (hr.below (by go_grown)) hl ?_ (fun _ _ => by kernel_rfl)).mono ?_
          · intro W x a' c' hb hz
            refine (mayC_any x.k x.n x.s a' x.ln c' W (w.heap.size + 1) ?_).mono fun e w' h => h
            rw [hb.cell (p := ⟨w.heap.size + 1, 0, none⟩) (by simp)]
            go_simp
          · rintro e w' ⟨rfl, hb⟩
            go_wp2
            go_ret
            refine ⟨ret_bool ?_, ((Below.refl w.heap.size w).alloc (Nat.le_refl _) _).alloc (by simp) _ |>.trans (hb.mono (by simp; omega))⟩
            rw [HM.out]
            exact (not_any_not l It.may)
        · have h8' : decide ((l.length : Int) ≤ (8 : Int)) = false := by simp; omega
          have HM := Lib.hid (may_long (n := 0) (s := ⟨#[]⟩) h8)
          go_enter Tryz.func166, Tryz.ntmps166
          go_wp2
          go_ret
          exact ⟨ret_bool (by rw [HM.out]), by go_grown⟩
      · have HM := Lib.hid (show (Da.mk 3 0 s l).may = false by simp [Da.may, he])
        go_enter Tryz.func166, Tryz.ntmps166
        go_wp2
        go_ret
        exact ⟨ret_bool (by rw [HM.out]), by go_grown⟩
    · have HM := Lib.hid (show (Da.mk 3 n s l).may = false by simp [Da.may, hn])
      go_enter Tryz.func166, Tryz.ntmps166
      go_wp2
      go_ret
      exact ⟨ret_bool (by rw [HM.out]), by go_grown⟩
  · have HM := Lib.hid (show (Da.mk k n s l).may = simpleB k n s l.length by simp [Da.may, h3])
    by_cases h1 : k = 1
    · subst h1
      by_cases h2 : s.toList = []
      all_goals
        go_enter Tryz.func166, Tryz.ntmps166
        go_wp2
        all_goals (go_ret; refine ⟨ret_bool (Eq.trans ?_ HM.out.symm), by go_grown⟩; go_light; (by_cases hl0 : l.length = 0 <;> simp_all [simpleB]); try omega)
    · by_cases h2 : k = 2
      · subst h2
        by_cases h4 : n = 0
        all_goals
          go_enter Tryz.func166, Tryz.ntmps166
          go_wp2
          all_goals (go_ret; refine ⟨ret_bool (Eq.trans ?_ HM.out.symm), by go_grown⟩; go_light; (by_cases hl0 : l.length = 0 <;> simp_all [simpleB]); try omega)
      · have HS := Lib.hid (show false = simpleB k n s l.length by simp [simpleB, h1, h2])
        go_enter Tryz.func166, Tryz.ntmps166
        go_wp2
        go_ret
        exact ⟨ret_bool (HS.out.trans HM.out.symm), by go_grown⟩

theorem check_any (d : Da) (a : Option Addr) (c : Nat) (w : World) (hr : RowIs w a d.l) (hl : d.l.length ≤ 140737488351232) :
    Calls Tryz.prog 120 #[dv d.k d.n d.s a d.l.length c] w fun e w' => e = .returned (.int .i64 (if d.may then 0 else 11)) ∧ Below w.heap.size w w' := by
  by_cases hm : d.may = true
  all_goals
    go_enter Tryz.func120, Tryz.ntmps120
    go_wp2_with (go_at_call 166; refine (may_any d a c _ (hr.below (by go_grown)) hl).mono ?_; rintro e w' ⟨rfl, hb'⟩)
    go_ret
    exact ⟨rfl, ((Below.refl w.heap.size w).alloc (Nat.le_refl _) _).trans (hb'.mono (by simp))⟩
end Go.Proofs.YtoejgkcaamkanaaGreatDoor

namespace Go.Proofs.YtoejgkcaamkanaaGreatDoor
open Go.RowKit

theorem len9 (l : List UInt8) (n : Int) (j : Nat) : (l ++ [1] ++ (be8 n).take j).length ≤ l.length + 9 := by
  have : ((be8 n).take j).length ≤ 8 := by rw [List.length_take, be8_length]; omega
  simp only [List.length_append, List.length_cons, List.length_nil]; omega

theorem be8_step {w : World} {B : Nat} {v : Value} {l : List UInt8} {n : Int} {j : Nat} (hj : j < 8) (h : Buf w B v (l ++ [1] ++ (be8 n).take j ++ [byteAt n j])) : Buf w B v (l ++ [1] ++ (be8 n).take (j + 1)) := by
  rw [be8_take_succ n j hj, ← List.append_assoc]; exact h

def PutPost (B : Nat) (w : World) (l : List UInt8) (e : Ending) (w' : World) : Prop := ∃ v', e = .returned v' ∧ Buf w' B v' l ∧ Below B w w'

/-- A byte 255 behind each byte 0. -/
def esc : List UInt8 → List UInt8
  | [] => []
  | b :: l => (if b = 0 then [0, 255] else [b]) ++ esc l
theorem esc_append (l m : List UInt8) : esc (l ++ m) = esc l ++ esc m := by
  induction l with
  | nil => rfl
  | cons b l ih => simp only [List.cons_append, esc, ih, List.append_assoc]
theorem esc_snoc (l : List UInt8) (b : UInt8) : esc (l ++ [b]) = esc l ++ (if b = 0 then [0, 255] else [b]) := by
  rw [esc_append]; simp [esc]
theorem esc_len (l : List UInt8) : (esc l).length ≤ 2 * l.length := by
  induction l with
  | nil => simp [esc]
  | cons b l ih =>
    simp only [esc, List.length_append, List.length_cons]
    split <;> simp <;> omega
theorem take_snoc (s : ByteArray) (k : Nat) (h : k < s.size) : s.data.toList.take (k + 1) = s.data.toList.take k ++ [s[k]] := by
  rw [List.take_succ_eq_append_getElem (by simpa using h)]; rfl
theorem byte_zero (b : UInt8) : ((b.toNat : Int) == 0) = decide (b = 0) := by
  by_cases h : b = 0
  · subst h; rfl
  · have : ¬ b.toNat = 0 := fun e => h (UInt8.toNat_inj.1 (by simpa using e))
    simp [h]; omega

theorem esc_take_len (s : ByteArray) (hs : s.size ≤ 32) (l : List UInt8) (j : Nat) : (l ++ [2] ++ esc (s.data.toList.take j)).length ≤ l.length + 65 := by
  have h1 := esc_len (s.data.toList.take j)
  have h2 : (s.data.toList.take j).length ≤ 32 := by
    rw [List.length_take]
    have : s.data.toList.length = s.size := by simp
    omega
  simp only [List.length_append, List.length_cons, List.length_nil]; omega

theorem esc_step0 {w : World} {B : Nat} {v : Value} {l : List UInt8} {s : ByteArray} {j : Nat} (hj : j < s.size) (hb : s[j] = 0) (h : Buf w B v (l ++ [2] ++ esc (s.data.toList.take j) ++ [s[j]] ++ [255])) : Buf w B v (l ++ [2] ++ esc (s.data.toList.take (j + 1))) := by
  rw [take_snoc s j hj, esc_snoc, if_pos hb]
  rw [hb] at h
  simpa using h
theorem esc_step1 {w : World} {B : Nat} {v : Value} {l : List UInt8} {s : ByteArray} {j : Nat} (hj : j < s.size) (hb : ¬ s[j] = 0) (h : Buf w B v (l ++ [2] ++ esc (s.data.toList.take j) ++ [s[j]])) : Buf w B v (l ++ [2] ++ esc (s.data.toList.take (j + 1))) := by
  rw [take_snoc s j hj, esc_snoc, if_neg hb]
  simpa using h

end Go.Proofs.YtoejgkcaamkanaaGreatDoor

namespace Go.Proofs.YtoejgkcaamkanaaGreatDoor
open Go.RowKit

theorem replaceK_past (old new : List UInt8) (ho : old = [0]) (b : UInt8) (hb : ¬ b = 0) (s : List UInt8) : ∀ k, Lib.replaceK old new k (b :: s) = b :: Lib.replaceK old new k s := by
  subst ho
  intro k
  cases k with
  | zero => rfl
  | succ k =>
    have hp : ([0] : List UInt8).isPrefixOf (b :: s) = false := by
      simp [List.isPrefixOf]; exact fun e => hb e.symm
    have hix : Lib.index (b :: s) [0] = if Lib.index s [0] == -1 then -1 else Lib.index s [0] + 1 := by
      rw [Lib.index, hp]; simp
    by_cases h : Lib.index s [0] = -1
    · rw [Lib.replaceK, Lib.replaceK, hix, h]; simp
    · have hge := Lib.index_ge s [0]
      obtain ⟨i, hi⟩ : ∃ i : Nat, Lib.index s [0] = i := ⟨(Lib.index s [0]).toNat, by omega⟩
      rw [Lib.replaceK_hit [0] new k s i hi, Lib.replaceK_hit [0] new k (b :: s) (i + 1) (by rw [hix, hi, if_neg (by simp)]; omega)]
      simp [List.take_succ_cons, List.drop_succ_cons, Nat.add_right_comm]

theorem replaceK_esc (s : List UInt8) : ∀ k, s.count 0 ≤ k → Lib.replaceK [0] [0, 255] k s = esc s := by
  induction s with
  | nil => intro k _; cases k <;> simp [Lib.replaceK, Lib.index, esc]
  | cons b s ih =>
    intro k hk
    by_cases hb : b = 0
    · subst hb
      obtain ⟨m, rfl⟩ : ∃ m, k = m + 1 := ⟨k - 1, by simp at hk; omega⟩
      rw [Lib.replaceK_hit [0] [0, 255] m (0 :: s) 0 (by rw [Lib.index]; simp [List.isPrefixOf])]
      simp only [List.take_zero, List.nil_append, List.length_cons, List.length_nil, Nat.zero_add, List.drop_succ_cons, List.drop_zero, esc, if_true]
      rw [ih m (by simp at hk; omega)]
    · rw [replaceK_past [0] [0, 255] rfl b hb s k, ih k (by rw [List.count_cons] at hk; omega)]
      simp [esc, hb]

theorem replaceAll_esc (s : List UInt8) : Lib.replaceAll s [0] [0, 255] = esc s := by
  unfold Lib.replaceAll Lib.replace Lib.replaceNum
  rw [if_neg (by decide), if_pos (.inl (by decide)), Lib.count_one]
  exact replaceK_esc s _ (Nat.le_refl _)

/-- What strings.ReplaceAll asks for. -/
structure GlobsM (w : World) : Prop where
  maxlen : ∃ m, w.cell? ⟨0, 0, none⟩ = some (.int .i64 m)

theorem GlobsM.below {w w1 : World} (h : GlobsM w) (hb : Below w.heap.size w w1) : GlobsM w1 := by
  obtain ⟨m, hm⟩ := h.maxlen
  exact { maxlen := ⟨m, (hb.cell (World.block_lt_of_cell? w _ hm)).trans hm⟩ }

theorem GlobsM.belowB {w w1 : World} {B : Nat} (h : GlobsM w) (hb : Below B w w1) (hB : 1 ≤ B) : GlobsM w1 := by
  obtain ⟨m, hm⟩ := h.maxlen
  exact { maxlen := ⟨m, (hb.cell (p := ⟨0, 0, none⟩) (by simp; omega)).trans hm⟩ }
end Go.Proofs.YtoejgkcaamkanaaGreatDoor

namespace Go.Proofs.YtoejgkcaamkanaaGreatDoor
open Go.RowKit

set_option maxRecDepth 100000 in
set_option maxHeartbeats 2000000 in
theorem encode_int (n : Int) (s : ByteArray) (a : Option Addr) (ln c : Nat) (B : Nat) (v : Value) (l : List UInt8) (w : World) (hb : Buf w B v l) (hB : B ≤ w.heap.size) (hlen : l.length ≤ 17592186044416) (hn : -9223372036854775808 ≤ n ∧ n ≤ 9223372036854775807) :
    Calls Tryz.prog 121 #[v, dv 1 n s a ln c] w (PutPost B w (l ++ [1] ++ be8 n)) := by
  go_enter Tryz.func121, Tryz.ntmps121
  go_wp2_with (at_builtin; go_must (refine wp_app1 rfl (.tmp 13) (.tmp 14) rfl B v l rfl (hb.alloc _) 1 1 rfl _ 1 rfl (by simp) (by omega) (by simp; omega) ?_); intro v1 w1 hb1 hbl1 hg1 hz1; have hk1 := (hb.alloc (.cells #[.int .i64 1, .int .i64 n, .string s, .slice a ln c] 34)).keep hg1 (heap_alloc_new w _) rfl; have hcN : w1.cell? ⟨w.heap.size, 1, none⟩ = some (.int .i64 n) := (by rw [Lib.cell_of_heap hk1]; rfl))
  simp only [World.size_alloc] at hz1
  rw [top_eq' n hn]
  have htp := top_pos n hn
  go_loopw [0, 6] (fun o k wr => ∃ j : Nat, j ≤ 8 ∧ k = .int .i64 (56 - 8 * j) ∧ Buf wr B o (l ++ [1] ++ (be8 n).take j) ∧ Below B w wr ∧ w.heap.size < wr.heap.size) (fun _ k _ => (intOf k + 8).toNat)
  case atStart => exact ⟨0, by omega, rfl, by simpa using hb1, ((Below.refl B w).alloc hB _).trans hbl1, by omega⟩
  case round =>
    obtain ⟨j, hj, rfl, hb2, hbl2, hz2⟩ := hrel
    have HL := len9 l n j
    rcases (show j = 0 ∨ j = 1 ∨ j = 2 ∨ j = 3 ∨ j = 4 ∨ j = 5 ∨ j = 6 ∨ j = 7 ∨ j = 8 from by omega) with rfl | rfl | rfl | rfl | rfl | rfl | rfl | rfl | rfl
    · have HB := Lib.hid (pbyte0 n)
      go_wp2_with (at_builtin; go_must (refine wp_app1 rfl (.tmp 24) (.tmp 29) rfl B _ _ rfl hb2 _ (byteAt n 0) HB.out _ 1 rfl (by simp) (by omega) (by omega) ?_); intro v3 w3 hb3 hbl3 hg3 hz3)
      go_roundw
      case rel => exact ⟨1, by omega, by go_num, be8_step (by omega) hb3, hbl2.trans hbl3, by omega⟩
      case measure => simp [intOf]
    · have HB := Lib.hid (pbyte1 n)
      go_wp2_with (at_builtin; go_must (refine wp_app1 rfl (.tmp 24) (.tmp 29) rfl B _ _ rfl hb2 _ (byteAt n 1) HB.out _ 1 rfl (by simp) (by omega) (by omega) ?_); intro v3 w3 hb3 hbl3 hg3 hz3)
      go_roundw
      case rel => exact ⟨2, by omega, by go_num, be8_step (by omega) hb3, hbl2.trans hbl3, by omega⟩
      case measure => simp [intOf]
    · have HB := Lib.hid (pbyte2 n)
      go_wp2_with (at_builtin; go_must (refine wp_app1 rfl (.tmp 24) (.tmp 29) rfl B _ _ rfl hb2 _ (byteAt n 2) HB.out _ 1 rfl (by simp) (by omega) (by omega) ?_); intro v3 w3 hb3 hbl3 hg3 hz3)
      go_roundw
      case rel => exact ⟨3, by omega, by go_num, be8_step (by omega) hb3, hbl2.trans hbl3, by omega⟩
      case measure => simp [intOf]
    · have HB := Lib.hid (pbyte3 n)
      go_wp2_with (at_builtin; go_must (refine wp_app1 rfl (.tmp 24) (.tmp 29) rfl B _ _ rfl hb2 _ (byteAt n 3) HB.out _ 1 rfl (by simp) (by omega) (by omega) ?_); intro v3 w3 hb3 hbl3 hg3 hz3)
      go_roundw
      case rel => exact ⟨4, by omega, by go_num, be8_step (by omega) hb3, hbl2.trans hbl3, by omega⟩
      case measure => simp [intOf]
    · have HB := Lib.hid (pbyte4 n)
      go_wp2_with (at_builtin; go_must (refine wp_app1 rfl (.tmp 24) (.tmp 29) rfl B _ _ rfl hb2 _ (byteAt n 4) HB.out _ 1 rfl (by simp) (by omega) (by omega) ?_); intro v3 w3 hb3 hbl3 hg3 hz3)
      go_roundw
      case rel => exact ⟨5, by omega, by go_num, be8_step (by omega) hb3, hbl2.trans hbl3, by omega⟩
      case measure => simp [intOf]
    · have HB := Lib.hid (pbyte5 n)
      go_wp2_with (at_builtin; go_must (refine wp_app1 rfl (.tmp 24) (.tmp 29) rfl B _ _ rfl hb2 _ (byteAt n 5) HB.out _ 1 rfl (by simp) (by omega) (by omega) ?_); intro v3 w3 hb3 hbl3 hg3 hz3)
      go_roundw
      case rel => exact ⟨6, by omega, by go_num, be8_step (by omega) hb3, hbl2.trans hbl3, by omega⟩
      case measure => simp [intOf]
    · have HB := Lib.hid (pbyte6 n)
      go_wp2_with (at_builtin; go_must (refine wp_app1 rfl (.tmp 24) (.tmp 29) rfl B _ _ rfl hb2 _ (byteAt n 6) HB.out _ 1 rfl (by simp) (by omega) (by omega) ?_); intro v3 w3 hb3 hbl3 hg3 hz3)
      go_roundw
      case rel => exact ⟨7, by omega, by go_num, be8_step (by omega) hb3, hbl2.trans hbl3, by omega⟩
      case measure => simp [intOf]
    · have HB := Lib.hid (pbyte7 n)
      go_wp2_with (at_builtin; go_must (refine wp_app1 rfl (.tmp 24) (.tmp 29) rfl B _ _ rfl hb2 _ (byteAt n 7) HB.out _ 1 rfl (by simp) (by omega) (by omega) ?_); intro v3 w3 hb3 hbl3 hg3 hz3)
      go_roundw
      case rel => exact ⟨8, by omega, by go_num, be8_step (by omega) hb3, hbl2.trans hbl3, by omega⟩
      case measure => simp [intOf]
    · go_wp2
      go_ret
      exact ⟨u0, rfl, by rw [List.take_of_length_le (by rw [be8_length]; omega)] at hb2; exact hb2, hbl2⟩

theorem esc_arr_size (s : ByteArray) (hs : s.size ≤ 32) : (⟨(esc s.data.toList).toArray⟩ : ByteArray).size ≤ 64 := by
  have h1 := esc_len s.data.toList
  have h2 : s.data.toList.length = s.size := by simp
  show (esc s.data.toList).toArray.size ≤ 64
  simp only [List.size_toArray]
  omega

set_option maxRecDepth 100000 in
set_option maxHeartbeats 2000000 in
theorem encode_text (n : Int) (s : ByteArray) (a : Option Addr) (ln c : Nat) (B : Nat) (v : Value) (l : List UInt8) (w : World) (hG : GlobsM w) (hb : Buf w B v l) (hB : B ≤ w.heap.size) (hB8 : 1 ≤ B) (hlen : l.length ≤ 17592186044416) (hs : s.size ≤ 32) :
    Calls Tryz.prog 121 #[v, dv 2 n s a ln c] w (PutPost B w (l ++ [2] ++ esc s.data.toList ++ [0, 0])) := by
  go_enter Tryz.func121, Tryz.ntmps121
  go_wp2_with (at_builtin; go_must (refine wp_app1 rfl (.tmp 33) (.tmp 34) rfl B v l rfl (hb.alloc _) 2 2 rfl _ 1 rfl (by simp) (by omega) (by simp; omega) ?_); intro v1 w1 hb1 hbl1 hg1 hz1; have hk1 := (hb.alloc (.cells #[.int .i64 2, .int .i64 n, .string s, .slice a ln c] 34)).keep hg1 (heap_alloc_new w _) rfl; have hcN : w1.cell? ⟨w.heap.size, 2, none⟩ = some (.string s) := (by rw [Lib.cell_of_heap hk1]; rfl))
  simp only [World.size_alloc] at hz1
  obtain ⟨m, hm⟩ := hG.maxlen
  have hm1 : w1.cell? ⟨0, 0, none⟩ = some (.int .i64 m) := (hbl1.cell (p := ⟨0, 0, none⟩) (by simp; omega)).trans ((((Below.refl w.heap.size w).alloc (Nat.le_refl _) _).cell (World.block_lt_of_cell? w _ hm)).trans hm)
  refine (Tryz.strings_ReplaceAll s ⟨#[0]⟩ ⟨#[0, 255]⟩ m w1 (by omega) hm1 (by decide) (by have := Lib.countB_le ⟨#[0]⟩ (by decide) s.size s (Nat.le_refl _); have e : (⟨#[0, 255]⟩ : ByteArray).size = 2 := rfl; rw [e]; omega)).mono ?_
  rintro e w2 ⟨rfl, hb2⟩
  have hE := Lib.hid (replaceAll_esc s.data.toList)
  have hes := esc_arr_size s hs
  have hEE : (Lib.replaceAll s.data.toList (⟨#[0]⟩ : ByteArray).data.toList (⟨#[0, 255]⟩ : ByteArray).data.toList) = esc s.data.toList := hE.out
  rw [hEE]
  have hz2 := hb2.size
  have hb1' := hb1.later hb2
  clear hm hm1
  generalize hT : (⟨(esc s.data.toList).toArray⟩ : ByteArray) = T at *
  have HT := Lib.hid hT
  clear hT hEE
  go_wp2_with (first
    | (at_builtin; refine wp_appS rfl (.tmp 36) (.tmp 39) rfl B _ _ rfl hb1' T rfl (by simp only [List.length_append, List.length_cons, List.length_nil]; omega) (by omega) ?_; intro v3 w3 hb3 hbl3 hg3)
    | (at_builtin; refine wp_app2 rfl (.tmp 41) (.tmp 42) rfl B _ _ rfl hb3 _ _ 0 0 rfl rfl _ 2 rfl (by simp) (by have : T.data.toList.length = T.size := (by simp); simp only [List.length_append, List.length_cons, List.length_nil]; omega) (by have := hbl3.size; omega) ?_; intro v4 w4 hb4 hbl4 hg4 hz4))
  go_ret
  refine ⟨v4, rfl, ?_, (((((Below.refl B w).alloc hB _).trans hbl1).trans (hb2.mono (by omega))).trans hbl3).trans hbl4⟩
  rw [← HT.out] at hb4
  simpa using hb4
end Go.Proofs.YtoejgkcaamkanaaGreatDoor

namespace Go.Proofs.YtoejgkcaamkanaaGreatDoor
open Go.RowKit

/-- The bytes of what is no list. -/
def enc1 (k n : Int) (s : ByteArray) : List UInt8 := if k = 1 then [1] ++ be8 n else [2] ++ esc s.data.toList ++ [0, 0]
def It.enc (x : It) : List UInt8 := enc1 x.k x.n x.s
/-- The bytes of a datum. -/
def Da.enc (d : Da) : List UInt8 := if d.k = 3 then [3, UInt8.ofNat d.l.length] ++ d.l.flatMap It.enc else enc1 d.k d.n d.s

theorem simple_kinds {k n : Int} {s : ByteArray} {l : Nat} (h : simpleB k n s l = true) : k = 1 ∨ (k = 2 ∧ s.size ≤ 32) := by
  simp only [simpleB, Bool.and_eq_true, Bool.or_eq_true, decide_eq_true_eq] at h
  rcases h.2 with h | h
  · exact .inl h.1
  · exact .inr ⟨h.1.1, h.2⟩

theorem enc1_len {k n : Int} {s : ByteArray} {l : Nat} (h : simpleB k n s l = true) : (enc1 k n s).length ≤ 67 := by
  rcases simple_kinds h with rfl | ⟨rfl, hs⟩
  · simp [enc1, be8_length]
  · have h1 := esc_len s.data.toList
    have h2 : s.data.toList.length = s.size := by simp
    simp only [enc1, List.length_append, List.length_cons, List.length_nil]
    rw [if_neg (by decide)]
    simp only [List.length_append, List.length_cons, List.length_nil]
    omega

theorem encode_simple (k n : Int) (s : ByteArray) (a : Option Addr) (ln c : Nat) (B : Nat) (v : Value) (l : List UInt8) (w : World) (hm : simpleB k n s ln = true) (hn : In64 n) (hG : GlobsM w) (hb : Buf w B v l) (hB : B ≤ w.heap.size) (hB8 : 1 ≤ B) (hlen : l.length ≤ 17592186044416) :
    Calls Tryz.prog 121 #[v, dv k n s a ln c] w (PutPost B w (l ++ enc1 k n s)) := by
  rcases simple_kinds hm with rfl | ⟨rfl, hs⟩
  · have := encode_int n s a ln c B v l w hb hB hlen hn
    rw [List.append_assoc] at this
    exact this
  · have := encode_text n s a ln c B v l w hG hb hB hB8 hlen hs
    rw [List.append_assoc, List.append_assoc] at this
    simpa [enc1] using this

/-- A list's items that may be. -/
theorem may_items {d : Da} (h : d.may = true) (h3 : d.k = 3) : d.n = 0 ∧ d.s = ⟨#[]⟩ ∧ d.l.length ≤ 8 ∧ ∀ j (hj : j < d.l.length), d.l[j].may = true := by
  simp only [Da.may, h3, if_true, Bool.and_eq_true, decide_eq_true_eq, List.isEmpty_iff, List.all_eq_true] at h
  exact ⟨h.1.1.1, isEmpty_of h.1.1.2, h.1.2, fun j hj => h.2 _ (List.getElem_mem hj)⟩

theorem items_len (l : List It) (h : ∀ j (hj : j < l.length), l[j].may = true) (j : Nat) : ((l.take j).flatMap It.enc).length ≤ 67 * l.length := by
  induction l generalizing j with
  | nil => simp
  | cons x l ih =>
    cases j with
    | zero => simp
    | succ j =>
      have h0 : (It.enc x).length ≤ 67 := enc1_len (k := x.k) (n := x.n) (s := x.s) (l := x.ln) (h 0 (by simp))
      have := ih (fun i hi => h (i + 1) (by simp; omega)) j
      simp only [List.take_succ_cons, List.flatMap_cons, List.length_append, List.length_cons]
      omega

theorem items_step {w : World} {B : Nat} {v : Value} {l : List UInt8} {L : List It} {j : Nat} (hj : j < L.length) (h : Buf w B v (l ++ (L.take j).flatMap It.enc ++ L[j].enc)) : Buf w B v (l ++ (L.take (j + 1)).flatMap It.enc) := by
  rw [List.take_succ_eq_append_getElem hj, List.flatMap_append]
  simpa using h

set_option maxRecDepth 100000 in
set_option maxHeartbeats 2000000 in
theorem encode_list (L : List It) (a : Option Addr) (c : Nat) (B : Nat) (v : Value) (l : List UInt8) (w : World) (h8 : L.length ≤ 8) (hm : ∀ j (hj : j < L.length), L[j].may = true) (hG : GlobsM w) (hb : Buf w B v l) (hB : B ≤ w.heap.size) (hB8 : 1 ≤ B)
    (hlen : l.length ≤ 17592186040000) (hr : RowIs w a L) (ha : ∀ b off, 0 < L.length → a = some ⟨b, off, none⟩ → b < B) :
    Calls Tryz.prog 121 #[v, dv 3 0 ⟨#[]⟩ a L.length c] w (PutPost B w (l ++ ([3, UInt8.ofNat L.length] ++ L.flatMap It.enc))) := by
  have hx : IntKind.u8.wrap (L.length : Int) = ((UInt8.ofNat L.length).toNat : Int) := by
    rw [IntKind.wrap_u8', UInt8.toNat_ofNat']; omega
  have hx' : (L.length : Int) = ((UInt8.ofNat L.length).toNat : Int) := by
    rw [UInt8.toNat_ofNat']; omega
  have HX := Lib.hid hx
  have HX' := Lib.hid hx'
  clear hx hx'
  go_enter Tryz.func121, Tryz.ntmps121
  go_wp2_with (at_builtin; go_must (refine wp_app2 rfl (.tmp 46) (.tmp 51) rfl B v l rfl (hb.alloc _) _ _ 3 (UInt8.ofNat L.length) rfl (by first | exact HX.out | exact HX'.out) _ 2 rfl (by simp) (by omega) (by simp; omega) ?_); intro v1 w1 hb1 hbl1 hg1 hz1; have hk1 := (hb.alloc (.cells #[.int .i64 3, .int .i64 0, .string ⟨#[]⟩, .slice a L.length c] 34)).keep hg1 (heap_alloc_new w _) rfl; have hcN : w1.cell? ⟨w.heap.size, 3, none⟩ = some (.slice a L.length c) := (by rw [Lib.cell_of_heap hk1]; rfl))
  simp only [World.size_alloc] at hz1
  have hbase : Below B w w1 := ((Below.refl B w).alloc hB _).trans hbl1
  go_loopw [0, 56] (fun o k wr => ∃ j : Nat, j ≤ L.length ∧ k = .int .i64 j ∧ Buf wr B o (l ++ [3, UInt8.ofNat L.length] ++ (L.take j).flatMap It.enc) ∧ Below B w wr ∧ B ≤ wr.heap.size) (fun _ k _ => L.length - (intOf k).toNat)
  case atStart => exact ⟨0, Nat.zero_le _, rfl, by simpa using hb1, hbase, by omega⟩
  case round =>
    obtain ⟨j, hj, rfl, hb2, hbl2, hz2⟩ := hrel
    by_cases hlt : j < L.length
    · obtain ⟨b, off, a', c', rfl, g0, g1, g2, g3, _, _, hn⟩ := hr.at_ j hlt
      have hab := ha _ _ (by omega) rfl
      have q0 := (hbl2.cell (p := ⟨b, off + j * 4, none⟩) hab).trans g0
      have q1 := (hbl2.cell (p := ⟨b, off + j * 4 + 1, none⟩) hab).trans g1
      have q2 := (hbl2.cell (p := ⟨b, off + j * 4 + 2, none⟩) hab).trans g2
      have q3 := (hbl2.cell (p := ⟨b, off + j * 4 + 3, none⟩) hab).trans g3
      have hG2 : GlobsM wr := hG.belowB hbl2 hB8
      have hm' : simpleB L[j].k L[j].n L[j].s L[j].ln = true := hm j hlt
      have HL := items_len L hm j
      clear g0 g1 g2 g3
      go_wp2_with fail
      refine (encode_simple L[j].k L[j].n L[j].s a' L[j].ln c' B u0 (l ++ [3, UInt8.ofNat L.length] ++ (L.take j).flatMap It.enc) _ hm' hn ((hG2.below (by go_grown))) (hb2.alloc _) (by simp; omega) hB8 (by simp only [List.length_append, List.length_cons, List.length_nil]; omega)).mono ?_
      rintro e w3 ⟨v3, rfl, hb3, hbl3⟩
      have hz3 := hbl3.size
      simp only [World.size_alloc] at hz3
      go_wp2
      go_roundw
      case rel => exact ⟨j + 1, by omega, by go_num, items_step hlt hb3, (hbl2.alloc (by omega) _).trans hbl3, by omega⟩
      case measure => simp [intOf]; omega
    · go_wp2
      go_ret
      exact ⟨u0, rfl, by rw [List.take_of_length_le (by omega), List.append_assoc] at hb2; exact hb2, hbl2⟩

theorem encode_any (d : Da) (a : Option Addr) (c : Nat) (B : Nat) (v : Value) (l : List UInt8) (w : World) (hm : d.may = true) (hn : In64 d.n) (hG : GlobsM w) (hb : Buf w B v l) (hB : B ≤ w.heap.size) (hB8 : 1 ≤ B)
    (hlen : l.length ≤ 17592186040000) (hr : RowIs w a d.l) (ha : ∀ b off, 0 < d.l.length → a = some ⟨b, off, none⟩ → b < B) :
    Calls Tryz.prog 121 #[v, dv d.k d.n d.s a d.l.length c] w (PutPost B w (l ++ d.enc)) := by
  by_cases h3 : d.k = 3
  · obtain ⟨h0, hs, h8, hit⟩ := may_items hm h3
    have := encode_list d.l a c B v l w h8 hit hG hb hB hB8 hlen hr ha
    simpa [Da.enc, h3, h0, hs] using this
  · have hm' : simpleB d.k d.n d.s d.l.length = true := by simpa [Da.may, h3] using hm
    have := encode_simple d.k d.n d.s a d.l.length c B v l w hm' hn hG hb hB hB8 (by omega)
    simpa [Da.enc, h3] using this

structure DaIs (w : World) (d : Da) (a : Option Addr) : Prop where
  row : RowIs w a d.l
  n : In64 d.n
  l : d.l.length ≤ 140737488351232
  s : d.s.size ≤ 140737488351232

theorem DaIs.below {w w1 : World} {d : Da} {a : Option Addr} (h : DaIs w d a) (hb : Below w.heap.size w w1) : DaIs w1 d a := ⟨h.row.below hb, h.n, h.l, h.s⟩

theorem RowIs.lt {w : World} {a : Option Addr} {l : List It} (h : RowIs w a l) (b off : Nat) (hl : 0 < l.length) (ha : a = some ⟨b, off, none⟩) : b < w.heap.size := by
  obtain ⟨b', off', a', c', ha', g0, _⟩ := h.at_ 0 hl
  rw [ha] at ha'
  simp only [Option.some.injEq, Addr.mk.injEq] at ha'
  obtain ⟨rfl, rfl, _⟩ := ha'
  exact World.block_lt_of_cell? w _ g0

def bytesAns (d : Da) : Value := if d.may then .tuple #[.string ⟨d.enc.toArray⟩, .int .i64 0] else .tuple #[.string ⟨#[]⟩, .int .i64 11]

set_option maxRecDepth 100000 in
theorem bytes_any (d : Da) (a : Option Addr) (c : Nat) (w : World) (hd : DaIs w d a) (hG : GlobsM w) (h16 : 1 ≤ w.heap.size) :
    Calls Tryz.prog 78 #[dv d.k d.n d.s a d.l.length c] w fun e w' => e = .returned (bytesAns d) ∧ Below w.heap.size w w' := by
  by_cases hm : d.may = true
  · have HA := Lib.hid (show bytesAns d = .tuple #[.string ⟨d.enc.toArray⟩, .int .i64 0] by simp [bytesAns, hm])
    go_enter Tryz.func78, Tryz.ntmps78
    go_wp2_with fail
    refine (check_any d a c _ (hd.row.below (by go_grown)) hd.l).mono ?_
    rintro e w1 ⟨rfl, hb1⟩
    rw [hm, if_pos rfl]
    obtain ⟨hc1, hf1⟩ := bcell hb1
    simp only [World.size_alloc] at hc1 hf1
    have hz1 : w.heap.size < w1.heap.size := by have := hb1.size; simp at this; omega
    have hb01 : Below w.heap.size w w1 := ((Below.refl w.heap.size w).alloc (Nat.le_refl _) _).trans (hb1.mono (by simp))
    have HM := Lib.hid hm
    clear hm
    go_wp2_with fail
    refine (encode_any d a c w1.heap.size (.slice none 0 0) [] _ HM.out hd.n (hG.below hb01) (Buf.nil _ _) (Nat.le_refl _) (by omega) (by simp) (hd.row.below hb01) (fun b off hl ha => by have := (hd.row.below hb01).lt b off hl ha; omega)).mono ?_
    rintro e w2 ⟨v2, rfl, hb2, hbl2⟩
    have hs2 := hb2.string
    go_wp2
    go_ret2
    exact ⟨ret_val HA.out.symm, hb01.trans (hbl2.mono (by omega))⟩
  · have HA := Lib.hid (show bytesAns d = .tuple #[.string ⟨#[]⟩, .int .i64 11] by simp [bytesAns, hm])
    go_enter Tryz.func78, Tryz.ntmps78
    go_wp2_with fail
    refine (check_any d a c _ (hd.row.below (by go_grown)) hd.l).mono ?_
    rintro e w1 ⟨rfl, hb1⟩
    rw [if_neg hm]
    go_wp2
    go_ret2
    exact ⟨ret_val HA.out.symm, ((Below.refl w.heap.size w).alloc (Nat.le_refl _) _).trans (hb1.mono (by simp))⟩
end Go.Proofs.YtoejgkcaamkanaaGreatDoor

namespace Go.Proofs.YtoejgkcaamkanaaGreatDoor
open Go.RowKit

def bmBytesAns (d : Da) : Value := if d.may then (if d.k = 3 then .tuple #[.string ⟨#[]⟩, .int .i64 10] else .tuple #[.string ⟨d.enc.toArray⟩, .int .i64 0]) else .tuple #[.string ⟨#[]⟩, .int .i64 1]
set_option maxRecDepth 100000 in
set_option maxHeartbeats 2000000 in
theorem bmBytes (d : Da) (a : Option Addr) (c : Nat) (w : World) (hd : DaIs w d a) (hG : GlobsM w) (h8 : 1 ≤ w.heap.size) :
    Calls Tryz.prog 41 #[dv d.k d.n d.s a d.l.length c] w fun e w' => e = .returned (bmBytesAns d) ∧ Below w.heap.size w w' := by
  have hb0 : Below w.heap.size w (w.alloc (.cells #[.int .i64 d.k, .int .i64 d.n, .string d.s, .slice a d.l.length c] 34)) := by go_grown
  have HB := Lib.hid (bytes_any d a c _ (hd.below hb0) (hG.below hb0) (by simp <;> omega))
  have hx0 := hnew w (.cells #[.int .i64 d.k, .int .i64 d.n, .string d.s, .slice a d.l.length c] 34)
  have hlt0 : w.heap.size < (w.alloc (.cells #[.int .i64 d.k, .int .i64 d.n, .string d.s, .slice a d.l.length c] 34)).heap.size := by simp
  have H := Lib.hid (And.intro hb0 hx0)
  clear hb0 hx0 hd hG
  go_enter Tryz.func41, Tryz.ntmps41
  go_wp2_with fail
  refine HB.out.mono ?_
  rintro e w1 ⟨rfl, hb1⟩
  have hx1 := (hb1.block w.heap.size hlt0).trans H.out.2
  have c0 : w1.cell? ⟨w.heap.size, 0, none⟩ = some (.int .i64 d.k) := by unfold World.cell?; rw [hx1]; rfl
  have H1 := Lib.hid (H.out.1.trans (hb1.mono (by simp)))
  clear hb1 hx1 HB
  unfold bytesAns
  by_cases hm : d.may = true
  · rw [if_pos hm]
    by_cases h3 : d.k = 3
    · have HA := Lib.hid (show bmBytesAns d = .tuple #[.string ⟨#[]⟩, .int .i64 10] by unfold bmBytesAns; rw [if_pos hm, if_pos h3])
      clear hm
      go_wp2
      go_ret2
      exact ⟨by rw [HA.out]; rfl, H1.out⟩
    · have HA := Lib.hid (show bmBytesAns d = .tuple #[.string ⟨d.enc.toArray⟩, .int .i64 0] by unfold bmBytesAns; rw [if_pos hm, if_neg h3])
      clear hm
      go_wp2
      go_ret2
      exact ⟨by rw [HA.out]; rfl, H1.out⟩
  · rw [if_neg hm]
    have HA := Lib.hid (show bmBytesAns d = .tuple #[.string ⟨#[]⟩, .int .i64 1] by unfold bmBytesAns; rw [if_neg hm])
    clear hm
    go_wp2
    go_ret2
    exact ⟨by rw [HA.out]; rfl, H1.out⟩

def bitB (t : Nat) : UInt8 := UInt8.ofNat (2 ^ (t % 8))
theorem bit_any (t : Nat) (ht : t < 16777216) (w : World) :
    Calls Tryz.prog 38 #[.int .i64 t] w fun e w' => e = .returned (.tuple #[.int .i64 (t % 256 / 8 : Nat), .int .u8 (bitB t).toNat]) ∧ Below w.heap.size w w' := by
  go_enter Tryz.func38, Tryz.ntmps38
  go_wp2
  go_quiet (fail)
  have hp : 2 ^ (t % 8) < 256 := by
    have h8 : t % 8 < 8 := by omega
    generalize t % 8 = q at *
    match q, h8 with
    | 0, _ => decide
    | 1, _ => decide
    | 2, _ => decide
    | 3, _ => decide
    | 4, _ => decide
    | 5, _ => decide
    | 6, _ => decide
    | 7, _ => decide
  have e1 : ((t : Int) % 256 / 8) = ((t % 256 / 8 : Nat) : Int) := by omega
  have e2 : ((2 : Int) ^ (t % 8) % 256) = ((bitB t).toNat : Int) := by
    unfold bitB
    rw [UInt8.toNat_ofNat_of_lt' (by show 2 ^ (t % 8) < 256; exact hp)]
    have : ((2 : Int) ^ (t % 8)) = ((2 ^ (t % 8) : Nat) : Int) := (Int.natCast_pow 2 (t % 8)).symm
    rw [this]
    clear this
    revert hp
    generalize 2 ^ (t % 8) = q
    intro hp
    omega
  rw [e1, e2]
  clear e1 e2
  go_wp2
  go_ret2
  exact ⟨rfl, ⟨rfl, rfl, rfl, Nat.le_refl _, fun _ _ => rfl⟩⟩

/-- A method over a tree that holds L, where the library's variables stand. -/
structure BIs {bs : Nat} (B : Base bs) (w : World) (ba mb tb k : Nat) (o : Obj) (F : Nat → Prop) (R : Raw) (L : List KV) : Prop where
  m : MIs B w ba mb tb k o F R L
  G : GlobsM w
  h8 : 1 ≤ w.heap.size
  F8 : ∀ j, F j → 1 ≤ j
def BStep {bs : Nat} (B : Base bs) (ba mb tb k : Nat) (o : Obj) (w : World) (F : Nat → Prop) (R : Raw) (L : List KV) (w' : World) : Prop :=
  ∃ F', BIs B w' ba mb tb k o F' R L ∧ (∀ j, j < w.heap.size → F' j → F j) ∧ Off F w w'
section
variable {bs : Nat} {B : Base bs} {w w' w1 w2 : World} {ba mb tb k : Nat} {o : Obj} {F F1 : Nat → Prop} {R R' R1 : Raw} {L L' L1 : List KV}
theorem GlobsM.off (h : GlobsM w) (ho : Off F w w') (hF : ∀ j, F j → 1 ≤ j) : GlobsM w' := by
  obtain ⟨m, hm⟩ := h.maxlen
  exact ⟨⟨m, ho.cell hm (fun e => by have := hF _ e; simp at this)⟩⟩
theorem BIs.step (h : BIs B w ba mb tb k o F R L) (hst : MStep B ba mb tb k o w F R' L' w') : BStep B ba mb tb k o w F R' L' w' := by
  obtain ⟨F', hm, hF, ho⟩ := hst
  refine ⟨F', ⟨hm, h.G.off ho h.F8, Nat.le_trans h.h8 ho.size, fun j hj => ?_⟩, hF, ho⟩
  by_cases hlt : j < w.heap.size
  · exact h.F8 j (hF j hlt hj)
  · have := h.h8; omega
theorem BIs.below (h : BIs B w ba mb tb k o F R L) (hb : Below w.heap.size w w') : BIs B w' ba mb tb k o F R L :=
  ⟨h.m.below hb, h.G.below hb, Nat.le_trans h.h8 hb.size, h.F8⟩
theorem BStep.trans (ho : Off F w w1) (hF : ∀ j, j < w.heap.size → F1 j → F j) (h : BStep B ba mb tb k o w1 F1 R L w2) : BStep B ba mb tb k o w F R L w2 := by
  obtain ⟨F2, h2, hF2, ho2⟩ := h
  exact ⟨F2, h2, fun j hj e => hF j hj (hF2 j (Nat.lt_of_lt_of_le hj ho.size) e), ho.trans ho2 hF⟩
theorem BStep.refl (h : BIs B w ba mb tb k o F R L) : BStep B ba mb tb k o w F R L w := ⟨F, h, fun _ _ e => e, Off.refl _ _⟩
theorem BStep.below (h : BStep B ba mb tb k o w F R L w1) (hb : Below w1.heap.size w1 w2) : BStep B ba mb tb k o w F R L w2 := by
  obtain ⟨F', h', hF, ho⟩ := h
  exact ⟨F', h'.below hb, hF, ho.trans (Off.of_below hb (F := fun _ => False)) (fun _ _ e => e.elim)⟩
theorem BStep.block (h : BStep B ba mb tb k o w F R L w') {j : Nat} {ob : Obj} (hv : w.heap[j]? = some ob) (hF : ¬ F j) : w'.heap[j]? = some ob := by
  obtain ⟨F', _, _, ho⟩ := h
  exact (ho.block j (Array.getElem?_eq_some_iff.1 hv).1 hF).trans hv
theorem BStep.old (hb : Below w.heap.size w w1) (h : BStep B ba mb tb k o w1 F R L w2) : BStep B ba mb tb k o w F R L w2 :=
  BStep.trans (Off.of_below hb (F := F)) (fun _ _ e => e) h
theorem BStep.young {w0 : World} {G : Nat → Prop} (hb : Below w.heap.size w w0) (h : BStep B ba mb tb k o w0 F R L w1) (hlt : mb < w.heap.size ∧ tb < w.heap.size ∧ 1 ≤ w.heap.size) (ho : Off G w1 w2) (hG : ∀ j, G j → w.heap.size ≤ j ∧ j < w0.heap.size ∧ ¬ F j) : BStep B ba mb tb k o w F R L w2 := by
  obtain ⟨F', h', hF, ho1⟩ := h
  have hn : ∀ j, F' j → ¬ G j := fun j hj hg => (hG j hg).2.2 (hF j (hG j hg).2.1 hj)
  have hold : ∀ j, j < w.heap.size → ¬ G j := fun j hj hg => by have := (hG j hg).1; omega
  refine ⟨F', ⟨⟨⟨?_, ?_, h'.m.m.act.off ho hn, h'.m.m.mF, h'.m.m.tF⟩, h'.m.fine, h'.m.k16, h'.m.tr⟩, ?_, Nat.le_trans h'.h8 ho.size, h'.F8⟩, fun j hj e => hF j (Nat.lt_of_lt_of_le hj hb.size) e, ?_⟩
  · exact (ho.block mb h'.m.m.lt.1 (hold _ hlt.1)).trans h'.m.m.meth
  · exact (ho.block tb h'.m.m.lt.2 (hold _ hlt.2.1)).trans h'.m.m.tree
  · obtain ⟨m, hm⟩ := h'.G.maxlen
    exact ⟨⟨m, ho.cell hm (hold _ (by simp; omega))⟩⟩
  · exact ⟨ho.os.trans (ho1.os.trans hb.os), ho.tape.trans (ho1.tape.trans hb.tape), ho.output.trans (ho1.output.trans hb.output), Nat.le_trans hb.size (Nat.le_trans ho1.size ho.size), fun j hj hnj => (ho.block j (Nat.lt_of_lt_of_le hj (Nat.le_trans hb.size ho1.size)) (hold j hj)).trans ((ho1.block j (Nat.lt_of_lt_of_le hj hb.size) hnj).trans (hb.block j hj))⟩
/-- Young blocks that a step leaves alone are not the action's. -/
theorem BStep.next (h : BStep B ba mb tb k o w F R L w') : ∃ F', BIs B w' ba mb tb k o F' R L ∧ (∀ j, j < w.heap.size → ¬ F j → ¬ F' j) ∧ (∀ w2 R2 L2, BStep B ba mb tb k o w' F' R2 L2 w2 → BStep B ba mb tb k o w F R2 L2 w2) := by
  obtain ⟨F', h', hF, ho⟩ := h
  exact ⟨F', h', fun j hj hn e => hn (hF j hj e), fun w2 R2 L2 h2 => BStep.trans ho hF h2⟩
end
end Go.Proofs.YtoejgkcaamkanaaGreatDoor
