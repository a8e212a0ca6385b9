/- The bytes of data. What the calls know of the library's variables. datum.encode. datum.encode of whatever may be; Bytes. A datum that came in, opened. -/
import Derived.Test.YtdjlbfepddcmeaaGreatDoorQ01
import Derived.Test.YtdjlbfepddcmeaaGreatDoorShelf
import Derived.Lib.Replace
import Derived.Lib.SplitLaws
import Derived.WalkSmall
import Derived.Lib.LaidTab
import Derived.ProofKit
import Derived.OpenShut
import Derived.Deep.Slices
import Derived.Lib.SmallJoins
set_option linter.unusedVariables false
set_option linter.unusedSimpArgs false
namespace Go.Proofs.YtdjlbfepddcmeaaGreatDoor
open Go.RowKit

theorem len9 (l : List UInt8) (n : Int) (j : Nat) : (l ++ [1] ++ (be8 n).take j).length ≤ l.length + 9 := by
  have : ((be8 n).take j).length ≤ 8 := by rw [List.length_take, be8_length]; omega
  simp only [List.length_append, List.length_cons, List.length_nil]; omega

theorem be8_step {w : World} {B : Nat} {v : Value} {l : List UInt8} {n : Int} {j : Nat} (hj : j < 8) (h : Buf w B v (l ++ [1] ++ (be8 n).take j ++ [byteAt n j])) : Buf w B v (l ++ [1] ++ (be8 n).take (j + 1)) := by
  rw [be8_take_succ n j hj, ← List.append_assoc]; exact h

def PutPost (B : Nat) (w : World) (l : List UInt8) (e : Ending) (w' : World) : Prop := ∃ v', e = .returned v' ∧ Buf w' B v' l ∧ Below B w w'

set_option maxRecDepth 100000 in
set_option maxHeartbeats 2000000 in
theorem put_int (n : Int) (s : ByteArray) (a : Option Addr) (ln c : Nat) (B : Nat) (v : Value) (l : List UInt8) (w : World) (hb : Buf w B v l) (hB : B ≤ w.heap.size) (hlen : l.length ≤ 17592186044416) (hn : -9223372036854775808 ≤ n ∧ n ≤ 9223372036854775807) :
    Calls Tryz.prog 92 #[v, dv 1 n s a ln c] w (PutPost B w (l ++ [1] ++ be8 n)) := by
  go_enter Tryz.func92, Tryz.ntmps92
  go_wp2_with (at_builtin; go_must (refine wp_app1 rfl (.tmp 11) (.tmp 12) rfl B v l rfl (hb.alloc _) 1 1 rfl _ 1 rfl (by simp) (by omega) (by simp; omega) ?_); intro v1 w1 hb1 hbl1 hg1 hz1)
  have hk1 := (hb.alloc (.cells #[.int .i64 1, .int .i64 n, .string s, .slice a ln c] 24)).keep hg1 (heap_alloc_new w _) rfl
  simp only [World.size_alloc] at hz1
  go_loopw [0, 5] (fun o k wr => ∃ j : Nat, j ≤ 8 ∧ k = .int .i64 (56 - 8 * j) ∧ Buf wr B o (l ++ [1] ++ (be8 n).take j) ∧ wr.heap[w.heap.size]? = some (.cells #[.int .i64 1, .int .i64 n, .string s, .slice a ln c] 24 (0, 0)) ∧ Below B w wr ∧ w.heap.size < wr.heap.size) (fun _ k _ => (intOf k + 8).toNat)
  case atStart => exact ⟨0, by omega, rfl, by simpa using hb1, hk1, ((Below.refl B w).alloc hB _).trans hbl1, by omega⟩
  case round =>
    obtain ⟨j, hj, rfl, hb2, hk2, hbl2, hz2⟩ := hrel
    have hcN : wr.cell? ⟨w.heap.size, 1, none⟩ = some (.int .i64 n) := by rw [Lib.cell_of_heap hk2]; rfl
    have HL := len9 l n j
    rcases (show j = 0 ∨ j = 1 ∨ j = 2 ∨ j = 3 ∨ j = 4 ∨ j = 5 ∨ j = 6 ∨ j = 7 ∨ j = 8 from by omega) with rfl | rfl | rfl | rfl | rfl | rfl | rfl | rfl | rfl
    · have HB := Lib.hid (rbyte0 n)
      go_wp2_with (at_builtin; go_must (refine wp_app1 rfl (.tmp 28) (.tmp 30) rfl B _ _ rfl hb2 _ (byteAt n 0) HB.out _ 1 rfl (by simp) (by omega) (by omega) ?_); intro v3 w3 hb3 hbl3 hg3 hz3)
      have hk3 := hb2.keep hg3 hk2 rfl
      go_roundw
      case rel => exact ⟨1, by omega, by go_num, be8_step (by omega) hb3, hk3, hbl2.trans hbl3, by omega⟩
      case measure => simp [intOf]
    · have HB := Lib.hid (rbyte1 n)
      go_wp2_with (at_builtin; go_must (refine wp_app1 rfl (.tmp 28) (.tmp 30) rfl B _ _ rfl hb2 _ (byteAt n 1) HB.out _ 1 rfl (by simp) (by omega) (by omega) ?_); intro v3 w3 hb3 hbl3 hg3 hz3)
      have hk3 := hb2.keep hg3 hk2 rfl
      go_roundw
      case rel => exact ⟨2, by omega, by go_num, be8_step (by omega) hb3, hk3, hbl2.trans hbl3, by omega⟩
      case measure => simp [intOf]
    · have HB := Lib.hid (rbyte2 n)
      go_wp2_with (at_builtin; go_must (refine wp_app1 rfl (.tmp 28) (.tmp 30) rfl B _ _ rfl hb2 _ (byteAt n 2) HB.out _ 1 rfl (by simp) (by omega) (by omega) ?_); intro v3 w3 hb3 hbl3 hg3 hz3)
      have hk3 := hb2.keep hg3 hk2 rfl
      go_roundw
      case rel => exact ⟨3, by omega, by go_num, be8_step (by omega) hb3, hk3, hbl2.trans hbl3, by omega⟩
      case measure => simp [intOf]
    · have HB := Lib.hid (rbyte3 n)
      go_wp2_with (at_builtin; go_must (refine wp_app1 rfl (.tmp 28) (.tmp 30) rfl B _ _ rfl hb2 _ (byteAt n 3) HB.out _ 1 rfl (by simp) (by omega) (by omega) ?_); intro v3 w3 hb3 hbl3 hg3 hz3)
      have hk3 := hb2.keep hg3 hk2 rfl
      go_roundw
      case rel => exact ⟨4, by omega, by go_num, be8_step (by omega) hb3, hk3, hbl2.trans hbl3, by omega⟩
      case measure => simp [intOf]
    · have HB := Lib.hid (rbyte4 n)
      go_wp2_with (at_builtin; go_must (refine wp_app1 rfl (.tmp 28) (.tmp 30) rfl B _ _ rfl hb2 _ (byteAt n 4) HB.out _ 1 rfl (by simp) (by omega) (by omega) ?_); intro v3 w3 hb3 hbl3 hg3 hz3)
      have hk3 := hb2.keep hg3 hk2 rfl
      go_roundw
      case rel => exact ⟨5, by omega, by go_num, be8_step (by omega) hb3, hk3, hbl2.trans hbl3, by omega⟩
      case measure => simp [intOf]
    · have HB := Lib.hid (rbyte5 n)
      go_wp2_with (at_builtin; go_must (refine wp_app1 rfl (.tmp 28) (.tmp 30) rfl B _ _ rfl hb2 _ (byteAt n 5) HB.out _ 1 rfl (by simp) (by omega) (by omega) ?_); intro v3 w3 hb3 hbl3 hg3 hz3)
      have hk3 := hb2.keep hg3 hk2 rfl
      go_roundw
      case rel => exact ⟨6, by omega, by go_num, be8_step (by omega) hb3, hk3, hbl2.trans hbl3, by omega⟩
      case measure => simp [intOf]
    · have HB := Lib.hid (rbyte6 n)
      go_wp2_with (at_builtin; go_must (refine wp_app1 rfl (.tmp 28) (.tmp 30) rfl B _ _ rfl hb2 _ (byteAt n 6) HB.out _ 1 rfl (by simp) (by omega) (by omega) ?_); intro v3 w3 hb3 hbl3 hg3 hz3)
      have hk3 := hb2.keep hg3 hk2 rfl
      go_roundw
      case rel => exact ⟨7, by omega, by go_num, be8_step (by omega) hb3, hk3, hbl2.trans hbl3, by omega⟩
      case measure => simp [intOf]
    · have HB := Lib.hid (rbyte7 n)
      go_wp2_with (at_builtin; go_must (refine wp_app1 rfl (.tmp 28) (.tmp 30) rfl B _ _ rfl hb2 _ (byteAt n 7) HB.out _ 1 rfl (by simp) (by omega) (by omega) ?_); intro v3 w3 hb3 hbl3 hg3 hz3)
      have hk3 := hb2.keep hg3 hk2 rfl
      go_roundw
      case rel => exact ⟨8, by omega, by go_num, be8_step (by omega) hb3, hk3, hbl2.trans hbl3, by omega⟩
      case measure => simp [intOf]
    · go_wp2
      go_ret
      exact ⟨u0, rfl, by rw [List.take_of_length_le (by rw [be8_length]; omega)] at hb2; exact hb2, hbl2⟩

/-- A byte 255 behind each byte 0. -/
def esc : List UInt8 → List UInt8
  | [] => []
  | b :: l => (if b = 0 then [0, 255] else [b]) ++ esc l
theorem esc_append (l m : List UInt8) : esc (l ++ m) = esc l ++ esc m := by
  induction l with
  | nil => rfl
  | cons b l ih => simp only [List.cons_append, esc, ih, List.append_assoc]
theorem esc_snoc (l : List UInt8) (b : UInt8) : esc (l ++ [b]) = esc l ++ (if b = 0 then [0, 255] else [b]) := by
  rw [esc_append]; simp [esc]
theorem esc_len (l : List UInt8) : (esc l).length ≤ 2 * l.length := by
  induction l with
  | nil => simp [esc]
  | cons b l ih =>
    simp only [esc, List.length_append, List.length_cons]
    split <;> simp <;> omega
theorem take_snoc (s : ByteArray) (k : Nat) (h : k < s.size) : s.data.toList.take (k + 1) = s.data.toList.take k ++ [s[k]] := by
  rw [List.take_succ_eq_append_getElem (by simpa using h)]; rfl
theorem byte_zero (b : UInt8) : ((b.toNat : Int) == 0) = decide (b = 0) := by
  by_cases h : b = 0
  · subst h; rfl
  · have : ¬ b.toNat = 0 := fun e => h (UInt8.toNat_inj.1 (by simpa using e))
    simp [h]; omega

theorem esc_take_len (s : ByteArray) (hs : s.size ≤ 32) (l : List UInt8) (j : Nat) : (l ++ [2] ++ esc (s.data.toList.take j)).length ≤ l.length + 65 := by
  have h1 := esc_len (s.data.toList.take j)
  have h2 : (s.data.toList.take j).length ≤ 32 := by
    rw [List.length_take]
    have : s.data.toList.length = s.size := by simp
    omega
  simp only [List.length_append, List.length_cons, List.length_nil]; omega

theorem esc_step0 {w : World} {B : Nat} {v : Value} {l : List UInt8} {s : ByteArray} {j : Nat} (hj : j < s.size) (hb : s[j] = 0) (h : Buf w B v (l ++ [2] ++ esc (s.data.toList.take j) ++ [s[j]] ++ [255])) : Buf w B v (l ++ [2] ++ esc (s.data.toList.take (j + 1))) := by
  rw [take_snoc s j hj, esc_snoc, if_pos hb]
  rw [hb] at h
  simpa using h
theorem esc_step1 {w : World} {B : Nat} {v : Value} {l : List UInt8} {s : ByteArray} {j : Nat} (hj : j < s.size) (hb : ¬ s[j] = 0) (h : Buf w B v (l ++ [2] ++ esc (s.data.toList.take j) ++ [s[j]])) : Buf w B v (l ++ [2] ++ esc (s.data.toList.take (j + 1))) := by
  rw [take_snoc s j hj, esc_snoc, if_neg hb]
  simpa using h

set_option maxRecDepth 100000 in
set_option maxHeartbeats 2000000 in
theorem put_text (n : Int) (s : ByteArray) (a : Option Addr) (ln c : Nat) (B : Nat) (v : Value) (l : List UInt8) (w : World) (hb : Buf w B v l) (hB : B ≤ w.heap.size) (hlen : l.length ≤ 17592186044416) (hs : s.size ≤ 32) :
    Calls Tryz.prog 92 #[v, dv 2 n s a ln c] w (PutPost B w (l ++ [2] ++ esc s.data.toList ++ [0, 0])) := by
  go_enter Tryz.func92, Tryz.ntmps92
  go_wp2_with (at_builtin; go_must (refine wp_app1 rfl (.tmp 33) (.tmp 34) rfl B v l rfl (hb.alloc _) 2 2 rfl _ 1 rfl (by simp) (by omega) (by simp; omega) ?_); intro v1 w1 hb1 hbl1 hg1 hz1)
  have hk1 := (hb.alloc (.cells #[.int .i64 2, .int .i64 n, .string s, .slice a ln c] 24)).keep hg1 (heap_alloc_new w _) rfl
  simp only [World.size_alloc] at hz1
  go_loopw [0, 7] (fun o k wr => ∃ j : Nat, j ≤ s.size ∧ k = .int .i64 j ∧ Buf wr B o (l ++ [2] ++ esc (s.data.toList.take j)) ∧ wr.heap[w.heap.size]? = some (.cells #[.int .i64 2, .int .i64 n, .string s, .slice a ln c] 24 (0, 0)) ∧ Below B w wr ∧ w.heap.size < wr.heap.size) (fun _ k _ => s.size - (intOf k).toNat)
  case atStart => exact ⟨0, by omega, rfl, by simpa [esc] using hb1, hk1, ((Below.refl B w).alloc hB _).trans hbl1, by omega⟩
  case round =>
    obtain ⟨j, hj, rfl, hb2, hk2, hbl2, hz2⟩ := hrel
    have hcS : wr.cell? ⟨w.heap.size, 2, none⟩ = some (.string s) := by rw [Lib.cell_of_heap hk2]; rfl
    have HL := esc_take_len s hs l j
    by_cases hlt : j < s.size
    · by_cases h0 : s[j] = 0
      · have hz : ((s[j].toNat : Int) == 0) = true := by rw [byte_zero]; simp [h0]
        have H0 := Lib.hid h0
        clear h0
        go_wp2_with (first
          | (at_builtin; refine wp_app1 rfl (.tmp 43) (.tmp 48) rfl B _ _ rfl hb2 _ s[j] rfl _ 1 rfl (by simp) (by omega) (by omega) ?_; intro v3 w3 hb3 hbl3 hg3 hz3; have hk3 := hb2.keep hg3 hk2 rfl; have hcS3 : w3.cell? ⟨w.heap.size, 2, none⟩ = some (.string s) := (by rw [Lib.cell_of_heap hk3]; rfl))
          | (at_builtin; refine wp_app1 rfl (.tmp 55) (.tmp 56) rfl B _ _ rfl hb3 _ 255 rfl _ 1 rfl (by simp) (by rw [List.length_append]; simp only [List.length_cons, List.length_nil]; omega) (by omega) ?_; intro v4 w4 hb4 hbl4 hg4 hz4; have hk4 := hb3.keep hg4 hk3 rfl))
        go_roundw
        case rel => exact ⟨j + 1, by omega, by go_num, esc_step0 hlt H0.out hb4, hk4, (hbl2.trans hbl3).trans hbl4, by omega⟩
        case measure => simp [intOf]; omega
      · have hz : ((s[j].toNat : Int) == 0) = false := by rw [byte_zero]; simp [h0]
        have H0 := Lib.hid h0
        clear h0
        go_wp2_with (at_builtin; refine wp_app1 rfl (.tmp 43) (.tmp 48) rfl B _ _ rfl hb2 _ s[j] rfl _ 1 rfl (by simp) (by omega) (by omega) ?_; intro v3 w3 hb3 hbl3 hg3 hz3; have hk3 := hb2.keep hg3 hk2 rfl; have hcS3 : w3.cell? ⟨w.heap.size, 2, none⟩ = some (.string s) := (by rw [Lib.cell_of_heap hk3]; rfl))
        go_roundw
        case rel => exact ⟨j + 1, by omega, by go_num, esc_step1 hlt H0.out hb3, hk3, hbl2.trans hbl3, by omega⟩
        case measure => simp [intOf]; omega
    · go_wp2_with (at_builtin; refine wp_app2 rfl (.tmp 58) (.tmp 59) rfl B _ _ rfl hb2 _ _ 0 0 rfl rfl _ 2 rfl (by simp) (by omega) (by omega) ?_; intro v3 w3 hb3 hbl3 hg3 hz3)
      go_ret
      exact ⟨v3, rfl, by rw [List.take_of_length_le (by simp; omega)] at hb3; exact hb3, hbl2.trans hbl3⟩
end Go.Proofs.YtdjlbfepddcmeaaGreatDoor

namespace Go.Proofs.YtdjlbfepddcmeaaGreatDoor
open Go.RowKit

structure Globs (w : World) : Prop where
  pow : Lib.TabIs Tryz.prog w "internal/strconv.uint64pow10" .u64 Lib.pow10Tab
  syn : ∃ tp p, w.cell? ⟨4, 0, none⟩ = some (.iface tp p)
  rng : ∃ tp p, w.cell? ⟨5, 0, none⟩ = some (.iface tp p)

theorem replaceK_past (old new : List UInt8) (ho : old = [0]) (b : UInt8) (hb : ¬ b = 0) (s : List UInt8) : ∀ k, Lib.replaceK old new k (b :: s) = b :: Lib.replaceK old new k s := by
  subst ho
  intro k
  cases k with
  | zero => rfl
  | succ k =>
    have hp : ([0] : List UInt8).isPrefixOf (b :: s) = false := by
      simp [List.isPrefixOf]; exact fun e => hb e.symm
    have hix : Lib.index (b :: s) [0] = if Lib.index s [0] == -1 then -1 else Lib.index s [0] + 1 := by
      rw [Lib.index, hp]; simp
    by_cases h : Lib.index s [0] = -1
    · rw [Lib.replaceK, Lib.replaceK, hix, h]; simp
    · have hge := Lib.index_ge s [0]
      obtain ⟨i, hi⟩ : ∃ i : Nat, Lib.index s [0] = i := ⟨(Lib.index s [0]).toNat, by omega⟩
      rw [Lib.replaceK_hit [0] new k s i hi, Lib.replaceK_hit [0] new k (b :: s) (i + 1) (by rw [hix, hi, if_neg (by simp)]; omega)]
      simp [List.take_succ_cons, List.drop_succ_cons, Nat.add_right_comm]

theorem replaceK_esc (s : List UInt8) : ∀ k, s.count 0 ≤ k → Lib.replaceK [0] [0, 255] k s = esc s := by
  induction s with
  | nil => intro k _; cases k <;> simp [Lib.replaceK, Lib.index, esc]
  | cons b s ih =>
    intro k hk
    by_cases hb : b = 0
    · subst hb
      obtain ⟨m, rfl⟩ : ∃ m, k = m + 1 := ⟨k - 1, by simp at hk; omega⟩
      rw [Lib.replaceK_hit [0] [0, 255] m (0 :: s) 0 (by rw [Lib.index]; simp [List.isPrefixOf])]
      simp only [List.take_zero, List.nil_append, List.length_cons, List.length_nil, Nat.zero_add, List.drop_succ_cons, List.drop_zero, esc, if_true]
      rw [ih m (by simp at hk; omega)]
    · rw [replaceK_past [0] [0, 255] rfl b hb s k, ih k (by rw [List.count_cons] at hk; omega)]
      simp [esc, hb]

theorem replaceAll_esc (s : List UInt8) : Lib.replaceAll s [0] [0, 255] = esc s := by
  unfold Lib.replaceAll Lib.replace Lib.replaceNum
  rw [if_neg (by decide), if_pos (.inl (by decide)), Lib.count_one]
  exact replaceK_esc s _ (Nat.le_refl _)

theorem Globs.below {w w1 : World} (h : Globs w) (hb : Below w.heap.size w w1) : Globs w1 := by
  obtain ⟨h2, ⟨t1, p1, h3⟩, ⟨t2, p2, h4⟩⟩ := h
  have hg : Tryz.prog.globalNamed "internal/strconv.uint64pow10" = some 3 := by kernel_rfl
  have hc := World.var?_cell hg h2 0
  exact ⟨var?_below hb hg (World.block_lt_of_cell? w _ hc) h2, ⟨t1, p1, (hb.cell (World.block_lt_of_cell? w _ h3)).trans h3⟩, ⟨t2, p2, (hb.cell (World.block_lt_of_cell? w _ h4)).trans h4⟩⟩

theorem Globs.belowB {w w1 : World} {B : Nat} (h : Globs w) (hb : Below B w w1) (hB : 8 ≤ B) : Globs w1 := by
  obtain ⟨h2, ⟨t1, p1, h3⟩, ⟨t2, p2, h4⟩⟩ := h
  have hg : Tryz.prog.globalNamed "internal/strconv.uint64pow10" = some 3 := by kernel_rfl
  exact ⟨var?_below hb hg (by omega) h2, ⟨t1, p1, (hb.cell (p := ⟨4, 0, none⟩) (by simp; omega)).trans h3⟩, ⟨t2, p2, (hb.cell (p := ⟨5, 0, none⟩) (by simp; omega)).trans h4⟩⟩

/-- With what strings.ReplaceAll asks for. -/
structure GlobsM (w : World) : Prop extends Globs w where
  maxlen : ∃ m, w.cell? ⟨0, 0, none⟩ = some (.int .i64 m)

theorem GlobsM.below {w w1 : World} (h : GlobsM w) (hb : Below w.heap.size w w1) : GlobsM w1 := by
  obtain ⟨m, hm⟩ := h.maxlen
  exact { toGlobs := h.toGlobs.below hb, maxlen := ⟨m, (hb.cell (World.block_lt_of_cell? w _ hm)).trans hm⟩ }

theorem GlobsM.belowB {w w1 : World} {B : Nat} (h : GlobsM w) (hb : Below B w w1) (hB : 8 ≤ B) : GlobsM w1 := by
  obtain ⟨m, hm⟩ := h.maxlen
  exact { toGlobs := h.toGlobs.belowB hb hB, maxlen := ⟨m, (hb.cell (p := ⟨0, 0, none⟩) (by simp; omega)).trans hm⟩ }
end Go.Proofs.YtdjlbfepddcmeaaGreatDoor

namespace Go.Proofs.YtdjlbfepddcmeaaGreatDoor
open Go.RowKit

set_option maxRecDepth 100000 in
set_option maxHeartbeats 2000000 in
theorem encode_int (n : Int) (s : ByteArray) (a : Option Addr) (ln c : Nat) (B : Nat) (v : Value) (l : List UInt8) (w : World) (hb : Buf w B v l) (hB : B ≤ w.heap.size) (hlen : l.length ≤ 17592186044416) (hn : -9223372036854775808 ≤ n ∧ n ≤ 9223372036854775807) :
    Calls Tryz.prog 74 #[v, dv 1 n s a ln c] w (PutPost B w (l ++ [1] ++ be8 n)) := by
  go_enter Tryz.func74, Tryz.ntmps74
  go_wp2_with (at_builtin; go_must (refine wp_app1 rfl (.tmp 13) (.tmp 14) rfl B v l rfl (hb.alloc _) 1 1 rfl _ 1 rfl (by simp) (by omega) (by simp; omega) ?_); intro v1 w1 hb1 hbl1 hg1 hz1; have hk1 := (hb.alloc (.cells #[.int .i64 1, .int .i64 n, .string s, .slice a ln c] 24)).keep hg1 (heap_alloc_new w _) rfl; have hcN : w1.cell? ⟨w.heap.size, 1, none⟩ = some (.int .i64 n) := (by rw [Lib.cell_of_heap hk1]; rfl))
  simp only [World.size_alloc] at hz1
  rw [top_eq' n hn]
  have htp := top_pos n hn
  go_loopw [0, 6] (fun o k wr => ∃ j : Nat, j ≤ 8 ∧ k = .int .i64 (56 - 8 * j) ∧ Buf wr B o (l ++ [1] ++ (be8 n).take j) ∧ Below B w wr ∧ w.heap.size < wr.heap.size) (fun _ k _ => (intOf k + 8).toNat)
  case atStart => exact ⟨0, by omega, rfl, by simpa using hb1, ((Below.refl B w).alloc hB _).trans hbl1, by omega⟩
  case round =>
    obtain ⟨j, hj, rfl, hb2, hbl2, hz2⟩ := hrel
    have HL := len9 l n j
    rcases (show j = 0 ∨ j = 1 ∨ j = 2 ∨ j = 3 ∨ j = 4 ∨ j = 5 ∨ j = 6 ∨ j = 7 ∨ j = 8 from by omega) with rfl | rfl | rfl | rfl | rfl | rfl | rfl | rfl | rfl
    · have HB := Lib.hid (pbyte0 n)
      go_wp2_with (at_builtin; go_must (refine wp_app1 rfl (.tmp 24) (.tmp 29) rfl B _ _ rfl hb2 _ (byteAt n 0) HB.out _ 1 rfl (by simp) (by omega) (by omega) ?_); intro v3 w3 hb3 hbl3 hg3 hz3)
      go_roundw
      case rel => exact ⟨1, by omega, by go_num, be8_step (by omega) hb3, hbl2.trans hbl3, by omega⟩
      case measure => simp [intOf]
    · have HB := Lib.hid (pbyte1 n)
      go_wp2_with (at_builtin; go_must (refine wp_app1 rfl (.tmp 24) (.tmp 29) rfl B _ _ rfl hb2 _ (byteAt n 1) HB.out _ 1 rfl (by simp) (by omega) (by omega) ?_); intro v3 w3 hb3 hbl3 hg3 hz3)
      go_roundw
      case rel => exact ⟨2, by omega, by go_num, be8_step (by omega) hb3, hbl2.trans hbl3, by omega⟩
      case measure => simp [intOf]
    · have HB := Lib.hid (pbyte2 n)
      go_wp2_with (at_builtin; go_must (refine wp_app1 rfl (.tmp 24) (.tmp 29) rfl B _ _ rfl hb2 _ (byteAt n 2) HB.out _ 1 rfl (by simp) (by omega) (by omega) ?_); intro v3 w3 hb3 hbl3 hg3 hz3)
      go_roundw
      case rel => exact ⟨3, by omega, by go_num, be8_step (by omega) hb3, hbl2.trans hbl3, by omega⟩
      case measure => simp [intOf]
    · have HB := Lib.hid (pbyte3 n)
      go_wp2_with (at_builtin; go_must (refine wp_app1 rfl (.tmp 24) (.tmp 29) rfl B _ _ rfl hb2 _ (byteAt n 3) HB.out _ 1 rfl (by simp) (by omega) (by omega) ?_); intro v3 w3 hb3 hbl3 hg3 hz3)
      go_roundw
      case rel => exact ⟨4, by omega, by go_num, be8_step (by omega) hb3, hbl2.trans hbl3, by omega⟩
      case measure => simp [intOf]
    · have HB := Lib.hid (pbyte4 n)
      go_wp2_with (at_builtin; go_must (refine wp_app1 rfl (.tmp 24) (.tmp 29) rfl B _ _ rfl hb2 _ (byteAt n 4) HB.out _ 1 rfl (by simp) (by omega) (by omega) ?_); intro v3 w3 hb3 hbl3 hg3 hz3)
      go_roundw
      case rel => exact ⟨5, by omega, by go_num, be8_step (by omega) hb3, hbl2.trans hbl3, by omega⟩
      case measure => simp [intOf]
    · have HB := Lib.hid (pbyte5 n)
      go_wp2_with (at_builtin; go_must (refine wp_app1 rfl (.tmp 24) (.tmp 29) rfl B _ _ rfl hb2 _ (byteAt n 5) HB.out _ 1 rfl (by simp) (by omega) (by omega) ?_); intro v3 w3 hb3 hbl3 hg3 hz3)
      go_roundw
      case rel => exact ⟨6, by omega, by go_num, be8_step (by omega) hb3, hbl2.trans hbl3, by omega⟩
      case measure => simp [intOf]
    · have HB := Lib.hid (pbyte6 n)
      go_wp2_with (at_builtin; go_must (refine wp_app1 rfl (.tmp 24) (.tmp 29) rfl B _ _ rfl hb2 _ (byteAt n 6) HB.out _ 1 rfl (by simp) (by omega) (by omega) ?_); intro v3 w3 hb3 hbl3 hg3 hz3)
      go_roundw
      case rel => exact ⟨7, by omega, by go_num, be8_step (by omega) hb3, hbl2.trans hbl3, by omega⟩
      case measure => simp [intOf]
    · have HB := Lib.hid (pbyte7 n)
      go_wp2_with (at_builtin; go_must (refine wp_app1 rfl (.tmp 24) (.tmp 29) rfl B _ _ rfl hb2 _ (byteAt n 7) HB.out _ 1 rfl (by simp) (by omega) (by omega) ?_); intro v3 w3 hb3 hbl3 hg3 hz3)
      go_roundw
      case rel => exact ⟨8, by omega, by go_num, be8_step (by omega) hb3, hbl2.trans hbl3, by omega⟩
      case measure => simp [intOf]
    · go_wp2
      go_ret
      exact ⟨u0, rfl, by rw [List.take_of_length_le (by rw [be8_length]; omega)] at hb2; exact hb2, hbl2⟩

theorem esc_arr_size (s : ByteArray) (hs : s.size ≤ 32) : (⟨(esc s.data.toList).toArray⟩ : ByteArray).size ≤ 64 := by
  have h1 := esc_len s.data.toList
  have h2 : s.data.toList.length = s.size := by simp
  show (esc s.data.toList).toArray.size ≤ 64
  simp only [List.size_toArray]
  omega

set_option maxRecDepth 100000 in
set_option maxHeartbeats 2000000 in
theorem encode_text (n : Int) (s : ByteArray) (a : Option Addr) (ln c : Nat) (B : Nat) (v : Value) (l : List UInt8) (w : World) (hG : GlobsM w) (hb : Buf w B v l) (hB : B ≤ w.heap.size) (hB8 : 8 ≤ B) (hlen : l.length ≤ 17592186044416) (hs : s.size ≤ 32) :
    Calls Tryz.prog 74 #[v, dv 2 n s a ln c] w (PutPost B w (l ++ [2] ++ esc s.data.toList ++ [0, 0])) := by
  go_enter Tryz.func74, Tryz.ntmps74
  go_wp2_with (at_builtin; go_must (refine wp_app1 rfl (.tmp 33) (.tmp 34) rfl B v l rfl (hb.alloc _) 2 2 rfl _ 1 rfl (by simp) (by omega) (by simp; omega) ?_); intro v1 w1 hb1 hbl1 hg1 hz1; have hk1 := (hb.alloc (.cells #[.int .i64 2, .int .i64 n, .string s, .slice a ln c] 24)).keep hg1 (heap_alloc_new w _) rfl; have hcN : w1.cell? ⟨w.heap.size, 2, none⟩ = some (.string s) := (by rw [Lib.cell_of_heap hk1]; rfl))
  simp only [World.size_alloc] at hz1
  obtain ⟨m, hm⟩ := hG.maxlen
  have hm1 : w1.cell? ⟨0, 0, none⟩ = some (.int .i64 m) := (hbl1.cell (p := ⟨0, 0, none⟩) (by simp; omega)).trans ((((Below.refl w.heap.size w).alloc (Nat.le_refl _) _).cell (World.block_lt_of_cell? w _ hm)).trans hm)
  refine (Tryz.strings_ReplaceAll s ⟨#[0]⟩ ⟨#[0, 255]⟩ m w1 (by omega) hm1 (by decide) (by have := Lib.countB_le ⟨#[0]⟩ (by decide) s.size s (Nat.le_refl _); have e : (⟨#[0, 255]⟩ : ByteArray).size = 2 := rfl; rw [e]; omega)).mono ?_
  rintro e w2 ⟨rfl, hb2⟩
  have hE := Lib.hid (replaceAll_esc s.data.toList)
  have hes := esc_arr_size s hs
  have hEE : (Lib.replaceAll s.data.toList (⟨#[0]⟩ : ByteArray).data.toList (⟨#[0, 255]⟩ : ByteArray).data.toList) = esc s.data.toList := hE.out
  rw [hEE]
  have hz2 := hb2.size
  have hb1' := hb1.later hb2
  clear hm hm1
  generalize hT : (⟨(esc s.data.toList).toArray⟩ : ByteArray) = T at *
  have HT := Lib.hid hT
  clear hT hEE
  go_wp2_with (first
    | (at_builtin; refine wp_appS rfl (.tmp 36) (.tmp 39) rfl B _ _ rfl hb1' T rfl (by simp only [List.length_append, List.length_cons, List.length_nil]; omega) (by omega) ?_; intro v3 w3 hb3 hbl3 hg3)
    | (at_builtin; refine wp_app2 rfl (.tmp 41) (.tmp 42) rfl B _ _ rfl hb3 _ _ 0 0 rfl rfl _ 2 rfl (by simp) (by have : T.data.toList.length = T.size := (by simp); simp only [List.length_append, List.length_cons, List.length_nil]; omega) (by have := hbl3.size; omega) ?_; intro v4 w4 hb4 hbl4 hg4 hz4))
  go_ret
  refine ⟨v4, rfl, ?_, (((((Below.refl B w).alloc hB _).trans hbl1).trans (hb2.mono (by omega))).trans hbl3).trans hbl4⟩
  rw [← HT.out] at hb4
  simpa using hb4
end Go.Proofs.YtdjlbfepddcmeaaGreatDoor

namespace Go.Proofs.YtdjlbfepddcmeaaGreatDoor
open Go.RowKit

/-- The bytes of what is no list. -/
def enc1 (k n : Int) (s : ByteArray) : List UInt8 := if k = 1 then [1] ++ be8 n else [2] ++ esc s.data.toList ++ [0, 0]
def It.enc (x : It) : List UInt8 := enc1 x.k x.n x.s
/-- The bytes of a datum. -/
def Da.enc (d : Da) : List UInt8 := if d.k = 3 then [3, UInt8.ofNat d.l.length] ++ d.l.flatMap It.enc else enc1 d.k d.n d.s

theorem simple_kinds {k n : Int} {s : ByteArray} {l : Nat} (h : simpleB k n s l = true) : k = 1 ∨ (k = 2 ∧ s.size ≤ 32) := by
  simp only [simpleB, Bool.and_eq_true, Bool.or_eq_true, decide_eq_true_eq] at h
  rcases h.2 with h | h
  · exact .inl h.1
  · exact .inr ⟨h.1.1, h.2⟩

theorem enc1_len {k n : Int} {s : ByteArray} {l : Nat} (h : simpleB k n s l = true) : (enc1 k n s).length ≤ 67 := by
  rcases simple_kinds h with rfl | ⟨rfl, hs⟩
  · simp [enc1, be8_length]
  · have h1 := esc_len s.data.toList
    have h2 : s.data.toList.length = s.size := by simp
    simp only [enc1, List.length_append, List.length_cons, List.length_nil]
    rw [if_neg (by decide)]
    simp only [List.length_append, List.length_cons, List.length_nil]
    omega

theorem encode_simple (k n : Int) (s : ByteArray) (a : Option Addr) (ln c : Nat) (B : Nat) (v : Value) (l : List UInt8) (w : World) (hm : simpleB k n s ln = true) (hn : In64 n) (hG : GlobsM w) (hb : Buf w B v l) (hB : B ≤ w.heap.size) (hB8 : 8 ≤ B) (hlen : l.length ≤ 17592186044416) :
    Calls Tryz.prog 74 #[v, dv k n s a ln c] w (PutPost B w (l ++ enc1 k n s)) := by
  rcases simple_kinds hm with rfl | ⟨rfl, hs⟩
  · have := encode_int n s a ln c B v l w hb hB hlen hn
    rw [List.append_assoc] at this
    exact this
  · have := encode_text n s a ln c B v l w hG hb hB hB8 hlen hs
    rw [List.append_assoc, List.append_assoc] at this
    simpa [enc1] using this

theorem put_simple (k n : Int) (s : ByteArray) (a : Option Addr) (ln c : Nat) (B : Nat) (v : Value) (l : List UInt8) (w : World) (hm : simpleB k n s ln = true) (hn : In64 n) (hb : Buf w B v l) (hB : B ≤ w.heap.size) (hlen : l.length ≤ 17592186044416) :
    Calls Tryz.prog 92 #[v, dv k n s a ln c] w (PutPost B w (l ++ enc1 k n s)) := by
  rcases simple_kinds hm with rfl | ⟨rfl, hs⟩
  · have := put_int n s a ln c B v l w hb hB hlen hn
    rw [List.append_assoc] at this
    exact this
  · have := put_text n s a ln c B v l w hb hB hlen hs
    rw [List.append_assoc, List.append_assoc] at this
    simpa [enc1] using this

/-- A list's items that may be. -/
theorem may_items {d : Da} (h : d.may = true) (h3 : d.k = 3) : d.n = 0 ∧ d.s = ⟨#[]⟩ ∧ d.l.length ≤ 8 ∧ ∀ j (hj : j < d.l.length), d.l[j].may = true := by
  simp only [Da.may, h3, if_true, Bool.and_eq_true, decide_eq_true_eq, List.isEmpty_iff, List.all_eq_true] at h
  exact ⟨h.1.1.1, isEmpty_of h.1.1.2, h.1.2, fun j hj => h.2 _ (List.getElem_mem hj)⟩

theorem items_len (l : List It) (h : ∀ j (hj : j < l.length), l[j].may = true) (j : Nat) : ((l.take j).flatMap It.enc).length ≤ 67 * l.length := by
  induction l generalizing j with
  | nil => simp
  | cons x l ih =>
    cases j with
    | zero => simp
    | succ j =>
      have h0 : (It.enc x).length ≤ 67 := enc1_len (k := x.k) (n := x.n) (s := x.s) (l := x.ln) (h 0 (by simp))
      have := ih (fun i hi => h (i + 1) (by simp; omega)) j
      simp only [List.take_succ_cons, List.flatMap_cons, List.length_append, List.length_cons]
      omega

theorem items_step {w : World} {B : Nat} {v : Value} {l : List UInt8} {L : List It} {j : Nat} (hj : j < L.length) (h : Buf w B v (l ++ (L.take j).flatMap It.enc ++ L[j].enc)) : Buf w B v (l ++ (L.take (j + 1)).flatMap It.enc) := by
  rw [List.take_succ_eq_append_getElem hj, List.flatMap_append]
  simpa using h

set_option maxRecDepth 100000 in
set_option maxHeartbeats 2000000 in
theorem encode_list (L : List It) (a : Option Addr) (c : Nat) (B : Nat) (v : Value) (l : List UInt8) (w : World) (h8 : L.length ≤ 8) (hm : ∀ j (hj : j < L.length), L[j].may = true) (hG : GlobsM w) (hb : Buf w B v l) (hB : B ≤ w.heap.size) (hB8 : 8 ≤ B)
    (hlen : l.length ≤ 17592186040000) (hr : RowIs w a L) (ha : ∀ b off, 0 < L.length → a = some ⟨b, off, none⟩ → b < B) :
    Calls Tryz.prog 74 #[v, dv 3 0 ⟨#[]⟩ a L.length c] w (PutPost B w (l ++ ([3, UInt8.ofNat L.length] ++ L.flatMap It.enc))) := by
  have hx : IntKind.u8.wrap (L.length : Int) = ((UInt8.ofNat L.length).toNat : Int) := by
    rw [IntKind.wrap_u8', UInt8.toNat_ofNat']; omega
  have hx' : (L.length : Int) = ((UInt8.ofNat L.length).toNat : Int) := by
    rw [UInt8.toNat_ofNat']; omega
  have HX := Lib.hid hx
  have HX' := Lib.hid hx'
  clear hx hx'
  go_enter Tryz.func74, Tryz.ntmps74
  go_wp2_with (at_builtin; go_must (refine wp_app2 rfl (.tmp 46) (.tmp 51) rfl B v l rfl (hb.alloc _) _ _ 3 (UInt8.ofNat L.length) rfl (by first | exact HX.out | exact HX'.out) _ 2 rfl (by simp) (by omega) (by simp; omega) ?_); intro v1 w1 hb1 hbl1 hg1 hz1; have hk1 := (hb.alloc (.cells #[.int .i64 3, .int .i64 0, .string ⟨#[]⟩, .slice a L.length c] 24)).keep hg1 (heap_alloc_new w _) rfl; have hcN : w1.cell? ⟨w.heap.size, 3, none⟩ = some (.slice a L.length c) := (by rw [Lib.cell_of_heap hk1]; rfl))
  simp only [World.size_alloc] at hz1
  have hbase : Below B w w1 := ((Below.refl B w).alloc hB _).trans hbl1
  go_loopw [0, 56] (fun o k wr => ∃ j : Nat, j ≤ L.length ∧ k = .int .i64 j ∧ Buf wr B o (l ++ [3, UInt8.ofNat L.length] ++ (L.take j).flatMap It.enc) ∧ Below B w wr ∧ B ≤ wr.heap.size) (fun _ k _ => L.length - (intOf k).toNat)
  case atStart => exact ⟨0, Nat.zero_le _, rfl, by simpa using hb1, hbase, by omega⟩
  case round =>
    obtain ⟨j, hj, rfl, hb2, hbl2, hz2⟩ := hrel
    by_cases hlt : j < L.length
    · obtain ⟨b, off, a', c', rfl, g0, g1, g2, g3, _, _, hn⟩ := hr.at_ j hlt
      have hab := ha _ _ (by omega) rfl
      have q0 := (hbl2.cell (p := ⟨b, off + j * 4, none⟩) hab).trans g0
      have q1 := (hbl2.cell (p := ⟨b, off + j * 4 + 1, none⟩) hab).trans g1
      have q2 := (hbl2.cell (p := ⟨b, off + j * 4 + 2, none⟩) hab).trans g2
      have q3 := (hbl2.cell (p := ⟨b, off + j * 4 + 3, none⟩) hab).trans g3
      have hG2 : GlobsM wr := hG.belowB hbl2 hB8
      have hm' : simpleB L[j].k L[j].n L[j].s L[j].ln = true := hm j hlt
      have HL := items_len L hm j
      clear g0 g1 g2 g3
      go_wp2_with fail
      refine (encode_simple L[j].k L[j].n L[j].s a' L[j].ln c' B u0 (l ++ [3, UInt8.ofNat L.length] ++ (L.take j).flatMap It.enc) _ hm' hn ((hG2.below (by go_grown))) (hb2.alloc _) (by simp; omega) hB8 (by simp only [List.length_append, List.length_cons, List.length_nil]; omega)).mono ?_
      rintro e w3 ⟨v3, rfl, hb3, hbl3⟩
      have hz3 := hbl3.size
      simp only [World.size_alloc] at hz3
      go_wp2
      go_roundw
      case rel => exact ⟨j + 1, by omega, by go_num, items_step hlt hb3, (hbl2.alloc (by omega) _).trans hbl3, by omega⟩
      case measure => simp [intOf]; omega
    · go_wp2
      go_ret
      exact ⟨u0, rfl, by rw [List.take_of_length_le (by omega), List.append_assoc] at hb2; exact hb2, hbl2⟩

theorem encode_any (d : Da) (a : Option Addr) (c : Nat) (B : Nat) (v : Value) (l : List UInt8) (w : World) (hm : d.may = true) (hn : In64 d.n) (hG : GlobsM w) (hb : Buf w B v l) (hB : B ≤ w.heap.size) (hB8 : 8 ≤ B)
    (hlen : l.length ≤ 17592186040000) (hr : RowIs w a d.l) (ha : ∀ b off, 0 < d.l.length → a = some ⟨b, off, none⟩ → b < B) :
    Calls Tryz.prog 74 #[v, dv d.k d.n d.s a d.l.length c] w (PutPost B w (l ++ d.enc)) := by
  by_cases h3 : d.k = 3
  · obtain ⟨h0, hs, h8, hit⟩ := may_items hm h3
    have := encode_list d.l a c B v l w h8 hit hG hb hB hB8 hlen hr ha
    simpa [Da.enc, h3, h0, hs] using this
  · have hm' : simpleB d.k d.n d.s d.l.length = true := by simpa [Da.may, h3] using hm
    have := encode_simple d.k d.n d.s a d.l.length c B v l w hm' hn hG hb hB hB8 (by omega)
    simpa [Da.enc, h3] using this

structure DaIs (w : World) (d : Da) (a : Option Addr) : Prop where
  row : RowIs w a d.l
  n : In64 d.n
  l : d.l.length ≤ 140737488351232
  s : d.s.size ≤ 140737488351232

theorem DaIs.below {w w1 : World} {d : Da} {a : Option Addr} (h : DaIs w d a) (hb : Below w.heap.size w w1) : DaIs w1 d a := ⟨h.row.below hb, h.n, h.l, h.s⟩

theorem RowIs.lt {w : World} {a : Option Addr} {l : List It} (h : RowIs w a l) (b off : Nat) (hl : 0 < l.length) (ha : a = some ⟨b, off, none⟩) : b < w.heap.size := by
  obtain ⟨b', off', a', c', ha', g0, _⟩ := h.at_ 0 hl
  rw [ha] at ha'
  simp only [Option.some.injEq, Addr.mk.injEq] at ha'
  obtain ⟨rfl, rfl, _⟩ := ha'
  exact World.block_lt_of_cell? w _ g0

def bytesAns (d : Da) : Value := if d.may then .tuple #[.string ⟨d.enc.toArray⟩, .int .i64 0] else .tuple #[.string ⟨#[]⟩, .int .i64 11]

set_option maxRecDepth 100000 in
theorem bytes_any (d : Da) (a : Option Addr) (c : Nat) (w : World) (hd : DaIs w d a) (hG : GlobsM w) (h16 : 8 ≤ w.heap.size) :
    Calls Tryz.prog 55 #[dv d.k d.n d.s a d.l.length c] w fun e w' => e = .returned (bytesAns d) ∧ Below w.heap.size w w' := by
  by_cases hm : d.may = true
  · have HA := Lib.hid (show bytesAns d = .tuple #[.string ⟨d.enc.toArray⟩, .int .i64 0] by simp [bytesAns, hm])
    go_enter Tryz.func55, Tryz.ntmps55
    go_wp2_with fail
    refine (check_any d a c _ (hd.row.below (by go_grown)) hd.l).mono ?_
    rintro e w1 ⟨rfl, hb1⟩
    rw [hm, if_pos rfl]
    obtain ⟨hc1, hf1⟩ := bcell hb1
    simp only [World.size_alloc] at hc1 hf1
    have hz1 : w.heap.size < w1.heap.size := by have := hb1.size; simp at this; omega
    have hb01 : Below w.heap.size w w1 := ((Below.refl w.heap.size w).alloc (Nat.le_refl _) _).trans (hb1.mono (by simp))
    have HM := Lib.hid hm
    clear hm
    go_wp2_with fail
    refine (encode_any d a c w1.heap.size (.slice none 0 0) [] _ HM.out hd.n (hG.below hb01) (Buf.nil _ _) (Nat.le_refl _) (by omega) (by simp) (hd.row.below hb01) (fun b off hl ha => by have := (hd.row.below hb01).lt b off hl ha; omega)).mono ?_
    rintro e w2 ⟨v2, rfl, hb2, hbl2⟩
    have hs2 := hb2.string
    go_wp2
    go_ret2
    exact ⟨ret_val HA.out.symm, hb01.trans (hbl2.mono (by omega))⟩
  · have HA := Lib.hid (show bytesAns d = .tuple #[.string ⟨#[]⟩, .int .i64 11] by simp [bytesAns, hm])
    go_enter Tryz.func55, Tryz.ntmps55
    go_wp2_with fail
    refine (check_any d a c _ (hd.row.below (by go_grown)) hd.l).mono ?_
    rintro e w1 ⟨rfl, hb1⟩
    rw [if_neg hm]
    go_wp2
    go_ret2
    exact ⟨ret_val HA.out.symm, ((Below.refl w.heap.size w).alloc (Nat.le_refl _) _).trans (hb1.mono (by simp))⟩
end Go.Proofs.YtdjlbfepddcmeaaGreatDoor

namespace Go.Proofs.YtdjlbfepddcmeaaGreatDoor
open Go.ChangeShapes Go.WideShapes Go.ChangeAt Go.RowKit

theorem cells24 : Tryz.prog.cellsOf 24 = 4 := by kernel_rfl
theorem bytes24 : Tryz.prog.bytesOf 24 = 56 := by kernel_rfl

section
variable {H : Type} {enc : TypeId × Value → H} {w : World} {base : Nat} {spare : Nat → Bool} {held : Bool}

theorem in64_wf {x : Int} (h : (Lit.int .i64 x).wf = true) : In64 x := by
  have := bounds_i64 h
  exact this

theorem four_of {l : List Value} (h : l.length = 4) : ∃ a b c d, l = [a, b, c, d] := by
  match l, h with
  | [a, b, c, d], _ => exact ⟨a, b, c, d, rfl⟩

theorem size_of_list {s : ByteArray} {N : Nat} (h : s.data.toList.length ≤ N) : s.size ≤ N := by
  have e : s.data.toList.length = s.size := by simp
  omega

/-- One struct's four cells, read. -/
theorem trod_datum {fuel : Nat} {cs : List Value} {x : DataW H × List MemPlace} (h : DataW.trod enc Tryz.prog w base spare held fuel 24 cs = some x) :
    ∃ (k n : Int) (s : ByteArray) (v : Value) (m : Nat) (y : DataW H × List MemPlace), cs = [.int .i64 k, .int .i64 n, .string s, v] ∧ In64 n ∧
      x.1 = .agg [.lit (.int .i64 k), .lit (.int .i64 n), .lit (.string s.data.toList), y.1] ∧ DataW.trod enc Tryz.prog w base spare held m 22 [v] = some y := by
  obtain ⟨y0, y1, y2, y3, n, rfl, hl, h0, h1, h2, h3⟩ := Joins.trod_struct4 Tryz.underlying24 h
  rw [cells24] at hl
  obtain ⟨c0, c1, c2, c3, rfl⟩ := four_of hl
  simp only [List.drop_zero, List.drop_succ_cons, List.take_succ_cons, List.take_zero] at h0 h1 h2 h3
  have z1 : Tryz.prog.cellsOf 3 = 1 := by kernel_rfl
  have z2 : Tryz.prog.cellsOf 9 = 1 := by kernel_rfl
  have z3 : Tryz.prog.cellsOf 22 = 1 := by kernel_rfl
  skip
  rw [z1] at h0
  rw [z1] at h1
  rw [z2] at h2
  rw [z3] at h3
  obtain ⟨k, e0, rfl, _⟩ := DataW.trod_int Tryz.underlying3 h0
  obtain ⟨m, e1, rfl, hm⟩ := DataW.trod_int Tryz.underlying3 h1
  obtain ⟨s, e2, rfl, _⟩ := DataW.trod_string Tryz.underlying9 h2
  simp at e0 e1 e2
  subst e0 e1 e2
  exact ⟨k, m, s, c3, n, y3, rfl, in64_wf hm, rfl, by simpa using h3⟩

/-- The list's value: how long. -/
theorem trod_list {fuel : Nat} {v : Value} {y : DataW H × List MemPlace} (h : DataW.trod enc Tryz.prog w base spare held fuel 22 [v] = some y) :
    ∃ a l c, v = .slice a l c ∧ (∀ b, (∀ n ∈ y.1.weights Tryz.prog 22, n ≤ b) → l * 56 ≤ b) := by
  rcases DataW.trod_slice Tryz.underlying22 h with ⟨e, rfl⟩ | ⟨a, len, cap, elems, rest, n, _, e, rfl, _, _, _, hlen, _⟩
  · simp at e; exact ⟨none, 0, 0, e, fun b _ => by omega⟩
  · simp at e
    refine ⟨some a, len, cap, e, fun b hb => ?_⟩
    have := hb ((elems.length + rest.length) * 56) (by simp [DataW.weights, Tryz.underlying22, bytes24])
    rw [hlen] at this
    have h2 : len * 56 ≤ (len + rest.length) * 56 := Nat.mul_le_mul_right _ (by omega)
    omega

theorem weights_datum (k n : Int) (s : List UInt8) (y : DataW H) : (DataW.agg [.lit (.int .i64 k), .lit (.int .i64 n), .lit (.string s), y]).weights Tryz.prog 24 = s.length :: y.weights Tryz.prog 22 := by
  simp [DataW.weights, DataW.weightsEach, Tryz.underlying24]

theorem weightsAll_mem {P : Program} {e : TypeId} : ∀ {l : List (DataW H)} {d : DataW H}, d ∈ l → ∀ n ∈ d.weights P e, n ∈ DataW.weightsAll P e l
  | x :: l, d, hd, n, hn => by
    simp only [DataW.weightsAll, List.mem_append]
    rcases List.mem_cons.1 hd with rfl | hd
    · exact .inl hn
    · exact .inr (weightsAll_mem hd n hn)

set_option maxRecDepth 100000 in
theorem open_datum {v : Value} {d : DataW H} {p : List MemPlace} (hv : Value.okWide Tryz.prog w .any base 24 v) (h : DataW.Trod enc Tryz.prog w 0 spare held 24 v d p)
    (hw : ∀ n ∈ d.weights Tryz.prog 24, n ≤ 140737488351232) :
    ∃ (x : Da) (a : Option Addr) (c : Nat), v = dv x.k x.n x.s a x.l.length c ∧ DaIs w x a := by
  obtain ⟨cs, rfl, hsz⟩ := okWide_struct Tryz.underlying24 hv
  obtain ⟨fuel, hf⟩ := h
  obtain ⟨k, n, s, v, m, y, hcs, hn, rfl, hy⟩ := trod_datum hf
  rw [weights_datum] at hw
  have hs : s.size ≤ 140737488351232 := by
    exact size_of_list (hw _ List.mem_cons_self)
  have hwy : ∀ n ∈ y.1.weights Tryz.prog 22, n ≤ 140737488351232 := fun n hn => hw n (List.mem_cons_of_mem _ hn)
  have hcs' : cs = #[.int .i64 k, .int .i64 n, .string s, v] := by
    apply Array.toList_inj.1
    simpa [Value.cells] using hcs
  subst hcs'
  rcases DataW.trod_slice Tryz.underlying22 hy with ⟨e, rfl⟩ | ⟨a, len, cap, elems, rest, m', _, e, rfl, _, _, _, hlen, hel, _⟩
  · simp at e
    subst e
    exact ⟨⟨k, n, s, []⟩, none, 0, rfl, ⟨.inl rfl, hn, by simp, hs⟩⟩
  · simp at e
    subst e
    have hL : len * 56 ≤ 140737488351232 := by
      have := hwy ((elems.length + rest.length) * 56) (by simp [DataW.weights, Tryz.underlying22, bytes24])
      rw [hlen] at this
      have h2 : len * 56 ≤ (len + rest.length) * 56 := Nat.mul_le_mul_right _ (by omega)
      omega
    have hall : ∀ i, i < len → ∃ (x : It), ∃ a' c', (∀ j u, [Value.int .i64 x.k, .int .i64 x.n, .string x.s, .slice a' x.ln c'][j]? = some u → w.cell? ((a.add (i * 4)).add j) = some u) ∧ x.ln ≤ 140737488351232 ∧ x.s.size ≤ 140737488351232 ∧ In64 x.n := by
      intro i hi
      have hi' := hel i hi
      rw [cells24, List.getElem?_eq_getElem (by omega)] at hi'
      obtain ⟨cs', h1, h2⟩ := Option.bind_eq_some_iff.1 hi'
      obtain ⟨_, hl4, hc4⟩ := World.cells?_some h1
      obtain ⟨k', n', s', v', m2, y', rfl, hn', hx', hy'⟩ := trod_datum h2
      have hmem : (elems[i]'(by omega)).1 ∈ elems.map (·.1) := List.mem_map.2 ⟨_, List.getElem_mem _, rfl⟩
      have hwi : ∀ n ∈ (elems[i]'(by omega)).1.weights Tryz.prog 24, n ≤ 140737488351232 := fun n hn => hwy n (by
        simp only [DataW.weights, Tryz.underlying22, List.mem_cons, List.mem_append]
        exact .inr (.inl (weightsAll_mem hmem n hn)))
      rw [hx', weights_datum] at hwi
      obtain ⟨a', l', c', rfl, hll⟩ := trod_list hy'
      refine ⟨⟨k', n', s', l'⟩, a', c', ?_, ?_, ?_, hn'⟩
      · intro j u hj
        have hj4 : j < 4 := by
          have := (List.getElem?_eq_some_iff.1 hj).1
          simpa using this
        rw [hc4 j hj4]; exact hj
      · have := hll 140737488351232 (fun n hn => hwi n (List.mem_cons_of_mem _ hn))
        show l' ≤ _
        omega
      · exact size_of_list (hwi _ List.mem_cons_self)
    obtain ⟨X, hX⟩ := @Go.Deep.choose_lt It ⟨⟨0, 0, ⟨#[]⟩, 0⟩⟩ _ _ hall
    refine ⟨⟨k, n, s, (List.range len).map X⟩, some a, cap, by simp, ⟨?_, hn, by simp; omega, hs⟩⟩
    by_cases h0 : len = 0
    · subst h0; exact .inl rfl
    · have hsp : a.spot = none := by
        obtain ⟨a', c', hc, _⟩ := hX 0 (by omega)
        have := World.cell?_spot (hc 0 _ rfl)
        simpa [Addr.add] using this
      refine .inr ⟨a.block, a.off, by cases a; simp_all, fun i hi => ?_⟩
      have hi' : i < len := by simpa using hi
      obtain ⟨a', c', hc, hx⟩ := hX i hi'
      have key : ∀ j u, [Value.int .i64 (X i).k, .int .i64 (X i).n, .string (X i).s, .slice a' (X i).ln c'][j]? = some u → w.cell? ⟨a.block, a.off + i * 4 + j, none⟩ = some u := fun j u hj => by
        have := hc j u hj
        rw [Go.Deep.add_add] at this
        have e : a.add (i * 4 + j) = ⟨a.block, a.off + i * 4 + j, none⟩ := by unfold Addr.add; cases a; split <;> simp_all; try omega
        rw [← e]; exact this
      simp only [List.getElem_map, List.getElem_range]
      exact ⟨key 0 _ rfl, key 1 _ rfl, key 2 _ rfl, ⟨a', c', key 3 _ rfl⟩, hx⟩
end
end Go.Proofs.YtdjlbfepddcmeaaGreatDoor
