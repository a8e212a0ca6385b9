/- The bytes of data. -/
import Derived.Test.YtekcoddjdjllhaaDoorDatB
import Derived.Test.YtekcoddjdjllhaaDoorBuf
import Derived.Test.YtekcoddjdjllhaaDoorBits
namespace Go.Proofs.YtekcoddjdjllhaaDoor
open Go.RowKit

theorem len9 (l : List UInt8) (n : Int) (j : Nat) : (l ++ [1] ++ (be8 n).take j).length ≤ l.length + 9 := by
  have : ((be8 n).take j).length ≤ 8 := by rw [List.length_take, be8_length]; omega
  simp only [List.length_append, List.length_cons, List.length_nil]; omega

theorem be8_step {w : World} {B : Nat} {v : Value} {l : List UInt8} {n : Int} {j : Nat} (hj : j < 8) (h : Buf w B v (l ++ [1] ++ (be8 n).take j ++ [byteAt n j])) : Buf w B v (l ++ [1] ++ (be8 n).take (j + 1)) := by
  rw [be8_take_succ n j hj, ← List.append_assoc]; exact h

def PutPost (B : Nat) (w : World) (l : List UInt8) (e : Ending) (w' : World) : Prop := ∃ v', e = .returned v' ∧ Buf w' B v' l ∧ Below B w w'

set_option maxRecDepth 100000 in
set_option maxHeartbeats 2000000 in
theorem put_int (n : Int) (s : ByteArray) (a : Option Addr) (ln c : Nat) (B : Nat) (v : Value) (l : List UInt8) (w : World) (hb : Buf w B v l) (hB : B ≤ w.heap.size) (hlen : l.length ≤ 17592186044416) (hn : -9223372036854775808 ≤ n ∧ n ≤ 9223372036854775807) :
    Calls Tryd.prog 55 #[v, dv 1 n s a ln c] w (PutPost B w (l ++ [1] ++ be8 n)) := by
  go_enter Tryd.func55, Tryd.ntmps55
  go_wp2_with (at_builtin; go_must (refine wp_app1 rfl (.tmp 11) (.tmp 12) rfl B v l rfl (hb.alloc _) 1 1 rfl _ 1 rfl (by simp) (by omega) (by simp; omega) ?_); intro v1 w1 hb1 hbl1 hg1 hz1)
  have hk1 := (hb.alloc (.cells #[.int .i64 1, .int .i64 n, .string s, .slice a ln c] 24)).keep hg1 (heap_alloc_new w _) rfl
  simp only [World.size_alloc] at hz1
  go_loopw [0, 5] (fun o k wr => ∃ j : Nat, j ≤ 8 ∧ k = .int .i64 (56 - 8 * j) ∧ Buf wr B o (l ++ [1] ++ (be8 n).take j) ∧ wr.heap[w.heap.size]? = some (.cells #[.int .i64 1, .int .i64 n, .string s, .slice a ln c] 24 (0, 0)) ∧ Below B w wr ∧ w.heap.size < wr.heap.size) (fun _ k _ => (intOf k + 8).toNat)
  case atStart => exact ⟨0, by omega, rfl, by simpa using hb1, hk1, ((Below.refl B w).alloc hB _).trans hbl1, by omega⟩
  case round =>
    obtain ⟨j, hj, rfl, hb2, hk2, hbl2, hz2⟩ := hrel
    have hcN : wr.cell? ⟨w.heap.size, 1, none⟩ = some (.int .i64 n) := by rw [Lib.cell_of_heap hk2]; rfl
    have HL := len9 l n j
    rcases (show j = 0 ∨ j = 1 ∨ j = 2 ∨ j = 3 ∨ j = 4 ∨ j = 5 ∨ j = 6 ∨ j = 7 ∨ j = 8 from by omega) with rfl | rfl | rfl | rfl | rfl | rfl | rfl | rfl | rfl
    · have HB := Lib.hid (rbyte0 n)
      go_wp2_with (at_builtin; go_must (refine wp_app1 rfl (.tmp 28) (.tmp 30) rfl B _ _ rfl hb2 _ (byteAt n 0) HB.out _ 1 rfl (by simp) (by omega) (by omega) ?_); intro v3 w3 hb3 hbl3 hg3 hz3)
      have hk3 := hb2.keep hg3 hk2 rfl
      go_roundw
      case rel => exact ⟨1, by omega, by go_num, be8_step (by omega) hb3, hk3, hbl2.trans hbl3, by omega⟩
      case measure => simp [intOf]
    · have HB := Lib.hid (rbyte1 n)
      go_wp2_with (at_builtin; go_must (refine wp_app1 rfl (.tmp 28) (.tmp 30) rfl B _ _ rfl hb2 _ (byteAt n 1) HB.out _ 1 rfl (by simp) (by omega) (by omega) ?_); intro v3 w3 hb3 hbl3 hg3 hz3)
      have hk3 := hb2.keep hg3 hk2 rfl
      go_roundw
      case rel => exact ⟨2, by omega, by go_num, be8_step (by omega) hb3, hk3, hbl2.trans hbl3, by omega⟩
      case measure => simp [intOf]
    · have HB := Lib.hid (rbyte2 n)
      go_wp2_with (at_builtin; go_must (refine wp_app1 rfl (.tmp 28) (.tmp 30) rfl B _ _ rfl hb2 _ (byteAt n 2) HB.out _ 1 rfl (by simp) (by omega) (by omega) ?_); intro v3 w3 hb3 hbl3 hg3 hz3)
      have hk3 := hb2.keep hg3 hk2 rfl
      go_roundw
      case rel => exact ⟨3, by omega, by go_num, be8_step (by omega) hb3, hk3, hbl2.trans hbl3, by omega⟩
      case measure => simp [intOf]
    · have HB := Lib.hid (rbyte3 n)
      go_wp2_with (at_builtin; go_must (refine wp_app1 rfl (.tmp 28) (.tmp 30) rfl B _ _ rfl hb2 _ (byteAt n 3) HB.out _ 1 rfl (by simp) (by omega) (by omega) ?_); intro v3 w3 hb3 hbl3 hg3 hz3)
      have hk3 := hb2.keep hg3 hk2 rfl
      go_roundw
      case rel => exact ⟨4, by omega, by go_num, be8_step (by omega) hb3, hk3, hbl2.trans hbl3, by omega⟩
      case measure => simp [intOf]
    · have HB := Lib.hid (rbyte4 n)
      go_wp2_with (at_builtin; go_must (refine wp_app1 rfl (.tmp 28) (.tmp 30) rfl B _ _ rfl hb2 _ (byteAt n 4) HB.out _ 1 rfl (by simp) (by omega) (by omega) ?_); intro v3 w3 hb3 hbl3 hg3 hz3)
      have hk3 := hb2.keep hg3 hk2 rfl
      go_roundw
      case rel => exact ⟨5, by omega, by go_num, be8_step (by omega) hb3, hk3, hbl2.trans hbl3, by omega⟩
      case measure => simp [intOf]
    · have HB := Lib.hid (rbyte5 n)
      go_wp2_with (at_builtin; go_must (refine wp_app1 rfl (.tmp 28) (.tmp 30) rfl B _ _ rfl hb2 _ (byteAt n 5) HB.out _ 1 rfl (by simp) (by omega) (by omega) ?_); intro v3 w3 hb3 hbl3 hg3 hz3)
      have hk3 := hb2.keep hg3 hk2 rfl
      go_roundw
      case rel => exact ⟨6, by omega, by go_num, be8_step (by omega) hb3, hk3, hbl2.trans hbl3, by omega⟩
      case measure => simp [intOf]
    · have HB := Lib.hid (rbyte6 n)
      go_wp2_with (at_builtin; go_must (refine wp_app1 rfl (.tmp 28) (.tmp 30) rfl B _ _ rfl hb2 _ (byteAt n 6) HB.out _ 1 rfl (by simp) (by omega) (by omega) ?_); intro v3 w3 hb3 hbl3 hg3 hz3)
      have hk3 := hb2.keep hg3 hk2 rfl
      go_roundw
      case rel => exact ⟨7, by omega, by go_num, be8_step (by omega) hb3, hk3, hbl2.trans hbl3, by omega⟩
      case measure => simp [intOf]
    · have HB := Lib.hid (rbyte7 n)
      go_wp2_with (at_builtin; go_must (refine wp_app1 rfl (.tmp 28) (.tmp 30) rfl B _ _ rfl hb2 _ (byteAt n 7) HB.out _ 1 rfl (by simp) (by omega) (by omega) ?_); intro v3 w3 hb3 hbl3 hg3 hz3)
      have hk3 := hb2.keep hg3 hk2 rfl
      go_roundw
      case rel => exact ⟨8, by omega, by go_num, be8_step (by omega) hb3, hk3, hbl2.trans hbl3, by omega⟩
      case measure => simp [intOf]
    · go_wp2
      go_ret
      exact ⟨u0, rfl, by rw [List.take_of_length_le (by rw [be8_length]; omega)] at hb2; exact hb2, hbl2⟩

/-- A byte 255 behind each byte 0. -/
def esc : List UInt8 → List UInt8
  | [] => []
  | b :: l => (if b = 0 then [0, 255] else [b]) ++ esc l
theorem esc_append (l m : List UInt8) : esc (l ++ m) = esc l ++ esc m := by
  induction l with
  | nil => rfl
  | cons b l ih => simp only [List.cons_append, esc, ih, List.append_assoc]
theorem esc_snoc (l : List UInt8) (b : UInt8) : esc (l ++ [b]) = esc l ++ (if b = 0 then [0, 255] else [b]) := by
  rw [esc_append]; simp [esc]
theorem esc_len (l : List UInt8) : (esc l).length ≤ 2 * l.length := by
  induction l with
  | nil => simp [esc]
  | cons b l ih =>
    simp only [esc, List.length_append, List.length_cons]
    split <;> simp <;> omega
theorem take_snoc (s : ByteArray) (k : Nat) (h : k < s.size) : s.data.toList.take (k + 1) = s.data.toList.take k ++ [s[k]] := by
  rw [List.take_succ_eq_append_getElem (by simpa using h)]; rfl
theorem byte_zero (b : UInt8) : ((b.toNat : Int) == 0) = decide (b = 0) := by
  by_cases h : b = 0
  · subst h; rfl
  · have : ¬ b.toNat = 0 := fun e => h (UInt8.toNat_inj.1 (by simpa using e))
    simp [h]; omega

theorem esc_take_len (s : ByteArray) (hs : s.size ≤ 32) (l : List UInt8) (j : Nat) : (l ++ [2] ++ esc (s.data.toList.take j)).length ≤ l.length + 65 := by
  have h1 := esc_len (s.data.toList.take j)
  have h2 : (s.data.toList.take j).length ≤ 32 := by
    rw [List.length_take]
    have : s.data.toList.length = s.size := by simp
    omega
  simp only [List.length_append, List.length_cons, List.length_nil]; omega

theorem esc_step0 {w : World} {B : Nat} {v : Value} {l : List UInt8} {s : ByteArray} {j : Nat} (hj : j < s.size) (hb : s[j] = 0) (h : Buf w B v (l ++ [2] ++ esc (s.data.toList.take j) ++ [s[j]] ++ [255])) : Buf w B v (l ++ [2] ++ esc (s.data.toList.take (j + 1))) := by
  rw [take_snoc s j hj, esc_snoc, if_pos hb]
  rw [hb] at h
  simpa using h
theorem esc_step1 {w : World} {B : Nat} {v : Value} {l : List UInt8} {s : ByteArray} {j : Nat} (hj : j < s.size) (hb : ¬ s[j] = 0) (h : Buf w B v (l ++ [2] ++ esc (s.data.toList.take j) ++ [s[j]])) : Buf w B v (l ++ [2] ++ esc (s.data.toList.take (j + 1))) := by
  rw [take_snoc s j hj, esc_snoc, if_neg hb]
  simpa using h

set_option maxRecDepth 100000 in
set_option maxHeartbeats 2000000 in
theorem put_text (n : Int) (s : ByteArray) (a : Option Addr) (ln c : Nat) (B : Nat) (v : Value) (l : List UInt8) (w : World) (hb : Buf w B v l) (hB : B ≤ w.heap.size) (hlen : l.length ≤ 17592186044416) (hs : s.size ≤ 32) :
    Calls Tryd.prog 55 #[v, dv 2 n s a ln c] w (PutPost B w (l ++ [2] ++ esc s.data.toList ++ [0, 0])) := by
  go_enter Tryd.func55, Tryd.ntmps55
  go_wp2_with (at_builtin; go_must (refine wp_app1 rfl (.tmp 33) (.tmp 34) rfl B v l rfl (hb.alloc _) 2 2 rfl _ 1 rfl (by simp) (by omega) (by simp; omega) ?_); intro v1 w1 hb1 hbl1 hg1 hz1)
  have hk1 := (hb.alloc (.cells #[.int .i64 2, .int .i64 n, .string s, .slice a ln c] 24)).keep hg1 (heap_alloc_new w _) rfl
  simp only [World.size_alloc] at hz1
  go_loopw [0, 7] (fun o k wr => ∃ j : Nat, j ≤ s.size ∧ k = .int .i64 j ∧ Buf wr B o (l ++ [2] ++ esc (s.data.toList.take j)) ∧ wr.heap[w.heap.size]? = some (.cells #[.int .i64 2, .int .i64 n, .string s, .slice a ln c] 24 (0, 0)) ∧ Below B w wr ∧ w.heap.size < wr.heap.size) (fun _ k _ => s.size - (intOf k).toNat)
  case atStart => exact ⟨0, by omega, rfl, by simpa [esc] using hb1, hk1, ((Below.refl B w).alloc hB _).trans hbl1, by omega⟩
  case round =>
    obtain ⟨j, hj, rfl, hb2, hk2, hbl2, hz2⟩ := hrel
    have hcS : wr.cell? ⟨w.heap.size, 2, none⟩ = some (.string s) := by rw [Lib.cell_of_heap hk2]; rfl
    have HL := esc_take_len s hs l j
    by_cases hlt : j < s.size
    · by_cases h0 : s[j] = 0
      · have hz : ((s[j].toNat : Int) == 0) = true := by rw [byte_zero]; simp [h0]
        have H0 := Lib.hid h0
        clear h0
        go_wp2_with (first
          | (at_builtin; refine wp_app1 rfl (.tmp 43) (.tmp 48) rfl B _ _ rfl hb2 _ s[j] rfl _ 1 rfl (by simp) (by omega) (by omega) ?_; intro v3 w3 hb3 hbl3 hg3 hz3; have hk3 := hb2.keep hg3 hk2 rfl; have hcS3 : w3.cell? ⟨w.heap.size, 2, none⟩ = some (.string s) := (by rw [Lib.cell_of_heap hk3]; rfl))
          | (at_builtin; refine wp_app1 rfl (.tmp 55) (.tmp 56) rfl B _ _ rfl hb3 _ 255 rfl _ 1 rfl (by simp) (by rw [List.length_append]; simp only [List.length_cons, List.length_nil]; omega) (by omega) ?_; intro v4 w4 hb4 hbl4 hg4 hz4; have hk4 := hb3.keep hg4 hk3 rfl))
        go_roundw
        case rel => exact ⟨j + 1, by omega, by go_num, esc_step0 hlt H0.out hb4, hk4, (hbl2.trans hbl3).trans hbl4, by omega⟩
        case measure => simp [intOf]; omega
      · have hz : ((s[j].toNat : Int) == 0) = false := by rw [byte_zero]; simp [h0]
        have H0 := Lib.hid h0
        clear h0
        go_wp2_with (at_builtin; refine wp_app1 rfl (.tmp 43) (.tmp 48) rfl B _ _ rfl hb2 _ s[j] rfl _ 1 rfl (by simp) (by omega) (by omega) ?_; intro v3 w3 hb3 hbl3 hg3 hz3; have hk3 := hb2.keep hg3 hk2 rfl; have hcS3 : w3.cell? ⟨w.heap.size, 2, none⟩ = some (.string s) := (by rw [Lib.cell_of_heap hk3]; rfl))
        go_roundw
        case rel => exact ⟨j + 1, by omega, by go_num, esc_step1 hlt H0.out hb3, hk3, hbl2.trans hbl3, by omega⟩
        case measure => simp [intOf]; omega
    · go_wp2_with (at_builtin; refine wp_app2 rfl (.tmp 58) (.tmp 59) rfl B _ _ rfl hb2 _ _ 0 0 rfl rfl _ 2 rfl (by simp) (by omega) (by omega) ?_; intro v3 w3 hb3 hbl3 hg3 hz3)
      go_ret
      exact ⟨v3, rfl, by rw [List.take_of_length_le (by simp; omega)] at hb3; exact hb3, hbl2.trans hbl3⟩
end Go.Proofs.YtekcoddjdjllhaaDoor
