/- datum.encode. -/
import Derived.Test.YtekcoddjdjllhaaDoorDatE
import Derived.Test.YtekcoddjdjllhaaDoorShelf
import Derived.Test.YtekcoddjdjllhaaDoorGlob
namespace Go.Proofs.YtekcoddjdjllhaaDoor
open Go.RowKit

set_option maxRecDepth 100000 in
set_option maxHeartbeats 2000000 in
theorem encode_int (n : Int) (s : ByteArray) (a : Option Addr) (ln c : Nat) (B : Nat) (v : Value) (l : List UInt8) (w : World) (hb : Buf w B v l) (hB : B ≤ w.heap.size) (hlen : l.length ≤ 17592186044416) (hn : -9223372036854775808 ≤ n ∧ n ≤ 9223372036854775807) :
    Calls Tryd.prog 38 #[v, dv 1 n s a ln c] w (PutPost B w (l ++ [1] ++ be8 n)) := by
  go_enter Tryd.func38, Tryd.ntmps38
  go_wp2_with (at_builtin; go_must (refine wp_app1 rfl (.tmp 13) (.tmp 14) rfl B v l rfl (hb.alloc _) 1 1 rfl _ 1 rfl (by simp) (by omega) (by simp; omega) ?_); intro v1 w1 hb1 hbl1 hg1 hz1; have hk1 := (hb.alloc (.cells #[.int .i64 1, .int .i64 n, .string s, .slice a ln c] 24)).keep hg1 (heap_alloc_new w _) rfl; have hcN : w1.cell? ⟨w.heap.size, 1, none⟩ = some (.int .i64 n) := (by rw [Lib.cell_of_heap hk1]; rfl))
  simp only [World.size_alloc] at hz1
  rw [top_eq' n hn]
  have htp := top_pos n hn
  go_loopw [0, 6] (fun o k wr => ∃ j : Nat, j ≤ 8 ∧ k = .int .i64 (56 - 8 * j) ∧ Buf wr B o (l ++ [1] ++ (be8 n).take j) ∧ Below B w wr ∧ w.heap.size < wr.heap.size) (fun _ k _ => (intOf k + 8).toNat)
  case atStart => exact ⟨0, by omega, rfl, by simpa using hb1, ((Below.refl B w).alloc hB _).trans hbl1, by omega⟩
  case round =>
    obtain ⟨j, hj, rfl, hb2, hbl2, hz2⟩ := hrel
    have HL := len9 l n j
    rcases (show j = 0 ∨ j = 1 ∨ j = 2 ∨ j = 3 ∨ j = 4 ∨ j = 5 ∨ j = 6 ∨ j = 7 ∨ j = 8 from by omega) with rfl | rfl | rfl | rfl | rfl | rfl | rfl | rfl | rfl
    · have HB := Lib.hid (pbyte0 n)
      go_wp2_with (at_builtin; go_must (refine wp_app1 rfl (.tmp 24) (.tmp 29) rfl B _ _ rfl hb2 _ (byteAt n 0) HB.out _ 1 rfl (by simp) (by omega) (by omega) ?_); intro v3 w3 hb3 hbl3 hg3 hz3)
      go_roundw
      case rel => exact ⟨1, by omega, by go_num, be8_step (by omega) hb3, hbl2.trans hbl3, by omega⟩
      case measure => simp [intOf]
    · have HB := Lib.hid (pbyte1 n)
      go_wp2_with (at_builtin; go_must (refine wp_app1 rfl (.tmp 24) (.tmp 29) rfl B _ _ rfl hb2 _ (byteAt n 1) HB.out _ 1 rfl (by simp) (by omega) (by omega) ?_); intro v3 w3 hb3 hbl3 hg3 hz3)
      go_roundw
      case rel => exact ⟨2, by omega, by go_num, be8_step (by omega) hb3, hbl2.trans hbl3, by omega⟩
      case measure => simp [intOf]
    · have HB := Lib.hid (pbyte2 n)
      go_wp2_with (at_builtin; go_must (refine wp_app1 rfl (.tmp 24) (.tmp 29) rfl B _ _ rfl hb2 _ (byteAt n 2) HB.out _ 1 rfl (by simp) (by omega) (by omega) ?_); intro v3 w3 hb3 hbl3 hg3 hz3)
      go_roundw
      case rel => exact ⟨3, by omega, by go_num, be8_step (by omega) hb3, hbl2.trans hbl3, by omega⟩
      case measure => simp [intOf]
    · have HB := Lib.hid (pbyte3 n)
      go_wp2_with (at_builtin; go_must (refine wp_app1 rfl (.tmp 24) (.tmp 29) rfl B _ _ rfl hb2 _ (byteAt n 3) HB.out _ 1 rfl (by simp) (by omega) (by omega) ?_); intro v3 w3 hb3 hbl3 hg3 hz3)
      go_roundw
      case rel => exact ⟨4, by omega, by go_num, be8_step (by omega) hb3, hbl2.trans hbl3, by omega⟩
      case measure => simp [intOf]
    · have HB := Lib.hid (pbyte4 n)
      go_wp2_with (at_builtin; go_must (refine wp_app1 rfl (.tmp 24) (.tmp 29) rfl B _ _ rfl hb2 _ (byteAt n 4) HB.out _ 1 rfl (by simp) (by omega) (by omega) ?_); intro v3 w3 hb3 hbl3 hg3 hz3)
      go_roundw
      case rel => exact ⟨5, by omega, by go_num, be8_step (by omega) hb3, hbl2.trans hbl3, by omega⟩
      case measure => simp [intOf]
    · have HB := Lib.hid (pbyte5 n)
      go_wp2_with (at_builtin; go_must (refine wp_app1 rfl (.tmp 24) (.tmp 29) rfl B _ _ rfl hb2 _ (byteAt n 5) HB.out _ 1 rfl (by simp) (by omega) (by omega) ?_); intro v3 w3 hb3 hbl3 hg3 hz3)
      go_roundw
      case rel => exact ⟨6, by omega, by go_num, be8_step (by omega) hb3, hbl2.trans hbl3, by omega⟩
      case measure => simp [intOf]
    · have HB := Lib.hid (pbyte6 n)
      go_wp2_with (at_builtin; go_must (refine wp_app1 rfl (.tmp 24) (.tmp 29) rfl B _ _ rfl hb2 _ (byteAt n 6) HB.out _ 1 rfl (by simp) (by omega) (by omega) ?_); intro v3 w3 hb3 hbl3 hg3 hz3)
      go_roundw
      case rel => exact ⟨7, by omega, by go_num, be8_step (by omega) hb3, hbl2.trans hbl3, by omega⟩
      case measure => simp [intOf]
    · have HB := Lib.hid (pbyte7 n)
      go_wp2_with (at_builtin; go_must (refine wp_app1 rfl (.tmp 24) (.tmp 29) rfl B _ _ rfl hb2 _ (byteAt n 7) HB.out _ 1 rfl (by simp) (by omega) (by omega) ?_); intro v3 w3 hb3 hbl3 hg3 hz3)
      go_roundw
      case rel => exact ⟨8, by omega, by go_num, be8_step (by omega) hb3, hbl2.trans hbl3, by omega⟩
      case measure => simp [intOf]
    · go_wp2
      go_ret
      exact ⟨u0, rfl, by rw [List.take_of_length_le (by rw [be8_length]; omega)] at hb2; exact hb2, hbl2⟩

theorem esc_arr_size (s : ByteArray) (hs : s.size ≤ 32) : (⟨(esc s.data.toList).toArray⟩ : ByteArray).size ≤ 64 := by
  have h1 := esc_len s.data.toList
  have h2 : s.data.toList.length = s.size := by simp
  show (esc s.data.toList).toArray.size ≤ 64
  simp only [List.size_toArray]
  omega

set_option maxRecDepth 100000 in
set_option maxHeartbeats 2000000 in
theorem encode_text (n : Int) (s : ByteArray) (a : Option Addr) (ln c : Nat) (B : Nat) (v : Value) (l : List UInt8) (w : World) (hG : GlobsM w) (hb : Buf w B v l) (hB : B ≤ w.heap.size) (hB8 : 8 ≤ B) (hlen : l.length ≤ 17592186044416) (hs : s.size ≤ 32) :
    Calls Tryd.prog 38 #[v, dv 2 n s a ln c] w (PutPost B w (l ++ [2] ++ esc s.data.toList ++ [0, 0])) := by
  go_enter Tryd.func38, Tryd.ntmps38
  go_wp2_with (at_builtin; go_must (refine wp_app1 rfl (.tmp 33) (.tmp 34) rfl B v l rfl (hb.alloc _) 2 2 rfl _ 1 rfl (by simp) (by omega) (by simp; omega) ?_); intro v1 w1 hb1 hbl1 hg1 hz1; have hk1 := (hb.alloc (.cells #[.int .i64 2, .int .i64 n, .string s, .slice a ln c] 24)).keep hg1 (heap_alloc_new w _) rfl; have hcN : w1.cell? ⟨w.heap.size, 2, none⟩ = some (.string s) := (by rw [Lib.cell_of_heap hk1]; rfl))
  simp only [World.size_alloc] at hz1
  obtain ⟨m, hm⟩ := hG.maxlen
  have hm1 : w1.cell? ⟨0, 0, none⟩ = some (.int .i64 m) := (hbl1.cell (p := ⟨0, 0, none⟩) (by simp; omega)).trans ((((Below.refl w.heap.size w).alloc (Nat.le_refl _) _).cell (World.block_lt_of_cell? w _ hm)).trans hm)
  refine (Tryd.strings_ReplaceAll s ⟨#[0]⟩ ⟨#[0, 255]⟩ m w1 (by omega) hm1 (by decide) (by have := Lib.countB_le ⟨#[0]⟩ (by decide) s.size s (Nat.le_refl _); have e : (⟨#[0, 255]⟩ : ByteArray).size = 2 := rfl; rw [e]; omega)).mono ?_
  rintro e w2 ⟨rfl, hb2⟩
  have hE := Lib.hid (replaceAll_esc s.data.toList)
  have hes := esc_arr_size s hs
  have hEE : (Lib.replaceAll s.data.toList (⟨#[0]⟩ : ByteArray).data.toList (⟨#[0, 255]⟩ : ByteArray).data.toList) = esc s.data.toList := hE.out
  rw [hEE]
  have hz2 := hb2.size
  have hb1' := hb1.later hb2
  clear hm hm1
  generalize hT : (⟨(esc s.data.toList).toArray⟩ : ByteArray) = T at *
  have HT := Lib.hid hT
  clear hT hEE
  go_wp2_with (first
    | (at_builtin; refine wp_appS rfl (.tmp 36) (.tmp 39) rfl B _ _ rfl hb1' T rfl (by simp only [List.length_append, List.length_cons, List.length_nil]; omega) (by omega) ?_; intro v3 w3 hb3 hbl3 hg3)
    | (at_builtin; refine wp_app2 rfl (.tmp 41) (.tmp 42) rfl B _ _ rfl hb3 _ _ 0 0 rfl rfl _ 2 rfl (by simp) (by have : T.data.toList.length = T.size := (by simp); simp only [List.length_append, List.length_cons, List.length_nil]; omega) (by have := hbl3.size; omega) ?_; intro v4 w4 hb4 hbl4 hg4 hz4))
  go_ret
  refine ⟨v4, rfl, ?_, (((((Below.refl B w).alloc hB _).trans hbl1).trans (hb2.mono (by omega))).trans hbl3).trans hbl4⟩
  rw [← HT.out] at hb4
  simpa using hb4
end Go.Proofs.YtekcoddjdjllhaaDoor
