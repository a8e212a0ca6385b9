/- datum.decode: a number. -/
import Derived.Test.YtekcoddjdjllhaaDoorDec
import Derived.Test.YtekcoddjdjllhaaDoorDatX
namespace Go.Proofs.YtekcoddjdjllhaaDoor
open Go.RowKit

/-- decode's answer of what is no list. -/
def decAns (o : Option (It × List UInt8)) (n : Nat) : Value :=
  match o with
  | some (x, r) => .tuple #[dv x.k x.n x.s none 0 0, .int .i64 ((n : Int) - r.length)]
  | none => .tuple #[dv 0 0 ⟨#[]⟩ none 0 0, .int .i64 0]

theorem one1_int (s : ByteArray) (h9 : 9 ≤ s.size) (h1 : s[0] = 1) : decAns (one1 s.data.toList) s.size = .tuple #[dv 1 (unbe (sub s 1 9)) ⟨#[]⟩ none 0 0, .int .i64 9] := by
  have e := drop_byte s 0 (by omega)
  rw [List.drop_zero] at e
  simp only [Nat.zero_add] at e
  have hl : (s.data.toList.drop 1).length = s.size - 1 := by simp
  have hs : (s.data.toList.drop 1).take 8 = sub s 1 9 := by
    rw [sub, List.drop_take]
  rw [e, one1, if_pos h1, if_pos (by omega), decAns, hs]
  simp only [List.length_drop, hl]
  congr 3
  simp
  omega

theorem or_byte (x : Nat) (c : UInt8) (hx : x < 72057594037927936) : bits .or .u64 (IntKind.u64.wrap ((x : Int) * 256)) (c.toNat : Int) = ((x * 256 + c.toNat : Nat) : Int) := by
  have hc := c.toNat_lt
  rw [IntKind.wrap_u64, show ((x : Int) * 256) % 18446744073709551616 = ((x * 256 : Nat) : Int) by omega, u64_or_nat _ _ (by omega) (by omega)]
  have := Nat.two_pow_add_eq_or_of_lt (i := 8) (b := c.toNat) (by omega) x
  rw [Nat.mul_comm x 256, show (256 : Nat) = 2 ^ 8 from rfl, ← this]

theorem wrap_byte (c : UInt8) : IntKind.u64.wrap (c.toNat : Int) = (c.toNat : Int) := by
  have := c.toNat_lt
  rw [IntKind.wrap_u64]; omega

theorem wrap64_eq (x : Int) : RowKit.wrap64 x = IntKind.i64.wrap x := by
  rw [IntKind.wrap_i64]; unfold RowKit.wrap64; omega

theorem back_i64 (x : Nat) (hx : x < 18446744073709551616) : IntKind.i64.wrap (bits .xor .u64 (x : Int) 9223372036854775808) = (x : Int) - 9223372036854775808 := by
  rw [u64_xor_top _ (by omega) (by omega), IntKind.wrap_i64]
  omega

theorem fold_step (l : List UInt8) (S : ByteArray) (hS : S.data.toList = l) (j : Nat) (hj : j < S.size) : foldB (l.take (j + 1)) = foldB (l.take j) * 256 + (l.getD j 0).toNat := by
  have hl : l.length = S.size := by rw [← hS]; simp
  rw [List.take_succ_eq_append_getElem (by omega), foldB_snoc]
  simp [List.getD, show j < l.length by omega]

set_option maxRecDepth 100000 in
set_option maxHeartbeats 2000000 in
theorem dec_int (s : ByteArray) (deep : Int) (w : World) (hs : s.size ≤ 140737488355328) (h9 : 9 ≤ s.size) (h1 : s[0] = 1) :
    Calls Tryd.prog 32 #[.string s, .int .i64 deep] w fun e w' => e = .returned (decAns (one1 s.data.toList) s.size) ∧ Below w.heap.size w w' := by
  have hc := u8_beq _ _ h1 1 rfl
  have hh : 9 ≤ (s.size : Int) := by omega
  rw [one1_int s h9 h1]
  have hx : s.extract 1 9 = toBA (sub s 1 9) := extract_sub s 1 9 (by omega)
  have hxs : (toBA (sub s 1 9)).size = 8 := by rw [← hx]; simp; omega
  clear h1
  generalize hS : toBA (sub s 1 9) = S at hx hxs
  have hSl : S.data.toList = sub s 1 9 := by rw [← hS]; exact toBA_list _
  clear hS
  have hcv := Lib.run_convert_string_bytes (P := Tryd.prog) ((w.alloc (.cells #[.int .i64 0, .int .i64 0, .string ⟨#[]⟩, .slice none 0 0] 24)).alloc (.cells #[.int .i64 0, .int .i64 0, .string ⟨#[]⟩, .slice none 0 0] 24)) 9 40 5 S Tryd.underlying9 Tryd.underlying40 Tryd.underlying5
  have hbw := Lib.bytesWorld_below ((w.alloc (.cells #[.int .i64 0, .int .i64 0, .string ⟨#[]⟩, .slice none 0 0] 24)).alloc (.cells #[.int .i64 0, .int .i64 0, .string ⟨#[]⟩, .slice none 0 0] 24)) 5 S
  have hcl := Lib.bytesWorld_cell ((w.alloc (.cells #[.int .i64 0, .int .i64 0, .string ⟨#[]⟩, .slice none 0 0] 24)).alloc (.cells #[.int .i64 0, .int .i64 0, .string ⟨#[]⟩, .slice none 0 0] 24)) 5 S
  have hsz := Lib.bytesWorld_size ((w.alloc (.cells #[.int .i64 0, .int .i64 0, .string ⟨#[]⟩, .slice none 0 0] 24)).alloc (.cells #[.int .i64 0, .int .i64 0, .string ⟨#[]⟩, .slice none 0 0] 24)) 5 S
  generalize Lib.bytesWorld _ _ _ = w1 at hcv hbw hcl hsz
  generalize grownCap _ _ _ _ = cap at hcv
  go_enter Tryd.func32, Tryd.ntmps32
  go_wp2
  have zz := hbw.size
  have hbw2 := hbw
  simp only [World.size_alloc] at hcl hbw zz hsz
  have hbw0 : Below w.heap.size w w1 := (((Below.refl w.heap.size w).alloc (Nat.le_refl _) _).alloc (by simp) _).trans (hbw.mono (by omega))
  obtain ⟨hc1, hf1⟩ := bcell hbw2
  simp only [World.size_alloc] at hc1 hf1
  clear hbw2
  go_loopw [8, 27] (fun n i wr => ∃ j : Nat, j ≤ 8 ∧ i = .int .i64 j ∧ n = .int .u64 ((foldB ((sub s 1 9).take j) : Nat) : Int) ∧ Below w1.heap.size w1 wr) (fun _ i _ => 8 - (intOf i).toNat)
  case atStart => exact ⟨0, Nat.zero_le _, rfl, rfl, Below.refl _ _⟩
  case round =>
    obtain ⟨j, hj, rfl, rfl, hb⟩ := hrel
    by_cases hlt : j < 8
    · have g0 : wr.cell? ⟨w.heap.size + 1 + 1, j, none⟩ = some (.int .u8 ((sub s 1 9).getD j 0).toNat) := by
        rw [hb.cell (p := ⟨w.heap.size + 1 + 1, j, none⟩) (by show w.heap.size + 1 + 1 < _; omega), ← hSl]
        exact hcl j (by omega)
      have hst := fold_step (sub s 1 9) S hSl j (by omega)
      have hlt2 := foldB_lt ((sub s 1 9).take j)
      generalize (sub s 1 9).getD j 0 = b at g0 hst
      have hjl : ((sub s 1 9).take j).length ≤ 7 := by rw [List.length_take]; omega
      have hx56 : foldB ((sub s 1 9).take j) < 72057594037927936 := Nat.lt_of_lt_of_le hlt2 (Nat.le_trans (Nat.pow_le_pow_right (by decide) hjl) (by decide))
      have HST := Lib.hid hst
      have HX := Lib.hid hx56
      clear hst hx56 hlt2
      go_wp2
      go_roundw
      case rel => exact ⟨j + 1, by omega, by go_num, by rw [wrap_byte, or_byte _ _ HX.out, HST.out], hb⟩
      case measure => simp [intOf]; omega
    · have hl8 : (sub s 1 9).length = 8 := by rw [← hSl]; have : S.data.toList.length = S.size := by simp
                                              omega
      have hj8 : (sub s 1 9).take j = sub s 1 9 := List.take_of_length_le (by omega)
      have hub : unbe (sub s 1 9) = IntKind.i64.wrap (bits .xor .u64 (foldB (sub s 1 9) : Int) 9223372036854775808) := by
        rw [back_i64 _ (Nat.lt_of_lt_of_le (foldB_lt (sub s 1 9)) (by rw [hl8]; decide))]; rfl
      have HUB := Lib.hid hub
      rw [hj8]
      clear hub hj8 hcl hcv
      generalize foldB (sub s 1 9) = F at HUB ⊢
      have hbl : Below w.heap.size w wr := hbw0.trans (hb.mono (by omega))
      have r0 : wr.cell? ⟨w.heap.size, 0, none⟩ = some (.int .i64 0) := by rw [hb.cell (p := ⟨w.heap.size, 0, none⟩) (by show w.heap.size < _; omega), hc1 _ _ (by omega)]; go_simp
      have r1 : wr.cell? ⟨w.heap.size, 1, none⟩ = some (.int .i64 0) := by rw [hb.cell (p := ⟨w.heap.size, 1, none⟩) (by show w.heap.size < _; omega), hc1 _ _ (by omega)]; go_simp
      have r2 : wr.cell? ⟨w.heap.size, 2, none⟩ = some (.string ⟨#[]⟩) := by rw [hb.cell (p := ⟨w.heap.size, 2, none⟩) (by show w.heap.size < _; omega), hc1 _ _ (by omega)]; go_simp
      have r3 : wr.cell? ⟨w.heap.size, 3, none⟩ = some (.slice none 0 0) := by rw [hb.cell (p := ⟨w.heap.size, 3, none⟩) (by show w.heap.size < _; omega), hc1 _ _ (by omega)]; go_simp
      have q0 : wr.frozen? ⟨w.heap.size, 0, none⟩ = false := by rw [hb.frozen (p := ⟨w.heap.size, 0, none⟩) (by show w.heap.size < _; omega), hf1 _ _ (by omega)]; go_simp
      have q1 : wr.frozen? ⟨w.heap.size, 1, none⟩ = false := by rw [hb.frozen (p := ⟨w.heap.size, 1, none⟩) (by show w.heap.size < _; omega), hf1 _ _ (by omega)]; go_simp
      have q2 : wr.frozen? ⟨w.heap.size, 2, none⟩ = false := by rw [hb.frozen (p := ⟨w.heap.size, 2, none⟩) (by show w.heap.size < _; omega), hf1 _ _ (by omega)]; go_simp
      have q3 : wr.frozen? ⟨w.heap.size, 3, none⟩ = false := by rw [hb.frozen (p := ⟨w.heap.size, 3, none⟩) (by show w.heap.size < _; omega), hf1 _ _ (by omega)]; go_simp
      clear hc1 hf1
      go_wp2
      (try simp only [Exit.inBlock, Exit.then])
      refine bodyPost_ret (v := .tuple #[dv 1 (IntKind.i64.wrap (bits .xor .u64 (F : Int) 9223372036854775808)) ⟨#[]⟩ none 0 0, .int .i64 9]) ?_ rfl ⟨by rw [HUB.out], ?_⟩
      · rw [results_cell_tmp rfl]
        go_simp
        exact wrap64_eq _
      · exact (((hbl.setCell (p := ⟨w.heap.size, 0, none⟩) (Nat.le_refl _) _).setCell (p := ⟨w.heap.size, 1, none⟩) (Nat.le_refl _) _).setCell (p := ⟨w.heap.size, 2, none⟩) (Nat.le_refl _) _).setCell (p := ⟨w.heap.size, 3, none⟩) (Nat.le_refl _) _
end Go.Proofs.YtekcoddjdjllhaaDoor
