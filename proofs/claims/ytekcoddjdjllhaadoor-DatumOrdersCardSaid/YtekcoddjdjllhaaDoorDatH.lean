/- The reference's bytes; hashes. -/
import Derived.Test.YtekcoddjdjllhaaDoorDatG
namespace Go.Proofs.YtekcoddjdjllhaaDoor
open Go.RowKit

theorem Buf.built2 (W : World) (B : Nat) (hB : B ≤ W.heap.size) (x y : UInt8) : Buf (W.alloc (.cells #[.int .u8 x.toNat, .int .u8 y.toNat] 5)) B (.slice (some ⟨W.heap.size, 0, none⟩) 2 2) [x, y] := by
  refine ⟨rfl, .inr ⟨W.heap.size, 2, #[.int .u8 x.toNat, .int .u8 y.toNat], rfl, hB, heap_alloc_new W _, Nat.le_refl _, by unfold maxLen; omega, rfl, rfl⟩⟩

set_option maxRecDepth 100000 in
set_option maxHeartbeats 2000000 in
theorem encoded_list (L : List It) (a : Option Addr) (c : Nat) (w : World) (h8 : L.length ≤ 8) (hm : ∀ j (hj : j < L.length), L[j].may = true) (hr : RowIs w a L) :
    Calls Tryd.prog 39 #[dv 3 0 ⟨#[]⟩ a L.length c] w fun e w' => e = .returned (.string ⟨([3, UInt8.ofNat L.length] ++ L.flatMap It.enc).toArray⟩) ∧ Below w.heap.size w w' := by
  have hx' : (L.length : Int) = ((UInt8.ofNat L.length).toNat : Int) := by
    rw [UInt8.toNat_ofNat']; omega
  have HX := Lib.hid hx'
  clear hx'
  have hb0 := Buf.built2 (w.alloc (.cells #[.int .i64 3, .int .i64 0, .string ⟨#[]⟩, .slice a L.length c] 24)) (w.heap.size + 1) (by simp) 3 (UInt8.ofNat L.length)
  have HB0 := Lib.hid hb0
  clear hb0
  go_enter Tryd.func39, Tryd.ntmps39
  go_wp2
  go_loopw [3, 4] (fun o k wr => ∃ j : Nat, j ≤ L.length ∧ k = .int .i64 j ∧ Buf wr (w.heap.size + 1) o ([3, UInt8.ofNat L.length] ++ (L.take j).flatMap It.enc) ∧ wr.heap[w.heap.size]? = some (.cells #[.int .i64 3, .int .i64 0, .string ⟨#[]⟩, .slice a L.length c] 24 (0, 0)) ∧ Below w.heap.size w wr ∧ w.heap.size + 1 ≤ wr.heap.size) (fun _ k _ => L.length - (intOf k).toNat)
  case atStart => 
    refine ⟨0, Nat.zero_le _, rfl, ?_, ?_, ?_, by simp⟩
    · have := HB0.out
      rw [← HX.out] at this
      simpa using this
    · rw [heap_alloc_old _ _ (by simp)]; exact heap_alloc_new w _
    · exact ((Below.refl w.heap.size w).alloc (Nat.le_refl _) _).alloc (by simp) _
  case round =>
    obtain ⟨j, hj, rfl, hb2, hk2, hbl2, hz2⟩ := hrel
    have hcL : wr.cell? ⟨w.heap.size, 3, none⟩ = some (.slice a L.length c) := by rw [Lib.cell_of_heap hk2]; rfl
    by_cases hlt : j < L.length
    · obtain ⟨b, off, a', c', rfl, g0, g1, g2, g3, _, _, hn⟩ := (hr.below hbl2).at_ j hlt
      have hm' : simpleB L[j].k L[j].n L[j].s L[j].ln = true := hm j hlt
      have HL := items_len L hm j
      go_wp2_with fail
      refine (put_simple L[j].k L[j].n L[j].s a' L[j].ln c' (w.heap.size + 1) u3 ([3, UInt8.ofNat L.length] ++ (L.take j).flatMap It.enc) _ hm' hn hb2 hz2 (by simp only [List.length_append, List.length_cons, List.length_nil]; omega)).mono ?_
      rintro e w3 ⟨v3, rfl, hb3, hbl3⟩
      have hz3 := hbl3.size
      go_wp2
      go_roundw
      case rel => exact ⟨j + 1, by omega, by go_num, items_step hlt hb3, by rw [hbl3.block _ (by omega)]; exact hk2, hbl2.trans (hbl3.mono (by omega)), by omega⟩
      case measure => simp [intOf]; omega
    · have hs2 := hb2.string
      rw [List.take_of_length_le (by omega)] at hs2
      go_wp2
      go_ret
      exact ⟨rfl, hbl2⟩

set_option maxRecDepth 100000 in
theorem encoded_any (d : Da) (a : Option Addr) (c : Nat) (w : World) (hm : d.may = true) (hn : In64 d.n) (hr : RowIs w a d.l) :
    Calls Tryd.prog 39 #[dv d.k d.n d.s a d.l.length c] w fun e w' => e = .returned (.string ⟨d.enc.toArray⟩) ∧ Below w.heap.size w w' := by
  by_cases h3 : d.k = 3
  · obtain ⟨h0, hs, h8, hit⟩ := may_items hm h3
    have := encoded_list d.l a c w h8 hit hr
    simpa [Da.enc, h3, h0, hs] using this
  · have hm' : simpleB d.k d.n d.s d.l.length = true := by simpa [Da.may, h3] using hm
    have HE := Lib.hid (show d.enc = enc1 d.k d.n d.s by simp [Da.enc, h3])
    have hk : (d.k != 3) = true := by simpa using h3
    go_enter Tryd.func39, Tryd.ntmps39
    go_wp2_with fail
    refine (put_simple d.k d.n d.s a d.l.length c (w.heap.size + 1) (.slice none 0 0) [] _ hm' hn (Buf.nil _ _) (by simp) (by simp)).mono ?_
    rintro e w2 ⟨v2, rfl, hb2, hbl2⟩
    have hs2 := hb2.string
    go_wp2
    go_ret
    exact ⟨ret_str (by rw [HE.out]), ((Below.refl w.heap.size w).alloc (Nat.le_refl _) _).trans (hbl2.mono (by omega))⟩

set_option maxRecDepth 100000 in
theorem rbytes_any (d : Da) (a : Option Addr) (c : Nat) (w : World) (hd : DaIs w d a) :
    Calls Tryd.prog 19 #[dv d.k d.n d.s a d.l.length c] w fun e w' => e = .returned (bytesAns d) ∧ Below w.heap.size w w' := by
  by_cases hm : d.may = true
  · have HA := Lib.hid (show bytesAns d = .tuple #[.string ⟨d.enc.toArray⟩, .int .i64 0] by simp [bytesAns, hm])
    go_enter Tryd.func19, Tryd.ntmps19
    go_wp2_with fail
    refine (rmay_any d a c _ (hd.row.below (by go_grown)) hd.s hd.l).mono ?_
    rintro e w1 ⟨rfl, hb1⟩
    obtain ⟨hc1, hf1⟩ := bcell hb1
    simp only [World.size_alloc] at hc1 hf1
    have hz1 : w.heap.size < w1.heap.size := by have := hb1.size; simp at this; omega
    have hb01 : Below w.heap.size w w1 := ((Below.refl w.heap.size w).alloc (Nat.le_refl _) _).trans (hb1.mono (by simp))
    have HM := Lib.hid hm
    go_wp2_with fail
    refine (encoded_any d a c _ HM.out hd.n (hd.row.below hb01)).mono ?_
    rintro e w2 ⟨rfl, hb2⟩
    go_wp2
    go_ret2
    exact ⟨ret_val HA.out.symm, hb01.trans (hb2.mono (by omega))⟩
  · have HA := Lib.hid (show bytesAns d = .tuple #[.string ⟨#[]⟩, .int .i64 11] by simp [bytesAns, hm])
    go_enter Tryd.func19, Tryd.ntmps19
    go_wp2_with fail
    refine (rmay_any d a c _ (hd.row.below (by go_grown)) hd.s hd.l).mono ?_
    rintro e w1 ⟨rfl, hb1⟩
    go_wp2
    go_ret2
    exact ⟨ret_val HA.out.symm, ((Below.refl w.heap.size w).alloc (Nat.le_refl _) _).trans (hb1.mono (by simp))⟩

/-- The hash of bytes. -/
def hashStep (h : Nat) (b : UInt8) : Nat := ((h ^^^ b.toNat) * 16777619) % 4294967296
def hashF (h : Nat) : List UInt8 → Nat
  | [] => h
  | b :: l => hashF (hashStep h b) l
theorem hashF_append (l m : List UInt8) (h : Nat) : hashF h (l ++ m) = hashF (hashF h l) m := by
  induction l generalizing h with
  | nil => rfl
  | cons b l ih => exact ih _
theorem hashStep_lt (h : Nat) (b : UInt8) : hashStep h b < 4294967296 := Nat.mod_lt _ (by decide)
theorem hashF_lt (l : List UInt8) (h : Nat) (hh : h < 4294967296) : hashF h l < 4294967296 := by
  induction l generalizing h with
  | nil => exact hh
  | cons b l ih => exact ih _ (hashStep_lt h b)
/-- The hash of bytes. -/
def hashL (l : List UInt8) : Nat := hashF 2166136261 l
theorem hashL_snoc (l : List UInt8) (b : UInt8) : hashL (l ++ [b]) = hashStep (hashL l) b := hashF_append l [b] _
theorem hashL_lt (l : List UInt8) : hashL l < 4294967296 := hashF_lt l _ (by omega)
theorem hashL_nil : ((hashL [] : Nat) : Int) = 2166136261 := by unfold hashL hashF; omega

theorem step_u32 (h : Nat) (hh : h < 4294967296) (b : UInt8) : (bits .xor .u32 (h : Int) ((b.toNat : Int) % 4294967296) * 16777619) % 4294967296 = ((hashStep h b : Nat) : Int) := by
  have hb := b.toNat_lt
  rw [show ((b.toNat : Int) % 4294967296) = (b.toNat : Int) from by omega]
  rw [u32_xor_nat h b.toNat hh (by omega)]
  unfold hashStep
  omega

theorem i64_xor_small (a b : Nat) (ha : a < 4294967296) (hb : b < 4294967296) : bits .xor .i64 (a : Int) (b : Int) = ((a ^^^ b : Nat) : Int) := by
  have hx : a ^^^ b < 2 ^ 32 := Nat.xor_lt_two_pow (by omega) (by omega)
  have e : ∀ x : Nat, x < 4294967296 → (BitVec.ofInt 64 (x : Int)).toNat = x := by
    intro x hx
    rw [BitVec.toNat_ofInt]; omega
  show IntKind.i64.wrap ((BitVec.ofInt 64 (a : Int) ^^^ BitVec.ofInt 64 (b : Int)).toNat : Int) = _
  rw [BitVec.toNat_xor, e a ha, e b hb, IntKind.wrap_i64]
  omega

theorem enc_len {d : Da} (h : d.may = true) : d.enc.length ≤ 640 := by
  by_cases h3 : d.k = 3
  · obtain ⟨_, _, h8, hit⟩ := may_items h h3
    have := items_len d.l hit d.l.length
    rw [List.take_of_length_le (Nat.le_refl _)] at this
    simp only [Da.enc, h3, if_true, List.length_append, List.length_cons, List.length_nil]
    omega
  · have hm' : simpleB d.k d.n d.s d.l.length = true := by simpa [Da.may, h3] using h
    have := enc1_len hm'
    simp only [Da.enc, h3, if_false]
    omega

theorem hash_rel (S : ByteArray) (j : Nat) (hj : j < S.size) : ((hashL (S.data.toList.take (j + 1)) : Nat) : Int) = ((hashStep (hashL (S.data.toList.take j)) S[j] : Nat) : Int) := by
  rw [take_snoc S j hj, hashL_snoc]

def hashAns (d : Da) : Value := if d.may then .tuple #[.int .i64 (hashL d.enc), .int .i64 0] else .tuple #[.int .i64 0, .int .i64 11]

set_option maxRecDepth 100000 in
set_option maxHeartbeats 1000000 in
theorem hash_any (d : Da) (a : Option Addr) (c : Nat) (w : World) (hd : DaIs w d a) (hG : GlobsM w) (h16 : 8 ≤ w.heap.size) :
    Calls Tryd.prog 23 #[dv d.k d.n d.s a d.l.length c] w fun e w' => e = .returned (hashAns d) ∧ Below w.heap.size w w' := by
  by_cases hm : d.may = true
  · have HA := Lib.hid (show hashAns d = .tuple #[.int .i64 (hashL d.enc), .int .i64 0] by simp [hashAns, hm])
    have HM := Lib.hid (show bytesAns d = .tuple #[.string ⟨d.enc.toArray⟩, .int .i64 0] by simp [bytesAns, hm])
    go_enter Tryd.func23, Tryd.ntmps23
    go_wp2_with fail
    refine (bytes_any d a c _ (hd.below (by go_grown)) (hG.below (by go_grown)) (by simp; omega)).mono ?_
    rintro e w1 ⟨rfl, hb1⟩
    rw [HM.out]
    have hb01 : Below w.heap.size w w1 := ((Below.refl w.heap.size w).alloc (Nat.le_refl _) _).trans (hb1.mono (by simp))
    generalize hS : (⟨d.enc.toArray⟩ : ByteArray) = S
    have hSd : S.data.toList = d.enc := by rw [← hS]
    have HS := Lib.hid hSd
    clear hS hSd
    have hsz : S.size ≤ 640 := by
      have := enc_len hm
      have e : S.data.toList.length = S.size := by simp
      rw [← e, HS.out]; exact this
    go_wp2
    go_loop [6, 18] (fun h i => ∃ j : Nat, j ≤ S.size ∧ i = .int .i64 j ∧ h = .int .u32 ((hashL (S.data.toList.take j) : Nat) : Int)) (fun _ i => S.size - (intOf i).toNat)
    case atStart => exact ⟨0, Nat.zero_le _, rfl, by rw [List.take_zero, hashL_nil]⟩
    case round =>
      obtain ⟨j, hj, rfl, rfl⟩ := hrel
      have hlt0 := hashL_lt (S.data.toList.take j)
      by_cases hlt : j < S.size
      · have HR := Lib.hid (hash_rel S j hlt)
        generalize hashL (S.data.toList.take j) = H at *
        have HT := Lib.hid (step_u32 H hlt0 S[j])
        go_wp2
        go_round
        case rel => exact ⟨j + 1, by omega, by go_num, by rw [HR.out, ← HT.out]⟩
        case measure => simp [intOf]; omega
      · have hEE : hashL (S.data.toList.take j) = hashL d.enc := by rw [List.take_of_length_le (by simp; omega), HS.out]
        have HEE := Lib.hid hEE
        clear hEE
        go_wp2
        go_ret2
        exact ⟨ret_val (by rw [HA.out, ← HEE.out]; rfl), hb01⟩
  · have HA := Lib.hid (show hashAns d = .tuple #[.int .i64 0, .int .i64 11] by simp [hashAns, hm])
    have HM := Lib.hid (show bytesAns d = .tuple #[.string ⟨#[]⟩, .int .i64 11] by simp [bytesAns, hm])
    go_enter Tryd.func23, Tryd.ntmps23
    go_wp2_with fail
    refine (bytes_any d a c _ (hd.below (by go_grown)) (hG.below (by go_grown)) (by simp; omega)).mono ?_
    rintro e w1 ⟨rfl, hb1⟩
    rw [HM.out]
    go_wp2
    go_ret2
    exact ⟨ret_val HA.out.symm, ((Below.refl w.heap.size w).alloc (Nat.le_refl _) _).trans (hb1.mono (by simp))⟩

theorem step_i64 (h : Nat) (hh : h < 4294967296) (b : UInt8) : bits .xor .i64 (h : Int) (b.toNat : Int) = ((h ^^^ b.toNat : Nat) : Int) ∧ (h ^^^ b.toNat) < 4294967296 := by
  have hb := b.toNat_lt
  exact ⟨i64_xor_small h b.toNat hh (by omega), Nat.xor_lt_two_pow (n := 32) hh (by omega)⟩

set_option maxRecDepth 100000 in
set_option maxHeartbeats 1000000 in
theorem rhash_any (d : Da) (a : Option Addr) (c : Nat) (w : World) (hd : DaIs w d a) :
    Calls Tryd.prog 24 #[dv d.k d.n d.s a d.l.length c] w fun e w' => e = .returned (hashAns d) ∧ Below w.heap.size w w' := by
  by_cases hm : d.may = true
  · have HA := Lib.hid (show hashAns d = .tuple #[.int .i64 (hashL d.enc), .int .i64 0] by simp [hashAns, hm])
    go_enter Tryd.func24, Tryd.ntmps24
    go_wp2_with fail
    refine (rmay_any d a c _ (hd.row.below (by go_grown)) hd.s hd.l).mono ?_
    rintro e w1 ⟨rfl, hb1⟩
    obtain ⟨hc1, hf1⟩ := bcell hb1
    simp only [World.size_alloc] at hc1 hf1
    have hz1 : w.heap.size < w1.heap.size := by have := hb1.size; simp at this; omega
    have hb01 : Below w.heap.size w w1 := ((Below.refl w.heap.size w).alloc (Nat.le_refl _) _).trans (hb1.mono (by simp))
    have HM := Lib.hid hm
    go_wp2_with fail
    refine (encoded_any d a c _ HM.out hd.n (hd.row.below hb01)).mono ?_
    rintro e w2 ⟨rfl, hb2⟩
    generalize hS : (⟨d.enc.toArray⟩ : ByteArray) = S
    have hSd : S.data.toList = d.enc := by rw [← hS]
    have HS := Lib.hid hSd
    clear hS hSd
    have hsz : S.size ≤ 640 := by
      have := enc_len HM.out
      have e : S.data.toList.length = S.size := by simp
      rw [← e, HS.out]; exact this
    clear hm
    go_wp2
    go_loop [5, 6] (fun h i => ∃ j : Nat, j ≤ S.size ∧ i = .int .i64 j ∧ h = .int .i64 ((hashL (S.data.toList.take j) : Nat) : Int)) (fun _ i => S.size - (intOf i).toNat)
    case atStart => exact ⟨0, Nat.zero_le _, rfl, by rw [List.take_zero, hashL_nil]⟩
    case round =>
      obtain ⟨j, hj, rfl, rfl⟩ := hrel
      have hlt0 := hashL_lt (S.data.toList.take j)
      by_cases hlt : j < S.size
      · have HR := Lib.hid (hash_rel S j hlt)
        generalize hashL (S.data.toList.take j) = H at *
        obtain ⟨hX, hXl⟩ := step_i64 H hlt0 S[j]
        generalize hK : (H ^^^ S[j].toNat) = K at *
        have HT := Lib.hid (show hashStep H S[j] = K * 16777619 % 4294967296 by unfold hashStep; rw [hK])
        clear hK
        have hbt : (S[j].toNat : Int) < 256 := by have := S[j].toNat_lt; omega
        have hbn : (0 : Int) ≤ (S[j].toNat : Int) := by omega
        go_wp2
        go_round
        case rel => exact ⟨j + 1, by omega, by go_num, by rw [HR.out, HT.out]; go_num⟩
        case measure => simp [intOf]; omega
      · have hEE : hashL (S.data.toList.take j) = hashL d.enc := by rw [List.take_of_length_le (by simp; omega), HS.out]
        have HEE := Lib.hid hEE
        clear hEE
        go_wp2
        go_ret2
        exact ⟨ret_val (by rw [HA.out, ← HEE.out]; rfl), hb01.trans (hb2.mono (by omega))⟩
  · have HA := Lib.hid (show hashAns d = .tuple #[.int .i64 0, .int .i64 11] by simp [hashAns, hm])
    go_enter Tryd.func24, Tryd.ntmps24
    go_wp2_with fail
    refine (rmay_any d a c _ (hd.row.below (by go_grown)) hd.s hd.l).mono ?_
    rintro e w1 ⟨rfl, hb1⟩
    go_wp2
    go_ret2
    exact ⟨ret_val HA.out.symm, ((Below.refl w.heap.size w).alloc (Nat.le_refl _) _).trans (hb1.mono (by simp))⟩
end Go.Proofs.YtekcoddjdjllhaaDoor
