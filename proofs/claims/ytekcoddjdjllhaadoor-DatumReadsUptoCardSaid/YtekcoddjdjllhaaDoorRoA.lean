/- The reference's one: a number. -/
import Derived.Test.YtekcoddjdjllhaaDoorDeL
namespace Go.Proofs.YtekcoddjdjllhaaDoor
open Go.RowKit

/-- one's answer at place p. -/
def oneAns (o : Option (It × List UInt8)) (n : Nat) : Value :=
  match o with
  | some (x, r) => .tuple #[dv x.k x.n x.s none 0 0, .int .i64 ((n : Int) - r.length)]
  | none => .tuple #[dv 0 0 ⟨#[]⟩ none 0 0, .int .i64 (-1)]

def modF : List UInt8 → List UInt8
  | [] => []
  | b :: r => UInt8.ofNat ((b.toNat + 128) % 256) :: r
theorem modF_len (l : List UInt8) : (modF l).length = l.length := by cases l <;> rfl

theorem or_i64 (F b : Nat) (hF : F < 72057594037927936) (hb : b < 256) : bits .or .i64 (IntKind.i64.wrap (IntKind.i64.wrap (F : Int) * 256)) (b : Int) = IntKind.i64.wrap ((F * 256 + b : Nat) : Int) := by
  have e1 : (BitVec.ofInt 64 (IntKind.i64.wrap (IntKind.i64.wrap (F : Int) * 256))).toNat = F * 256 := by
    rw [BitVec.toNat_ofInt, IntKind.wrap_i64, IntKind.wrap_i64]; omega
  have e2 : (BitVec.ofInt 64 (b : Int)).toNat = b := by rw [BitVec.toNat_ofInt]; omega
  show IntKind.i64.wrap ((BitVec.ofInt 64 (IntKind.i64.wrap (IntKind.i64.wrap (F : Int) * 256)) ||| BitVec.ofInt 64 (b : Int)).toNat : Nat) = _
  rw [BitVec.toNat_or, e1, e2]
  have := Nat.two_pow_add_eq_or_of_lt (i := 8) (b := b) (by omega) F
  rw [Nat.mul_comm F 256, show (256 : Nat) = 2 ^ 8 from rfl, ← this]

theorem or_w (F b : Nat) (hF : F < 72057594037927936) (hb : b < 256) : bits .or .i64 (RowKit.wrap64 ((F : Int) * 256)) (RowKit.wrap64 (b : Int)) = IntKind.i64.wrap ((F * 256 + b : Nat) : Int) := by
  have e : IntKind.i64.wrap (F : Int) = (F : Int) := by rw [IntKind.wrap_i64]; omega
  have := or_i64 F b hF hb
  rw [e] at this
  rw [wrap64_eq, show RowKit.wrap64 (b : Int) = (b : Int) by unfold RowKit.wrap64; omega]
  exact this

theorem or_v (F b : Nat) (hF : F < 72057594037927936) (hb : b < 256) : bits .or .i64 (RowKit.wrap64 ((F : Int) * 256)) (b : Int) = IntKind.i64.wrap ((F * 256 + b : Nat) : Int) := by
  have := or_w F b hF hb
  rw [show RowKit.wrap64 (b : Int) = (b : Int) by unfold RowKit.wrap64; omega] at this
  exact this
theorem first_byte (b : Nat) (hb : b < 256) : bits .or .i64 (RowKit.wrap64 (RowKit.wrap64 ((foldB [] : Nat) : Int) * 256)) (RowKit.wrap64 (bits .xor .u8 (b : Int) 128)) = IntKind.i64.wrap (((b + 128) % 256 : Nat) : Int) := by
  rw [u8_xor128 _ (by omega) (by omega)]
  have := or_w 0 ((b + 128) % 256) (by omega) (by omega)
  have e0 : ((foldB [] : Nat) : Int) = 0 := rfl
  have e : RowKit.wrap64 0 = 0 := by unfold RowKit.wrap64; omega
  have e1 : (((b + 128) % 256 : Nat) : Int) = ((b : Int) + 128) % 256 := by omega
  rw [e1] at this
  rw [e0, e, e1]
  rw [show ((0 * 256 + (b + 128) % 256 : Nat) : Int) = ((b : Int) + 128) % 256 by omega] at this
  exact this

theorem modF_back (l : List UInt8) (h : l.length = 8) : IntKind.i64.wrap (foldB (modF l) : Int) = unbe l := by
  cases l with
  | nil => simp at h
  | cons b r =>
    have hr : r.length = 7 := by simpa using h
    have hlt := foldB_lt r
    have hb := b.toNat_lt
    have e7 : 256 ^ 7 = 72057594037927936 := by decide
    have hm : (UInt8.ofNat ((b.toNat + 128) % 256)).toNat = (b.toNat + 128) % 256 := by rw [UInt8.toNat_ofNat']; omega
    unfold unbe modF
    rw [foldB_cons, foldB_cons, hr, hm, IntKind.wrap_i64]
    rw [hr, e7] at hlt
    rw [e7]
    generalize foldB r = R at *
    generalize b.toNat = x at *
    omega

theorem modF_step (l : List UInt8) (k : Nat) (hk : k < l.length) : foldB ((modF l).take (k + 1)) = foldB ((modF l).take k) * 256 + (if k = 0 then (l[k].toNat + 128) % 256 else l[k].toNat) := by
  rw [List.take_succ_eq_append_getElem (by rw [modF_len]; exact hk), foldB_snoc]
  congr 1
  cases l with
  | nil => simp at hk
  | cons b r =>
    cases k with
    | zero => 
      simp only [modF, List.getElem_cons_zero, if_true]
      rw [UInt8.toNat_ofNat']; omega
    | succ k => simp [modF]

set_option maxRecDepth 100000 in
set_option maxHeartbeats 4000000 in
theorem rone_int (s : ByteArray) (p : Nat) (w : World) (hs : s.size ≤ 4194304) (hp : p + 9 ≤ s.size) (h1 : s[p] = 1) (l : List UInt8) (hll : l.length = 8) (hat : ∀ k (h : k < l.length) (h' : p + (k + 1) < s.size), l[k] = s[p + (k + 1)]) :
    Calls Tryd.prog 33 #[.string s, .int .i64 p] w fun e w' => e = .returned (.tuple #[dv 1 (unbe l) ⟨#[]⟩ none 0 0, .int .i64 ((p : Int) + 9)]) ∧ Below w.heap.size w w' := by
  have hc := u8_beq _ _ h1 1 rfl
  have hl : s.data.toList.length = s.size := by simp
  have hpI : (p : Int) < (s.size : Int) := by omega
  have hp9 : ¬ (s.size : Int) < (p : Int) + 9 := by omega
  clear h1
  have zr0 : Zb ((w.alloc (.cells #[.int .i64 0, .int .i64 0, .string ⟨#[]⟩, .slice none 0 0] 24)).alloc (.cells #[.int .i64 0, .int .i64 0, .string ⟨#[]⟩, .slice none 0 0] 24)) w.heap.size := ⟨by go_simp, by go_simp, by go_simp, by go_simp, by go_simp, by go_simp, by go_simp, by go_simp⟩
  have hW : Below w.heap.size w ((w.alloc (.cells #[.int .i64 0, .int .i64 0, .string ⟨#[]⟩, .slice none 0 0] 24)).alloc (.cells #[.int .i64 0, .int .i64 0, .string ⟨#[]⟩, .slice none 0 0] 24)) := ((Below.refl _ _).alloc (Nat.le_refl _) _).alloc (by simp) _
  go_enter Tryd.func33, Tryd.ntmps33
  go_wp2
  go_loopw [7, 8] (fun n i wr => ∃ k : Nat, k ≤ 8 ∧ i = .int .i64 ((k : Int) + 1) ∧ n = .int .i64 (IntKind.i64.wrap (foldB ((modF l).take k) : Int)) ∧ Below w.heap.size w wr ∧ Zb wr w.heap.size) (fun _ i _ => 9 - (intOf i).toNat)
  case atStart => exact ⟨0, Nat.zero_le _, rfl, rfl, hW, zr0⟩
  case round =>
    obtain ⟨k, hk, rfl, rfl, hbl, zr⟩ := hrel
    by_cases hlt : k < 8
    · have ha := hat k (by omega) (by omega)
      have hlt2 := foldB_lt ((modF l).take k)
      have hkl : ((modF l).take k).length ≤ 7 := by rw [List.length_take]; omega
      have hx56 : foldB ((modF l).take k) < 72057594037927936 := Nat.lt_of_lt_of_le hlt2 (Nat.le_trans (Nat.pow_le_pow_right (by decide) hkl) (by decide))
      have hst := modF_step l k (by omega)
      by_cases h0 : k = 0
      · subst h0
        have HST : Hid (foldB ((modF l).take 1) = ((s[p + (0 + 1)]).toNat + 128) % 256) := Lib.hid (hst.trans (by
          rw [if_pos rfl, ha]
          show 0 * 256 + _ = _
          omega))
        have hbb := (s[p + (0 + 1)]).toNat_lt
        have HB := Lib.hid hbb
        clear ha hst hlt2 hkl hbb
        go_wp2
        go_roundw
        case rel => exact ⟨1, by omega, rfl, by rw [first_byte _ HB.out, HST.out], hbl, zr⟩
        case measure => simp [intOf]
      · have HST : Hid (foldB ((modF l).take (k + 1)) = foldB ((modF l).take k) * 256 + (s[p + (k + 1)]).toNat) := Lib.hid (by rw [hst, if_neg h0, ha])
        have hbb := (s[p + (k + 1)]).toNat_lt
        have HX := Lib.hid hx56
        clear ha hst hlt2 hkl
        go_wp2
        go_roundw
        case rel => exact ⟨k + 1, by omega, by go_num, by rw [or_v _ _ HX.out hbb, HST.out], hbl, zr⟩
        case measure => simp [intOf]; omega
    · have hk8 : (modF l).take k = modF l := List.take_of_length_le (by rw [modF_len]; omega)
      rw [hk8]
      have hub := Lib.hid (modF_back l hll)
      have hr := (show -9223372036854775808 ≤ IntKind.i64.wrap (foldB (modF l) : Int) ∧ IntKind.i64.wrap (foldB (modF l) : Int) ≤ 9223372036854775807 by rw [IntKind.wrap_i64]; omega)
      generalize IntKind.i64.wrap (foldB (modF l) : Int) = U at hub hr ⊢
      have bq := zr
      obtain ⟨r0, r1, r2, r3, q0, q1, q2, q3⟩ := bq
      clear zr hk8 hat
      go_wp2
      (try simp only [Exit.inBlock, Exit.then])
      refine bodyPost_ret (v := .tuple #[dv 1 U ⟨#[]⟩ none 0 0, .int .i64 ((p : Int) + 9)]) ?_ rfl ⟨by rw [hub.out], ?_⟩
      · rw [results_cell_tmp rfl]
        go_simp
        try rfl
      · exact (((hbl.setCell (p := ⟨w.heap.size, 0, none⟩) (Nat.le_refl _) _).setCell (p := ⟨w.heap.size, 1, none⟩) (Nat.le_refl _) _).setCell (p := ⟨w.heap.size, 2, none⟩) (Nat.le_refl _) _).setCell (p := ⟨w.heap.size, 3, none⟩) (Nat.le_refl _) _
end Go.Proofs.YtekcoddjdjllhaaDoor
