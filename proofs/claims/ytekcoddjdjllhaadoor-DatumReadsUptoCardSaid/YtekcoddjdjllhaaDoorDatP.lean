/- Reading texts: datum.unquote, items. -/
import Derived.Test.YtekcoddjdjllhaaDoorDatW
namespace Go.Proofs.YtekcoddjdjllhaaDoor
open Go.RowKit

def digitsL : List UInt8 := [48, 49, 50, 51, 52, 53, 54, 55, 56, 57, 65, 66, 67, 68, 69, 70]
def hexv (c : UInt8) : Int := Lib.indexByte digitsL c
def unhexI (a b : UInt8) : Int := IntKind.u8.wrap (bits .or .i64 (IntKind.i64.wrap (hexv a * 16)) (bits .and .i64 (hexv b) 15))
def unhex (a b : UInt8) : UInt8 := UInt8.ofNat (unhexI a b).toNat

def unq : List UInt8 → List UInt8
  | [] => []
  | [c] => [c]
  | [c, d] => [c, d]
  | c :: a :: b :: r => if c = 37 then unhex a b :: unq r else c :: unq (a :: b :: r)

theorem unhex_nat (a b : UInt8) : unhexI a b = ((unhex a b).toNat : Int) := by
  have h : 0 ≤ unhexI a b ∧ unhexI a b < 256 := by unfold unhexI; rw [IntKind.wrap_u8']; omega
  unfold unhex
  rw [UInt8.toNat_ofNat']; omega

theorem hexv_call (c : UInt8) : Lib.indexByte (⟨#[48, 49, 50, 51, 52, 53, 54, 55, 56, 57, 65, 66, 67, 68, 69, 70]⟩ : ByteArray).data.toList ((c.toNat : Int).toNat.toUInt8) = hexv c := by
  rw [Int.toNat_natCast]
  have : c.toNat.toUInt8 = c := UInt8.ofNat_toNat
  rw [this]; rfl

theorem unq_short (c : UInt8) (r : List UInt8) (h : ¬ (c = 37 ∧ 2 ≤ r.length)) : unq (c :: r) = c :: unq r := by
  rcases r with _ | ⟨a, _ | ⟨b, r⟩⟩
  · rfl
  · rfl
  · have : c ≠ 37 := fun e => h ⟨e, by simp⟩
    rw [unq, if_neg this]

theorem unq_len : ∀ l : List UInt8, (unq l).length ≤ l.length
  | [] => by simp [unq]
  | [c] => by simp [unq]
  | [c, d] => by simp [unq]
  | c :: a :: b :: r => by
    have h1 := unq_len r
    have h2 := unq_len (a :: b :: r)
    rw [unq]
    split
    · simp only [List.length_cons]; omega
    · simp only [List.length_cons] at *; omega

theorem drop_byte (s : ByteArray) (j : Nat) (hj : j < s.size) : s.data.toList.drop j = s[j] :: s.data.toList.drop (j + 1) := by
  have h : j < s.data.toList.length := by simpa using hj
  rw [List.drop_eq_getElem_cons h]
  rfl

theorem unq_hex (s : ByteArray) (j : Nat) (h2 : j + 2 < s.size) (h : s[j] = 37) : unq (s.data.toList.drop j) = unhex s[j + 1] s[j + 2] :: unq (s.data.toList.drop (j + 3)) := by
  rw [drop_byte s j (by omega), drop_byte s (j + 1) (by omega), drop_byte s (j + 2) (by omega), unq, if_pos h]

set_option maxRecDepth 100000 in
set_option maxHeartbeats 2000000 in
theorem unquote_any (s : ByteArray) (w : World) (hs : s.size ≤ 4194304) :
    Calls Tryd.prog 48 #[.string s] w fun e w' => e = .returned (.string ⟨(unq s.data.toList).toArray⟩) ∧ Below w.heap.size w w' := by
  have hfr := Lib.fresh_isBuilder 65 5 w
  go_enter Tryd.func48, Tryd.ntmps48
  go_wp2
  go_loopw [4] (fun i wr => ∃ (j : Nat) (done : List UInt8), j ≤ s.size ∧ i = .int .i64 j ∧ done ++ unq (s.data.toList.drop j) = unq s.data.toList ∧ done.length ≤ j ∧ Lib.IsBuilder 65 5 w.heap.size w.heap.size (Lib.byteCells done) wr ∧ Below w.heap.size w wr) (fun i _ => s.size - (intOf i).toNat)
  case atStart => exact ⟨0, [], Nat.zero_le _, rfl, rfl, by simp, hfr, (Below.refl w.heap.size w).alloc (Nat.le_refl _) _⟩
  case round =>
    obtain ⟨j, done, hj, rfl, hd, hdl, hb2, hbl2⟩ := hrel
    by_cases hlt : j < s.size
    · by_cases he : s[j] = 37 ∧ j + 2 < s.size
      · obtain ⟨he1, he2⟩ := he
        have hc : ((s[j].toNat : Int) == 37) = true := by rw [he1]; rfl
        have HE := Lib.hid he1
        clear he1
        have hw1 : IntKind.i64.wrap ((j : Int) + 1) = (j : Int) + 1 := by rw [IntKind.wrap_i64]; omega
        have hw2 : IntKind.i64.wrap ((j : Int) + 2) = (j : Int) + 2 := by rw [IntKind.wrap_i64]; omega
        have hl1 : (j : Int) + 1 < (s.size : Int) := by omega
        have hl0 : 0 ≤ (j : Int) + 1 := by omega
        have hl2 : 0 ≤ (j : Int) + 2 := by omega
        have hn1 : ((j : Int) + 1).toNat = j + 1 := by omega
        have hn2 : ((j : Int) + 2).toNat = j + 2 := by omega
        go_wp2
        refine wp_region_still_tail 14 (by kernel_rfl) (by kernel_rfl) ?_
        simp only [List.take_succ_cons, List.take_zero, List.drop_succ_cons, List.drop_zero]
        still_step
        still_step
        still_step
        still_step
        still_call (Tryd.strings_IndexByte _ _ _)
        rw [hexv_call]
        generalize hx1 : hexv s[j + 1] = x1
        still_step
        still_step
        still_step
        still_step
        still_step
        still_call (Tryd.strings_IndexByte _ _ _)
        rw [hexv_call]
        generalize hx2 : hexv s[j + 2] = x2
        still_step
        still_step
        still_step
        refine wpStill_nil ?_
        have hU : IntKind.u8.wrap (bits BinOp.or IntKind.i64 (IntKind.i64.wrap (x1 * 16)) (bits BinOp.and IntKind.i64 x2 15)) = ((unhex s[j + 1] s[j + 2]).toNat : Int) := by
          rw [← unhex_nat, unhexI, hx1, hx2]
        rw [hU]
        have hb3 : Lib.IsBuilder 65 5 w.heap.size w.heap.size (Lib.byteCells done) wr.drew := hb2.imp (·.drew) (·.drew)
        go_wp2_with fail
        refine (Tryd.bld_WriteByte w.heap.size w.heap.size _ _ _ hb3 (by rw [byteCells_length]; omega) hbl2.size).mono ?_
        rintro e w4 ⟨rfl, hb4, hbl4⟩
        go_wp2
        go_roundw
        case rel => exact ⟨j + 3, done ++ [unhex s[j + 1] s[j + 2]], by omega, by go_num, by rw [← hd, unq_hex s j he2 HE.out]; simp, by simp; omega, by rw [byteCells_append]; exact .inr hb4, hbl2.drew.trans hbl4⟩
        case measure => simp [intOf]; omega
      · have hcell : Lib.byteCells done ++ [.int .u8 s[j].toNat] = Lib.byteCells (done ++ [s[j]]) := by rw [byteCells_append]; rfl
        have hq : done ++ [s[j]] ++ unq (s.data.toList.drop (j + 1)) = unq s.data.toList := by
          rw [← hd, drop_byte s j hlt, unq_short]
          · simp
          · intro h
            refine he ⟨h.1, ?_⟩
            have := h.2
            simp at this
            omega
        have HQ := Lib.hid hq
        have HC := Lib.hid hcell
        clear hq hcell hd
        by_cases hc1 : s[j] = 37
        · have hc : ((s[j].toNat : Int) == 37) = true := by rw [hc1]; rfl
          have hl : ¬ ((j : Int) + 2 < (s.size : Int)) := fun h => he ⟨hc1, by omega⟩
          have HE := Lib.hid hc1
          clear hc1 he
          go_wp2_with (go_at_call 47; refine (Tryd.bld_WriteByte w.heap.size w.heap.size _ _ _ hb2 (by rw [byteCells_length]; omega) hbl2.size).mono ?_; rintro e w4 ⟨rfl, hb4, hbl4⟩)
          go_roundw
          case rel => exact ⟨j + 1, done ++ [s[j]], by omega, by go_num, HQ.out, by simp; omega, by rw [← HC.out]; exact .inr hb4, hbl2.trans hbl4⟩
          case measure => simp [intOf]; omega
        · have hc : ((s[j].toNat : Int) == 37) = false := by
            simp only [beq_eq_false_iff_ne, ne_eq]
            intro h
            exact hc1 (UInt8.toNat_inj.1 (by simpa using (by omega : s[j].toNat = 37)))
          clear hc1 he
          go_wp2_with (go_at_call 47; refine (Tryd.bld_WriteByte w.heap.size w.heap.size _ _ _ hb2 (by rw [byteCells_length]; omega) hbl2.size).mono ?_; rintro e w4 ⟨rfl, hb4, hbl4⟩)
          go_roundw
          case rel => exact ⟨j + 1, done ++ [s[j]], by omega, by go_num, HQ.out, by simp; omega, by rw [← HC.out]; exact .inr hb4, hbl2.trans hbl4⟩
          case measure => simp [intOf]; omega
    · have hfin : done = unq s.data.toList := by
        rw [← hd, List.drop_of_length_le (by simp; omega)]; simp [unq]
      subst hfin
      go_wp2_with fail
      refine (Tryd.Builder_String_any w.heap.size w.heap.size (unq s.data.toList) _ hb2 (by have := hbl2.size; omega)).mono ?_
      rintro e w5 ⟨rfl, hbl5⟩
      go_wp2
      go_ret
      exact ⟨rfl, hbl2.trans hbl5⟩
end Go.Proofs.YtekcoddjdjllhaaDoor
