/- The text of data. -/
import Derived.Test.YtdjlbfepddcmeaaGreatDoorQ02
import Derived.Test.YtdjlbfepddcmeaaGreatDoorQ03
import Derived.StillTailTactics
set_option linter.unusedVariables false
set_option linter.unusedSimpArgs false
namespace Go.Proofs.YtdjlbfepddcmeaaGreatDoor
open Go.RowKit

/-- A hexadecimal digit. -/
def hexd (n : Nat) : UInt8 := UInt8.ofNat (if n < 10 then 48 + n else 55 + n)
/-- Is a byte escaped? -/
def escB (b : UInt8) : Bool := decide (b.toNat < 33) || decide (126 < b.toNat) || decide (b.toNat = 39) || decide (b.toNat = 37)
def qu1 (b : UInt8) : List UInt8 := if escB b then [37, hexd (b.toNat / 16), hexd (b.toNat % 16)] else [b]
/-- A text in quotes. -/
def quoteL (l : List UInt8) : List UInt8 := [39] ++ l.flatMap qu1 ++ [39]

theorem esc_closure (b : UInt8) (w : World) :
    Calls Tryz.prog 96 #[.int .u8 b.toNat] w fun e w' => e = .returned (.bool (escB b)) ∧ w' = w := by
  have hE : escB b = (decide (b.toNat < 33) || decide (126 < b.toNat) || decide (b.toNat = 39) || decide (b.toNat = 37)) := rfl
  have HE := Lib.hid hE
  clear hE
  generalize hn : b.toNat = n at HE
  have HN := Lib.hid hn
  clear hn
  by_cases h1 : n < 33
  · go_enter Tryz.func96, Tryz.ntmps96
    go_wp2
    go_ret
    exact ⟨ret_bool (by rw [HE.out]; simp [h1]), rfl⟩
  · by_cases h2 : 126 < n
    · go_enter Tryz.func96, Tryz.ntmps96
      go_wp2
      go_ret
      exact ⟨ret_bool (by rw [HE.out]; simp [h1, h2]), rfl⟩
    · by_cases h3 : n = 39
      · subst h3
        go_enter Tryz.func96, Tryz.ntmps96
        go_wp2
        go_ret
        exact ⟨ret_bool (by rw [HE.out]; simp), rfl⟩
      · go_enter Tryz.func96, Tryz.ntmps96
        go_wp2
        go_ret
        refine ⟨ret_bool ?_, rfl⟩
        rw [HE.out]
        by_cases h4 : n = 37
        · subst h4; simp
        · simp [h1, h2, h3, h4]; try omega

theorem digit_all : ∀ k : Fin 16, ((⟨#[48, 49, 50, 51, 52, 53, 54, 55, 56, 57, 65, 66, 67, 68, 69, 70]⟩ : ByteArray)[k.val]'k.isLt) = hexd k.val := by decide
theorem digit_hi (n : Nat) (h : n < 256) (hh : ((n : Int) / 16).toNat < (⟨#[48, 49, 50, 51, 52, 53, 54, 55, 56, 57, 65, 66, 67, 68, 69, 70]⟩ : ByteArray).size) : ((⟨#[48, 49, 50, 51, 52, 53, 54, 55, 56, 57, 65, 66, 67, 68, 69, 70]⟩ : ByteArray)[((n : Int) / 16).toNat]'hh) = hexd (n / 16) := by
  have e : ((n : Int) / 16).toNat = n / 16 := by omega
  simp only [e]
  exact digit_all ⟨n / 16, by omega⟩

theorem enc_all : ∀ k : Fin 16, (Utf8.encode ((hexd k.val).toNat : Int)).data.toList = [hexd k.val] := by decide
theorem enc_hex (n : Nat) (h : n < 16) : Utf8.encode ((hexd n).toNat : Int) = ⟨#[hexd n]⟩ := by
  have := enc_all ⟨n, h⟩
  simp only at this
  generalize Utf8.encode ((hexd n).toNat : Int) = s at *
  obtain ⟨d⟩ := s
  congr
  exact Array.toList_inj.1 this

theorem digit_lo (n : Nat) (hh : ((n : Int) % 16).toNat < (⟨#[48, 49, 50, 51, 52, 53, 54, 55, 56, 57, 65, 66, 67, 68, 69, 70]⟩ : ByteArray).size) : ((⟨#[48, 49, 50, 51, 52, 53, 54, 55, 56, 57, 65, 66, 67, 68, 69, 70]⟩ : ByteArray)[((n : Int) % 16).toNat]'hh) = hexd (n % 16) := by
  have e : ((n : Int) % 16).toNat = n % 16 := by omega
  simp only [e]
  exact digit_all ⟨n % 16, by omega⟩

/-- What is written of the first bytes. -/
def quoteTo (s : ByteArray) (j : Nat) : List UInt8 := [39] ++ (s.data.toList.take j).flatMap qu1

theorem qu1_len (b : UInt8) : (qu1 b).length ≤ 3 := by unfold qu1; split <;> simp
theorem qu_len (l : List UInt8) : (l.flatMap qu1).length ≤ 3 * l.length := by
  induction l with
  | nil => simp
  | cons b l ih => have := qu1_len b; simp only [List.flatMap_cons, List.length_append, List.length_cons]; omega
theorem quoteTo_len (s : ByteArray) (hs : s.size ≤ 32) (j : Nat) : (quoteTo s j).length ≤ 97 := by
  have h1 := qu_len (s.data.toList.take j)
  have h2 : (s.data.toList.take j).length ≤ 32 := by
    rw [List.length_take]
    have : s.data.toList.length = s.size := by simp
    omega
  simp only [quoteTo, List.length_append, List.length_cons, List.length_nil]; omega
theorem quoteTo_succ (s : ByteArray) (j : Nat) (hj : j < s.size) : quoteTo s (j + 1) = quoteTo s j ++ qu1 s[j] := by
  simp [quoteTo, take_snoc s j hj]
theorem quote_esc (s : ByteArray) (j : Nat) (hj : j < s.size) (he : escB s[j] = true) {n : Nat} (hn : s[j].toNat = n) {A A2 : UInt8} (ha : hexd (n / 16) = A) (ha2 : hexd (n % 16) = A2) :
    Lib.byteCells (quoteTo s j) ++ Lib.strCells (⟨#[37]⟩ ++ ⟨#[A]⟩ ++ ⟨#[A2]⟩ : ByteArray) = Lib.byteCells (quoteTo s (j + 1)) := by
  rw [quoteTo_succ s j hj, byteCells_append, qu1, if_pos he, hn, ha, ha2]
  rfl
theorem quote_plain (s : ByteArray) (j : Nat) (hj : j < s.size) (he : escB s[j] = false) :
    Lib.byteCells (quoteTo s j) ++ [.int .u8 s[j].toNat] = Lib.byteCells (quoteTo s (j + 1)) := by
  rw [quoteTo_succ s j hj, byteCells_append, qu1, he]
  rfl
theorem quote_end (s : ByteArray) (j : Nat) (hj : s.size ≤ j) : Lib.byteCells (quoteTo s j) ++ [.int .u8 39] = Lib.byteCells (quoteL s.data.toList) := by
  have : quoteL s.data.toList = quoteTo s j ++ [39] := by
    simp only [quoteL, quoteTo]
    rw [List.take_of_length_le (by simp; omega)]
  rw [this, byteCells_append]; rfl

set_option maxRecDepth 100000 in
set_option maxHeartbeats 2000000 in
theorem quote_any (s : ByteArray) (w : World) (hs : s.size ≤ 32) :
    Calls Tryz.prog 88 #[.string s] w fun e w' => e = .returned (.string ⟨(quoteL s.data.toList).toArray⟩) ∧ Below w.heap.size w w' := by
  have hfr := Lib.fresh_isBuilder 62 5 w
  go_enter Tryz.func88, Tryz.ntmps88
  go_wp2_with fail
  refine (Tryz.bld_WriteByte w.heap.size w.heap.size [] 39 _ hfr (by simp) (by simp)).mono ?_
  rintro e w1 ⟨rfl, hb1, hbl1⟩
  have hlt1 := hb1.lt
  go_wp2
  go_loopw [10] (fun i wr => ∃ j : Nat, j ≤ s.size ∧ i = .int .i64 j ∧ Lib.BuilderAt 62 5 w.heap.size w.heap.size (.pointer (some ⟨w.heap.size, 0, none⟩)) (Lib.byteCells (quoteTo s j)) wr ∧ Below w.heap.size w wr) (fun i _ => s.size - (intOf i).toNat)
  case atStart => exact ⟨0, Nat.zero_le _, rfl, hb1, ((Below.refl w.heap.size w).alloc (Nat.le_refl _) _).trans hbl1⟩
  case round =>
    obtain ⟨j, hj, rfl, hb2, hbl2⟩ := hrel
    by_cases hlt : j < s.size
    · have hbt : (s[j].toNat : Int) < 256 := by have := s[j].toNat_lt; omega
      by_cases he : escB s[j] = true
      · go_wp2_with (go_at_call 96; refine (esc_closure s[j] _).mono ?_; rintro e w' ⟨rfl, rfl⟩)
        generalize hbN : s[j].toNat = n at hbt
        have HB := Lib.hid hbN
        clear hbN
        refine wp_region_still_tail 10 (by kernel_rfl) (by kernel_rfl) ?_
        simp only [List.take_succ_cons, List.take_zero, List.drop_succ_cons, List.drop_zero]
        still_step
        still_step
        refine wpStill_step (fun K hK => ?_)
        go_simp
        rw [dif_pos ⟨by omega, by omega⟩]
        simp only [digit_hi n (by omega)]
        go_simp
        refine hK _ ?_
        clear hK K
        refine wpStill_step (fun K hK => ?_)
        go_simp
        rw [enc_hex (n / 16) (by omega)]
        generalize hA : hexd (n / 16) = A
        refine hK _ ?_
        clear hK K
        have HAA := Lib.hid hA
        clear hA
        still_step
        still_step
        refine wpStill_step (fun K hK => ?_)
        go_simp
        rw [u8_and15 (n : Int) (by omega) (by omega)]
        refine hK _ ?_
        clear hK K
        refine wpStill_step (fun K hK => ?_)
        go_simp
        rw [dif_pos ⟨by omega, by omega⟩]
        simp only [digit_lo n]
        go_simp
        refine hK _ ?_
        clear hK K
        refine wpStill_step (fun K hK => ?_)
        go_simp
        rw [enc_hex (n % 16) (by omega)]
        generalize hA : hexd (n % 16) = A2
        refine hK _ ?_
        clear hK K
        have HAB := Lib.hid hA
        clear hA
        still_step
        refine wpStill_nil ?_
        have hb3 : Lib.IsBuilder 62 5 w.heap.size w.heap.size (Lib.byteCells (quoteTo s j)) w'.drew := .inr hb2.drew
        go_wp2_with fail
        refine (Tryz.bld_WriteString _ _ _ _ _ hb3 ?_ ?_).mono ?_
        · have := quoteTo_len s hs j
          have e3 : (⟨#[37]⟩ ++ ⟨#[A]⟩ ++ ⟨#[A2]⟩ : ByteArray).size = 3 := by simp; rfl
          rw [byteCells_length, e3]; omega
        · exact hbl2.size
        rintro e w4 ⟨rfl, hb4, hbl4⟩
        go_wp2
        go_roundw
        case rel => exact ⟨j + 1, by omega, by go_num, by rw [← quote_esc s j hlt he HB.out HAA.out HAB.out]; exact hb4, hbl2.drew.trans hbl4⟩
        case measure => simp [intOf]; omega
      · have he' : escB s[j] = false := by simpa using he
        go_wp2_with (first
          | (go_at_call 96; refine (esc_closure s[j] _).mono ?_; rintro e w' ⟨rfl, rfl⟩)
          | (go_at_call 95; refine (Tryz.bld_WriteByte w.heap.size w.heap.size _ _ _ (.inr hb2) (by rw [byteCells_length]; have := quoteTo_len s hs j; omega) hbl2.size).mono ?_; rintro e w4 ⟨rfl, hb4, hbl4⟩))
        go_roundw
        case rel => exact ⟨j + 1, by omega, by go_num, by rw [← quote_plain s j hlt he']; exact hb4, hbl2.trans hbl4⟩
        case measure => simp [intOf]; omega
    · have hl := quoteTo_len s hs j
      go_wp2_with (first
        | (go_at_call 95; refine (Tryz.bld_WriteByte w.heap.size w.heap.size _ 39 _ (.inr hb2) (by rw [byteCells_length]; omega) hbl2.size).mono ?_; rintro e w4 ⟨rfl, hb4, hbl4⟩)
        | (go_at_call 36; refine (Tryz.Builder_String_any w.heap.size w.heap.size (quoteL s.data.toList) _ (.inr (by rw [← quote_end s j (by omega)]; exact hb4)) (by have := hbl2.size; have := hbl4.size; omega)).mono ?_; rintro e w5 ⟨rfl, hbl5⟩))
      go_ret
      exact ⟨rfl, (hbl2.trans hbl4).trans hbl5⟩
end Go.Proofs.YtdjlbfepddcmeaaGreatDoor
