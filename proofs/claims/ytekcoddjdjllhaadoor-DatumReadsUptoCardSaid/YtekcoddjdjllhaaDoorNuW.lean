/- The reference's Number, digit, quoted: the walks. -/
import Derived.Test.YtekcoddjdjllhaaDoorNum
namespace Go.Proofs.YtekcoddjdjllhaaDoor
open Go.RowKit

def numAns (o : Option Int) : Value :=
  match o with
  | some n => .tuple #[.int .i64 n, .bool true]
  | none => .tuple #[.int .i64 0, .bool false]
def numFin (neg : Bool) (o : Option Int) : Option Int :=
  match o with
  | none => none
  | some n => if neg = true then some n else if n = -9223372036854775808 then none else some (-n)
theorem numR_good {s : List UInt8} (h : numBad s = false) : numR s = numFin (isNeg s) (negRun 0 (numT s)) := by
  unfold numR
  rw [h]
  simp only [Bool.false_eq_true, if_false]
  cases negRun 0 (numT s) <;> rfl
theorem numR_bad {s : List UInt8} (h : numBad s = true) : numR s = none := by rw [numR, if_pos h]
theorem size_list (s : ByteArray) : s.data.toList.length = s.size := by simp
theorem ne_empty (s : ByteArray) (h : 0 < s.size) : (s.toList == []) = false := by
  rw [beq_eq_false_iff_ne, Lib.toList_data]
  intro e
  have := congrArg List.length e
  rw [size_list, List.length_nil] at this
  omega
theorem is_empty (s : ByteArray) (h : s.size = 0) : (s.toList == []) = true := by
  rw [beq_iff_eq, Lib.toList_data]
  exact List.eq_nil_of_length_eq_zero (by rw [size_list]; omega)

set_option maxRecDepth 100000 in
set_option maxHeartbeats 4000000 in
theorem rnum_plain (s : ByteArray) (w : World) (hs : s.size ≤ 4194304) (hne : 0 < s.size) (hg : ¬ (1 : Int) < (s.size : Int) ∨ ((1 : Int) < (s.size : Int) ∧ ((s[0].toNat : Int) == 45) = false ∧ ((s[0].toNat : Int) == 48) = false)) (o : Option Int) (ho : Hid (negRun 0 s.data.toList = o)) :
    Calls Tryd.prog 51 #[.string s] w fun e w' => e = .returned (numAns (numFin false o)) ∧ Below w.heap.size w w' := by
  have he := ne_empty s hne
  have h0i : (0 : Int) < (s.size : Int) := by omega
  rcases hg with hg | ⟨hg, h45, h48⟩
  all_goals
    go_enter Tryd.func51, Tryd.ntmps51
    go_wp2
    go_loopw [6, 7] (fun n i wr => ∃ (j : Nat) (k : Int), j ≤ s.size ∧ i = .int .i64 j ∧ n = .int .i64 k ∧ (-9223372036854775808 ≤ k ∧ k ≤ 0) ∧ Hid (negRun k (s.data.toList.drop j) = o) ∧ Below w.heap.size w wr) (fun _ i _ => s.size - (intOf i).toNat)
    case atStart => exact ⟨0, 0, Nat.zero_le _, rfl, rfl, by omega, by rw [List.drop_zero]; exact ho, Below.refl _ _⟩
    case round =>
      obtain ⟨j, k, hj, rfl, rfl, hk, HO, hbl⟩ := hrel
      by_cases hlt : j < s.size
      · have hjI : (j : Int) < (s.size : Int) := by omega
        have HD := Lib.hid (drop_byte s j hlt)
        have hcl := (s[j]).toNat_lt
        have hb0 : (0 : Int) ≤ ((s[j]).toNat : Int) := by omega
        have hb1 : ((s[j]).toNat : Int) < 256 := by omega
        by_cases hbad : ((s[j]).toNat : Int) - 48 < 0 ∨ 9 < ((s[j]).toNat : Int) - 48 ∨ k < -922337203685477580 ∨ (k = -922337203685477580 ∧ 8 < ((s[j]).toNat : Int) - 48)
        · have HN : o = none := by
            have := HO.out
            rw [HD.out, negRun, if_pos hbad] at this
            exact this.symm
          subst HN
          have hcs : ((s[j]).toNat : Int) - 48 < 0 ∨ (¬ ((s[j]).toNat : Int) - 48 < 0 ∧ 9 < ((s[j]).toNat : Int) - 48) ∨ (¬ ((s[j]).toNat : Int) - 48 < 0 ∧ ¬ 9 < ((s[j]).toNat : Int) - 48 ∧ k < -922337203685477580) ∨ (¬ ((s[j]).toNat : Int) - 48 < 0 ∧ ¬ 9 < ((s[j]).toNat : Int) - 48 ∧ k = -922337203685477580 ∧ 8 < ((s[j]).toNat : Int) - 48) := by omega
          clear hbad hcl
          rcases hcs with h | ⟨h1, h2⟩ | ⟨h1, h2, h3⟩ | ⟨h1, h2, h3, h4⟩
          · go_wp2
            go_ret2
            exact ⟨rfl, hbl⟩
          · go_wp2
            go_ret2
            exact ⟨rfl, hbl⟩
          · go_wp2
            go_ret2
            exact ⟨rfl, hbl⟩
          · subst h3
            go_wp2
            go_ret2
            exact ⟨rfl, hbl⟩
        · have HN : Hid (negRun (10 * k - (((s[j]).toNat : Int) - 48)) (s.data.toList.drop (j + 1)) = o) := Lib.hid (by
            have := HO.out
            rw [HD.out, negRun, if_neg hbad] at this
            exact this)
          have h1 : ¬ ((s[j]).toNat : Int) - 48 < 0 := fun h => hbad (.inl h)
          have h2 : ¬ 9 < ((s[j]).toNat : Int) - 48 := fun h => hbad (.inr (.inl h))
          have h3 : ¬ k < -922337203685477580 := fun h => hbad (.inr (.inr (.inl h)))
          by_cases hq : k = -922337203685477580
          · have h4 : ¬ 8 < ((s[j]).toNat : Int) - 48 := fun h => hbad (.inr (.inr (.inr ⟨hq, h⟩)))
            subst hq
            clear hbad hcl HO
            go_wp2
            go_roundw
            case rel => exact ⟨j + 1, 10 * -922337203685477580 - (((s[j]).toNat : Int) - 48), by omega, by go_num, by go_num, by omega, HN, hbl⟩
            case measure => simp [intOf]; omega
          · have hqb : (k == -922337203685477580) = false := by simpa using hq
            clear hbad hcl HO
            go_wp2
            go_roundw
            case rel => exact ⟨j + 1, 10 * k - (((s[j]).toNat : Int) - 48), by omega, by go_num, by go_num, by omega, HN, hbl⟩
            case measure => simp [intOf]; omega
      · have HN : o = some k := by
          have := HO.out
          rw [List.drop_of_length_le (by rw [size_list]; omega), negRun] at this
          exact this.symm
        subst HN
        have hjI : ¬ (j : Int) < (s.size : Int) := by omega
        by_cases hmin : k = -9223372036854775808
        · have HN : Hid (numAns (numFin false (some k)) = numAns none) := Lib.hid (by rw [hmin]; rfl)
          rw [hmin]
          go_wp2
          go_ret2
          exact ⟨ret_val (by rw [← hmin]; exact HN.out.symm), hbl⟩
        · have HN : Hid (numAns (numFin false (some k)) = numAns (some (-k))) := Lib.hid (by simp only [numFin, Bool.false_eq_true, if_false, if_neg hmin])
          have hm : (k == -9223372036854775808) = false := by simpa using hmin
          have hsub : (0 : Int) - k = -k := by omega
          go_wp2
          go_ret2
          exact ⟨ret_val (by rw [HN.out]; simp [numAns]), hbl⟩
set_option maxRecDepth 100000 in
set_option maxHeartbeats 4000000 in
theorem rnum_neg (s T : ByteArray) (w : World) (hs : s.size ≤ 4194304) (hne : 1 < s.size) (h45 : ((s[0].toNat : Int) == 45) = true) (hT : s.extract 1 s.size = T) (hTs : T.size = s.size - 1) (h0 : ((T[0].toNat : Int) == 48) = false) (o : Option Int) (ho : Hid (negRun 0 T.data.toList = o)) :
    Calls Tryd.prog 51 #[.string s] w fun e w' => e = .returned (numAns (numFin true o)) ∧ Below w.heap.size w w' := by
  have he := ne_empty T (by omega)
  have h1i : (1 : Int) < (s.size : Int) := by omega
  have h0i : (0 : Int) < (T.size : Int) := by omega
  have hg : (1 : Int) < (T.size : Int) ∨ ¬ (1 : Int) < (T.size : Int) := Decidable.em _
  rcases hg with hg | hg
  all_goals
    go_enter Tryd.func51, Tryd.ntmps51
    go_wp2
    go_loopw [6, 7] (fun n i wr => ∃ (j : Nat) (k : Int), j ≤ T.size ∧ i = .int .i64 j ∧ n = .int .i64 k ∧ (-9223372036854775808 ≤ k ∧ k ≤ 0) ∧ Hid (negRun k (T.data.toList.drop j) = o) ∧ Below w.heap.size w wr) (fun _ i _ => T.size - (intOf i).toNat)
    case atStart => exact ⟨0, 0, Nat.zero_le _, rfl, rfl, by omega, by rw [List.drop_zero]; exact ho, Below.refl _ _⟩
    case round =>
      obtain ⟨j, k, hj, rfl, rfl, hk, HO, hbl⟩ := hrel
      by_cases hlt : j < T.size
      · have hjI : (j : Int) < (T.size : Int) := by omega
        have HD := Lib.hid (drop_byte T j hlt)
        have hcl := (T[j]).toNat_lt
        have hb0 : (0 : Int) ≤ ((T[j]).toNat : Int) := by omega
        have hb1 : ((T[j]).toNat : Int) < 256 := by omega
        by_cases hbad : ((T[j]).toNat : Int) - 48 < 0 ∨ 9 < ((T[j]).toNat : Int) - 48 ∨ k < -922337203685477580 ∨ (k = -922337203685477580 ∧ 8 < ((T[j]).toNat : Int) - 48)
        · have HN : o = none := by
            have := HO.out
            rw [HD.out, negRun, if_pos hbad] at this
            exact this.symm
          subst HN
          have hcs : ((T[j]).toNat : Int) - 48 < 0 ∨ (¬ ((T[j]).toNat : Int) - 48 < 0 ∧ 9 < ((T[j]).toNat : Int) - 48) ∨ (¬ ((T[j]).toNat : Int) - 48 < 0 ∧ ¬ 9 < ((T[j]).toNat : Int) - 48 ∧ k < -922337203685477580) ∨ (¬ ((T[j]).toNat : Int) - 48 < 0 ∧ ¬ 9 < ((T[j]).toNat : Int) - 48 ∧ k = -922337203685477580 ∧ 8 < ((T[j]).toNat : Int) - 48) := by omega
          clear hbad hcl
          rcases hcs with h | ⟨h1, h2⟩ | ⟨h1, h2, h3⟩ | ⟨h1, h2, h3, h4⟩
          · go_wp2
            go_ret2
            exact ⟨rfl, hbl⟩
          · go_wp2
            go_ret2
            exact ⟨rfl, hbl⟩
          · go_wp2
            go_ret2
            exact ⟨rfl, hbl⟩
          · subst h3
            go_wp2
            go_ret2
            exact ⟨rfl, hbl⟩
        · have HN : Hid (negRun (10 * k - (((T[j]).toNat : Int) - 48)) (T.data.toList.drop (j + 1)) = o) := Lib.hid (by
            have := HO.out
            rw [HD.out, negRun, if_neg hbad] at this
            exact this)
          have h1 : ¬ ((T[j]).toNat : Int) - 48 < 0 := fun h => hbad (.inl h)
          have h2 : ¬ 9 < ((T[j]).toNat : Int) - 48 := fun h => hbad (.inr (.inl h))
          have h3 : ¬ k < -922337203685477580 := fun h => hbad (.inr (.inr (.inl h)))
          by_cases hq : k = -922337203685477580
          · have h4 : ¬ 8 < ((T[j]).toNat : Int) - 48 := fun h => hbad (.inr (.inr (.inr ⟨hq, h⟩)))
            subst hq
            clear hbad hcl HO
            go_wp2
            go_roundw
            case rel => exact ⟨j + 1, 10 * -922337203685477580 - (((T[j]).toNat : Int) - 48), by omega, by go_num, by go_num, by omega, HN, hbl⟩
            case measure => simp [intOf]; omega
          · have hqb : (k == -922337203685477580) = false := by simpa using hq
            clear hbad hcl HO
            go_wp2
            go_roundw
            case rel => exact ⟨j + 1, 10 * k - (((T[j]).toNat : Int) - 48), by omega, by go_num, by go_num, by omega, HN, hbl⟩
            case measure => simp [intOf]; omega
      · have HN : o = some k := by
          have := HO.out
          rw [List.drop_of_length_le (by rw [size_list]; omega), negRun] at this
          exact this.symm
        subst HN
        have hjI : ¬ (j : Int) < (T.size : Int) := by omega
        go_wp2
        go_ret2
        exact ⟨rfl, hbl⟩
set_option maxRecDepth 100000 in
set_option maxHeartbeats 4000000 in
theorem rnum_bad (s T : ByteArray) (w : World) (hs : s.size ≤ 4194304) (hT : s.extract 1 s.size = T) (hTs : T.size = s.size - 1)
    (hb : s.size = 0 ∨ (∃ h : 1 < s.size, (((s[0]'(by omega)).toNat : Int) == 45) = false ∧ (((s[0]'(by omega)).toNat : Int) == 48) = true) ∨
      (∃ h : 1 < s.size, (((s[0]'(by omega)).toNat : Int) == 45) = true ∧ (((T[0]'(by omega)).toNat : Int) == 48) = true)) :
    Calls Tryd.prog 51 #[.string s] w fun e w' => e = .returned (numAns none) ∧ Below w.heap.size w w' := by
  rcases hb with hb | ⟨h, h45, h48⟩ | ⟨h, h45, h48⟩
  · have he := is_empty s hb
    have hz : ¬ (1 : Int) < (s.size : Int) := by omega
    go_enter Tryd.func51, Tryd.ntmps51
    go_wp2
    go_ret2
    exact ⟨rfl, Below.refl _ _⟩
  · have he := ne_empty s (by omega)
    have h1i : (1 : Int) < (s.size : Int) := by omega
    have h0i : (0 : Int) < (s.size : Int) := by omega
    go_enter Tryd.func51, Tryd.ntmps51
    go_wp2
    go_ret2
    exact ⟨rfl, Below.refl _ _⟩
  · have he := ne_empty T (by omega)
    have h1i : (1 : Int) < (s.size : Int) := by omega
    have h0i : (0 : Int) < (T.size : Int) := by omega
    have hg : (1 : Int) < (T.size : Int) ∨ ¬ (1 : Int) < (T.size : Int) := Decidable.em _
    rcases hg with hg | hg
    all_goals
      go_enter Tryd.func51, Tryd.ntmps51
      go_wp2
      go_ret2
      exact ⟨rfl, Below.refl _ _⟩

theorem head0 (s : ByteArray) (h : 0 < s.size) (y : UInt8) (k : Int) (hk : (y.toNat : Int) = k) : ((s[0].toNat : Int) == k) = (s.data.toList.head? == some y) := by
  rw [head_at s h]
  by_cases e : s[0] = y
  · rw [u8_beq _ _ e k hk, e]; simp
  · rw [u8_bne _ _ e k hk]; simp [e]

theorem rnum_any (s : ByteArray) (w : World) (hs : s.size ≤ 4194304) :
    Calls Tryd.prog 51 #[.string s] w fun e w' => e = .returned (numAns (numR s.data.toList)) ∧ Below w.heap.size w w' := by
  have hT : s.extract 1 s.size = toBA (s.data.toList.drop 1) := by
    by_cases h : 1 ≤ s.size
    · rw [extract_sub s 1 s.size (Nat.le_refl _), sub, List.take_of_length_le (by rw [size_list]; omega)]
    · apply ByteArray.ext
      apply Array.toList_inj.1
      rw [toBA_list, List.drop_of_length_le (by rw [size_list]; omega)]
      apply List.eq_nil_of_length_eq_zero
      simp; omega
  have hTs : (toBA (s.data.toList.drop 1)).size = s.size - 1 := by rw [toBA_size, List.length_drop, size_list]
  have hTl := toBA_list (s.data.toList.drop 1)
  by_cases h0 : s.size = 0
  · have hb : numBad s.data.toList = true := by
      rw [List.eq_nil_of_length_eq_zero ((size_list s).trans h0)]; decide
    rw [numR_bad hb]
    exact rnum_bad s _ w hs hT hTs (.inl h0)
  · have hp : 0 < s.size := by omega
    have h45 := head0 s hp 45 45 rfl
    have h48 := head0 s hp 48 48 rfl
    by_cases h1 : 1 < s.size
    · cases hn : (s.data.toList.head? == some 45) with
      | true =>
        have hneg : isNeg s.data.toList = true := by rw [isNeg, size_list, hn]; simp [h1]
        have hnT : numT s.data.toList = s.data.toList.drop 1 := by rw [numT, if_pos hneg]
        have hTh := head0 (toBA (s.data.toList.drop 1)) (by omega) 48 48 rfl
        rw [hTl] at hTh
        cases h8 : ((s.data.toList.drop 1).head? == some 48) with
        | true =>
          have hb : numBad s.data.toList = true := by simp only [numBad, hnT, hneg, h8, Bool.and_self, Bool.or_true]
          rw [numR_bad hb]
          exact rnum_bad s _ w hs hT hTs (.inr (.inr ⟨h1, by rw [h45, hn], by rw [hTh, h8]⟩))
        | false =>
          have hne : (s.data.toList.drop 1 == []) = false := by
            rw [beq_eq_false_iff_ne]
            intro e
            have := congrArg List.length e
            rw [List.length_drop, size_list, List.length_nil] at this
            omega
          have hb : numBad s.data.toList = false := by simp only [numBad, hnT, hneg, h8, hne]; simp
          rw [numR_good hb, hneg, hnT]
          exact rnum_neg s _ w hs h1 (by rw [h45, hn]) hT hTs (by rw [hTh, h8]) _ (Lib.hid (by rw [hTl]))
      | false =>
        have hneg : isNeg s.data.toList = false := by rw [isNeg, hn]; simp
        have hnT : numT s.data.toList = s.data.toList := by rw [numT, if_neg (by rw [hneg]; decide)]
        cases h8 : (s.data.toList.head? == some 48) with
        | true =>
          have hb : numBad s.data.toList = true := by simp only [numBad, hnT, h8, size_list, decide_eq_true h1, Bool.and_self, Bool.true_or, Bool.or_true]
          rw [numR_bad hb]
          exact rnum_bad s _ w hs hT hTs (.inr (.inl ⟨h1, by rw [h45, hn], by rw [h48, h8]⟩))
        | false =>
          have hne : (s.data.toList == []) = false := by rw [← Lib.toList_data]; exact ne_empty s hp
          have hb : numBad s.data.toList = false := by simp only [numBad, hnT, hneg, h8, hne]; simp
          rw [numR_good hb, hneg, hnT]
          exact rnum_plain s w hs hp (.inr ⟨by omega, by rw [h45, hn], by rw [h48, h8]⟩) _ (Lib.hid rfl)
    · have hneg : isNeg s.data.toList = false := by rw [isNeg, size_list]; simp [h1]
      have hnT : numT s.data.toList = s.data.toList := by rw [numT, if_neg (by rw [hneg]; decide)]
      have hne : (s.data.toList == []) = false := by rw [← Lib.toList_data]; exact ne_empty s hp
      have hb : numBad s.data.toList = false := by simp only [numBad, hnT, hneg, hne, size_list]; simp [h1]
      rw [numR_good hb, hneg, hnT]
      exact rnum_plain s w hs hp (.inl (by omega)) _ (Lib.hid rfl)

end Go.Proofs.YtekcoddjdjllhaaDoor
