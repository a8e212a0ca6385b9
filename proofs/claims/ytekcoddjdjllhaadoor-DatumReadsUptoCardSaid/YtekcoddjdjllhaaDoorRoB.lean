/- The reference's one: a text; nothing. -/
import Derived.Test.YtekcoddjdjllhaaDoorRoA
namespace Go.Proofs.YtekcoddjdjllhaaDoor
open Go.RowKit

def scanS (out : List UInt8) (l : List UInt8) : Option (List UInt8 × List UInt8) := match (scan out l).2 with
  | some r => some ((scan out l).1, r)
  | none => none
theorem scanS_nil (out : List UInt8) : scanS out [] = none := by simp [scanS, scan_nil]
theorem scanS_one (out : List UInt8) (c : UInt8) : scanS out [c] = none := by simp [scanS, scan_one]
theorem scanS_two (out : List UInt8) (c d : UInt8) (r : List UInt8) : scanS out (c :: d :: r) =
    if c = 0 then if d = 0 then some (out, r) else if d = 255 then scanS (out ++ [0]) r else none else scanS (out ++ [c]) (d :: r) := by
  unfold scanS
  rw [scan_two]
  by_cases h : c = 0
  · by_cases h2 : d = 0
    · simp only [if_pos h, if_pos h2]
    · by_cases h3 : d = 255
      · simp only [if_pos h, if_neg h2, if_pos h3]
      · simp only [if_pos h, if_neg h2, if_neg h3]
  · simp only [if_neg h]

theorem one1_S (c : UInt8) (l : List UInt8) (hc : c = 2) : one1 (c :: l) = match scanS [] l with
    | some (o, r) => if o.length ≤ 32 then some (⟨2, 0, toBA o, 0⟩, r) else none
    | none => none := by
  subst hc
  simp only [one1, scanS]
  rw [if_neg (by decide)]
  simp only [if_true]
  cases (scan [] l).2 <;> rfl

set_option maxRecDepth 100000 in
set_option maxHeartbeats 4000000 in
theorem rone_none (s : ByteArray) (p : Nat) (w : World) (hs : s.size ≤ 4194304) (hp : p ≤ s.size) (h1 : ¬ (p + 9 ≤ s.size ∧ (s.data.toList.drop p).head? = some 1)) (h2 : (s.data.toList.drop p).head? ≠ some 2) :
    Calls Tryd.prog 33 #[.string s, .int .i64 p] w fun e w' => e = .returned (.tuple #[dv 0 0 ⟨#[]⟩ none 0 0, .int .i64 (-1)]) ∧ Below w.heap.size w w' := by
  have hW : Below w.heap.size w ((w.alloc (.cells #[.int .i64 0, .int .i64 0, .string ⟨#[]⟩, .slice none 0 0] 24)).alloc (.cells #[.int .i64 0, .int .i64 0, .string ⟨#[]⟩, .slice none 0 0] 24)) := ((Below.refl _ _).alloc (Nat.le_refl _) _).alloc (by simp) _
  by_cases hlt : p < s.size
  · rw [drop_byte s p hlt] at h1 h2
    simp only [List.head?_cons, Option.some.injEq, ne_eq] at h1 h2
    have hltI : ¬ (s.size : Int) ≤ (p : Int) := by omega
    have c2 := u8_bne _ _ h2 2 rfl
    have c2' : ((s[p].toNat : Int) != 2) = true := by rw [bne, c2]; rfl
    by_cases e1 : s[p] = 1
    · have c1 := u8_beq _ _ e1 1 rfl
      have hp9 : (s.size : Int) < (p : Int) + 9 := by
        rcases Nat.lt_or_ge s.size (p + 9) with h | h
        · omega
        · exact absurd ⟨h, e1⟩ h1
      clear h1 h2 e1
      go_enter Tryd.func33, Tryd.ntmps33
      go_wp2
      (try simp only [Exit.inBlock, Exit.then])
      refine bodyPost_ret (v := .tuple #[dv 0 0 ⟨#[]⟩ none 0 0, .int .i64 (-1)]) ?_ rfl ⟨rfl, ?_⟩
      · rw [results_cell_tmp rfl]
        go_simp
        try rfl
      · go_grown
    · have c1 := u8_bne _ _ e1 1 rfl
      clear h1 h2 e1
      go_enter Tryd.func33, Tryd.ntmps33
      go_wp2
      (try simp only [Exit.inBlock, Exit.then])
      refine bodyPost_ret (v := .tuple #[dv 0 0 ⟨#[]⟩ none 0 0, .int .i64 (-1)]) ?_ rfl ⟨rfl, ?_⟩
      · rw [results_cell_tmp rfl]
        go_simp
        try rfl
      · go_grown
  · have hltI : (s.size : Int) ≤ (p : Int) := by omega
    clear h1 h2
    go_enter Tryd.func33, Tryd.ntmps33
    go_wp2
    (try simp only [Exit.inBlock, Exit.then])
    refine bodyPost_ret (v := .tuple #[dv 0 0 ⟨#[]⟩ none 0 0, .int .i64 (-1)]) ?_ rfl ⟨rfl, ?_⟩
    · rw [results_cell_tmp rfl]
      go_simp
      try rfl
    · go_grown

set_option maxRecDepth 100000 in
set_option maxHeartbeats 4000000 in
theorem rone_text (s : ByteArray) (p : Nat) (w : World) (hs : s.size ≤ 4194304) (hp : p < s.size) (h2 : s[p] = 2) (o : Option (List UInt8 × List UInt8)) (ho : Hid (scanS [] (s.data.toList.drop (p + 1)) = o)) :
    Calls Tryd.prog 33 #[.string s, .int .i64 p] w fun e w' => e = .returned (oneAns (match (generalizing := false) o with
      | some (q, r) => if q.length ≤ 32 then some (⟨2, 0, toBA q, 0⟩, r) else none
      | none => none) s.size) ∧ Below w.heap.size w w' := by
  have hltI : ¬ (s.size : Int) ≤ (p : Int) := by omega
  have c2 := u8_beq _ _ h2 2 rfl
  have c2' : ((s[p].toNat : Int) != 2) = false := by rw [bne, c2]; rfl
  have c1 := u8_bne s[p] 1 (by rw [h2]; decide) 1 rfl
  have hl : s.data.toList.length = s.size := by simp
  clear h2
  have hW : Below w.heap.size w ((w.alloc (.cells #[.int .i64 0, .int .i64 0, .string ⟨#[]⟩, .slice none 0 0] 24)).alloc (.cells #[.int .i64 0, .int .i64 0, .string ⟨#[]⟩, .slice none 0 0] 24)) := ((Below.refl _ _).alloc (Nat.le_refl _) _).alloc (by simp) _
  have zr0 : Zb ((w.alloc (.cells #[.int .i64 0, .int .i64 0, .string ⟨#[]⟩, .slice none 0 0] 24)).alloc (.cells #[.int .i64 0, .int .i64 0, .string ⟨#[]⟩, .slice none 0 0] 24)) w.heap.size := ⟨by go_simp, by go_simp, by go_simp, by go_simp, by go_simp, by go_simp, by go_simp, by go_simp⟩
  have zd0 : Zb ((w.alloc (.cells #[.int .i64 0, .int .i64 0, .string ⟨#[]⟩, .slice none 0 0] 24)).alloc (.cells #[.int .i64 0, .int .i64 0, .string ⟨#[]⟩, .slice none 0 0] 24)) (w.heap.size + 1) := ⟨by go_simp, by go_simp, by go_simp, by go_simp, by go_simp, by go_simp, by go_simp, by go_simp⟩
  go_enter Tryd.func33, Tryd.ntmps33
  go_wp2
  go_loopw [10, 11] (fun v i wr => ∃ (j : Nat) (done : List UInt8), j ≤ s.size ∧ i = .int .i64 j ∧ Hid (scanS done (s.data.toList.drop j) = o) ∧ done.length ≤ j ∧ Buf wr (w.heap.size + 1 + 1) v done ∧ Below w.heap.size w wr ∧ Zb wr w.heap.size ∧ Zb wr (w.heap.size + 1) ∧ w.heap.size + 1 + 1 ≤ wr.heap.size) (fun _ i _ => s.size - (intOf i).toNat)
  case atStart => exact ⟨p + 1, [], by omega, by go_num, ho, by simp, Buf.nil _ _, hW, zr0, zd0, by simp⟩
  case round =>
    obtain ⟨j, done, hj, rfl, HO, hdl, hb2, hbl, zr, zd, hz⟩ := hrel
    clear zr0 zd0 hW ho
    have bq := zr
    obtain ⟨r0, r1, r2, r3, q0, q1, q2, q3⟩ := bq
    have bq := zd
    obtain ⟨d0, d1, d2, d3, df0, df1, df2, df3⟩ := bq
    by_cases hlt : j < s.size
    · have hjI : (j : Int) < (s.size : Int) := by omega
      by_cases e0 : s[j] = 0
      · have c0 := u8_beq _ _ e0 0 rfl
        have c0' : ((s[j].toNat : Int) != 0) = false := by rw [bne, c0]; rfl
        by_cases hlt1 : j + 1 < s.size
        · have hj1 : (j : Int) + 1 < (s.size : Int) := by omega
          have hj0 : (0 : Int) ≤ (j : Int) + 1 := by omega
          have hjn : ((j : Int) + 1).toNat = j + 1 := by omega
          have htwo := two_at s j hlt1
          by_cases e2 : s[j + 1] = 255
          · have c3 := u8_beq _ _ e2 255 rfl
            have HN : Hid (scanS (done ++ [0]) (s.data.toList.drop (j + 2)) = o) := Lib.hid (by
              have := HO.out
              rw [htwo, scanS_two, if_pos e0, if_neg (by rw [e2]; decide), if_pos e2] at this
              exact this)
            clear e0 e2 htwo
            go_wp2_with (at_builtin; refine wp_app1 rfl (.tmp 85) (.tmp 86) rfl (w.heap.size + 1 + 1) _ _ rfl hb2 _ 0 rfl _ 1 rfl (by simp) (by omega) (by omega) ?_; intro v3 w3 hb3 hbl3 hg3 hz3)
            go_roundw
            case rel => exact ⟨j + 2, done ++ [0], by omega, by go_num, HN, by simp; omega, hb3, hbl.trans (hbl3.mono (by omega)), zr.later hbl3 (by omega), zd.later hbl3 (by omega), by omega⟩
            case measure => simp [intOf]; omega
          · have c3 := u8_bne _ _ e2 255 rfl
            by_cases e3 : s[j + 1] = 0
            · have c4 := u8_beq _ _ e3 0 rfl
              have HN : o = some (done, s.data.toList.drop (j + 2)) := by
                have := HO.out
                rw [htwo, scanS_two, if_pos e0, if_pos e3] at this
                exact this.symm
              subst HN
              obtain ⟨V, cv, rfl⟩ := hb2.slice
              by_cases h32 : done.length ≤ 32
              · have hs2 := hb2.string
                have h32I : (done.length : Int) ≤ 32 := by omega
                have HV : Hid (oneAns (some (⟨2, 0, toBA done, 0⟩, s.data.toList.drop (j + 2))) s.size = .tuple #[dv 2 0 ⟨done.toArray⟩ none 0 0, .int .i64 ((j : Int) + 2)]) := Lib.hid (by
                  rw [oneAns]
                  simp only [List.length_drop]
                  rw [hl, show ((s.size : Int) - (s.size - (j + 2) : Nat)) = (j : Int) + 2 by omega]
                  rfl)
                clear e0 e2 e3 htwo h32
                go_wp2
                (try simp only [Exit.inBlock, Exit.then])
                refine bodyPost_ret (v := .tuple #[dv 2 0 ⟨done.toArray⟩ none 0 0, .int .i64 ((j : Int) + 2)]) ?_ rfl ⟨by rw [HV.out], ?_⟩
                · rw [results_cell_tmp rfl]
                  go_simp
                  try rfl
                · exact (((hbl.setCell (p := ⟨w.heap.size, 0, none⟩) (Nat.le_refl _) _).setCell (p := ⟨w.heap.size, 1, none⟩) (Nat.le_refl _) _).setCell (p := ⟨w.heap.size, 2, none⟩) (Nat.le_refl _) _).setCell (p := ⟨w.heap.size, 3, none⟩) (Nat.le_refl _) _
              · have h32I : ¬ (done.length : Int) ≤ 32 := by omega
                clear e0 e2 e3 htwo h32
                go_wp2
                (try simp only [Exit.inBlock, Exit.then])
                refine bodyPost_ret (v := .tuple #[dv 0 0 ⟨#[]⟩ none 0 0, .int .i64 (-1)]) ?_ rfl ⟨rfl, ?_⟩
                · rw [results_cell_tmp rfl]
                  go_simp
                  try rfl
                · exact (((hbl.setCell (p := ⟨w.heap.size, 0, none⟩) (Nat.le_refl _) _).setCell (p := ⟨w.heap.size, 1, none⟩) (Nat.le_refl _) _).setCell (p := ⟨w.heap.size, 2, none⟩) (Nat.le_refl _) _).setCell (p := ⟨w.heap.size, 3, none⟩) (Nat.le_refl _) _
            · have c4 := u8_bne _ _ e3 0 rfl
              have HN : o = none := by
                have := HO.out
                rw [htwo, scanS_two, if_pos e0, if_neg e3, if_neg e2] at this
                exact this.symm
              subst HN
              clear e0 e2 e3 htwo
              go_wp2
              (try simp only [Exit.inBlock, Exit.then])
              refine bodyPost_ret (v := .tuple #[dv 0 0 ⟨#[]⟩ none 0 0, .int .i64 (-1)]) ?_ rfl ⟨rfl, ?_⟩
              · rw [results_cell_tmp rfl]
                go_simp
                try rfl
              · exact (((hbl.setCell (p := ⟨w.heap.size, 0, none⟩) (Nat.le_refl _) _).setCell (p := ⟨w.heap.size, 1, none⟩) (Nat.le_refl _) _).setCell (p := ⟨w.heap.size, 2, none⟩) (Nat.le_refl _) _).setCell (p := ⟨w.heap.size, 3, none⟩) (Nat.le_refl _) _
        · have hj1 : ¬ (j : Int) + 1 < (s.size : Int) := by omega
          have HN : o = none := by
            have := HO.out
            rw [drop_byte s j hlt, List.drop_of_length_le (by rw [hl]; omega), scanS_one] at this
            exact this.symm
          subst HN
          clear e0
          go_wp2
          (try simp only [Exit.inBlock, Exit.then])
          refine bodyPost_ret (v := .tuple #[dv 0 0 ⟨#[]⟩ none 0 0, .int .i64 (-1)]) ?_ rfl ⟨rfl, ?_⟩
          · rw [results_cell_tmp rfl]
            go_simp
            try rfl
          · exact (((hbl.setCell (p := ⟨w.heap.size, 0, none⟩) (Nat.le_refl _) _).setCell (p := ⟨w.heap.size, 1, none⟩) (Nat.le_refl _) _).setCell (p := ⟨w.heap.size, 2, none⟩) (Nat.le_refl _) _).setCell (p := ⟨w.heap.size, 3, none⟩) (Nat.le_refl _) _
      · have c0 := u8_bne _ _ e0 0 rfl
        have c0' : ((s[j].toNat : Int) != 0) = true := by rw [bne, c0]; rfl
        have HN : Hid (scanS (done ++ [s[j]]) (s.data.toList.drop (j + 1)) = o) := Lib.hid (by
          have := HO.out
          rw [drop_byte s j hlt] at this
          by_cases hlt1 : j + 1 < s.size
          · rw [drop_byte s (j + 1) hlt1, scanS_two, if_neg e0, ← drop_byte s (j + 1) hlt1] at this
            exact this
          · rw [List.drop_of_length_le (by rw [hl]; omega), scanS_one] at this
            rw [List.drop_of_length_le (by rw [hl]; omega), scanS_nil]
            exact this)
        clear e0
        go_wp2_with (at_builtin; refine wp_app1 rfl (.tmp 67) (.tmp 71) rfl (w.heap.size + 1 + 1) _ _ rfl hb2 _ s[j] rfl _ 1 rfl (by simp) (by omega) (by omega) ?_; intro v3 w3 hb3 hbl3 hg3 hz3)
        go_roundw
        case rel => exact ⟨j + 1, done ++ [s[j]], by omega, by go_num, HN, by simp; omega, hb3, hbl.trans (hbl3.mono (by omega)), zr.later hbl3 (by omega), zd.later hbl3 (by omega), by omega⟩
        case measure => simp [intOf]; omega
    · have hjI : ¬ (j : Int) < (s.size : Int) := by omega
      have HN : o = none := by
        have := HO.out
        rw [List.drop_of_length_le (by rw [hl]; omega), scanS_nil] at this
        exact this.symm
      subst HN
      go_wp2
      (try simp only [Exit.inBlock, Exit.then])
      refine bodyPost_ret (v := .tuple #[dv 0 0 ⟨#[]⟩ none 0 0, .int .i64 (-1)]) ?_ rfl ⟨rfl, ?_⟩
      · rw [results_cell_tmp rfl]
        go_simp
        try rfl
      · exact (((hbl.setCell (p := ⟨w.heap.size, 0, none⟩) (Nat.le_refl _) _).setCell (p := ⟨w.heap.size, 1, none⟩) (Nat.le_refl _) _).setCell (p := ⟨w.heap.size, 2, none⟩) (Nat.le_refl _) _).setCell (p := ⟨w.heap.size, 3, none⟩) (Nat.le_refl _) _
end Go.Proofs.YtekcoddjdjllhaaDoor
