/- The reference's Of of a list. -/
import Derived.Test.YtekcoddjdjllhaaDoorRoC
namespace Go.Proofs.YtekcoddjdjllhaaDoor
open Go.RowKit

set_option maxRecDepth 100000 in
set_option maxHeartbeats 8000000 in
theorem rof_list (s : ByteArray) (w : World) (hs : s.size ≤ 4194304) (h2 : 2 ≤ s.size) (h3 : s[0] = 3) (m : Nat) (hm : m = (s[1]).toNat) (h8 : m ≤ 8) (o : Option (List It × List UInt8)) (ho : Hid (decN m [] (s.data.toList.drop 2) = o)) :
    Calls Tryd.prog 15 #[.string s] w (OfPost w (match (generalizing := false) o with | some (L, r) => some (⟨3, 0, ⟨#[]⟩, L⟩, s.size - r.length) | none => none)) := by
  have c3 := u8_beq _ _ h3 3 rfl
  have n2 : ¬ (s.size : Int) < 2 := by omega
  have n1 : 1 < (s.size : Int) := by omega
  have n0 : 0 < (s.size : Int) := by omega
  have hl : s.data.toList.length = s.size := by simp
  have h8i : ¬ (8 : Int) < (m : Int) := by omega
  have hmi : ((s[1]).toNat : Int) = (m : Int) := by rw [hm]
  have hne : (s.toList == []) = false := by
    rw [beq_eq_false_iff_ne, Lib.toList_data]
    intro e
    have := congrArg List.length e
    rw [hl, List.length_nil] at this
    omega
  clear h3 hm
  have HR := Lib.hid (fun (p : Nat) (w : World) (hp : p ≤ s.size) => rone_any s p w hs hp)
  go_enter Tryd.func15, Tryd.ntmps15
  go_wp2
  go_loopw [6, 7] (fun p k wr => ∃ (j i : Nat) (acc : List It) (v' : Value), i ≤ m ∧ k = .int .i64 i ∧ p = .int .i64 j ∧ j ≤ s.size ∧ acc.length = i ∧ (∀ x ∈ acc, x.may = true ∧ x.ok) ∧ Hid (decN (m - i) acc (s.data.toList.drop j) = o) ∧ Data wr (w.heap.size + 1 + 1) v' acc ∧ Below w.heap.size w wr ∧ Zb wr w.heap.size ∧ Ld wr (w.heap.size + 1) v' ∧ w.heap.size + 1 + 1 ≤ wr.heap.size) (fun _ k _ => m - (intOf k).toNat)
  case atStart =>
    refine ⟨2, 0, [], .slice none 0 0, Nat.zero_le _, rfl, rfl, h2, rfl, by simp, ho, Data.nil _ _, ?_, ⟨by go_simp, by go_simp, by go_simp, by go_simp, by go_simp, by go_simp, by go_simp, by go_simp⟩, ⟨by go_simp, by go_simp, by go_simp, by go_simp, by go_simp⟩, by simp⟩
    go_grown
  case round =>
    obtain ⟨j, i, acc, v', hi, rfl, rfl, hj, hal, hac, HO, hda, hbl, zr, ld, hz⟩ := hrel
    by_cases hlt : i < m
    · have hltI : (i : Int) < (m : Int) := by omega
      have HAC0 := Lib.hid hac
      clear hac
      go_wp2_with fail
      refine (HR.out j _ hj).mono ?_
      rintro e w3 ⟨rfl, hb3⟩
      have zz3 := hb3.size
      have hbl3 := hbl.trans (hb3.mono (by omega))
      have zr3 := zr.later hb3 (by omega)
      have ld3 := ld.later hb3 (by omega)
      have hda3 := hda.later hb3
      clear zr ld hda
      cases h1 : one1 (s.data.toList.drop j) with
      | none =>
        have HN : o = none := by
          have := HO.out
          rw [show m - i = (m - i - 1) + 1 by omega, decN, h1] at this
          exact this.symm
        subst HN
        simp only [oneAns]
        clear h1
        have zr4 := zr3.alloc (.cells #[.int .i64 0, .int .i64 0, .string ⟨#[]⟩, .slice none 0 0] 24) (by omega)
        have bq := zr4
        obtain ⟨r0, r1, r2, r3, q0, q1, q2, q3⟩ := bq
        have hbl4 := hbl3.alloc (by omega) (.cells #[.int .i64 0, .int .i64 0, .string ⟨#[]⟩, .slice none 0 0] 24)
        go_wp2
        (try simp only [Exit.inBlock, Exit.then])
        refine bodyPost_ret (v := .tuple #[dv 0 0 ⟨#[]⟩ none 0 0, .int .i64 0, .int .i64 11]) ?_ rfl ⟨rfl, ?_⟩
        · rw [results_cell_tmp2 rfl]
          go_simp
          try rfl
        · exact (((hbl4.setCell (p := ⟨w.heap.size, 0, none⟩) (Nat.le_refl _) _).setCell (p := ⟨w.heap.size, 1, none⟩) (Nat.le_refl _) _).setCell (p := ⟨w.heap.size, 2, none⟩) (Nat.le_refl _) _).setCell (p := ⟨w.heap.size, 3, none⟩) (Nat.le_refl _) _
      | some xr =>
        obtain ⟨x, r⟩ := xr
        obtain ⟨hxm, hxo, k, hk3, hkl, hkr⟩ := one1_spec h1
        have hkl2 : k ≤ s.size - j := by rw [List.length_drop, hl] at hkl; exact hkl
        have HN : Hid (decN (m - (i + 1)) (acc ++ [x]) (s.data.toList.drop (j + k)) = o) := Lib.hid (by
          have := HO.out
          rw [show m - i = (m - (i + 1)) + 1 by omega, decN, h1] at this
          simp only [hkr, List.drop_drop] at this
          exact this)
        have hkv : ((s.size : Int) - (r.length : Int)) = ((j + k : Nat) : Int) := by
          rw [hkr, List.length_drop, List.length_drop, hl]; omega
        simp only [oneAns]
        rw [hkv]
        have hk0 : ¬ (((j + k : Nat) : Int) < 0) := by omega
        have hacc : ∀ y ∈ acc ++ [x], y.may = true ∧ y.ok := by
          intro y hy
          rcases List.mem_append.1 hy with hy | hy
          · exact HAC0.out y hy
          · rw [List.mem_singleton] at hy; subst hy; exact ⟨hxm, hxo⟩
        have HA := Lib.hid hacc
        have hjk : j + k ≤ s.size := by omega
        generalize j + k = jk at HN hk0 hjk ⊢
        clear h1 hkr hkv HO hxm hxo hkl hacc hkl2 hk3
        have zr4 := zr3.alloc (.cells #[.int .i64 x.k, .int .i64 x.n, .string x.s, .slice none 0 0] 24) (by omega)
        have ld4 := ld3.alloc (.cells #[.int .i64 x.k, .int .i64 x.n, .string x.s, .slice none 0 0] 24) (by omega)
        have hda4 := hda3.alloc (.cells #[.int .i64 x.k, .int .i64 x.n, .string x.s, .slice none 0 0] 24)
        have bq := ld4
        obtain ⟨l0, l1, l2, l3, lf⟩ := bq
        have hbl4 := hbl3.alloc (by omega) (.cells #[.int .i64 x.k, .int .i64 x.n, .string x.s, .slice none 0 0] 24)
        go_wp2_with (at_builtin; go_must (refine wp_appD rfl (.tmp 46) (.tmp 48) rfl (w.heap.size + 1 + 1) v' acc rfl hda4 x _ 1 rfl (by simp) (by omega) (by simp; omega) ?_); intro v5 w5 hd5 hbl5 hz5; obtain ⟨A5, c5, rfl⟩ := hd5.slice; have k5 := (hbl5.cell (p := ⟨w.heap.size + 1, 3, none⟩) (by simp)).trans l3; have f5 := (hbl5.frozen (p := ⟨w.heap.size + 1, 3, none⟩) (by simp)).trans lf)
        have hlen5 : (acc ++ [x]).length = i + 1 := by rw [List.length_append, hal]; rfl
        rw [hlen5] at hd5
        have zr5 := zr4.later hbl5 (by omega)
        have bq := ld4.later hbl5 (by omega)
        obtain ⟨p0, p1, p2, p3, pf⟩ := bq
        go_roundw
        case rel =>
          exact ⟨jk, i + 1, acc ++ [x], .slice A5 (i + 1) c5, by omega, by go_num, rfl, hjk, hlen5, HA.out, HN,
            ownsRow_setCell_below hd5 (a := ⟨w.heap.size + 1, 3, none⟩) (by show w.heap.size + 1 < _; omega) (.slice A5 (i + 1) c5),
            (hbl4.trans (hbl5.mono (by omega))).setCell (p := ⟨w.heap.size + 1, 3, none⟩) (by simp) _, zr5.setCell _ _ (by simp),
            ⟨by go_simp, by go_simp, by go_simp, by go_simp, by go_simp⟩, by simp at hz5 ⊢; omega⟩
        case measure => simp [intOf]; omega
    · subst hal
      have HN : o = some (acc, s.data.toList.drop j) := by
        have := HO.out
        rw [show m - acc.length = 0 by omega] at this
        exact this.symm
      subst HN
      have hjn : s.size - (s.data.toList.drop j).length = j := by rw [List.length_drop, hl]; omega
      have HJ := Lib.hid hjn
      obtain ⟨A, c, rfl⟩ := hda.slice
      have hltI : ¬ (acc.length : Int) < (m : Int) := by omega
      have HAC := Lib.hid hac
      clear hjn HO hac
      have bq := ld
      obtain ⟨l0, l1, l2, l3, lf⟩ := bq
      have bq := zr
      obtain ⟨r0, r1, r2, r3, q0, q1, q2, q3⟩ := bq
      go_wp2
      (try simp only [Exit.inBlock, Exit.then])
      refine bodyPost_ret (v := .tuple #[dv 3 0 ⟨#[]⟩ A acc.length c, .int .i64 j, .int .i64 0]) ?_ rfl ⟨⟨A, c, by (first | rw [HJ.out] | rw [show s.size - (s.size - j) = j by omega]), ⟨?_, ⟨by show _ ≤ (0 : Int); omega, by show (0 : Int) ≤ _; omega⟩, by show acc.length ≤ _; omega, by show 0 ≤ _; omega⟩⟩, ?_⟩
      · rw [results_cell_tmp2 rfl]
        go_simp
        try rfl
      · refine Data.row (B := w.heap.size + 1 + 1) (n := acc.length) (c := c) ?_ (fun y hy => (HAC.out y hy).2)
        exact ownsRow_setCell_below (a := ⟨w.heap.size, 3, none⟩) (ownsRow_setCell_below (a := ⟨w.heap.size, 2, none⟩) (ownsRow_setCell_below (a := ⟨w.heap.size, 1, none⟩) (ownsRow_setCell_below (a := ⟨w.heap.size, 0, none⟩) hda (by show w.heap.size < _; omega) _) (by show w.heap.size < _; omega) _) (by show w.heap.size < _; omega) _) (by show w.heap.size < _; omega) _
      · exact (((hbl.setCell (p := ⟨w.heap.size, 0, none⟩) (Nat.le_refl _) _).setCell (p := ⟨w.heap.size, 1, none⟩) (Nat.le_refl _) _).setCell (p := ⟨w.heap.size, 2, none⟩) (Nat.le_refl _) _).setCell (p := ⟨w.heap.size, 3, none⟩) (Nat.le_refl _) _

set_option maxRecDepth 100000 in
set_option maxHeartbeats 4000000 in
theorem rof_bad (s : ByteArray) (w : World) (h0 : 0 < s.size) (h3 : s[0] = 3) (hb : (s.size : Int) < 2 ∨ (¬ (s.size : Int) < 2 ∧ ∃ h : 1 < s.size, (8 : Int) < ((s[1]'h).toNat : Int))) :
    Calls Tryd.prog 15 #[.string s] w (OfPost w none) := by
  have c3 := u8_beq _ _ h3 3 rfl
  have n0 : 0 < (s.size : Int) := by omega
  have hl : s.data.toList.length = s.size := by simp
  have hne : (s.toList == []) = false := by
    rw [beq_eq_false_iff_ne, Lib.toList_data]
    intro e
    have := congrArg List.length e
    rw [hl, List.length_nil] at this
    omega
  clear h3 hl
  rcases hb with hb | ⟨hb, h1, h8⟩
  · go_enter Tryd.func15, Tryd.ntmps15
    go_wp2
    (try simp only [Exit.inBlock, Exit.then])
    refine bodyPost_ret (v := .tuple #[dv 0 0 ⟨#[]⟩ none 0 0, .int .i64 0, .int .i64 11]) ?_ rfl ⟨rfl, ?_⟩
    · rw [results_cell_tmp2 rfl]
      go_simp
      try rfl
    · go_grown
  · have n1 : 1 < (s.size : Int) := by omega
    go_enter Tryd.func15, Tryd.ntmps15
    go_wp2
    (try simp only [Exit.inBlock, Exit.then])
    refine bodyPost_ret (v := .tuple #[dv 0 0 ⟨#[]⟩ none 0 0, .int .i64 0, .int .i64 11]) ?_ rfl ⟨rfl, ?_⟩
    · rw [results_cell_tmp2 rfl]
      go_simp
      try rfl
    · go_grown

theorem rof_any (s : ByteArray) (w : World) (hs : s.size ≤ 4194304) :
    Calls Tryd.prog 15 #[.string s] w (OfPost w (ofL s.data.toList)) := by
  by_cases h3 : s.data.toList.head? = some 3
  · have hl : s.data.toList.length = s.size := by simp
    have h0 : 0 < s.size := by
      rcases Nat.eq_zero_or_pos s.size with h | h
      · exfalso
        rw [List.eq_nil_of_length_eq_zero (hl.trans h)] at h3
        simp at h3
      · exact h
    have e3 : s[0] = 3 := by rw [head_at s h0] at h3; simpa using h3
    by_cases h2 : 2 ≤ s.size
    · have hL := ofL_list s h2 e3
      by_cases h8 : (s[1]).toNat ≤ 8
      · rw [hL, if_pos h8]
        exact rof_list s w hs h2 e3 _ rfl h8 _ (Lib.hid rfl)
      · rw [hL, if_neg h8]
        exact rof_bad s w h0 e3 (.inr ⟨by omega, h2, by omega⟩)
    · have e := drop_byte s 0 h0
      rw [List.drop_zero] at e
      have hof : ofL s.data.toList = none := by
        rw [e, e3, show s.data.toList.drop (0 + 1) = [] from List.drop_of_length_le (by omega)]
        rfl
      rw [hof]
      exact rof_bad s w h0 e3 (.inl (by omega))
  · exact rof_simple s w hs h3
end Go.Proofs.YtekcoddjdjllhaaDoor
