/- datum.decode of a list. -/
import Derived.Test.YtekcoddjdjllhaaDoorDeL
namespace Go.Proofs.YtekcoddjdjllhaaDoor
open Go.RowKit

set_option maxRecDepth 100000 in
set_option maxHeartbeats 8000000 in
theorem dec_list (s : ByteArray) (w : World) (hs : s.size ≤ 140737488355328) (h2 : 2 ≤ s.size) (h3 : s[0] = 3) (m : Nat) (hm : m = (s[1]).toNat) (h8 : m ≤ 8) (o : Option (List It × List UInt8)) (ho : Hid (decN m [] (s.data.toList.drop 2) = o)) :
    Calls Tryd.prog 32 #[.string s, .int .i64 1] w (DecPost w (match (generalizing := false) o with | some (L, r) => some (⟨3, 0, ⟨#[]⟩, L⟩, s.size - r.length) | none => none)) := by
  have c3 := u8_beq _ _ h3 3 rfl
  have c1 := u8_bne s[0] 1 (by rw [h3]; decide) 1 rfl
  have c2 := u8_bne s[0] 2 (by rw [h3]; decide) 2 rfl
  have n2 : 2 ≤ (s.size : Int) := by omega
  have n1 : 1 < (s.size : Int) := by omega
  have hl : s.data.toList.length = s.size := by simp
  have h8i : (m : Int) ≤ 8 := by omega
  have hmi : ((s[1]).toNat : Int) = (m : Int) := by rw [hm]
  clear h3 hm
  have hsz : (9 : Int) ≤ (s.size : Int) ∧ (3 : Int) ≤ (s.size : Int) ∨ ¬ (9 : Int) ≤ (s.size : Int) ∧ (3 : Int) ≤ (s.size : Int) ∨ ¬ (9 : Int) ≤ (s.size : Int) ∧ ¬ (3 : Int) ≤ (s.size : Int) := by omega
  rcases hsz with ⟨z9, z3⟩ | ⟨z9, z3⟩ | ⟨z9, z3⟩
  rotate_right
  · go_enter Tryd.func32, Tryd.ntmps32
    go_wp2
    go_loopw [7, 115] (fun p k wr => ∃ (j i : Nat) (acc : List It) (v' : Value), i ≤ m ∧ k = .int .i64 i ∧ p = .int .i64 j ∧ j ≤ s.size ∧ acc.length = i ∧ (∀ x ∈ acc, x.may = true ∧ x.ok) ∧ Hid (decN (m - i) acc (s.data.toList.drop j) = o) ∧ Data wr (w.heap.size + 1 + 1) v' acc ∧ Below w.heap.size w wr ∧ Zb wr w.heap.size ∧ Ld wr (w.heap.size + 1) v' ∧ w.heap.size + 1 + 1 ≤ wr.heap.size) (fun _ k _ => m - (intOf k).toNat)
    case atStart =>
      refine ⟨2, 0, [], .slice none 0 0, Nat.zero_le _, rfl, rfl, h2, rfl, by simp, ho, Data.nil _ _, ?_, ⟨by go_simp, by go_simp, by go_simp, by go_simp, by go_simp, by go_simp, by go_simp, by go_simp⟩, ⟨by go_simp, by go_simp, by go_simp, by go_simp, by go_simp⟩, by simp⟩
      go_grown
    case round =>
      obtain ⟨j, i, acc, v', hi, rfl, rfl, hj, hal, hac, HO, hda, hbl, zr, ld, hz⟩ := hrel
      by_cases hlt : i < m
      · have hx : s.extract j s.size = toBA (s.data.toList.drop j) := by
          rw [extract_sub s j s.size (Nat.le_refl _), sub, List.take_of_length_le (by omega)]
        have hts : (toBA (s.data.toList.drop j)).size = s.size - j := by rw [toBA_size, List.length_drop, hl]
        have htl : (toBA (s.data.toList.drop j)).data.toList = s.data.toList.drop j := toBA_list _
        have hltI : (i : Int) < (m : Int) := by omega
        generalize toBA (s.data.toList.drop j) = t at hx hts htl
        go_wp2_with fail
        refine (dec_zero t _ (by omega)).mono ?_
        rintro e w3 ⟨rfl, hb3⟩
        rw [htl]
        have zz3 := hb3.size
        have hbl3 := hbl.trans (hb3.mono (by omega))
        have zr3 := zr.later hb3 (by omega)
        have ld3 := ld.later hb3 (by omega)
        have hda3 := hda.later hb3
        clear hx htl zr ld hda
        cases h1 : one1 (s.data.toList.drop j) with
        | none =>
          have HN : o = none := by
            have := HO.out
            rw [show m - i = (m - i - 1) + 1 by omega, decN, h1] at this
            exact this.symm
          subst HN
          simp only [decAns]
          clear h1
          have zr4 := zr3.alloc (.cells #[.int .i64 0, .int .i64 0, .string ⟨#[]⟩, .slice none 0 0] 24) (by omega)
          have bq := zr4
          obtain ⟨r0, r1, r2, r3, q0, q1, q2, q3⟩ := bq
          have hbl4 := hbl3.alloc (by omega) (.cells #[.int .i64 0, .int .i64 0, .string ⟨#[]⟩, .slice none 0 0] 24)
          go_wp2
          (try simp only [Exit.inBlock, Exit.then])
          refine bodyPost_ret (v := .tuple #[dv 0 0 ⟨#[]⟩ none 0 0, .int .i64 0]) ?_ rfl ⟨rfl, ?_⟩
          · rw [results_cell_tmp rfl]
            go_simp
            try rfl
          · exact (((hbl4.setCell (p := ⟨w.heap.size, 0, none⟩) (Nat.le_refl _) _).setCell (p := ⟨w.heap.size, 1, none⟩) (Nat.le_refl _) _).setCell (p := ⟨w.heap.size, 2, none⟩) (Nat.le_refl _) _).setCell (p := ⟨w.heap.size, 3, none⟩) (Nat.le_refl _) _
        | some xr =>
          obtain ⟨x, r⟩ := xr
          obtain ⟨hxm, hxo, k, hk3, hkl, hkr⟩ := one1_spec h1
          have hkl2 : k ≤ s.size - j := by rw [List.length_drop, hl] at hkl; exact hkl
          have HN : Hid (decN (m - (i + 1)) (acc ++ [x]) (s.data.toList.drop (j + k)) = o) := Lib.hid (by
            have := HO.out
            rw [show m - i = (m - (i + 1)) + 1 by omega, decN, h1] at this
            simp only [hkr, List.drop_drop] at this
            exact this)
          exfalso; omega
      · subst hal
        have HN : o = some (acc, s.data.toList.drop j) := by
          have := HO.out
          rw [show m - acc.length = 0 by omega] at this
          exact this.symm
        subst HN
        have hjn : s.size - (s.data.toList.drop j).length = j := by rw [List.length_drop, hl]; omega
        have HJ := Lib.hid hjn
        obtain ⟨A, c, rfl⟩ := hda.slice
        have hrow : RowIs wr A acc := hda.row (fun y hy => (hac y hy).2)
        have hmay := three_all (by omega) hac
        have HM := Lib.hid hmay
        have hrow' := Lib.hid hrow
        have HAC := Lib.hid hac
        clear hjn hmay HO hrow hac
        have bq := ld
        obtain ⟨l0, l1, l2, l3, lf⟩ := bq
        go_wp2_with fail
        refine (may_any ⟨3, 0, ⟨#[]⟩, acc⟩ A c _ hrow'.out (by show acc.length ≤ _; omega)).mono ?_
        rintro e w6 ⟨rfl, hb6⟩
        rw [HM.out]
        have zz6 := hb6.size
        clear l0 l1 l2 l3 lf
        have bq := ld.later hb6 (by omega)
        obtain ⟨l0, l1, l2, l3, lf⟩ := bq
        have bq := zr.later hb6 (by omega)
        obtain ⟨r0, r1, r2, r3, q0, q1, q2, q3⟩ := bq
        have hbl6 := hbl.trans (hb6.mono (by omega))
        have hda6 := hda.later hb6
        clear zr ld
        go_wp2
        (try simp only [Exit.inBlock, Exit.then])
        refine bodyPost_ret (v := .tuple #[dv 3 0 ⟨#[]⟩ A acc.length c, .int .i64 j]) ?_ rfl ⟨⟨A, c, by (first | rw [HJ.out] | rw [show s.size - (s.size - j) = j by omega]), ⟨?_, ⟨by show _ ≤ (0 : Int); omega, by show (0 : Int) ≤ _; omega⟩, by show acc.length ≤ _; omega, by show 0 ≤ _; omega⟩, (fun b off e => by have := hda6.base b off e; omega)⟩, ?_⟩
        · rw [results_cell_tmp rfl]
          go_simp
          try rfl
        · refine Data.row (B := w.heap.size + 1 + 1) (n := acc.length) (c := c) ?_ (fun y hy => (HAC.out y hy).2)
          exact ownsRow_setCell_below (a := ⟨w.heap.size, 3, none⟩) (ownsRow_setCell_below (a := ⟨w.heap.size, 2, none⟩) (ownsRow_setCell_below (a := ⟨w.heap.size, 1, none⟩) (ownsRow_setCell_below (a := ⟨w.heap.size, 0, none⟩) hda6 (by show w.heap.size < _; omega) _) (by show w.heap.size < _; omega) _) (by show w.heap.size < _; omega) _) (by show w.heap.size < _; omega) _
        · exact (((hbl6.setCell (p := ⟨w.heap.size, 0, none⟩) (Nat.le_refl _) _).setCell (p := ⟨w.heap.size, 1, none⟩) (Nat.le_refl _) _).setCell (p := ⟨w.heap.size, 2, none⟩) (Nat.le_refl _) _).setCell (p := ⟨w.heap.size, 3, none⟩) (Nat.le_refl _) _
  all_goals
    go_enter Tryd.func32, Tryd.ntmps32
    go_wp2
    go_loopw [7, 115] (fun p k wr => ∃ (j i : Nat) (acc : List It) (v' : Value), i ≤ m ∧ k = .int .i64 i ∧ p = .int .i64 j ∧ j ≤ s.size ∧ acc.length = i ∧ (∀ x ∈ acc, x.may = true ∧ x.ok) ∧ Hid (decN (m - i) acc (s.data.toList.drop j) = o) ∧ Data wr (w.heap.size + 1 + 1) v' acc ∧ Below w.heap.size w wr ∧ Zb wr w.heap.size ∧ Ld wr (w.heap.size + 1) v' ∧ w.heap.size + 1 + 1 ≤ wr.heap.size) (fun _ k _ => m - (intOf k).toNat)
    case atStart =>
      refine ⟨2, 0, [], .slice none 0 0, Nat.zero_le _, rfl, rfl, h2, rfl, by simp, ho, Data.nil _ _, ?_, ⟨by go_simp, by go_simp, by go_simp, by go_simp, by go_simp, by go_simp, by go_simp, by go_simp⟩, ⟨by go_simp, by go_simp, by go_simp, by go_simp, by go_simp⟩, by simp⟩
      go_grown
    case round =>
      obtain ⟨j, i, acc, v', hi, rfl, rfl, hj, hal, hac, HO, hda, hbl, zr, ld, hz⟩ := hrel
      by_cases hlt : i < m
      · have hx : s.extract j s.size = toBA (s.data.toList.drop j) := by
          rw [extract_sub s j s.size (Nat.le_refl _), sub, List.take_of_length_le (by omega)]
        have hts : (toBA (s.data.toList.drop j)).size = s.size - j := by rw [toBA_size, List.length_drop, hl]
        have htl : (toBA (s.data.toList.drop j)).data.toList = s.data.toList.drop j := toBA_list _
        have hltI : (i : Int) < (m : Int) := by omega
        generalize toBA (s.data.toList.drop j) = t at hx hts htl
        go_wp2_with fail
        refine (dec_zero t _ (by omega)).mono ?_
        rintro e w3 ⟨rfl, hb3⟩
        rw [htl]
        have zz3 := hb3.size
        have hbl3 := hbl.trans (hb3.mono (by omega))
        have zr3 := zr.later hb3 (by omega)
        have ld3 := ld.later hb3 (by omega)
        have hda3 := hda.later hb3
        clear hx htl zr ld hda
        cases h1 : one1 (s.data.toList.drop j) with
        | none =>
          have HN : o = none := by
            have := HO.out
            rw [show m - i = (m - i - 1) + 1 by omega, decN, h1] at this
            exact this.symm
          subst HN
          simp only [decAns]
          clear h1
          have zr4 := zr3.alloc (.cells #[.int .i64 0, .int .i64 0, .string ⟨#[]⟩, .slice none 0 0] 24) (by omega)
          have bq := zr4
          obtain ⟨r0, r1, r2, r3, q0, q1, q2, q3⟩ := bq
          have hbl4 := hbl3.alloc (by omega) (.cells #[.int .i64 0, .int .i64 0, .string ⟨#[]⟩, .slice none 0 0] 24)
          go_wp2
          (try simp only [Exit.inBlock, Exit.then])
          refine bodyPost_ret (v := .tuple #[dv 0 0 ⟨#[]⟩ none 0 0, .int .i64 0]) ?_ rfl ⟨rfl, ?_⟩
          · rw [results_cell_tmp rfl]
            go_simp
            try rfl
          · exact (((hbl4.setCell (p := ⟨w.heap.size, 0, none⟩) (Nat.le_refl _) _).setCell (p := ⟨w.heap.size, 1, none⟩) (Nat.le_refl _) _).setCell (p := ⟨w.heap.size, 2, none⟩) (Nat.le_refl _) _).setCell (p := ⟨w.heap.size, 3, none⟩) (Nat.le_refl _) _
        | some xr =>
          obtain ⟨x, r⟩ := xr
          obtain ⟨hxm, hxo, k, hk3, hkl, hkr⟩ := one1_spec h1
          have hkl2 : k ≤ s.size - j := by rw [List.length_drop, hl] at hkl; exact hkl
          have HN : Hid (decN (m - (i + 1)) (acc ++ [x]) (s.data.toList.drop (j + k)) = o) := Lib.hid (by
            have := HO.out
            rw [show m - i = (m - (i + 1)) + 1 by omega, decN, h1] at this
            simp only [hkr, List.drop_drop] at this
            exact this)
          have hkv : ((t.size : Int) - (r.length : Int)) = (k : Int) := by
            rw [hkr, List.length_drop, List.length_drop, hl, hts]; omega
          simp only [decAns]
          rw [hkv]
          have hk0 : ((k : Int) == 0) = false := by simp; omega
          have hacc : ∀ y ∈ acc ++ [x], y.may = true ∧ y.ok := by
            intro y hy
            rcases List.mem_append.1 hy with hy | hy
            · exact hac y hy
            · rw [List.mem_singleton] at hy; subst hy; exact ⟨hxm, hxo⟩
          have HA := Lib.hid hacc
          clear h1 hkr hkv HO hxm hxo hkl hac hacc
          have zr4 := zr3.alloc (.cells #[.int .i64 x.k, .int .i64 x.n, .string x.s, .slice none 0 0] 24) (by omega)
          have ld4 := ld3.alloc (.cells #[.int .i64 x.k, .int .i64 x.n, .string x.s, .slice none 0 0] 24) (by omega)
          have hda4 := hda3.alloc (.cells #[.int .i64 x.k, .int .i64 x.n, .string x.s, .slice none 0 0] 24)
          have bq := ld4
          obtain ⟨l0, l1, l2, l3, lf⟩ := bq
          have hbl4 := hbl3.alloc (by omega) (.cells #[.int .i64 x.k, .int .i64 x.n, .string x.s, .slice none 0 0] 24)
          go_wp2_with (at_builtin; go_must (refine wp_appD rfl (.tmp 130) (.tmp 132) rfl (w.heap.size + 1 + 1) v' acc rfl hda4 x _ 1 rfl (by simp) (by omega) (by simp; omega) ?_); intro v5 w5 hd5 hbl5 hz5; obtain ⟨A5, c5, rfl⟩ := hd5.slice; have k5 := (hbl5.cell (p := ⟨w.heap.size + 1, 3, none⟩) (by simp)).trans l3; have f5 := (hbl5.frozen (p := ⟨w.heap.size + 1, 3, none⟩) (by simp)).trans lf)
          have hlen5 : (acc ++ [x]).length = i + 1 := by rw [List.length_append, hal]; rfl
          rw [hlen5] at hd5
          have zr5 := zr4.later hbl5 (by omega)
          have bq := ld4.later hbl5 (by omega)
          obtain ⟨p0, p1, p2, p3, pf⟩ := bq
          go_roundw
          case rel =>
            exact ⟨j + k, i + 1, acc ++ [x], .slice A5 (i + 1) c5, by omega, by go_num, by go_num, by omega, hlen5, HA.out, HN,
              ownsRow_setCell_below hd5 (a := ⟨w.heap.size + 1, 3, none⟩) (by show w.heap.size + 1 < _; omega) (.slice A5 (i + 1) c5),
              (hbl4.trans (hbl5.mono (by omega))).setCell (p := ⟨w.heap.size + 1, 3, none⟩) (by simp) _, zr5.setCell _ _ (by simp),
              ⟨by go_simp, by go_simp, by go_simp, by go_simp, by go_simp⟩, by simp at hz5 ⊢; omega⟩
          case measure => simp [intOf]; omega
      · subst hal
        have HN : o = some (acc, s.data.toList.drop j) := by
          have := HO.out
          rw [show m - acc.length = 0 by omega] at this
          exact this.symm
        subst HN
        have hjn : s.size - (s.data.toList.drop j).length = j := by rw [List.length_drop, hl]; omega
        have HJ := Lib.hid hjn
        obtain ⟨A, c, rfl⟩ := hda.slice
        have hrow : RowIs wr A acc := hda.row (fun y hy => (hac y hy).2)
        have hmay := three_all (by omega) hac
        have HM := Lib.hid hmay
        have hrow' := Lib.hid hrow
        have HAC := Lib.hid hac
        clear hjn hmay HO hrow hac
        have bq := ld
        obtain ⟨l0, l1, l2, l3, lf⟩ := bq
        go_wp2_with fail
        refine (may_any ⟨3, 0, ⟨#[]⟩, acc⟩ A c _ hrow'.out (by show acc.length ≤ _; omega)).mono ?_
        rintro e w6 ⟨rfl, hb6⟩
        rw [HM.out]
        have zz6 := hb6.size
        clear l0 l1 l2 l3 lf
        have bq := ld.later hb6 (by omega)
        obtain ⟨l0, l1, l2, l3, lf⟩ := bq
        have bq := zr.later hb6 (by omega)
        obtain ⟨r0, r1, r2, r3, q0, q1, q2, q3⟩ := bq
        have hbl6 := hbl.trans (hb6.mono (by omega))
        have hda6 := hda.later hb6
        clear zr ld
        go_wp2
        (try simp only [Exit.inBlock, Exit.then])
        refine bodyPost_ret (v := .tuple #[dv 3 0 ⟨#[]⟩ A acc.length c, .int .i64 j]) ?_ rfl ⟨⟨A, c, by (first | rw [HJ.out] | rw [show s.size - (s.size - j) = j by omega]), ⟨?_, ⟨by show _ ≤ (0 : Int); omega, by show (0 : Int) ≤ _; omega⟩, by show acc.length ≤ _; omega, by show 0 ≤ _; omega⟩, (fun b off e => by have := hda6.base b off e; omega)⟩, ?_⟩
        · rw [results_cell_tmp rfl]
          go_simp
          try rfl
        · refine Data.row (B := w.heap.size + 1 + 1) (n := acc.length) (c := c) ?_ (fun y hy => (HAC.out y hy).2)
          exact ownsRow_setCell_below (a := ⟨w.heap.size, 3, none⟩) (ownsRow_setCell_below (a := ⟨w.heap.size, 2, none⟩) (ownsRow_setCell_below (a := ⟨w.heap.size, 1, none⟩) (ownsRow_setCell_below (a := ⟨w.heap.size, 0, none⟩) hda6 (by show w.heap.size < _; omega) _) (by show w.heap.size < _; omega) _) (by show w.heap.size < _; omega) _) (by show w.heap.size < _; omega) _
        · exact (((hbl6.setCell (p := ⟨w.heap.size, 0, none⟩) (Nat.le_refl _) _).setCell (p := ⟨w.heap.size, 1, none⟩) (Nat.le_refl _) _).setCell (p := ⟨w.heap.size, 2, none⟩) (Nat.le_refl _) _).setCell (p := ⟨w.heap.size, 3, none⟩) (Nat.le_refl _) _
end Go.Proofs.YtekcoddjdjllhaaDoor
