/- The reference's Parse of a list: the walk. -/
import Derived.Test.YtekcoddjdjllhaaDoorRpW
namespace Go.Proofs.YtekcoddjdjllhaaDoor
open Go.RowKit

/-- What the reading of a list has done, whichever list it is that has this text. -/
def Rl (s : List UInt8) (f i : Nat) (acc : List It) : Prop := ∀ L, Val L → listText L = s → (2 < s.length → St s L f i acc) ∧ (¬ 2 < s.length → L = acc)

theorem pspec_none {s : List UInt8} (h91 : s.head? = some 91) (hno : ∀ L, Val L → listText L ≠ s) : PSpec s none := by
  intro d hm hn hx ht
  by_cases h3 : d.k = 3
  · obtain ⟨hv, e, _⟩ := da_list hm h3 hx
    exact hno d.l hv (e.symm.trans ht)
  · obtain ⟨c, q, hc, h, _⟩ := text1_head d.k d.n d.s
    have e : d.text = text1 d.k d.n d.s := by simp [Da.text, h3]
    rw [e, hc] at ht
    rw [← ht] at h91
    simp at h91
    exact h h91

theorem rl_start {s : List UInt8} : Rl s 1 1 [] := fun L hv ht => ⟨fun h => st_start ht h, fun h => by
  cases L with
  | nil => rfl
  | cons y R =>
    exfalso
    obtain ⟨c, q, hc, _⟩ := text1_head y.k y.n y.s
    rw [← ht, listText, List.map_cons, Lib.join_cons, It.text, hc] at h
    simp at h⟩
theorem rl_skip {s : List UInt8} {f i : Nat} {acc : List It} (h : Rl s f i acc) (h2 : 2 < s.length) (hi : i + 1 < s.length) (hc : s[i]? ≠ some 44) : Rl s f (i + 1) acc :=
  fun L hv ht => ⟨fun _ => st_skip ((h L hv ht).1 h2) hi hc, fun h' => absurd h2 h'⟩
theorem rl_eight {s : List UInt8} {f i : Nat} {acc : List It} (h : Rl s f i acc) (h2 : 2 < s.length) (hi : i < s.length) (hc : s[i]? = some 44 ∨ i + 1 = s.length) (h8 : acc.length = 8) : ∀ L, Val L → listText L ≠ s := fun L hv ht => by
  have := (st_end ((h L hv ht).1 h2) hv hi hc).1
  omega
theorem rl_item {s : List UInt8} {f i : Nat} {acc : List It} {x : It} (h : Rl s f i acc) (h2 : 2 < s.length) (hi : i < s.length) (hc : s[i]? = some 44 ∨ i + 1 = s.length) (hx : RdOk ((s.take i).drop f) (some x)) : Rl s (i + 1) (i + 1) (acc ++ [x]) :=
  fun L hv ht => ⟨fun _ => by
    rcases (st_end ((h L hv ht).1 h2) hv hi hc).2 with ⟨y, R, hL, hsub, hst⟩ | ⟨_, hno, _⟩
    · have hy := hv.2 y (by rw [hL]; simp)
      rw [text_inj hx.1 hy.1 hx.2.1.2.2 hy.2 (hx.2.2.trans hsub)]
      exact hst
    · exact absurd hx.2.2 (hno x hx.1), fun h' => absurd h2 h'⟩
theorem rl_half {s : List UInt8} {f i : Nat} {acc : List It} (h : Rl s f i acc) (h2 : 2 < s.length) (hi : i < s.length) (hc : s[i]? = some 44 ∨ i + 1 = s.length) (hx : RdOk ((s.take i).drop f) none) : Rl s f (i + 1) acc :=
  fun L hv ht => ⟨fun _ => by
    rcases (st_end ((h L hv ht).1 h2) hv hi hc).2 with ⟨y, R, hL, hsub, hst⟩ | ⟨_, _, hst⟩
    · have hy := hv.2 y (by rw [hL]; simp)
      exact absurd hsub.symm (hx y hy.1 hy.2)
    · exact hst, fun h' => absurd h2 h'⟩
theorem rl_stop {s : List UInt8} {f i : Nat} {acc : List It} (h : Rl s f i acc) (h2 : 2 < s.length) (hi : i < s.length) (hc : s[i]? = some 44 ∨ i + 1 = s.length) (hx : RdOk ((s.take i).drop f) none) (hq : (((s.take i).drop f).head? == some 39) = false) : ∀ L, Val L → listText L ≠ s := fun L hv ht => by
  rcases (st_end ((h L hv ht).1 h2) hv hi hc).2 with ⟨y, R, hL, hsub, hst⟩ | ⟨h39, _, _⟩
  · have hy := hv.2 y (by rw [hL]; simp)
    exact absurd hsub.symm (hx y hy.1 hy.2)
  · rw [h39] at hq; simp at hq
theorem rl_end {s : List UInt8} {f i : Nat} {acc : List It} (h : Rl s f i acc) (hi : s.length ≤ i ∨ ¬ 2 < s.length) (ht : listText acc ≠ s) : ∀ L, Val L → listText L ≠ s := fun L hv e => by
  have hL : L = acc := by
    by_cases h2 : 2 < s.length
    · exact st_done ((h L hv e).1 h2) (by omega)
    · exact (h L hv e).2 h2
  rw [hL] at e
  exact ht e

theorem big_text (l : List It) : (Da.mk 3 0 ⟨#[]⟩ l).text = listText l := by simp [Da.text, listText]

set_option maxRecDepth 100000 in
set_option maxHeartbeats 16000000 in
theorem rparse_list (s : ByteArray) (w : World) (hs : s.size ≤ 4194304) (hG : Globs w) (h2 : 2 ≤ s.size) (h91 : s[0] = 91) :
    Calls Tryd.prog 17 #[.string s] w fun e w' => ∃ o, PSpec s.data.toList o ∧ ParsePost w o e w' := by
  have hh : s.data.toList.head? = some 91 := by rw [head_at s (by omega), h91]
  have HH := Lib.hid hh
  have c91 := u8_beq _ _ h91 91 rfl
  have c91' : ((s[0].toNat : Int) != 91) = false := by rw [bne, c91]; rfl
  have n2 : ¬ (s.size : Int) < 2 := by omega
  have n0 : (0 : Int) < (s.size : Int) := by omega
  have hl := size_list s
  clear h91 hh
  go_enter Tryd.func17, Tryd.ntmps17
  go_wp2
  go_loopw [8, 9] (fun f i wr => ∃ (p j : Nat) (acc : List It) (v' : Value), f = .int .i64 p ∧ i = .int .i64 j ∧ p ≤ j ∧ j ≤ s.size ∧ acc.length ≤ 8 ∧ Hid (∀ x ∈ acc, x.may = true ∧ x.ok) ∧ Hid (Rl s.data.toList p j acc) ∧ Data wr (w.heap.size + 1 + 1) v' acc ∧ Below w.heap.size w wr ∧ Zb wr w.heap.size ∧ Ld wr (w.heap.size + 1) v' ∧ w.heap.size + 1 + 1 ≤ wr.heap.size) (fun _ i _ => s.size - (intOf i).toNat)
  case atStart =>
    refine ⟨1, 1, [], .slice none 0 0, rfl, rfl, Nat.le_refl _, by omega, by simp, Lib.hid (by simp), Lib.hid rl_start, Data.nil _ _, ?_, ⟨by go_simp, by go_simp, by go_simp, by go_simp, by go_simp, by go_simp, by go_simp, by go_simp⟩, ⟨by go_simp, by go_simp, by go_simp, by go_simp, by go_simp⟩, by simp⟩
    go_grown
  case round =>
    obtain ⟨p, j, acc, v', rfl, rfl, hpj, hj, h8, HAC, HRL, hda, hbl, zr, ld, hz⟩ := hrel
    obtain ⟨A, c, rfl⟩ := hda.slice
    have bq := zr
    obtain ⟨r0, r1, r2, r3, q0, q1, q2, q3⟩ := bq
    have bq := ld
    obtain ⟨l0, l1, l2, l3, lf⟩ := bq
    by_cases hgo : j < s.size ∧ 2 < s.size
    · obtain ⟨hjs, hs2⟩ := hgo
      have hjI : (j : Int) < (s.size : Int) := by omega
      have hn2 : (2 : Int) < (s.size : Int) := by omega
      have hat : s.data.toList[j]? = some s[j] := by
        rw [List.getElem?_eq_getElem (by rw [hl]; exact hjs)]; rfl
      by_cases hsep : s[j] = 44 ∨ j + 1 = s.size
      · have hsp : s.data.toList[j]? = some 44 ∨ j + 1 = s.data.toList.length := by
          rcases hsep with h | h
          · exact .inl (by rw [hat, h])
          · exact .inr (by rw [hl]; exact h)
        have HSP := Lib.hid hsp
        have hx : s.extract p j = toBA (sub s p j) := extract_sub s p j (by omega)
        have hts : (toBA (sub s p j)).size ≤ 4194304 := by rw [toBA_size, sub_len s p j (by omega)]; omega
        have htl : (toBA (sub s p j)).data.toList = (s.data.toList.take j).drop p := toBA_list _
        have hpI : (p : Int) ≤ (j : Int) := by omega
        have hjI' : (j : Int) ≤ (s.size : Int) := by omega
        clear hsp hat
        generalize toBA (sub s p j) = T at hx hts htl
        have HTL := Lib.hid htl
        clear htl
        have hg : (((s[j].toNat : Int) != 44) = false) ∨ (((s[j].toNat : Int) != 44) = true ∧ ¬ (j : Int) < (s.size : Int) - 1) := by
          rcases hsep with h | h
          · left; rw [bne, u8_beq _ _ h 44 rfl]; rfl
          · by_cases h' : s[j] = 44
            · left; rw [bne, u8_beq _ _ h' 44 rfl]; rfl
            · right; exact ⟨by rw [bne, u8_bne _ _ h' 44 rfl]; rfl, by omega⟩
        clear hsep
        by_cases he8 : acc.length = 8
        · have HN := Lib.hid (pspec_none HH.out (rl_eight HRL.out (by omega) (by omega) HSP.out he8))
          have he8I : ((acc.length : Int) == 8) = true := by rw [he8]; rfl
          clear he8
          rcases hg with hg | ⟨hg, hg2⟩
          all_goals
            go_wp2
            (try simp only [Exit.inBlock, Exit.then])
            refine bodyPost_ret (v := .tuple #[dv 0 0 ⟨#[]⟩ none 0 0, .int .i64 11]) ?_ rfl ⟨none, HN.out, none, 0, rfl, ?_⟩
            · rw [results_cell_tmp rfl]
              go_simp
              try rfl
            · exact (((hbl.setCell (p := ⟨w.heap.size, 0, none⟩) (Nat.le_refl _) _).setCell (p := ⟨w.heap.size, 1, none⟩) (Nat.le_refl _) _).setCell (p := ⟨w.heap.size, 2, none⟩) (Nat.le_refl _) _).setCell (p := ⟨w.heap.size, 3, none⟩) (Nat.le_refl _) _
        · have he8I : ((acc.length : Int) == 8) = false := by simp; omega
          rcases hg with hg | ⟨hg, hg2⟩
          all_goals
            go_wp2_with fail
            refine (rread_any T _ hts (hG.below hbl)).mono ?_
            rintro e w3 ⟨o, k, n, t, hok, rfl, hxx, hb3⟩
            rw [HTL.out] at hok
            have zz3 := hb3.size
            have hbl3 := hbl.trans (hb3.mono (by omega))
            have zr3 := zr.later hb3 (by omega)
            have ld3 := ld.later hb3 (by omega)
            have hda3 := hda.later hb3
            have zr4 := zr3.alloc (.cells #[.int .i64 k, .int .i64 n, .string t, .slice none 0 0] 24) (by omega)
            have ld4 := ld3.alloc (.cells #[.int .i64 k, .int .i64 n, .string t, .slice none 0 0] 24) (by omega)
            have hda4 := hda3.alloc (.cells #[.int .i64 k, .int .i64 n, .string t, .slice none 0 0] 24)
            have hbl4 := hbl3.alloc (by omega) (.cells #[.int .i64 k, .int .i64 n, .string t, .slice none 0 0] 24)
            clear r0 r1 r2 r3 q0 q1 q2 q3 l0 l1 l2 l3 lf
            have bq := zr4
            obtain ⟨r0, r1, r2, r3, q0, q1, q2, q3⟩ := bq
            have bq := ld4
            obtain ⟨l0, l1, l2, l3, lf⟩ := bq
            cases o with
            | some x =>
              obtain rfl := hxx x rfl
              have HN := Lib.hid (rl_item HRL.out (by omega) (by omega) HSP.out hok)
              have hacc : ∀ y ∈ acc ++ [⟨k, n, t, 0⟩], y.may = true ∧ y.ok := by
                intro y hy
                rcases List.mem_append.1 hy with hy | hy
                · exact HAC.out y hy
                · rw [List.mem_singleton] at hy; subst hy; exact ⟨hok.1, hok.2.1⟩
              have HA := Lib.hid hacc
              clear hok hxx hacc
              simp only [Option.isSome_some]
              go_wp2_with (at_builtin; go_must (refine wp_appD rfl (.tmp 77) (.tmp 79) rfl (w.heap.size + 1 + 1) (.slice A acc.length c) acc rfl hda4 ⟨k, n, t, 0⟩ _ 1 rfl (by simp) (by omega) (by simp; omega) ?_); intro v5 w5 hd5 hbl5 hz5; obtain ⟨A5, c5, rfl⟩ := hd5.slice; have k5 := (hbl5.cell (p := ⟨w.heap.size + 1, 3, none⟩) (by simp)).trans l3; have f5 := (hbl5.frozen (p := ⟨w.heap.size + 1, 3, none⟩) (by simp)).trans lf)
              have hlen5 : (acc ++ [(⟨k, n, t, 0⟩ : It)]).length = acc.length + 1 := by rw [List.length_append]; rfl
              rw [hlen5] at hd5
              have zr5 := zr4.later hbl5 (by omega)
              have bq := ld4.later hbl5 (by omega)
              obtain ⟨p0, p1, p2, p3, pf⟩ := bq
              go_roundw
              case rel =>
                exact ⟨j + 1, j + 1, acc ++ [(⟨k, n, t, 0⟩ : It)], .slice A5 (acc.length + 1) c5, by go_num, by go_num, Nat.le_refl _, by omega, by rw [hlen5]; omega, HA, HN,
                  ownsRow_setCell_below hd5 (a := ⟨w.heap.size + 1, 3, none⟩) (by show w.heap.size + 1 < _; omega) (.slice A5 (acc.length + 1) c5),
                  (hbl4.trans (hbl5.mono (by omega))).setCell (p := ⟨w.heap.size + 1, 3, none⟩) (by simp) _, zr5.setCell _ _ (by simp),
                  ⟨by go_simp, by go_simp, by go_simp, by go_simp, by go_simp⟩, by simp at hz5 ⊢; omega⟩
              case measure => simp [intOf]; omega
            | none =>
              simp only [Option.isSome_none]
              have HOK := Lib.hid hok
              clear hok hxx
              go_wp2_with fail
              refine (quoted_any T _).mono ?_
              rintro e w4 ⟨rfl, rfl⟩
              rw [HTL.out]
              cases hq : (((s.data.toList.take j).drop p).head? == some 39) with
              | true =>
                have HN := Lib.hid (rl_half HRL.out (by omega) (by omega) HSP.out HOK.out)
                clear hq
                go_wp2
                go_roundw
                case rel => exact ⟨p, j + 1, acc, .slice A acc.length c, rfl, by go_num, by omega, by omega, h8, HAC, HN, hda4, hbl4, zr4, ld4, by simp; omega⟩
                case measure => simp [intOf]; omega
              | false =>
                have HN := Lib.hid (pspec_none HH.out (rl_stop HRL.out (by omega) (by omega) HSP.out HOK.out hq))
                clear hq
                go_wp2
                (try simp only [Exit.inBlock, Exit.then])
                refine bodyPost_ret (v := .tuple #[dv 0 0 ⟨#[]⟩ none 0 0, .int .i64 11]) ?_ rfl ⟨none, HN.out, none, 0, rfl, ?_⟩
                · rw [results_cell_tmp rfl]
                  go_simp
                  try rfl
                · exact (((hbl4.setCell (p := ⟨w.heap.size, 0, none⟩) (Nat.le_refl _) _).setCell (p := ⟨w.heap.size, 1, none⟩) (Nat.le_refl _) _).setCell (p := ⟨w.heap.size, 2, none⟩) (Nat.le_refl _) _).setCell (p := ⟨w.heap.size, 3, none⟩) (Nat.le_refl _) _
      · have hne : ¬ s[j] = 44 := fun h => hsep (.inl h)
        have hlast : ¬ j + 1 = s.size := fun h => hsep (.inr h)
        have hg : ((s[j].toNat : Int) != 44) = true := by rw [bne, u8_bne _ _ hne 44 rfl]; rfl
        have hg2 : (j : Int) < (s.size : Int) - 1 := by omega
        have HN := Lib.hid (rl_skip HRL.out (by omega) (by omega) (by rw [hat]; simpa using hne))
        clear hsep hne hat
        go_wp2
        go_roundw
        case rel => exact ⟨p, j + 1, acc, .slice A acc.length c, rfl, by go_num, by omega, by omega, h8, HAC, HN, hda, hbl, zr, ld, hz⟩
        case measure => simp [intOf]; omega
    · have hmay := three_all h8 HAC.out
      have HM := Lib.hid hmay
      have hrow : RowIs wr A acc := hda.row (fun y hy => (HAC.out y hy).2)
      have hDa : DaIs wr ⟨3, 0, ⟨#[]⟩, acc⟩ A := ⟨hrow, ⟨by show _ ≤ (0 : Int); omega, by show (0 : Int) ≤ _; omega⟩, by show acc.length ≤ _; omega, by show 0 ≤ _; omega⟩
      have HEnd := Lib.hid (fun (ht : listText acc ≠ s.data.toList) => pspec_none HH.out (rl_end HRL.out (by omega) ht))
      have hcond : ¬ (j : Int) < (s.size : Int) ∨ ((j : Int) < (s.size : Int) ∧ ¬ (2 : Int) < (s.size : Int)) := by omega
      clear hmay hrow hgo
      rcases hcond with hcond | ⟨hcond, hcond2⟩
      all_goals
        go_wp2_with fail
        refine (rText_any ⟨3, 0, ⟨#[]⟩, acc⟩ A c _ HM.out hDa (hG.below hbl)).mono ?_
        rintro e w3 ⟨rfl, hb3⟩
        rw [big_text]
        have zz3 := hb3.size
        have hbl3 := hbl.trans (hb3.mono (by omega))
        have zr3 := zr.later hb3 (by omega)
        have ld3 := ld.later hb3 (by omega)
        have hda3 := hda.later hb3
        clear r0 r1 r2 r3 q0 q1 q2 q3 l0 l1 l2 l3 lf
        have bq := zr3
        obtain ⟨r0, r1, r2, r3, q0, q1, q2, q3⟩ := bq
        have bq := ld3
        obtain ⟨l0, l1, l2, l3, lf⟩ := bq
        by_cases ht : listText acc = s.data.toList
        · have hts : (⟨(listText acc).toArray⟩ : ByteArray) = s := by rw [ht]
          rw [hts]
          have HT := Lib.hid ht
          clear ht hts
          go_wp2_with fail
          refine (rmay_any ⟨3, 0, ⟨#[]⟩, acc⟩ A c _ (hDa.row.below hb3) hDa.s hDa.l).mono ?_
          rintro e w4 ⟨rfl, hb4⟩
          rw [HM.out]
          have zz4 := hb4.size
          have hbl4 := hbl3.trans (hb4.mono (by omega))
          have hda4 := hda3.later hb4
          clear r0 r1 r2 r3 q0 q1 q2 q3 l0 l1 l2 l3 lf
          have bq := zr3.later hb4 (by omega)
          obtain ⟨r0, r1, r2, r3, q0, q1, q2, q3⟩ := bq
          have bq := ld3.later hb4 (by omega)
          obtain ⟨l0, l1, l2, l3, lf⟩ := bq
          go_wp2
          (try simp only [Exit.inBlock, Exit.then])
          refine bodyPost_ret (v := .tuple #[dv 3 0 ⟨#[]⟩ A acc.length c, .int .i64 0]) ?_ rfl ⟨some ⟨3, 0, ⟨#[]⟩, acc⟩, ⟨HM.out, ⟨by show _ ≤ (0 : Int); omega, by show (0 : Int) ≤ _; omega⟩, fun x hx => (HAC.out x hx).2.2.2, by rw [big_text, HT.out]⟩, A, c, ⟨rfl, ⟨?_, ⟨by show _ ≤ (0 : Int); omega, by show (0 : Int) ≤ _; omega⟩, by show acc.length ≤ _; omega, by show 0 ≤ _; omega⟩⟩, ?_⟩
          · rw [results_cell_tmp rfl]
            go_simp
            try rfl
          · refine Data.row (B := w.heap.size + 1 + 1) (n := acc.length) (c := c) ?_ (fun y hy => (HAC.out y hy).2)
            exact ownsRow_setCell_below (a := ⟨w.heap.size, 3, none⟩) (ownsRow_setCell_below (a := ⟨w.heap.size, 2, none⟩) (ownsRow_setCell_below (a := ⟨w.heap.size, 1, none⟩) (ownsRow_setCell_below (a := ⟨w.heap.size, 0, none⟩) hda4 (by show w.heap.size < _; omega) _) (by show w.heap.size < _; omega) _) (by show w.heap.size < _; omega) _) (by show w.heap.size < _; omega) _
          · exact (((hbl4.setCell (p := ⟨w.heap.size, 0, none⟩) (Nat.le_refl _) _).setCell (p := ⟨w.heap.size, 1, none⟩) (Nat.le_refl _) _).setCell (p := ⟨w.heap.size, 2, none⟩) (Nat.le_refl _) _).setCell (p := ⟨w.heap.size, 3, none⟩) (Nat.le_refl _) _
        · have HN := Lib.hid (HEnd.out ht)
          have htt : ((⟨(listText acc).toArray⟩ : ByteArray).toList == s.toList) = false := by
            rw [beq_eq_false_iff_ne, Lib.toList_data, Lib.toList_data]
            exact ht
          generalize (⟨(listText acc).toArray⟩ : ByteArray) = Q at htt ⊢
          clear ht
          go_wp2
          (try simp only [Exit.inBlock, Exit.then])
          refine bodyPost_ret (v := .tuple #[dv 0 0 ⟨#[]⟩ none 0 0, .int .i64 11]) ?_ rfl ⟨none, HN.out, none, 0, rfl, ?_⟩
          · rw [results_cell_tmp rfl]
            go_simp
            try rfl
          · exact (((hbl3.setCell (p := ⟨w.heap.size, 0, none⟩) (Nat.le_refl _) _).setCell (p := ⟨w.heap.size, 1, none⟩) (Nat.le_refl _) _).setCell (p := ⟨w.heap.size, 2, none⟩) (Nat.le_refl _) _).setCell (p := ⟨w.heap.size, 3, none⟩) (Nat.le_refl _) _

theorem rparse_any (s : ByteArray) (w : World) (hs : s.size ≤ 4194304) (hG : Globs w) :
    Calls Tryd.prog 17 #[.string s] w fun e w' => ∃ o, PSpec s.data.toList o ∧ ParsePost w o e w' := by
  by_cases h2 : 2 ≤ s.size
  · by_cases h91 : s[0] = 91
    · exact rparse_list s w hs hG h2 h91
    · exact rparse_simple s w hs hG (.inr ⟨by omega, by omega, u8_bne _ _ h91 91 rfl⟩)
  · exact rparse_simple s w hs hG (.inl (by omega))
end Go.Proofs.YtekcoddjdjllhaaDoor
