/- The reference's one, Of. -/
import Derived.Test.YtekcoddjdjllhaaDoorRoB
import Derived.Test.YtekcoddjdjllhaaDoorDeO
namespace Go.Proofs.YtekcoddjdjllhaaDoor
open Go.RowKit

theorem rone_any (s : ByteArray) (p : Nat) (w : World) (hs : s.size ≤ 4194304) (hp : p ≤ s.size) :
    Calls Tryd.prog 33 #[.string s, .int .i64 p] w fun e w' => e = .returned (oneAns (one1 (s.data.toList.drop p)) s.size) ∧ Below w.heap.size w w' := by
  have hl : s.data.toList.length = s.size := by simp
  by_cases hlt : p < s.size
  · have hd := drop_byte s p hlt
    by_cases h1 : s[p] = 1
    · by_cases h9 : p + 9 ≤ s.size
      · have hlen : (s.data.toList.drop (p + 1)).length = s.size - (p + 1) := by rw [List.length_drop, hl]
        have e : oneAns (one1 (s.data.toList.drop p)) s.size = .tuple #[dv 1 (unbe ((s.data.toList.drop (p + 1)).take 8)) ⟨#[]⟩ none 0 0, .int .i64 ((p : Int) + 9)] := by
          rw [hd, h1]
          simp only [one1, if_true]
          rw [if_pos (by omega), oneAns]
          simp only [List.length_drop, hl]
          rw [show ((s.size : Int) - (s.size - (p + 1) - 8 : Nat)) = (p : Int) + 9 by omega]
        rw [e]
        exact rone_int s p w hs h9 h1 _ (by rw [List.length_take, hlen]; omega) (fun k h h' => by
          rw [List.getElem_take, List.getElem_drop]
          simp only [show p + 1 + k = p + (k + 1) by omega]
          rfl)
      · have e : one1 (s.data.toList.drop p) = none := by
          rw [hd, h1]
          simp only [one1, if_true]
          rw [if_neg (by rw [List.length_drop, hl]; omega)]
        rw [e]
        exact rone_none s p w hs hp (fun h => h9 h.1) (by rw [hd, h1]; simp)
    · by_cases h2 : s[p] = 2
      · rw [hd, one1_S _ _ h2]
        exact rone_text s p w hs hlt h2 _ (Lib.hid rfl)
      · have e : one1 (s.data.toList.drop p) = none := by
          rw [hd]
          simp only [one1, h1, h2, if_false]
        rw [e]
        exact rone_none s p w hs hp (fun h => by rw [hd] at h; exact h1 (by simpa using h.2)) (by rw [hd]; simpa using h2)
  · have e : s.data.toList.drop p = [] := List.drop_of_length_le (by rw [hl]; omega)
    rw [e]
    exact rone_none s p w hs hp (fun h => by rw [e] at h; simp at h) (by rw [e]; simp)

set_option maxRecDepth 100000 in
set_option maxHeartbeats 4000000 in
theorem rof_simple (s : ByteArray) (w : World) (hs : s.size ≤ 4194304) (h3 : s.data.toList.head? ≠ some 3) :
    Calls Tryd.prog 15 #[.string s] w (OfPost w (ofL s.data.toList)) := by
  have hl : s.data.toList.length = s.size := by simp
  have hW : Below w.heap.size w (w.alloc (.cells #[.int .i64 0, .int .i64 0, .string ⟨#[]⟩, .slice none 0 0] 24)) := (Below.refl _ _).alloc (Nat.le_refl _) _
  have zr0 : Zb (w.alloc (.cells #[.int .i64 0, .int .i64 0, .string ⟨#[]⟩, .slice none 0 0] 24)) w.heap.size := ⟨by go_simp, by go_simp, by go_simp, by go_simp, by go_simp, by go_simp, by go_simp, by go_simp⟩
  have hcase : (s.toList == []) = true ∨ ((s.toList == []) = false ∧ ∃ h : 0 < s.size, ((s[0].toNat : Int) == 3) = false) := by
    by_cases h0 : 0 < s.size
    · refine .inr ⟨?_, h0, ?_⟩
      · rw [beq_eq_false_iff_ne, Lib.toList_data]
        intro e
        have := congrArg List.length e
        rw [hl, List.length_nil] at this
        omega
      · rw [head_at s h0] at h3
        exact u8_bne _ _ (fun e => h3 (by rw [e])) 3 rfl
    · refine .inl ?_
      rw [beq_iff_eq, Lib.toList_data]
      exact List.eq_nil_of_length_eq_zero (by omega)
  have hof := ofL_one s h3
  rw [hof]
  have HR := Lib.hid (rone_any s 0 · hs (Nat.zero_le _))
  cases h1 : one1 s.data.toList with
  | none =>
    rcases hcase with hc | ⟨hc, h0, hc3⟩
    all_goals
      go_enter Tryd.func15, Tryd.ntmps15
      go_wp2_with fail
      refine (HR.out _).mono ?_
      rintro e w1 ⟨rfl, hb1⟩
      rw [List.drop_zero, h1]
      simp only [oneAns]
      have zz := hb1.size
      simp at zz
      have hb01 := hW.trans (hb1.mono (by simp))
      have zr1 := zr0.later hb1 (by simp)
      have zr2 := zr1.alloc (.cells #[.int .i64 0, .int .i64 0, .string ⟨#[]⟩, .slice none 0 0] 24) (by omega)
      have hb02 := hb01.alloc (by omega) (.cells #[.int .i64 0, .int .i64 0, .string ⟨#[]⟩, .slice none 0 0] 24)
      have bq := zr2
      obtain ⟨r0, r1, r2, r3, q0, q1, q2, q3⟩ := bq
      clear zr0 zr1 zr2 hW h1 hof
      go_wp2
      (try simp only [Exit.inBlock, Exit.then])
      refine bodyPost_ret (v := .tuple #[dv 0 0 ⟨#[]⟩ none 0 0, .int .i64 0, .int .i64 11]) ?_ rfl ⟨rfl, ?_⟩
      · rw [results_cell_tmp2 rfl]
        go_simp
        try rfl
      · exact (((hb02.setCell (p := ⟨w.heap.size, 0, none⟩) (Nat.le_refl _) _).setCell (p := ⟨w.heap.size, 1, none⟩) (Nat.le_refl _) _).setCell (p := ⟨w.heap.size, 2, none⟩) (Nat.le_refl _) _).setCell (p := ⟨w.heap.size, 3, none⟩) (Nat.le_refl _) _
  | some xr =>
    obtain ⟨x, r⟩ := xr
    obtain ⟨hxm, hxo, k, hk3, hkl, hkr⟩ := one1_spec h1
    have hkv : ((s.size : Int) - (r.length : Int)) = (k : Int) := by
      rw [hkr, List.length_drop, hl]; omega
    have hkn : s.size - r.length = k := by omega
    simp only [hkn]
    have hk0 : ¬ ((k : Int) < 0) := by omega
    rcases hcase with hc | ⟨hc, h0, hc3⟩
    all_goals
      go_enter Tryd.func15, Tryd.ntmps15
      go_wp2_with fail
      refine (HR.out _).mono ?_
      rintro e w1 ⟨rfl, hb1⟩
      rw [List.drop_zero, h1]
      simp only [oneAns]
      rw [hkv]
      have zz := hb1.size
      simp at zz
      have hb01 := hW.trans (hb1.mono (by simp))
      have zr1 := zr0.later hb1 (by simp)
      have zr2 := zr1.alloc (.cells #[.int .i64 x.k, .int .i64 x.n, .string x.s, .slice none 0 0] 24) (by omega)
      have hb02 := hb01.alloc (by omega) (.cells #[.int .i64 x.k, .int .i64 x.n, .string x.s, .slice none 0 0] 24)
      have bq := zr2
      obtain ⟨r0, r1, r2, r3, q0, q1, q2, q3⟩ := bq
      clear zr0 zr1 zr2 hW h1 hof hkr hkv hkn hxm
      have HXO := Lib.hid hxo
      clear hxo
      go_wp2
      (try simp only [Exit.inBlock, Exit.then])
      refine bodyPost_ret (v := .tuple #[dv x.k x.n x.s none 0 0, .int .i64 k, .int .i64 0]) ?_ rfl ⟨⟨none, 0, rfl, ⟨.inl rfl, HXO.out.2.2, by show 0 ≤ _; omega, HXO.out.2.1⟩⟩, ?_⟩
      · rw [results_cell_tmp2 rfl]
        go_simp
        try rfl
      · exact (((hb02.setCell (p := ⟨w.heap.size, 0, none⟩) (Nat.le_refl _) _).setCell (p := ⟨w.heap.size, 1, none⟩) (Nat.le_refl _) _).setCell (p := ⟨w.heap.size, 2, none⟩) (Nat.le_refl _) _).setCell (p := ⟨w.heap.size, 3, none⟩) (Nat.le_refl _) _
end Go.Proofs.YtekcoddjdjllhaaDoor
