/- The reference's read of a text: the walk. -/
import Derived.Test.YtekcoddjdjllhaaDoorRdV
namespace Go.Proofs.YtekcoddjdjllhaaDoor
open Go.RowKit

set_option maxRecDepth 100000 in
set_option maxHeartbeats 8000000 in
theorem rread_text (s : ByteArray) (w : World) (hs : s.size ≤ 4194304) (h0 : 0 < s.size) (h39 : ((s[0].toNat : Int) == 39) = true) (hne : (s.toList == []) = false) (hG : Globs w) (O : Option (List UInt8)) (hO : Hid (rqL (sub s 1 (s.size - 1)) = O))
    (hok : Hid (RdOk s.data.toList (match (generalizing := false) O with
      | some t => if t.length ≤ 32 ∧ quoteL t = s.data.toList then some ⟨2, 0, toBA t, 0⟩ else none
      | none => none))) :
    Calls Tryd.prog 35 #[.string s] w (RdPost w s.data.toList) := by
  have h0i : (0 : Int) < (s.size : Int) := by omega
  have h39' : ((s[0].toNat : Int) != 39) = false := by rw [bne, h39]; rfl
  have hW : Below w.heap.size w (w.alloc (.cells #[.int .i64 0, .int .i64 0, .string ⟨#[]⟩, .slice none 0 0] 24)) := (Below.refl _ _).alloc (Nat.le_refl _) _
  have zr0 : Zb (w.alloc (.cells #[.int .i64 0, .int .i64 0, .string ⟨#[]⟩, .slice none 0 0] 24)) w.heap.size := ⟨by go_simp, by go_simp, by go_simp, by go_simp, by go_simp, by go_simp, by go_simp, by go_simp⟩
  have hO2 : Hid ((rqL (sub s 1 (s.size - 1))).map ([] ++ ·) = O) := Lib.hid (by rw [hO.out]; cases O <;> simp)
  clear hO
  go_enter Tryd.func35, Tryd.ntmps35
  go_wp2
  go_loopw [6, 7] (fun v i wr => ∃ (j : Nat) (done : List UInt8), 1 ≤ j ∧ j ≤ s.size ∧ i = .int .i64 j ∧ Hid ((rqL (sub s j (s.size - 1))).map (done ++ ·) = O) ∧ done.length ≤ j ∧ Buf wr (w.heap.size + 1) v done ∧ Below w.heap.size w wr ∧ Zb wr w.heap.size ∧ w.heap.size + 1 ≤ wr.heap.size) (fun _ i _ => s.size - (intOf i).toNat)
  case atStart => exact ⟨1, [], Nat.le_refl _, by omega, rfl, hO2, by simp, Buf.nil _ _, hW, zr0, by simp⟩
  case round =>
    obtain ⟨j, done, h1j, hj, rfl, HO, hdl, hb2, hbl, zr, hz⟩ := hrel
    have bq := zr
    obtain ⟨r0, r1, r2, r3, q0, q1, q2, q3⟩ := bq
    by_cases hlt : j < s.size - 1
    · have hjI : (j : Int) < (s.size : Int) - 1 := by omega
      have hjs : (j : Int) < (s.size : Int) := by omega
      have HS := Lib.hid (sub_at s j (s.size - 1) hlt (by omega))
      by_cases hp : s[j] = 37
      · have c37 := u8_beq _ _ hp 37 rfl
        have c37' : ((s[j].toNat : Int) != 37) = false := by rw [bne, c37]; rfl
        by_cases hl2 : j + 2 < s.size - 1
        · have hj2 : ¬ (s.size : Int) - 1 ≤ (j : Int) + 2 := by omega
          have hj2s : (j : Int) + 2 < (s.size : Int) := by omega
          have hj1s : (j : Int) + 1 < (s.size : Int) := by omega
          have hj10 : (0 : Int) ≤ (j : Int) + 1 := by omega
          have hj20 : (0 : Int) ≤ (j : Int) + 2 := by omega
          have hn1 : ((j : Int) + 1).toNat = j + 1 := by omega
          have hn2 : ((j : Int) + 2).toNat = j + 2 := by omega
          have hw1 : IntKind.i64.wrap ((j : Int) + 1) = (j : Int) + 1 := by rw [IntKind.wrap_i64]; omega
          have hw2 : IntKind.i64.wrap ((j : Int) + 2) = (j : Int) + 2 := by rw [IntKind.wrap_i64]; omega
          have hstep : Hid ((if hexv s[j + 1] < 0 ∨ hexv s[j + 2] < 0 then none else (rqL (sub s (j + 3) (s.size - 1))).map (fun q => (done ++ [UInt8.ofNat (16 * hexv s[j + 1] + hexv s[j + 2]).toNat]) ++ q)) = O) := Lib.hid (by
            have := HO.out
            rw [HS.out, hp, sub_at s (j + 1) (s.size - 1) (by omega) (by omega), sub_at s (j + 2) (s.size - 1) (by omega) (by omega), rqL, if_pos rfl] at this
            rw [← this]
            split
            · rfl
            · rw [map_cons])
          clear hp HO HS
          have i1 := hexv_in s[j + 1]
          have i2 := hexv_in s[j + 2]
          go_wp2_with fail
          refine (digit_any s[j + 1] _).mono ?_
          rintro e w' ⟨rfl, hw⟩
          subst w'
          by_cases n1 : hexv s[j + 1] < 0
          · have HN : O = none := by
              have := hstep.out
              rw [if_pos (.inl n1)] at this
              exact this.symm
            subst HN
            clear hstep
            go_wp2
            (try simp only [Exit.inBlock, Exit.then])
            refine bodyPost_ret (v := .tuple #[dv 0 0 ⟨#[]⟩ none 0 0, .bool false]) ?_ rfl ⟨none, 0, 0, ⟨#[]⟩, hok.out, rfl, (fun x hx => by cases hx), ?_⟩
            · rw [results_cell_tmp rfl]
              go_simp
              try rfl
            · exact (((hbl.setCell (p := ⟨w.heap.size, 0, none⟩) (Nat.le_refl _) _).setCell (p := ⟨w.heap.size, 1, none⟩) (Nat.le_refl _) _).setCell (p := ⟨w.heap.size, 2, none⟩) (Nat.le_refl _) _).setCell (p := ⟨w.heap.size, 3, none⟩) (Nat.le_refl _) _
          · go_wp2_with fail
            refine (digit_any s[j + 2] _).mono ?_
            rintro e w' ⟨rfl, hw⟩
            subst w'
            by_cases n2 : hexv s[j + 2] < 0
            · have HN : O = none := by
                have := hstep.out
                rw [if_pos (.inr n2)] at this
                exact this.symm
              subst HN
              clear hstep
              go_wp2
              (try simp only [Exit.inBlock, Exit.then])
              refine bodyPost_ret (v := .tuple #[dv 0 0 ⟨#[]⟩ none 0 0, .bool false]) ?_ rfl ⟨none, 0, 0, ⟨#[]⟩, hok.out, rfl, (fun x hx => by cases hx), ?_⟩
              · rw [results_cell_tmp rfl]
                go_simp
                try rfl
              · exact (((hbl.setCell (p := ⟨w.heap.size, 0, none⟩) (Nat.le_refl _) _).setCell (p := ⟨w.heap.size, 1, none⟩) (Nat.le_refl _) _).setCell (p := ⟨w.heap.size, 2, none⟩) (Nat.le_refl _) _).setCell (p := ⟨w.heap.size, 3, none⟩) (Nat.le_refl _) _
            · have HN : Hid ((rqL (sub s (j + 3) (s.size - 1))).map (fun q => (done ++ [UInt8.ofNat (16 * hexv s[j + 1] + hexv s[j + 2]).toNat]) ++ q) = O) := Lib.hid (by
                have := hstep.out
                rw [if_neg (by omega)] at this
                exact this)
              clear hstep
              have hbyte : Hid (16 * hexv s[j + 1] + hexv s[j + 2] = ((UInt8.ofNat (16 * hexv s[j + 1] + hexv s[j + 2]).toNat).toNat : Int)) := Lib.hid (by rw [UInt8.toNat_ofNat']; omega)
              have D1 := Lib.hid (digit_any s[j + 1])
              have D2 := Lib.hid (digit_any s[j + 2])
              generalize hexv s[j + 1] = x1 at *
              generalize hexv s[j + 2] = x2 at *
              generalize UInt8.ofNat (16 * x1 + x2).toNat = B at HN hbyte
              go_wp2
              clear r0 r1 r2 r3 q0 q1 q2 q3
              refine wp_region_noPanic ?_
              refine wp_region_held_drew (S := fun _ => True) (by kernel_rfl) trivial (fun _ => ?_)
              refine wpAnyH_take (i := 0) (v := ?_) rfl (by kernel_rfl) (by kernel_rfl) (by kernel_rfl) (fun _ _ _ h => h) (Or.inl ⟨by rfl, ?_⟩) trivial ?_
              rotate_left
              · intro w9 _
                go_simp
                try with_reducible rfl
              try simp only [Act.put, List.getElem_toArray, List.getElem_cons_succ, List.getElem_cons_zero, List.setIfInBounds_toArray, List.set_cons_zero, List.set_cons_succ]
              refine wpAnyH_take (i := 1) (v := ?_) rfl (by kernel_rfl) (by kernel_rfl) (by kernel_rfl) (fun _ _ _ h => h) (Or.inl ⟨by rfl, ?_⟩) trivial ?_
              rotate_left
              · intro w9 _
                go_simp
                try with_reducible rfl
              try simp only [Act.put, List.getElem_toArray, List.getElem_cons_succ, List.getElem_cons_zero, List.setIfInBounds_toArray, List.set_cons_zero, List.set_cons_succ]
              refine wpAnyH_take (i := 2) (v := ?_) rfl (by kernel_rfl) (by kernel_rfl) (by kernel_rfl) (fun _ _ _ h => h) (Or.inl ⟨by rfl, ?_⟩) trivial ?_
              rotate_left
              · intro w9 _
                go_simp
                try with_reducible rfl
              try simp only [Act.put, List.getElem_toArray, List.getElem_cons_succ, List.getElem_cons_zero, List.setIfInBounds_toArray, List.set_cons_zero, List.set_cons_succ]
              refine wpAnyH_take (i := 3) (v := ?_) rfl (by kernel_rfl) (by kernel_rfl) (by kernel_rfl) (fun _ _ _ h => h) (Or.inl ⟨by rfl, ?_⟩) trivial ?_
              rotate_left
              · intro w9 _
                go_simp
                try with_reducible rfl
              try simp only [Act.put, List.getElem_toArray, List.getElem_cons_succ, List.getElem_cons_zero, List.setIfInBounds_toArray, List.set_cons_zero, List.set_cons_succ]
              refine wpAnyH_take (i := 4) (v := ?_) rfl (by kernel_rfl) (by kernel_rfl) (by kernel_rfl) (fun _ _ _ h => h) (Or.inl ⟨by rfl, ?_⟩) trivial ?_
              rotate_left
              · intro w9 _
                go_simp
                try with_reducible rfl
              try simp only [Act.put, List.getElem_toArray, List.getElem_cons_succ, List.getElem_cons_zero, List.setIfInBounds_toArray, List.set_cons_zero, List.set_cons_succ]
              refine wpAnyH_take (i := 7) (v := ?_) rfl (by kernel_rfl) (by kernel_rfl) (by kernel_rfl) (fun _ _ _ h => h) (Or.inl ⟨by rfl, ?_⟩) trivial ?_
              rotate_left
              · intro w9 _
                go_simp
                try with_reducible rfl
              try simp only [Act.put, List.getElem_toArray, List.getElem_cons_succ, List.getElem_cons_zero, List.setIfInBounds_toArray, List.set_cons_zero, List.set_cons_succ]
              refine wpAnyH_take (i := 8) (v := ?_) rfl (by kernel_rfl) (by kernel_rfl) (by kernel_rfl) (fun _ _ _ h => h) (Or.inl ⟨by rfl, ?_⟩) trivial ?_
              rotate_left
              · intro w9 _
                go_simp
                try with_reducible rfl
              try simp only [Act.put, List.getElem_toArray, List.getElem_cons_succ, List.getElem_cons_zero, List.setIfInBounds_toArray, List.set_cons_zero, List.set_cons_succ]
              refine wpAnyH_take (i := 9) (v := ?_) rfl (by kernel_rfl) (by kernel_rfl) (by kernel_rfl) (fun _ _ _ h => h) (Or.inl ⟨by rfl, ?_⟩) trivial ?_
              rotate_left
              · intro w9 _
                go_simp
                try with_reducible rfl
              try simp only [Act.put, List.getElem_toArray, List.getElem_cons_succ, List.getElem_cons_zero, List.setIfInBounds_toArray, List.set_cons_zero, List.set_cons_succ]
              refine wpAnyH_take (i := 10) (v := ?_) rfl (by kernel_rfl) (by kernel_rfl) (by kernel_rfl) (fun _ _ _ h => h) (Or.inl ⟨by rfl, ?_⟩) trivial ?_
              rotate_left
              · intro w9 _
                go_simp
                try with_reducible rfl
              try simp only [Act.put, List.getElem_toArray, List.getElem_cons_succ, List.getElem_cons_zero, List.setIfInBounds_toArray, List.set_cons_zero, List.set_cons_succ]
              refine wpAnyH_ready (rs := [5]) (by kernel_rfl) (by simp) ?_
              refine AllReadyH.cons rfl (fun K hK => ?_) AllReadyH.nil
              go_simp
              go_at_call 52
              refine (D1.out _).mono ?_
              rintro e w' ⟨rfl, hw⟩
              subst w'
              refine hK.out _ _ trivial (fun _ => ?_)
              clear hK K
              try simp only [Act.put, List.getElem_toArray, List.getElem_cons_succ, List.getElem_cons_zero, List.setIfInBounds_toArray, List.set_cons_zero, List.set_cons_succ]
              refine wpAnyH_take (i := 6) (v := ?_) rfl (by kernel_rfl) (by kernel_rfl) (by kernel_rfl) (fun _ _ _ h => h) (Or.inl ⟨by rfl, ?_⟩) trivial ?_
              rotate_left
              · intro w9 _
                go_simp
                try with_reducible rfl
              try simp only [Act.put, List.getElem_toArray, List.getElem_cons_succ, List.getElem_cons_zero, List.setIfInBounds_toArray, List.set_cons_zero, List.set_cons_succ]
              refine wpAnyH_ready (rs := [11]) (by kernel_rfl) (by simp) ?_
              refine AllReadyH.cons rfl (fun K hK => ?_) AllReadyH.nil
              go_simp
              go_at_call 52
              refine (D2.out _).mono ?_
              rintro e w' ⟨rfl, hw⟩
              subst w'
              refine hK.out _ _ trivial (fun _ => ?_)
              clear hK K
              try simp only [Act.put, List.getElem_toArray, List.getElem_cons_succ, List.getElem_cons_zero, List.setIfInBounds_toArray, List.set_cons_zero, List.set_cons_succ]
              refine wpAnyH_take (i := 12) (v := ?_) rfl (by kernel_rfl) (by kernel_rfl) (by kernel_rfl) (fun _ _ _ h => h) (Or.inl ⟨by rfl, ?_⟩) trivial ?_
              rotate_left
              · intro w9 _
                go_simp
                try with_reducible rfl
              try simp only [Act.put, List.getElem_toArray, List.getElem_cons_succ, List.getElem_cons_zero, List.setIfInBounds_toArray, List.set_cons_zero, List.set_cons_succ]
              refine wpAnyH_take (i := 13) (v := ?_) rfl (by kernel_rfl) (by kernel_rfl) (by kernel_rfl) (fun _ _ _ h => h) (Or.inl ⟨by rfl, ?_⟩) trivial ?_
              rotate_left
              · intro w9 _
                go_simp
                try with_reducible rfl
              try simp only [Act.put, List.getElem_toArray, List.getElem_cons_succ, List.getElem_cons_zero, List.setIfInBounds_toArray, List.set_cons_zero, List.set_cons_succ]
              refine wpAnyH_ready (rs := [14]) (by kernel_rfl) (by simp) ?_
              refine AllReadyH.cons rfl (fun K hK => ?_) AllReadyH.nil
              go_simp
              refine hK.out _ _ trivial (fun _ => ?_)
              clear hK K
              try simp only [Act.put, List.getElem_toArray, List.getElem_cons_succ, List.getElem_cons_zero, List.setIfInBounds_toArray, List.set_cons_zero, List.set_cons_succ]
              refine wpAnyH_ready (rs := [15]) (by kernel_rfl) (by simp) ?_
              refine AllReadyH.cons rfl (fun K hK => ?_) AllReadyH.nil
              refine step_appB (by rfl) (.tmp 64) (.tmp 78) (by rfl) (w.heap.size + 1) _ _ (by rfl) (hb2.drew.alloc _) ⟨wr.heap.size, 0, none⟩ 1 1 [B] (by rfl) (by rfl) (new1' wr _ B (wrapB2 hbyte.out (by omega) (by omega))) (by simp only [List.length_cons, List.length_nil]; omega) (by simp; omega) ?_
              intro v3 w3 hb3 hbl3 hg3
              refine hK.out _ _ trivial (fun _ => ?_)
              clear hK K
              try simp only [Act.put, List.getElem_toArray, List.getElem_cons_succ, List.getElem_cons_zero, List.setIfInBounds_toArray, List.set_cons_zero, List.set_cons_succ]
              refine wpAnyH_take (i := 16) (v := ?_) rfl (by kernel_rfl) (by kernel_rfl) (by kernel_rfl) (fun _ _ _ h => h) (Or.inl ⟨by rfl, ?_⟩) trivial ?_
              rotate_left
              · intro w9 _
                go_simp
                try with_reducible rfl
              try simp only [Act.put, List.getElem_toArray, List.getElem_cons_succ, List.getElem_cons_zero, List.setIfInBounds_toArray, List.set_cons_zero, List.set_cons_succ]
              refine wpAnyH_done (by kernel_rfl) ?_ _
              have zz3 := hbl3.size
              simp at zz3
              have hW12 : Below (w.heap.size + 1) wr (wr.alloc (.cells #[.int .u8 (IntKind.u8.wrap (IntKind.i64.wrap (IntKind.i64.wrap (16 * x1) + x2)))] 5)).drew := ((Below.refl _ _).alloc (by omega) _).drew
              have hq := hbl.trans ((((Below.refl wr.heap.size wr).drew).alloc (by simp) _).mono (by omega) |>.trans (hbl3.mono (by omega)))
              refine NoPanic.normal ?_
              go_wp2
              go_roundw
              case rel => exact ⟨j + 3, done ++ [B], by omega, by omega, by go_num, HN, by simp; omega, hb3, hq, zr.later (hW12.trans hbl3) (by omega), by omega⟩
              case measure => simp [intOf]; omega
        · have hj2 : (s.size : Int) - 1 ≤ (j : Int) + 2 := by omega
          have HN : O = none := by
            have := HO.out
            rw [HS.out, hp, rqL_short _ (by rw [sub_len _ _ _ (by omega)]; omega)] at this
            exact this.symm
          subst HN
          clear hp
          go_wp2
          (try simp only [Exit.inBlock, Exit.then])
          refine bodyPost_ret (v := .tuple #[dv 0 0 ⟨#[]⟩ none 0 0, .bool false]) ?_ rfl ⟨none, 0, 0, ⟨#[]⟩, hok.out, rfl, (fun x hx => by cases hx), ?_⟩
          · rw [results_cell_tmp rfl]
            go_simp
            try rfl
          · exact (((hbl.setCell (p := ⟨w.heap.size, 0, none⟩) (Nat.le_refl _) _).setCell (p := ⟨w.heap.size, 1, none⟩) (Nat.le_refl _) _).setCell (p := ⟨w.heap.size, 2, none⟩) (Nat.le_refl _) _).setCell (p := ⟨w.heap.size, 3, none⟩) (Nat.le_refl _) _
      · have c37 := u8_bne _ _ hp 37 rfl
        have c37' : ((s[j].toNat : Int) != 37) = true := by rw [bne, c37]; rfl
        have HN : Hid ((rqL (sub s (j + 1) (s.size - 1))).map ((done ++ [s[j]]) ++ ·) = O) := Lib.hid (by
          have := HO.out
          rw [HS.out, rqL_plain _ _ hp, map_cons] at this
          exact this)
        clear hp
        go_wp2_with (at_builtin; refine wp_app1 rfl (.tmp 35) (.tmp 39) rfl (w.heap.size + 1) _ _ rfl hb2 _ s[j] rfl _ 1 rfl (by simp) (by omega) (by omega) ?_; intro v3 w3 hb3 hbl3 hg3 hz3)
        go_roundw
        case rel => exact ⟨j + 1, done ++ [s[j]], by omega, by omega, by go_num, HN, by simp; omega, hb3, hbl.trans (hbl3.mono (by omega)), zr.later hbl3 (by omega), by omega⟩
        case measure => simp [intOf]; omega
    · have hjI : ¬ (j : Int) < (s.size : Int) - 1 := by omega
      have HN : O = some done := by
        have := HO.out
        rw [sub_end s j (s.size - 1) (by omega)] at this
        simp [rqL] at this
        exact this.symm
      subst HN
      have hs2 := hb2.string
      obtain ⟨V, cv, rfl⟩ := hb2.slice
      have hl3 : (⟨done.toArray⟩ : ByteArray).data.toList = done := by simp
      have hl4 : (⟨done.toArray⟩ : ByteArray).size = done.length := ba_size done
      have hl5 : (⟨done.toArray⟩ : ByteArray) = toBA done := rfl
      generalize (⟨done.toArray⟩ : ByteArray) = OUT at hs2 hl3 hl4 hl5
      have zr1 := zr.alloc (.cells #[.int .i64 2, .int .i64 0, .string OUT, .slice none 0 0] 24) (by omega)
      have hbl1 := hbl.alloc (by omega) (.cells #[.int .i64 2, .int .i64 0, .string OUT, .slice none 0 0] 24)
      have HOK := Lib.hid hok.out
      clear hok HO hO2 r0 r1 r2 r3 q0 q1 q2 q3 zr0 hW
      by_cases h32 : done.length ≤ 32
      · have hsB : simpleB 2 0 OUT 0 = true := by simp [simpleB, hl4, h32]
        have hQe : text1 2 0 OUT = quoteL done := by rw [text1, if_neg (by decide), hl3]
        by_cases he : quoteL done = s.data.toList
        · have HR : Hid (RdOk s.data.toList (some ⟨2, 0, OUT, 0⟩)) := Lib.hid (by have := HOK.out; simp only at this; rw [if_pos ⟨h32, he⟩, ← hl5] at this; exact this)
          have hQ : (⟨(text1 2 0 OUT).toArray⟩ : ByteArray) = s := by rw [hQe, he]
          clear h32 he hQe hl3 hl4 hl5
          go_wp2
          refine wp_region_noPanic ?_
          refine wp_region_held_drew (S := (fun w' => w'.cell? ⟨wr.heap.size, 0, none⟩ = some (.int .i64 2) ∧ w'.cell? ⟨wr.heap.size, 1, none⟩ = some (.int .i64 0) ∧ w'.cell? ⟨wr.heap.size, 2, none⟩ = some (.string OUT) ∧ w'.cell? ⟨wr.heap.size, 3, none⟩ = some (.slice none 0 0))) (by kernel_rfl) ⟨by go_simp, by go_simp, by go_simp, by go_simp⟩ (fun hS => ?_)
          refine wpAnyH_take (i := 0) (v := ?_) rfl (by kernel_rfl) (by kernel_rfl) (by kernel_rfl) (fun _ _ _ h => h) (Or.inl ⟨by rfl, ?_⟩) hS ?_
          rotate_left
          · rintro w9 ⟨t0, t1, t2, t3⟩
            go_simp
            try with_reducible rfl
          try simp only [Act.put, List.getElem_toArray, List.getElem_cons_succ, List.getElem_cons_zero, List.setIfInBounds_toArray, List.set_cons_zero, List.set_cons_succ]
          refine wpAnyH_take (i := 1) (v := ?_) rfl (by kernel_rfl) (by kernel_rfl) (by kernel_rfl) (fun _ _ _ h => h) (Or.inl ⟨by rfl, ?_⟩) hS ?_
          rotate_left
          · rintro w9 ⟨t0, t1, t2, t3⟩
            go_simp
            try with_reducible rfl
          try simp only [Act.put, List.getElem_toArray, List.getElem_cons_succ, List.getElem_cons_zero, List.setIfInBounds_toArray, List.set_cons_zero, List.set_cons_succ]
          refine wpAnyH_ready (rs := [2]) (by kernel_rfl) (by simp) ?_
          refine AllReadyH.cons rfl (fun K hK => ?_) AllReadyH.nil
          go_simp
          go_at_call 45
          refine (simple_any _ _ _ _ _ _ _).mono ?_
          rintro e w5 ⟨rfl, hb5⟩
          rw [hsB]
          have zz5 := hb5.size
          simp at zz5
          have hS5 : (fun w' => w'.cell? ⟨wr.heap.size, 0, none⟩ = some (.int .i64 2) ∧ w'.cell? ⟨wr.heap.size, 1, none⟩ = some (.int .i64 0) ∧ w'.cell? ⟨wr.heap.size, 2, none⟩ = some (.string OUT) ∧ w'.cell? ⟨wr.heap.size, 3, none⟩ = some (.slice none 0 0)) w5 := ⟨(hb5.cell (p := ⟨wr.heap.size, 0, none⟩) (by simp)).trans hS.1, (hb5.cell (p := ⟨wr.heap.size, 1, none⟩) (by simp)).trans hS.2.1, (hb5.cell (p := ⟨wr.heap.size, 2, none⟩) (by simp)).trans hS.2.2.1, (hb5.cell (p := ⟨wr.heap.size, 3, none⟩) (by simp)).trans hS.2.2.2⟩
          have hb05 := hbl1.drew.trans (hb5.mono (by simp; omega))
          have zr5 : Zb w5 w.heap.size := (zr1.later ((Below.refl (wr.heap.size + 1) _).drew) (by omega)).later hb5 (by simp; omega)
          refine hK.out _ _ hS5 (fun _ => ?_)
          clear hK K
          try simp only [Act.put, List.getElem_toArray, List.getElem_cons_succ, List.getElem_cons_zero, List.setIfInBounds_toArray, List.set_cons_zero, List.set_cons_succ]
          refine wpAnyH_take (i := 3) (v := ?_) rfl (by kernel_rfl) (by kernel_rfl) (by kernel_rfl) (fun _ _ _ h => h) (Or.inl ⟨by rfl, ?_⟩) hS5 ?_
          rotate_left
          · rintro w9 ⟨t0, t1, t2, t3⟩
            go_simp
            try with_reducible rfl
          try simp only [Act.put, List.getElem_toArray, List.getElem_cons_succ, List.getElem_cons_zero, List.setIfInBounds_toArray, List.set_cons_zero, List.set_cons_succ]
          refine wpAnyH_take (i := 4) (v := ?_) rfl (by kernel_rfl) (by kernel_rfl) (by kernel_rfl) (fun _ _ _ h => h) (Or.inl ⟨by rfl, ?_⟩) hS5 ?_
          rotate_left
          · rintro w9 ⟨t0, t1, t2, t3⟩
            go_simp
            try with_reducible rfl
          try simp only [Act.put, List.getElem_toArray, List.getElem_cons_succ, List.getElem_cons_zero, List.setIfInBounds_toArray, List.set_cons_zero, List.set_cons_succ]
          refine wpAnyH_take (i := 6) (v := ?_) rfl (by kernel_rfl) (by kernel_rfl) (by kernel_rfl) (fun _ _ _ h => h) (Or.inl ⟨by rfl, ?_⟩) hS5 ?_
          rotate_left
          · rintro w9 ⟨t0, t1, t2, t3⟩
            go_simp
            try with_reducible rfl
          try simp only [Act.put, List.getElem_toArray, List.getElem_cons_succ, List.getElem_cons_zero, List.setIfInBounds_toArray, List.set_cons_zero, List.set_cons_succ]
          refine wpAnyH_ready (rs := [5]) (by kernel_rfl) (by simp) ?_
          refine AllReadyH.cons rfl (fun K hK => ?_) AllReadyH.nil
          go_simp
          go_at_call 53
          refine (rtext_simple 2 0 OUT none 0 0 _ hsB ⟨by omega, by omega⟩ (hG.below hb05)).mono ?_
          rintro e w6 ⟨rfl, hb6⟩
          rw [hQ]
          have zz6 := hb6.size
          have hS6 : (fun w' => w'.cell? ⟨wr.heap.size, 0, none⟩ = some (.int .i64 2) ∧ w'.cell? ⟨wr.heap.size, 1, none⟩ = some (.int .i64 0) ∧ w'.cell? ⟨wr.heap.size, 2, none⟩ = some (.string OUT) ∧ w'.cell? ⟨wr.heap.size, 3, none⟩ = some (.slice none 0 0)) w6 := ⟨(hb6.cell (p := ⟨wr.heap.size, 0, none⟩) (by show wr.heap.size < _; omega)).trans hS5.1, (hb6.cell (p := ⟨wr.heap.size, 1, none⟩) (by show wr.heap.size < _; omega)).trans hS5.2.1, (hb6.cell (p := ⟨wr.heap.size, 2, none⟩) (by show wr.heap.size < _; omega)).trans hS5.2.2.1, (hb6.cell (p := ⟨wr.heap.size, 3, none⟩) (by show wr.heap.size < _; omega)).trans hS5.2.2.2⟩
          have hb06 := hb05.trans (hb6.mono (by omega))
          have zr6 := zr5.later hb6 (by omega)
          refine hK.out _ _ hS6 (fun _ => ?_)
          clear hK K
          try simp only [Act.put, List.getElem_toArray, List.getElem_cons_succ, List.getElem_cons_zero, List.setIfInBounds_toArray, List.set_cons_zero, List.set_cons_succ]
          refine wpAnyH_take (i := 7) (v := ?_) rfl (by kernel_rfl) (by kernel_rfl) (by kernel_rfl) (fun _ _ _ h => h) (Or.inl ⟨by rfl, ?_⟩) hS6 ?_
          rotate_left
          · rintro w9 ⟨t0, t1, t2, t3⟩
            go_simp
            try with_reducible rfl
          try simp only [Act.put, List.getElem_toArray, List.getElem_cons_succ, List.getElem_cons_zero, List.setIfInBounds_toArray, List.set_cons_zero, List.set_cons_succ]
          refine wpAnyH_take (i := 8) (v := ?_) rfl (by kernel_rfl) (by kernel_rfl) (by kernel_rfl) (fun _ _ _ h => h) (Or.inl ⟨by rfl, ?_⟩) hS6 ?_
          rotate_left
          · rintro w9 ⟨t0, t1, t2, t3⟩
            go_simp
            try with_reducible rfl
          try simp only [Act.put, List.getElem_toArray, List.getElem_cons_succ, List.getElem_cons_zero, List.setIfInBounds_toArray, List.set_cons_zero, List.set_cons_succ]
          have bq := zr6
          obtain ⟨r0, r1, r2, r3, q0, q1, q2, q3⟩ := bq
          refine wpAnyH_ready (rs := [9]) (by kernel_rfl) (by simp) ?_
          refine AllReadyH.cons rfl (fun K hK => ?_) AllReadyH.nil
          go_simp
          have hS7 : (fun w' => w'.cell? ⟨wr.heap.size, 0, none⟩ = some (.int .i64 2) ∧ w'.cell? ⟨wr.heap.size, 1, none⟩ = some (.int .i64 0) ∧ w'.cell? ⟨wr.heap.size, 2, none⟩ = some (.string OUT) ∧ w'.cell? ⟨wr.heap.size, 3, none⟩ = some (.slice none 0 0)) ((((w6.setCell ⟨w.heap.size, 0, none⟩ (.int .i64 2)).setCell ⟨w.heap.size, 1, none⟩ (.int .i64 0)).setCell ⟨w.heap.size, 2, none⟩ (.string OUT)).setCell ⟨w.heap.size, 3, none⟩ (.slice none 0 0)) := (by
            obtain ⟨t0, t1, t2, t3⟩ := hS6
            have hne : ¬ w.heap.size = wr.heap.size := by omega
            exact ⟨by go_simp, by go_simp, by go_simp, by go_simp⟩)
          refine hK.out _ _ hS7 (fun _ => ?_)
          clear hK K
          try simp only [Act.put, List.getElem_toArray, List.getElem_cons_succ, List.getElem_cons_zero, List.setIfInBounds_toArray, List.set_cons_zero, List.set_cons_succ]
          refine wpAnyH_take (i := 10) (v := ?_) rfl (by kernel_rfl) (by kernel_rfl) (by kernel_rfl) (fun _ _ _ h => h) (Or.inl ⟨by rfl, ?_⟩) hS7 ?_
          rotate_left
          · rintro w9 ⟨t0, t1, t2, t3⟩
            go_simp
            try with_reducible rfl
          try simp only [Act.put, List.getElem_toArray, List.getElem_cons_succ, List.getElem_cons_zero, List.setIfInBounds_toArray, List.set_cons_zero, List.set_cons_succ]
          refine wpAnyH_done (by kernel_rfl) ?_ _
          refine NoPanic.normal ?_
          go_wp2
          (try simp only [Exit.inBlock, Exit.then])
          refine bodyPost_ret (v := .tuple #[dv 2 0 OUT none 0 0, .bool true]) ?_ rfl ⟨some ⟨2, 0, OUT, 0⟩, 2, 0, OUT, HR.out, rfl, (fun x hx => by injection hx with hx; exact hx.symm), ?_⟩
          · rw [results_cell_tmp rfl]
            go_simp
            try rfl
          · exact (((hb06.setCell (p := ⟨w.heap.size, 0, none⟩) (Nat.le_refl _) _).setCell (p := ⟨w.heap.size, 1, none⟩) (Nat.le_refl _) _).setCell (p := ⟨w.heap.size, 2, none⟩) (Nat.le_refl _) _).setCell (p := ⟨w.heap.size, 3, none⟩) (Nat.le_refl _) _
        · have HR : Hid (RdOk s.data.toList none) := Lib.hid (by have := HOK.out; simp only at this; rw [if_neg (fun h => he h.2)] at this; exact this)
          have hQ0 : ∃ Q : ByteArray, (⟨(text1 2 0 OUT).toArray⟩ : ByteArray) = Q ∧ (Q.toList == s.toList) = false := ⟨_, rfl, by rw [beq_eq_false_iff_ne, Lib.toList_data, Lib.toList_data, hQe]; exact he⟩
          obtain ⟨Q, hQ, hQs⟩ := hQ0
          clear h32 he hQe hl3 hl4 hl5
          go_wp2
          refine wp_region_noPanic ?_
          refine wp_region_held_drew (S := (fun w' => w'.cell? ⟨wr.heap.size, 0, none⟩ = some (.int .i64 2) ∧ w'.cell? ⟨wr.heap.size, 1, none⟩ = some (.int .i64 0) ∧ w'.cell? ⟨wr.heap.size, 2, none⟩ = some (.string OUT) ∧ w'.cell? ⟨wr.heap.size, 3, none⟩ = some (.slice none 0 0))) (by kernel_rfl) ⟨by go_simp, by go_simp, by go_simp, by go_simp⟩ (fun hS => ?_)
          refine wpAnyH_take (i := 0) (v := ?_) rfl (by kernel_rfl) (by kernel_rfl) (by kernel_rfl) (fun _ _ _ h => h) (Or.inl ⟨by rfl, ?_⟩) hS ?_
          rotate_left
          · rintro w9 ⟨t0, t1, t2, t3⟩
            go_simp
            try with_reducible rfl
          try simp only [Act.put, List.getElem_toArray, List.getElem_cons_succ, List.getElem_cons_zero, List.setIfInBounds_toArray, List.set_cons_zero, List.set_cons_succ]
          refine wpAnyH_take (i := 1) (v := ?_) rfl (by kernel_rfl) (by kernel_rfl) (by kernel_rfl) (fun _ _ _ h => h) (Or.inl ⟨by rfl, ?_⟩) hS ?_
          rotate_left
          · rintro w9 ⟨t0, t1, t2, t3⟩
            go_simp
            try with_reducible rfl
          try simp only [Act.put, List.getElem_toArray, List.getElem_cons_succ, List.getElem_cons_zero, List.setIfInBounds_toArray, List.set_cons_zero, List.set_cons_succ]
          refine wpAnyH_ready (rs := [2]) (by kernel_rfl) (by simp) ?_
          refine AllReadyH.cons rfl (fun K hK => ?_) AllReadyH.nil
          go_simp
          go_at_call 45
          refine (simple_any _ _ _ _ _ _ _).mono ?_
          rintro e w5 ⟨rfl, hb5⟩
          rw [hsB]
          have zz5 := hb5.size
          simp at zz5
          have hS5 : (fun w' => w'.cell? ⟨wr.heap.size, 0, none⟩ = some (.int .i64 2) ∧ w'.cell? ⟨wr.heap.size, 1, none⟩ = some (.int .i64 0) ∧ w'.cell? ⟨wr.heap.size, 2, none⟩ = some (.string OUT) ∧ w'.cell? ⟨wr.heap.size, 3, none⟩ = some (.slice none 0 0)) w5 := ⟨(hb5.cell (p := ⟨wr.heap.size, 0, none⟩) (by simp)).trans hS.1, (hb5.cell (p := ⟨wr.heap.size, 1, none⟩) (by simp)).trans hS.2.1, (hb5.cell (p := ⟨wr.heap.size, 2, none⟩) (by simp)).trans hS.2.2.1, (hb5.cell (p := ⟨wr.heap.size, 3, none⟩) (by simp)).trans hS.2.2.2⟩
          have hb05 := hbl1.drew.trans (hb5.mono (by simp; omega))
          have zr5 : Zb w5 w.heap.size := (zr1.later ((Below.refl (wr.heap.size + 1) _).drew) (by omega)).later hb5 (by simp; omega)
          refine hK.out _ _ hS5 (fun _ => ?_)
          clear hK K
          try simp only [Act.put, List.getElem_toArray, List.getElem_cons_succ, List.getElem_cons_zero, List.setIfInBounds_toArray, List.set_cons_zero, List.set_cons_succ]
          refine wpAnyH_take (i := 3) (v := ?_) rfl (by kernel_rfl) (by kernel_rfl) (by kernel_rfl) (fun _ _ _ h => h) (Or.inl ⟨by rfl, ?_⟩) hS5 ?_
          rotate_left
          · rintro w9 ⟨t0, t1, t2, t3⟩
            go_simp
            try with_reducible rfl
          try simp only [Act.put, List.getElem_toArray, List.getElem_cons_succ, List.getElem_cons_zero, List.setIfInBounds_toArray, List.set_cons_zero, List.set_cons_succ]
          refine wpAnyH_take (i := 4) (v := ?_) rfl (by kernel_rfl) (by kernel_rfl) (by kernel_rfl) (fun _ _ _ h => h) (Or.inl ⟨by rfl, ?_⟩) hS5 ?_
          rotate_left
          · rintro w9 ⟨t0, t1, t2, t3⟩
            go_simp
            try with_reducible rfl
          try simp only [Act.put, List.getElem_toArray, List.getElem_cons_succ, List.getElem_cons_zero, List.setIfInBounds_toArray, List.set_cons_zero, List.set_cons_succ]
          refine wpAnyH_take (i := 6) (v := ?_) rfl (by kernel_rfl) (by kernel_rfl) (by kernel_rfl) (fun _ _ _ h => h) (Or.inl ⟨by rfl, ?_⟩) hS5 ?_
          rotate_left
          · rintro w9 ⟨t0, t1, t2, t3⟩
            go_simp
            try with_reducible rfl
          try simp only [Act.put, List.getElem_toArray, List.getElem_cons_succ, List.getElem_cons_zero, List.setIfInBounds_toArray, List.set_cons_zero, List.set_cons_succ]
          refine wpAnyH_ready (rs := [5]) (by kernel_rfl) (by simp) ?_
          refine AllReadyH.cons rfl (fun K hK => ?_) AllReadyH.nil
          go_simp
          go_at_call 53
          refine (rtext_simple 2 0 OUT none 0 0 _ hsB ⟨by omega, by omega⟩ (hG.below hb05)).mono ?_
          rintro e w6 ⟨rfl, hb6⟩
          rw [hQ]
          have zz6 := hb6.size
          have hS6 : (fun w' => w'.cell? ⟨wr.heap.size, 0, none⟩ = some (.int .i64 2) ∧ w'.cell? ⟨wr.heap.size, 1, none⟩ = some (.int .i64 0) ∧ w'.cell? ⟨wr.heap.size, 2, none⟩ = some (.string OUT) ∧ w'.cell? ⟨wr.heap.size, 3, none⟩ = some (.slice none 0 0)) w6 := ⟨(hb6.cell (p := ⟨wr.heap.size, 0, none⟩) (by show wr.heap.size < _; omega)).trans hS5.1, (hb6.cell (p := ⟨wr.heap.size, 1, none⟩) (by show wr.heap.size < _; omega)).trans hS5.2.1, (hb6.cell (p := ⟨wr.heap.size, 2, none⟩) (by show wr.heap.size < _; omega)).trans hS5.2.2.1, (hb6.cell (p := ⟨wr.heap.size, 3, none⟩) (by show wr.heap.size < _; omega)).trans hS5.2.2.2⟩
          have hb06 := hb05.trans (hb6.mono (by omega))
          have zr6 := zr5.later hb6 (by omega)
          refine hK.out _ _ hS6 (fun _ => ?_)
          clear hK K
          try simp only [Act.put, List.getElem_toArray, List.getElem_cons_succ, List.getElem_cons_zero, List.setIfInBounds_toArray, List.set_cons_zero, List.set_cons_succ]
          refine wpAnyH_take (i := 7) (v := ?_) rfl (by kernel_rfl) (by kernel_rfl) (by kernel_rfl) (fun _ _ _ h => h) (Or.inl ⟨by rfl, ?_⟩) hS6 ?_
          rotate_left
          · rintro w9 ⟨t0, t1, t2, t3⟩
            go_simp
            try with_reducible rfl
          try simp only [Act.put, List.getElem_toArray, List.getElem_cons_succ, List.getElem_cons_zero, List.setIfInBounds_toArray, List.set_cons_zero, List.set_cons_succ]
          refine wpAnyH_take (i := 8) (v := ?_) rfl (by kernel_rfl) (by kernel_rfl) (by kernel_rfl) (fun _ _ _ h => h) (Or.inl ⟨by rfl, ?_⟩) hS6 ?_
          rotate_left
          · rintro w9 ⟨t0, t1, t2, t3⟩
            go_simp
            try with_reducible rfl
          try simp only [Act.put, List.getElem_toArray, List.getElem_cons_succ, List.getElem_cons_zero, List.setIfInBounds_toArray, List.set_cons_zero, List.set_cons_succ]
          have bq := zr6
          obtain ⟨r0, r1, r2, r3, q0, q1, q2, q3⟩ := bq
          refine wpAnyH_ready (rs := [9]) (by kernel_rfl) (by simp) ?_
          refine AllReadyH.cons rfl (fun K hK => ?_) AllReadyH.nil
          go_simp
          have hS7 : (fun w' => w'.cell? ⟨wr.heap.size, 0, none⟩ = some (.int .i64 2) ∧ w'.cell? ⟨wr.heap.size, 1, none⟩ = some (.int .i64 0) ∧ w'.cell? ⟨wr.heap.size, 2, none⟩ = some (.string OUT) ∧ w'.cell? ⟨wr.heap.size, 3, none⟩ = some (.slice none 0 0)) ((((w6.setCell ⟨w.heap.size, 0, none⟩ (.int .i64 2)).setCell ⟨w.heap.size, 1, none⟩ (.int .i64 0)).setCell ⟨w.heap.size, 2, none⟩ (.string OUT)).setCell ⟨w.heap.size, 3, none⟩ (.slice none 0 0)) := (by
            obtain ⟨t0, t1, t2, t3⟩ := hS6
            have hne : ¬ w.heap.size = wr.heap.size := by omega
            exact ⟨by go_simp, by go_simp, by go_simp, by go_simp⟩)
          refine hK.out _ _ hS7 (fun _ => ?_)
          clear hK K
          try simp only [Act.put, List.getElem_toArray, List.getElem_cons_succ, List.getElem_cons_zero, List.setIfInBounds_toArray, List.set_cons_zero, List.set_cons_succ]
          refine wpAnyH_take (i := 10) (v := ?_) rfl (by kernel_rfl) (by kernel_rfl) (by kernel_rfl) (fun _ _ _ h => h) (Or.inl ⟨by rfl, ?_⟩) hS7 ?_
          rotate_left
          · rintro w9 ⟨t0, t1, t2, t3⟩
            go_simp
            try with_reducible rfl
          try simp only [Act.put, List.getElem_toArray, List.getElem_cons_succ, List.getElem_cons_zero, List.setIfInBounds_toArray, List.set_cons_zero, List.set_cons_succ]
          refine wpAnyH_done (by kernel_rfl) ?_ _
          refine NoPanic.normal ?_
          go_wp2
          (try simp only [Exit.inBlock, Exit.then])
          refine bodyPost_ret (v := .tuple #[dv 2 0 OUT none 0 0, .bool false]) ?_ rfl ⟨none, 2, 0, OUT, HR.out, rfl, (fun x hx => by cases hx), ?_⟩
          · rw [results_cell_tmp rfl]
            go_simp
            try rfl
          · exact (((hb06.setCell (p := ⟨w.heap.size, 0, none⟩) (Nat.le_refl _) _).setCell (p := ⟨w.heap.size, 1, none⟩) (Nat.le_refl _) _).setCell (p := ⟨w.heap.size, 2, none⟩) (Nat.le_refl _) _).setCell (p := ⟨w.heap.size, 3, none⟩) (Nat.le_refl _) _
      · have hsB : simpleB 2 0 OUT 0 = false := by simp [simpleB, hl4]; omega
        have HR : Hid (RdOk s.data.toList none) := Lib.hid (by have := HOK.out; simp only at this; rw [if_neg (fun h => h32 h.1)] at this; exact this)
        clear h32 hl3 hl4 hl5
        go_wp2
        refine wp_region_noPanic ?_
        refine wp_region_held_drew (S := (fun w' => w'.cell? ⟨wr.heap.size, 0, none⟩ = some (.int .i64 2) ∧ w'.cell? ⟨wr.heap.size, 1, none⟩ = some (.int .i64 0) ∧ w'.cell? ⟨wr.heap.size, 2, none⟩ = some (.string OUT) ∧ w'.cell? ⟨wr.heap.size, 3, none⟩ = some (.slice none 0 0))) (by kernel_rfl) ⟨by go_simp, by go_simp, by go_simp, by go_simp⟩ (fun hS => ?_)
        refine wpAnyH_take (i := 0) (v := ?_) rfl (by kernel_rfl) (by kernel_rfl) (by kernel_rfl) (fun _ _ _ h => h) (Or.inl ⟨by rfl, ?_⟩) hS ?_
        rotate_left
        · rintro w9 ⟨t0, t1, t2, t3⟩
          go_simp
          try with_reducible rfl
        try simp only [Act.put, List.getElem_toArray, List.getElem_cons_succ, List.getElem_cons_zero, List.setIfInBounds_toArray, List.set_cons_zero, List.set_cons_succ]
        refine wpAnyH_take (i := 1) (v := ?_) rfl (by kernel_rfl) (by kernel_rfl) (by kernel_rfl) (fun _ _ _ h => h) (Or.inl ⟨by rfl, ?_⟩) hS ?_
        rotate_left
        · rintro w9 ⟨t0, t1, t2, t3⟩
          go_simp
          try with_reducible rfl
        try simp only [Act.put, List.getElem_toArray, List.getElem_cons_succ, List.getElem_cons_zero, List.setIfInBounds_toArray, List.set_cons_zero, List.set_cons_succ]
        refine wpAnyH_ready (rs := [2]) (by kernel_rfl) (by simp) ?_
        refine AllReadyH.cons rfl (fun K hK => ?_) AllReadyH.nil
        go_simp
        go_at_call 45
        refine (simple_any _ _ _ _ _ _ _).mono ?_
        rintro e w5 ⟨rfl, hb5⟩
        rw [hsB]
        have zz5 := hb5.size
        simp at zz5
        have hS5 : (fun w' => w'.cell? ⟨wr.heap.size, 0, none⟩ = some (.int .i64 2) ∧ w'.cell? ⟨wr.heap.size, 1, none⟩ = some (.int .i64 0) ∧ w'.cell? ⟨wr.heap.size, 2, none⟩ = some (.string OUT) ∧ w'.cell? ⟨wr.heap.size, 3, none⟩ = some (.slice none 0 0)) w5 := ⟨(hb5.cell (p := ⟨wr.heap.size, 0, none⟩) (by simp)).trans hS.1, (hb5.cell (p := ⟨wr.heap.size, 1, none⟩) (by simp)).trans hS.2.1, (hb5.cell (p := ⟨wr.heap.size, 2, none⟩) (by simp)).trans hS.2.2.1, (hb5.cell (p := ⟨wr.heap.size, 3, none⟩) (by simp)).trans hS.2.2.2⟩
        have hb05 := hbl1.drew.trans (hb5.mono (by simp; omega))
        have zr5 : Zb w5 w.heap.size := (zr1.later ((Below.refl (wr.heap.size + 1) _).drew) (by omega)).later hb5 (by simp; omega)
        refine hK.out _ _ hS5 (fun _ => ?_)
        clear hK K
        try simp only [Act.put, List.getElem_toArray, List.getElem_cons_succ, List.getElem_cons_zero, List.setIfInBounds_toArray, List.set_cons_zero, List.set_cons_succ]
        refine wpAnyH_take (i := 3) (v := ?_) rfl (by kernel_rfl) (by kernel_rfl) (by kernel_rfl) (fun _ _ _ h => h) (Or.inl ⟨by rfl, ?_⟩) hS5 ?_
        rotate_left
        · rintro w9 ⟨t0, t1, t2, t3⟩
          go_simp
          try with_reducible rfl
        try simp only [Act.put, List.getElem_toArray, List.getElem_cons_succ, List.getElem_cons_zero, List.setIfInBounds_toArray, List.set_cons_zero, List.set_cons_succ]
        refine wpAnyH_take (i := 4) (v := undef) rfl (by kernel_rfl) (by kernel_rfl) (by kernel_rfl) (fun _ _ _ h => h) (Or.inr ⟨by rfl, rfl⟩) hS5 ?_
        try simp only [Act.put, List.getElem_toArray, List.getElem_cons_succ, List.getElem_cons_zero, List.setIfInBounds_toArray, List.set_cons_zero, List.set_cons_succ]
        refine wpAnyH_take (i := 5) (v := undef) rfl (by kernel_rfl) (by kernel_rfl) (by kernel_rfl) (fun _ _ _ h => h) (Or.inr ⟨by rfl, rfl⟩) hS5 ?_
        try simp only [Act.put, List.getElem_toArray, List.getElem_cons_succ, List.getElem_cons_zero, List.setIfInBounds_toArray, List.set_cons_zero, List.set_cons_succ]
        refine wpAnyH_take (i := 6) (v := undef) rfl (by kernel_rfl) (by kernel_rfl) (by kernel_rfl) (fun _ _ _ h => h) (Or.inr ⟨by rfl, rfl⟩) hS5 ?_
        try simp only [Act.put, List.getElem_toArray, List.getElem_cons_succ, List.getElem_cons_zero, List.setIfInBounds_toArray, List.set_cons_zero, List.set_cons_succ]
        refine wpAnyH_take (i := 7) (v := undef) rfl (by kernel_rfl) (by kernel_rfl) (by kernel_rfl) (fun _ _ _ h => h) (Or.inr ⟨by rfl, rfl⟩) hS5 ?_
        try simp only [Act.put, List.getElem_toArray, List.getElem_cons_succ, List.getElem_cons_zero, List.setIfInBounds_toArray, List.set_cons_zero, List.set_cons_succ]
        refine wpAnyH_take (i := 8) (v := ?_) rfl (by kernel_rfl) (by kernel_rfl) (by kernel_rfl) (fun _ _ _ h => h) (Or.inl ⟨by rfl, ?_⟩) hS5 ?_
        rotate_left
        · rintro w9 ⟨t0, t1, t2, t3⟩
          go_simp
          try with_reducible rfl
        try simp only [Act.put, List.getElem_toArray, List.getElem_cons_succ, List.getElem_cons_zero, List.setIfInBounds_toArray, List.set_cons_zero, List.set_cons_succ]
        have bq := zr5
        obtain ⟨r0, r1, r2, r3, q0, q1, q2, q3⟩ := bq
        refine wpAnyH_ready (rs := [9]) (by kernel_rfl) (by simp) ?_
        refine AllReadyH.cons rfl (fun K hK => ?_) AllReadyH.nil
        go_simp
        have hS7 : (fun w' => w'.cell? ⟨wr.heap.size, 0, none⟩ = some (.int .i64 2) ∧ w'.cell? ⟨wr.heap.size, 1, none⟩ = some (.int .i64 0) ∧ w'.cell? ⟨wr.heap.size, 2, none⟩ = some (.string OUT) ∧ w'.cell? ⟨wr.heap.size, 3, none⟩ = some (.slice none 0 0)) ((((w5.setCell ⟨w.heap.size, 0, none⟩ (.int .i64 2)).setCell ⟨w.heap.size, 1, none⟩ (.int .i64 0)).setCell ⟨w.heap.size, 2, none⟩ (.string OUT)).setCell ⟨w.heap.size, 3, none⟩ (.slice none 0 0)) := (by
          obtain ⟨t0, t1, t2, t3⟩ := hS5
          have hne : ¬ w.heap.size = wr.heap.size := by omega
          exact ⟨by go_simp, by go_simp, by go_simp, by go_simp⟩)
        refine hK.out _ _ hS7 (fun _ => ?_)
        clear hK K
        try simp only [Act.put, List.getElem_toArray, List.getElem_cons_succ, List.getElem_cons_zero, List.setIfInBounds_toArray, List.set_cons_zero, List.set_cons_succ]
        refine wpAnyH_take (i := 10) (v := ?_) rfl (by kernel_rfl) (by kernel_rfl) (by kernel_rfl) (fun _ _ _ h => h) (Or.inl ⟨by rfl, ?_⟩) hS7 ?_
        rotate_left
        · rintro w9 ⟨t0, t1, t2, t3⟩
          go_simp
          try with_reducible rfl
        try simp only [Act.put, List.getElem_toArray, List.getElem_cons_succ, List.getElem_cons_zero, List.setIfInBounds_toArray, List.set_cons_zero, List.set_cons_succ]
        refine wpAnyH_done (by kernel_rfl) ?_ _
        refine NoPanic.normal ?_
        go_wp2
        (try simp only [Exit.inBlock, Exit.then])
        refine bodyPost_ret (v := .tuple #[dv 2 0 OUT none 0 0, .bool false]) ?_ rfl ⟨none, 2, 0, OUT, HR.out, rfl, (fun x hx => by cases hx), ?_⟩
        · rw [results_cell_tmp rfl]
          go_simp
          try rfl
        · exact (((hb05.setCell (p := ⟨w.heap.size, 0, none⟩) (Nat.le_refl _) _).setCell (p := ⟨w.heap.size, 1, none⟩) (Nat.le_refl _) _).setCell (p := ⟨w.heap.size, 2, none⟩) (Nat.le_refl _) _).setCell (p := ⟨w.heap.size, 3, none⟩) (Nat.le_refl _) _
end Go.Proofs.YtekcoddjdjllhaaDoor
