/- datum.decode: a text; what is no datum. -/
import Derived.Test.YtekcoddjdjllhaaDoorDeI
namespace Go.Proofs.YtekcoddjdjllhaaDoor
open Go.RowKit

/-- A variable of the type Datum that nothing was put into. -/
structure Zb (w : World) (b : Nat) : Prop where
  c0 : w.cell? ⟨b, 0, none⟩ = some (.int .i64 0)
  c1 : w.cell? ⟨b, 1, none⟩ = some (.int .i64 0)
  c2 : w.cell? ⟨b, 2, none⟩ = some (.string ⟨#[]⟩)
  c3 : w.cell? ⟨b, 3, none⟩ = some (.slice none 0 0)
  f0 : w.frozen? ⟨b, 0, none⟩ = false
  f1 : w.frozen? ⟨b, 1, none⟩ = false
  f2 : w.frozen? ⟨b, 2, none⟩ = false
  f3 : w.frozen? ⟨b, 3, none⟩ = false
theorem Zb.later {w w1 : World} {B b : Nat} (h : Zb w b) (hb : Below B w w1) (hlt : b < B) : Zb w1 b :=
  ⟨(hb.cell (p := ⟨b, 0, none⟩) hlt).trans h.c0, (hb.cell (p := ⟨b, 1, none⟩) hlt).trans h.c1, (hb.cell (p := ⟨b, 2, none⟩) hlt).trans h.c2, (hb.cell (p := ⟨b, 3, none⟩) hlt).trans h.c3,
   (hb.frozen (p := ⟨b, 0, none⟩) hlt).trans h.f0, (hb.frozen (p := ⟨b, 1, none⟩) hlt).trans h.f1, (hb.frozen (p := ⟨b, 2, none⟩) hlt).trans h.f2, (hb.frozen (p := ⟨b, 3, none⟩) hlt).trans h.f3⟩

theorem may_zero : (Da.mk 0 0 ⟨#[]⟩ []).may = false := by decide
theorem may_txt (l : List UInt8) : (Da.mk 2 0 (toBA l) []).may = decide (l.length ≤ 32) := by
  simp [Da.may, simpleB, toBA_size]

theorem one1_at (s : ByteArray) (h : 0 < s.size) : one1 s.data.toList = if s[0] = 1 then if 8 ≤ (s.data.toList.drop 1).length then some (⟨1, unbe ((s.data.toList.drop 1).take 8), ⟨#[]⟩, 0⟩, (s.data.toList.drop 1).drop 8) else none
    else if s[0] = 2 then
      match (scan [] (s.data.toList.drop 1)).2 with
      | some r' => if (scan [] (s.data.toList.drop 1)).1.length ≤ 32 then some (⟨2, 0, toBA (scan [] (s.data.toList.drop 1)).1, 0⟩, r') else none
      | none => none
    else none := by
  have e := drop_byte s 0 h
  rw [List.drop_zero] at e
  simp only [Nat.zero_add] at e
  rw [e]
  rfl
theorem one1_some (s : ByteArray) (h : 0 < s.size) (h2 : s[0] = 2) {o r : List UInt8} (hs : scan [] (s.data.toList.drop 1) = (o, some r)) :
    one1 s.data.toList = if o.length ≤ 32 then some (⟨2, 0, toBA o, 0⟩, r) else none := by
  rw [one1_at s h, if_neg (by rw [h2]; decide), if_pos h2, hs]
theorem one1_none (s : ByteArray) (h : 0 < s.size) (h2 : s[0] = 2) {o : List UInt8} (hs : scan [] (s.data.toList.drop 1) = (o, none)) : one1 s.data.toList = none := by
  rw [one1_at s h, if_neg (by rw [h2]; decide), if_pos h2, hs]

theorem two_at (s : ByteArray) (j : Nat) (h : j + 1 < s.size) : s.data.toList.drop j = s[j] :: s[j + 1] :: s.data.toList.drop (j + 2) := by
  rw [drop_byte s j (by omega), drop_byte s (j + 1) (by omega)]

theorem four_ways (x : UInt8) : (x = 1 ∧ ((x.toNat : Int) == 1) = true ∧ ((x.toNat : Int) == 2) = false ∧ ((x.toNat : Int) == 3) = false) ∨ (x = 2 ∧ ((x.toNat : Int) == 1) = false ∧ ((x.toNat : Int) == 2) = true ∧ ((x.toNat : Int) == 3) = false) ∨
    (x = 3 ∧ ((x.toNat : Int) == 1) = false ∧ ((x.toNat : Int) == 2) = false ∧ ((x.toNat : Int) == 3) = true) ∨ ((¬ x = 1 ∧ ¬ x = 2 ∧ ¬ x = 3) ∧ ((x.toNat : Int) == 1) = false ∧ ((x.toNat : Int) == 2) = false ∧ ((x.toNat : Int) == 3) = false) := by
  by_cases h1 : x = 1
  · subst h1; exact .inl ⟨rfl, by decide, by decide, by decide⟩
  · by_cases h2 : x = 2
    · subst h2; exact .inr (.inl ⟨rfl, by decide, by decide, by decide⟩)
    · by_cases h3 : x = 3
      · subst h3; exact .inr (.inr (.inl ⟨rfl, by decide, by decide, by decide⟩))
      · exact .inr (.inr (.inr ⟨⟨h1, h2, h3⟩, u8_bne _ _ h1 1 rfl, u8_bne _ _ h2 2 rfl, u8_bne _ _ h3 3 rfl⟩))

set_option maxRecDepth 100000 in
set_option maxHeartbeats 4000000 in
theorem dec_none (s : ByteArray) (deep : Int) (w : World) (hs : s.size ≤ 140737488355328) (HV : Hid (decAns (one1 s.data.toList) s.size = .tuple #[dv 0 0 ⟨#[]⟩ none 0 0, .int .i64 0])) (hd : deep = 0 ∨ deep = 1) (h1 : ¬ (9 ≤ s.size ∧ s.data.toList.head? = some 1)) (h2 : ¬ (3 ≤ s.size ∧ s.data.toList.head? = some 2)) (h3 : deep = 0 ∨ ¬ (s.data.toList.head? = some 3 ∧ ∃ h : 1 < s.size, (s[1]'h).toNat ≤ 8)) :
    Calls Tryd.prog 32 #[.string s, .int .i64 deep] w fun e w' => e = .returned (decAns (one1 s.data.toList) s.size) ∧ Below w.heap.size w w' := by
  have hW : Below w.heap.size w ((w.alloc (.cells #[.int .i64 0, .int .i64 0, .string ⟨#[]⟩, .slice none 0 0] 24)).alloc (.cells #[.int .i64 0, .int .i64 0, .string ⟨#[]⟩, .slice none 0 0] 24)) := ((Below.refl _ _).alloc (Nat.le_refl _) _).alloc (by simp) _
  by_cases n0 : 0 < s.size
  · rw [head_at s n0] at h1 h2 h3
    simp only [Option.some.injEq] at h1 h2 h3
    have n0i : (0 : Int) < (s.size : Int) := by omega
    rcases four_ways s[0] with ⟨e, c1, c2, c3⟩ | ⟨e, c1, c2, c3⟩ | ⟨e, c1, c2, c3⟩ | ⟨e, c1, c2, c3⟩
    · have n9 : ¬ (9 : Int) ≤ (s.size : Int) := fun h => h1 ⟨by omega, e⟩
      clear h1 h2 h3 e
      by_cases n3 : (3 : Int) ≤ (s.size : Int)
      · have n2 : (2 : Int) ≤ (s.size : Int) := by omega
        go_enter Tryd.func32, Tryd.ntmps32
        go_wp2_with fail
        refine (may_any ⟨0, 0, ⟨#[]⟩, []⟩ none 0 _ (.inl rfl) (by simp)).mono ?_
        rintro e w6 ⟨rfl, hb6⟩
        rw [may_zero]
        obtain ⟨hc6, hf6⟩ := bcell hb6
        have zz6 := hb6.size
        have r0 : w6.cell? ⟨w.heap.size, 0, none⟩ = some (.int .i64 0) := by rw [hc6 _ _ (by simp; try omega)]; go_simp
        have q0 : w6.frozen? ⟨w.heap.size, 0, none⟩ = false := by rw [hf6 _ _ (by simp; try omega)]; go_simp
        have r1 : w6.cell? ⟨w.heap.size, 1, none⟩ = some (.int .i64 0) := by rw [hc6 _ _ (by simp; try omega)]; go_simp
        have q1 : w6.frozen? ⟨w.heap.size, 1, none⟩ = false := by rw [hf6 _ _ (by simp; try omega)]; go_simp
        have r2 : w6.cell? ⟨w.heap.size, 2, none⟩ = some (.string ⟨#[]⟩) := by rw [hc6 _ _ (by simp; try omega)]; go_simp
        have q2 : w6.frozen? ⟨w.heap.size, 2, none⟩ = false := by rw [hf6 _ _ (by simp; try omega)]; go_simp
        have r3 : w6.cell? ⟨w.heap.size, 3, none⟩ = some (.slice none 0 0) := by rw [hc6 _ _ (by simp; try omega)]; go_simp
        have q3 : w6.frozen? ⟨w.heap.size, 3, none⟩ = false := by rw [hf6 _ _ (by simp; try omega)]; go_simp
        clear hc6 hf6
        go_wp2
        (try simp only [Exit.inBlock, Exit.then])
        refine bodyPost_ret (v := .tuple #[dv 0 0 ⟨#[]⟩ none 0 0, .int .i64 0]) ?_ rfl ⟨by rw [HV.out], ?_⟩
        · rw [results_cell_tmp rfl]
          go_simp
          try rfl
        · exact ((((hW.trans (hb6.mono (by simp; try omega))).setCell (p := ⟨w.heap.size, 0, none⟩) (Nat.le_refl _) _).setCell (p := ⟨w.heap.size, 1, none⟩) (Nat.le_refl _) _).setCell (p := ⟨w.heap.size, 2, none⟩) (Nat.le_refl _) _).setCell (p := ⟨w.heap.size, 3, none⟩) (Nat.le_refl _) _
      · by_cases n2 : (2 : Int) ≤ (s.size : Int)
        all_goals
          go_enter Tryd.func32, Tryd.ntmps32
          go_wp2_with fail
          refine (may_any ⟨0, 0, ⟨#[]⟩, []⟩ none 0 _ (.inl rfl) (by simp)).mono ?_
          rintro e w6 ⟨rfl, hb6⟩
          rw [may_zero]
          obtain ⟨hc6, hf6⟩ := bcell hb6
          have zz6 := hb6.size
          have r0 : w6.cell? ⟨w.heap.size, 0, none⟩ = some (.int .i64 0) := by rw [hc6 _ _ (by simp; try omega)]; go_simp
          have q0 : w6.frozen? ⟨w.heap.size, 0, none⟩ = false := by rw [hf6 _ _ (by simp; try omega)]; go_simp
          have r1 : w6.cell? ⟨w.heap.size, 1, none⟩ = some (.int .i64 0) := by rw [hc6 _ _ (by simp; try omega)]; go_simp
          have q1 : w6.frozen? ⟨w.heap.size, 1, none⟩ = false := by rw [hf6 _ _ (by simp; try omega)]; go_simp
          have r2 : w6.cell? ⟨w.heap.size, 2, none⟩ = some (.string ⟨#[]⟩) := by rw [hc6 _ _ (by simp; try omega)]; go_simp
          have q2 : w6.frozen? ⟨w.heap.size, 2, none⟩ = false := by rw [hf6 _ _ (by simp; try omega)]; go_simp
          have r3 : w6.cell? ⟨w.heap.size, 3, none⟩ = some (.slice none 0 0) := by rw [hc6 _ _ (by simp; try omega)]; go_simp
          have q3 : w6.frozen? ⟨w.heap.size, 3, none⟩ = false := by rw [hf6 _ _ (by simp; try omega)]; go_simp
          clear hc6 hf6
          go_wp2
          (try simp only [Exit.inBlock, Exit.then])
          refine bodyPost_ret (v := .tuple #[dv 0 0 ⟨#[]⟩ none 0 0, .int .i64 0]) ?_ rfl ⟨by rw [HV.out], ?_⟩
          · rw [results_cell_tmp rfl]
            go_simp
            try rfl
          · exact ((((hW.trans (hb6.mono (by simp; try omega))).setCell (p := ⟨w.heap.size, 0, none⟩) (Nat.le_refl _) _).setCell (p := ⟨w.heap.size, 1, none⟩) (Nat.le_refl _) _).setCell (p := ⟨w.heap.size, 2, none⟩) (Nat.le_refl _) _).setCell (p := ⟨w.heap.size, 3, none⟩) (Nat.le_refl _) _
    · have n3 : ¬ (3 : Int) ≤ (s.size : Int) := fun h => h2 ⟨by omega, e⟩
      have n9 : ¬ (9 : Int) ≤ (s.size : Int) := by omega
      clear h1 h2 h3 e
      by_cases n2 : (2 : Int) ≤ (s.size : Int)
      all_goals
        go_enter Tryd.func32, Tryd.ntmps32
        go_wp2_with fail
        refine (may_any ⟨0, 0, ⟨#[]⟩, []⟩ none 0 _ (.inl rfl) (by simp)).mono ?_
        rintro e w6 ⟨rfl, hb6⟩
        rw [may_zero]
        obtain ⟨hc6, hf6⟩ := bcell hb6
        have zz6 := hb6.size
        have r0 : w6.cell? ⟨w.heap.size, 0, none⟩ = some (.int .i64 0) := by rw [hc6 _ _ (by simp; try omega)]; go_simp
        have q0 : w6.frozen? ⟨w.heap.size, 0, none⟩ = false := by rw [hf6 _ _ (by simp; try omega)]; go_simp
        have r1 : w6.cell? ⟨w.heap.size, 1, none⟩ = some (.int .i64 0) := by rw [hc6 _ _ (by simp; try omega)]; go_simp
        have q1 : w6.frozen? ⟨w.heap.size, 1, none⟩ = false := by rw [hf6 _ _ (by simp; try omega)]; go_simp
        have r2 : w6.cell? ⟨w.heap.size, 2, none⟩ = some (.string ⟨#[]⟩) := by rw [hc6 _ _ (by simp; try omega)]; go_simp
        have q2 : w6.frozen? ⟨w.heap.size, 2, none⟩ = false := by rw [hf6 _ _ (by simp; try omega)]; go_simp
        have r3 : w6.cell? ⟨w.heap.size, 3, none⟩ = some (.slice none 0 0) := by rw [hc6 _ _ (by simp; try omega)]; go_simp
        have q3 : w6.frozen? ⟨w.heap.size, 3, none⟩ = false := by rw [hf6 _ _ (by simp; try omega)]; go_simp
        clear hc6 hf6
        go_wp2
        (try simp only [Exit.inBlock, Exit.then])
        refine bodyPost_ret (v := .tuple #[dv 0 0 ⟨#[]⟩ none 0 0, .int .i64 0]) ?_ rfl ⟨by rw [HV.out], ?_⟩
        · rw [results_cell_tmp rfl]
          go_simp
          try rfl
        · exact ((((hW.trans (hb6.mono (by simp; try omega))).setCell (p := ⟨w.heap.size, 0, none⟩) (Nat.le_refl _) _).setCell (p := ⟨w.heap.size, 1, none⟩) (Nat.le_refl _) _).setCell (p := ⟨w.heap.size, 2, none⟩) (Nat.le_refl _) _).setCell (p := ⟨w.heap.size, 3, none⟩) (Nat.le_refl _) _
    · clear h1 h2
      by_cases n2 : (2 : Int) ≤ (s.size : Int)
      · have n1i : (1 : Int) < (s.size : Int) := by omega
        rcases hd with rfl | rfl
        · clear h3 e
          by_cases n9 : (9 : Int) ≤ (s.size : Int)
          · have n3 : (3 : Int) ≤ (s.size : Int) := by omega
            go_enter Tryd.func32, Tryd.ntmps32
            go_wp2_with fail
            refine (may_any ⟨0, 0, ⟨#[]⟩, []⟩ none 0 _ (.inl rfl) (by simp)).mono ?_
            rintro e w6 ⟨rfl, hb6⟩
            rw [may_zero]
            obtain ⟨hc6, hf6⟩ := bcell hb6
            have zz6 := hb6.size
            have r0 : w6.cell? ⟨w.heap.size, 0, none⟩ = some (.int .i64 0) := by rw [hc6 _ _ (by simp; try omega)]; go_simp
            have q0 : w6.frozen? ⟨w.heap.size, 0, none⟩ = false := by rw [hf6 _ _ (by simp; try omega)]; go_simp
            have r1 : w6.cell? ⟨w.heap.size, 1, none⟩ = some (.int .i64 0) := by rw [hc6 _ _ (by simp; try omega)]; go_simp
            have q1 : w6.frozen? ⟨w.heap.size, 1, none⟩ = false := by rw [hf6 _ _ (by simp; try omega)]; go_simp
            have r2 : w6.cell? ⟨w.heap.size, 2, none⟩ = some (.string ⟨#[]⟩) := by rw [hc6 _ _ (by simp; try omega)]; go_simp
            have q2 : w6.frozen? ⟨w.heap.size, 2, none⟩ = false := by rw [hf6 _ _ (by simp; try omega)]; go_simp
            have r3 : w6.cell? ⟨w.heap.size, 3, none⟩ = some (.slice none 0 0) := by rw [hc6 _ _ (by simp; try omega)]; go_simp
            have q3 : w6.frozen? ⟨w.heap.size, 3, none⟩ = false := by rw [hf6 _ _ (by simp; try omega)]; go_simp
            clear hc6 hf6
            go_wp2
            (try simp only [Exit.inBlock, Exit.then])
            refine bodyPost_ret (v := .tuple #[dv 0 0 ⟨#[]⟩ none 0 0, .int .i64 0]) ?_ rfl ⟨by rw [HV.out], ?_⟩
            · rw [results_cell_tmp rfl]
              go_simp
              try rfl
            · exact ((((hW.trans (hb6.mono (by simp; try omega))).setCell (p := ⟨w.heap.size, 0, none⟩) (Nat.le_refl _) _).setCell (p := ⟨w.heap.size, 1, none⟩) (Nat.le_refl _) _).setCell (p := ⟨w.heap.size, 2, none⟩) (Nat.le_refl _) _).setCell (p := ⟨w.heap.size, 3, none⟩) (Nat.le_refl _) _
          · by_cases n3 : (3 : Int) ≤ (s.size : Int)
            all_goals
              go_enter Tryd.func32, Tryd.ntmps32
              go_wp2_with fail
              refine (may_any ⟨0, 0, ⟨#[]⟩, []⟩ none 0 _ (.inl rfl) (by simp)).mono ?_
              rintro e w6 ⟨rfl, hb6⟩
              rw [may_zero]
              obtain ⟨hc6, hf6⟩ := bcell hb6
              have zz6 := hb6.size
              have r0 : w6.cell? ⟨w.heap.size, 0, none⟩ = some (.int .i64 0) := by rw [hc6 _ _ (by simp; try omega)]; go_simp
              have q0 : w6.frozen? ⟨w.heap.size, 0, none⟩ = false := by rw [hf6 _ _ (by simp; try omega)]; go_simp
              have r1 : w6.cell? ⟨w.heap.size, 1, none⟩ = some (.int .i64 0) := by rw [hc6 _ _ (by simp; try omega)]; go_simp
              have q1 : w6.frozen? ⟨w.heap.size, 1, none⟩ = false := by rw [hf6 _ _ (by simp; try omega)]; go_simp
              have r2 : w6.cell? ⟨w.heap.size, 2, none⟩ = some (.string ⟨#[]⟩) := by rw [hc6 _ _ (by simp; try omega)]; go_simp
              have q2 : w6.frozen? ⟨w.heap.size, 2, none⟩ = false := by rw [hf6 _ _ (by simp; try omega)]; go_simp
              have r3 : w6.cell? ⟨w.heap.size, 3, none⟩ = some (.slice none 0 0) := by rw [hc6 _ _ (by simp; try omega)]; go_simp
              have q3 : w6.frozen? ⟨w.heap.size, 3, none⟩ = false := by rw [hf6 _ _ (by simp; try omega)]; go_simp
              clear hc6 hf6
              go_wp2
              (try simp only [Exit.inBlock, Exit.then])
              refine bodyPost_ret (v := .tuple #[dv 0 0 ⟨#[]⟩ none 0 0, .int .i64 0]) ?_ rfl ⟨by rw [HV.out], ?_⟩
              · rw [results_cell_tmp rfl]
                go_simp
                try rfl
              · exact ((((hW.trans (hb6.mono (by simp; try omega))).setCell (p := ⟨w.heap.size, 0, none⟩) (Nat.le_refl _) _).setCell (p := ⟨w.heap.size, 1, none⟩) (Nat.le_refl _) _).setCell (p := ⟨w.heap.size, 2, none⟩) (Nat.le_refl _) _).setCell (p := ⟨w.heap.size, 3, none⟩) (Nat.le_refl _) _
        · have c8 : ¬ ((s[1]'(by omega)).toNat : Int) ≤ 8 := fun h => by
            rcases h3 with h3 | h3
            · omega
            · exact h3 ⟨e, by omega, by omega⟩
          clear h3 e
          by_cases n9 : (9 : Int) ≤ (s.size : Int)
          · have n3 : (3 : Int) ≤ (s.size : Int) := by omega
            go_enter Tryd.func32, Tryd.ntmps32
            go_wp2_with fail
            refine (may_any ⟨0, 0, ⟨#[]⟩, []⟩ none 0 _ (.inl rfl) (by simp)).mono ?_
            rintro e w6 ⟨rfl, hb6⟩
            rw [may_zero]
            obtain ⟨hc6, hf6⟩ := bcell hb6
            have zz6 := hb6.size
            have r0 : w6.cell? ⟨w.heap.size, 0, none⟩ = some (.int .i64 0) := by rw [hc6 _ _ (by simp; try omega)]; go_simp
            have q0 : w6.frozen? ⟨w.heap.size, 0, none⟩ = false := by rw [hf6 _ _ (by simp; try omega)]; go_simp
            have r1 : w6.cell? ⟨w.heap.size, 1, none⟩ = some (.int .i64 0) := by rw [hc6 _ _ (by simp; try omega)]; go_simp
            have q1 : w6.frozen? ⟨w.heap.size, 1, none⟩ = false := by rw [hf6 _ _ (by simp; try omega)]; go_simp
            have r2 : w6.cell? ⟨w.heap.size, 2, none⟩ = some (.string ⟨#[]⟩) := by rw [hc6 _ _ (by simp; try omega)]; go_simp
            have q2 : w6.frozen? ⟨w.heap.size, 2, none⟩ = false := by rw [hf6 _ _ (by simp; try omega)]; go_simp
            have r3 : w6.cell? ⟨w.heap.size, 3, none⟩ = some (.slice none 0 0) := by rw [hc6 _ _ (by simp; try omega)]; go_simp
            have q3 : w6.frozen? ⟨w.heap.size, 3, none⟩ = false := by rw [hf6 _ _ (by simp; try omega)]; go_simp
            clear hc6 hf6
            go_wp2
            (try simp only [Exit.inBlock, Exit.then])
            refine bodyPost_ret (v := .tuple #[dv 0 0 ⟨#[]⟩ none 0 0, .int .i64 0]) ?_ rfl ⟨by rw [HV.out], ?_⟩
            · rw [results_cell_tmp rfl]
              go_simp
              try rfl
            · exact ((((hW.trans (hb6.mono (by simp; try omega))).setCell (p := ⟨w.heap.size, 0, none⟩) (Nat.le_refl _) _).setCell (p := ⟨w.heap.size, 1, none⟩) (Nat.le_refl _) _).setCell (p := ⟨w.heap.size, 2, none⟩) (Nat.le_refl _) _).setCell (p := ⟨w.heap.size, 3, none⟩) (Nat.le_refl _) _
          · by_cases n3 : (3 : Int) ≤ (s.size : Int)
            all_goals
              go_enter Tryd.func32, Tryd.ntmps32
              go_wp2_with fail
              refine (may_any ⟨0, 0, ⟨#[]⟩, []⟩ none 0 _ (.inl rfl) (by simp)).mono ?_
              rintro e w6 ⟨rfl, hb6⟩
              rw [may_zero]
              obtain ⟨hc6, hf6⟩ := bcell hb6
              have zz6 := hb6.size
              have r0 : w6.cell? ⟨w.heap.size, 0, none⟩ = some (.int .i64 0) := by rw [hc6 _ _ (by simp; try omega)]; go_simp
              have q0 : w6.frozen? ⟨w.heap.size, 0, none⟩ = false := by rw [hf6 _ _ (by simp; try omega)]; go_simp
              have r1 : w6.cell? ⟨w.heap.size, 1, none⟩ = some (.int .i64 0) := by rw [hc6 _ _ (by simp; try omega)]; go_simp
              have q1 : w6.frozen? ⟨w.heap.size, 1, none⟩ = false := by rw [hf6 _ _ (by simp; try omega)]; go_simp
              have r2 : w6.cell? ⟨w.heap.size, 2, none⟩ = some (.string ⟨#[]⟩) := by rw [hc6 _ _ (by simp; try omega)]; go_simp
              have q2 : w6.frozen? ⟨w.heap.size, 2, none⟩ = false := by rw [hf6 _ _ (by simp; try omega)]; go_simp
              have r3 : w6.cell? ⟨w.heap.size, 3, none⟩ = some (.slice none 0 0) := by rw [hc6 _ _ (by simp; try omega)]; go_simp
              have q3 : w6.frozen? ⟨w.heap.size, 3, none⟩ = false := by rw [hf6 _ _ (by simp; try omega)]; go_simp
              clear hc6 hf6
              go_wp2
              (try simp only [Exit.inBlock, Exit.then])
              refine bodyPost_ret (v := .tuple #[dv 0 0 ⟨#[]⟩ none 0 0, .int .i64 0]) ?_ rfl ⟨by rw [HV.out], ?_⟩
              · rw [results_cell_tmp rfl]
                go_simp
                try rfl
              · exact ((((hW.trans (hb6.mono (by simp; try omega))).setCell (p := ⟨w.heap.size, 0, none⟩) (Nat.le_refl _) _).setCell (p := ⟨w.heap.size, 1, none⟩) (Nat.le_refl _) _).setCell (p := ⟨w.heap.size, 2, none⟩) (Nat.le_refl _) _).setCell (p := ⟨w.heap.size, 3, none⟩) (Nat.le_refl _) _
      · have n3 : ¬ (3 : Int) ≤ (s.size : Int) := by omega
        have n9 : ¬ (9 : Int) ≤ (s.size : Int) := by omega
        clear h3 e
        go_enter Tryd.func32, Tryd.ntmps32
        go_wp2_with fail
        refine (may_any ⟨0, 0, ⟨#[]⟩, []⟩ none 0 _ (.inl rfl) (by simp)).mono ?_
        rintro e w6 ⟨rfl, hb6⟩
        rw [may_zero]
        obtain ⟨hc6, hf6⟩ := bcell hb6
        have zz6 := hb6.size
        have r0 : w6.cell? ⟨w.heap.size, 0, none⟩ = some (.int .i64 0) := by rw [hc6 _ _ (by simp; try omega)]; go_simp
        have q0 : w6.frozen? ⟨w.heap.size, 0, none⟩ = false := by rw [hf6 _ _ (by simp; try omega)]; go_simp
        have r1 : w6.cell? ⟨w.heap.size, 1, none⟩ = some (.int .i64 0) := by rw [hc6 _ _ (by simp; try omega)]; go_simp
        have q1 : w6.frozen? ⟨w.heap.size, 1, none⟩ = false := by rw [hf6 _ _ (by simp; try omega)]; go_simp
        have r2 : w6.cell? ⟨w.heap.size, 2, none⟩ = some (.string ⟨#[]⟩) := by rw [hc6 _ _ (by simp; try omega)]; go_simp
        have q2 : w6.frozen? ⟨w.heap.size, 2, none⟩ = false := by rw [hf6 _ _ (by simp; try omega)]; go_simp
        have r3 : w6.cell? ⟨w.heap.size, 3, none⟩ = some (.slice none 0 0) := by rw [hc6 _ _ (by simp; try omega)]; go_simp
        have q3 : w6.frozen? ⟨w.heap.size, 3, none⟩ = false := by rw [hf6 _ _ (by simp; try omega)]; go_simp
        clear hc6 hf6
        go_wp2
        (try simp only [Exit.inBlock, Exit.then])
        refine bodyPost_ret (v := .tuple #[dv 0 0 ⟨#[]⟩ none 0 0, .int .i64 0]) ?_ rfl ⟨by rw [HV.out], ?_⟩
        · rw [results_cell_tmp rfl]
          go_simp
          try rfl
        · exact ((((hW.trans (hb6.mono (by simp; try omega))).setCell (p := ⟨w.heap.size, 0, none⟩) (Nat.le_refl _) _).setCell (p := ⟨w.heap.size, 1, none⟩) (Nat.le_refl _) _).setCell (p := ⟨w.heap.size, 2, none⟩) (Nat.le_refl _) _).setCell (p := ⟨w.heap.size, 3, none⟩) (Nat.le_refl _) _
    · clear h1 h2 h3 e
      by_cases n9 : (9 : Int) ≤ (s.size : Int)
      · have n3 : (3 : Int) ≤ (s.size : Int) := by omega
        have n2 : (2 : Int) ≤ (s.size : Int) := by omega
        go_enter Tryd.func32, Tryd.ntmps32
        go_wp2_with fail
        refine (may_any ⟨0, 0, ⟨#[]⟩, []⟩ none 0 _ (.inl rfl) (by simp)).mono ?_
        rintro e w6 ⟨rfl, hb6⟩
        rw [may_zero]
        obtain ⟨hc6, hf6⟩ := bcell hb6
        have zz6 := hb6.size
        have r0 : w6.cell? ⟨w.heap.size, 0, none⟩ = some (.int .i64 0) := by rw [hc6 _ _ (by simp; try omega)]; go_simp
        have q0 : w6.frozen? ⟨w.heap.size, 0, none⟩ = false := by rw [hf6 _ _ (by simp; try omega)]; go_simp
        have r1 : w6.cell? ⟨w.heap.size, 1, none⟩ = some (.int .i64 0) := by rw [hc6 _ _ (by simp; try omega)]; go_simp
        have q1 : w6.frozen? ⟨w.heap.size, 1, none⟩ = false := by rw [hf6 _ _ (by simp; try omega)]; go_simp
        have r2 : w6.cell? ⟨w.heap.size, 2, none⟩ = some (.string ⟨#[]⟩) := by rw [hc6 _ _ (by simp; try omega)]; go_simp
        have q2 : w6.frozen? ⟨w.heap.size, 2, none⟩ = false := by rw [hf6 _ _ (by simp; try omega)]; go_simp
        have r3 : w6.cell? ⟨w.heap.size, 3, none⟩ = some (.slice none 0 0) := by rw [hc6 _ _ (by simp; try omega)]; go_simp
        have q3 : w6.frozen? ⟨w.heap.size, 3, none⟩ = false := by rw [hf6 _ _ (by simp; try omega)]; go_simp
        clear hc6 hf6
        go_wp2
        (try simp only [Exit.inBlock, Exit.then])
        refine bodyPost_ret (v := .tuple #[dv 0 0 ⟨#[]⟩ none 0 0, .int .i64 0]) ?_ rfl ⟨by rw [HV.out], ?_⟩
        · rw [results_cell_tmp rfl]
          go_simp
          try rfl
        · exact ((((hW.trans (hb6.mono (by simp; try omega))).setCell (p := ⟨w.heap.size, 0, none⟩) (Nat.le_refl _) _).setCell (p := ⟨w.heap.size, 1, none⟩) (Nat.le_refl _) _).setCell (p := ⟨w.heap.size, 2, none⟩) (Nat.le_refl _) _).setCell (p := ⟨w.heap.size, 3, none⟩) (Nat.le_refl _) _
      · by_cases n3 : (3 : Int) ≤ (s.size : Int)
        · have n2 : (2 : Int) ≤ (s.size : Int) := by omega
          go_enter Tryd.func32, Tryd.ntmps32
          go_wp2_with fail
          refine (may_any ⟨0, 0, ⟨#[]⟩, []⟩ none 0 _ (.inl rfl) (by simp)).mono ?_
          rintro e w6 ⟨rfl, hb6⟩
          rw [may_zero]
          obtain ⟨hc6, hf6⟩ := bcell hb6
          have zz6 := hb6.size
          have r0 : w6.cell? ⟨w.heap.size, 0, none⟩ = some (.int .i64 0) := by rw [hc6 _ _ (by simp; try omega)]; go_simp
          have q0 : w6.frozen? ⟨w.heap.size, 0, none⟩ = false := by rw [hf6 _ _ (by simp; try omega)]; go_simp
          have r1 : w6.cell? ⟨w.heap.size, 1, none⟩ = some (.int .i64 0) := by rw [hc6 _ _ (by simp; try omega)]; go_simp
          have q1 : w6.frozen? ⟨w.heap.size, 1, none⟩ = false := by rw [hf6 _ _ (by simp; try omega)]; go_simp
          have r2 : w6.cell? ⟨w.heap.size, 2, none⟩ = some (.string ⟨#[]⟩) := by rw [hc6 _ _ (by simp; try omega)]; go_simp
          have q2 : w6.frozen? ⟨w.heap.size, 2, none⟩ = false := by rw [hf6 _ _ (by simp; try omega)]; go_simp
          have r3 : w6.cell? ⟨w.heap.size, 3, none⟩ = some (.slice none 0 0) := by rw [hc6 _ _ (by simp; try omega)]; go_simp
          have q3 : w6.frozen? ⟨w.heap.size, 3, none⟩ = false := by rw [hf6 _ _ (by simp; try omega)]; go_simp
          clear hc6 hf6
          go_wp2
          (try simp only [Exit.inBlock, Exit.then])
          refine bodyPost_ret (v := .tuple #[dv 0 0 ⟨#[]⟩ none 0 0, .int .i64 0]) ?_ rfl ⟨by rw [HV.out], ?_⟩
          · rw [results_cell_tmp rfl]
            go_simp
            try rfl
          · exact ((((hW.trans (hb6.mono (by simp; try omega))).setCell (p := ⟨w.heap.size, 0, none⟩) (Nat.le_refl _) _).setCell (p := ⟨w.heap.size, 1, none⟩) (Nat.le_refl _) _).setCell (p := ⟨w.heap.size, 2, none⟩) (Nat.le_refl _) _).setCell (p := ⟨w.heap.size, 3, none⟩) (Nat.le_refl _) _
        · by_cases n2 : (2 : Int) ≤ (s.size : Int)
          all_goals
            go_enter Tryd.func32, Tryd.ntmps32
            go_wp2_with fail
            refine (may_any ⟨0, 0, ⟨#[]⟩, []⟩ none 0 _ (.inl rfl) (by simp)).mono ?_
            rintro e w6 ⟨rfl, hb6⟩
            rw [may_zero]
            obtain ⟨hc6, hf6⟩ := bcell hb6
            have zz6 := hb6.size
            have r0 : w6.cell? ⟨w.heap.size, 0, none⟩ = some (.int .i64 0) := by rw [hc6 _ _ (by simp; try omega)]; go_simp
            have q0 : w6.frozen? ⟨w.heap.size, 0, none⟩ = false := by rw [hf6 _ _ (by simp; try omega)]; go_simp
            have r1 : w6.cell? ⟨w.heap.size, 1, none⟩ = some (.int .i64 0) := by rw [hc6 _ _ (by simp; try omega)]; go_simp
            have q1 : w6.frozen? ⟨w.heap.size, 1, none⟩ = false := by rw [hf6 _ _ (by simp; try omega)]; go_simp
            have r2 : w6.cell? ⟨w.heap.size, 2, none⟩ = some (.string ⟨#[]⟩) := by rw [hc6 _ _ (by simp; try omega)]; go_simp
            have q2 : w6.frozen? ⟨w.heap.size, 2, none⟩ = false := by rw [hf6 _ _ (by simp; try omega)]; go_simp
            have r3 : w6.cell? ⟨w.heap.size, 3, none⟩ = some (.slice none 0 0) := by rw [hc6 _ _ (by simp; try omega)]; go_simp
            have q3 : w6.frozen? ⟨w.heap.size, 3, none⟩ = false := by rw [hf6 _ _ (by simp; try omega)]; go_simp
            clear hc6 hf6
            go_wp2
            (try simp only [Exit.inBlock, Exit.then])
            refine bodyPost_ret (v := .tuple #[dv 0 0 ⟨#[]⟩ none 0 0, .int .i64 0]) ?_ rfl ⟨by rw [HV.out], ?_⟩
            · rw [results_cell_tmp rfl]
              go_simp
              try rfl
            · exact ((((hW.trans (hb6.mono (by simp; try omega))).setCell (p := ⟨w.heap.size, 0, none⟩) (Nat.le_refl _) _).setCell (p := ⟨w.heap.size, 1, none⟩) (Nat.le_refl _) _).setCell (p := ⟨w.heap.size, 2, none⟩) (Nat.le_refl _) _).setCell (p := ⟨w.heap.size, 3, none⟩) (Nat.le_refl _) _
  · have n2 : ¬ (2 : Int) ≤ (s.size : Int) := by omega
    have n3 : ¬ (3 : Int) ≤ (s.size : Int) := by omega
    have n9 : ¬ (9 : Int) ≤ (s.size : Int) := by omega
    clear h1 h2 h3
    go_enter Tryd.func32, Tryd.ntmps32
    go_wp2_with fail
    refine (may_any ⟨0, 0, ⟨#[]⟩, []⟩ none 0 _ (.inl rfl) (by simp)).mono ?_
    rintro e w6 ⟨rfl, hb6⟩
    rw [may_zero]
    obtain ⟨hc6, hf6⟩ := bcell hb6
    have zz6 := hb6.size
    have r0 : w6.cell? ⟨w.heap.size, 0, none⟩ = some (.int .i64 0) := by rw [hc6 _ _ (by simp; try omega)]; go_simp
    have q0 : w6.frozen? ⟨w.heap.size, 0, none⟩ = false := by rw [hf6 _ _ (by simp; try omega)]; go_simp
    have r1 : w6.cell? ⟨w.heap.size, 1, none⟩ = some (.int .i64 0) := by rw [hc6 _ _ (by simp; try omega)]; go_simp
    have q1 : w6.frozen? ⟨w.heap.size, 1, none⟩ = false := by rw [hf6 _ _ (by simp; try omega)]; go_simp
    have r2 : w6.cell? ⟨w.heap.size, 2, none⟩ = some (.string ⟨#[]⟩) := by rw [hc6 _ _ (by simp; try omega)]; go_simp
    have q2 : w6.frozen? ⟨w.heap.size, 2, none⟩ = false := by rw [hf6 _ _ (by simp; try omega)]; go_simp
    have r3 : w6.cell? ⟨w.heap.size, 3, none⟩ = some (.slice none 0 0) := by rw [hc6 _ _ (by simp; try omega)]; go_simp
    have q3 : w6.frozen? ⟨w.heap.size, 3, none⟩ = false := by rw [hf6 _ _ (by simp; try omega)]; go_simp
    clear hc6 hf6
    go_wp2
    (try simp only [Exit.inBlock, Exit.then])
    refine bodyPost_ret (v := .tuple #[dv 0 0 ⟨#[]⟩ none 0 0, .int .i64 0]) ?_ rfl ⟨by rw [HV.out], ?_⟩
    · rw [results_cell_tmp rfl]
      go_simp
      try rfl
    · exact ((((hW.trans (hb6.mono (by simp; try omega))).setCell (p := ⟨w.heap.size, 0, none⟩) (Nat.le_refl _) _).setCell (p := ⟨w.heap.size, 1, none⟩) (Nat.le_refl _) _).setCell (p := ⟨w.heap.size, 2, none⟩) (Nat.le_refl _) _).setCell (p := ⟨w.heap.size, 3, none⟩) (Nat.le_refl _) _
set_option maxRecDepth 100000 in
set_option maxHeartbeats 4000000 in
theorem dec_text (s : ByteArray) (deep : Int) (w : World) (hs : s.size ≤ 140737488355328) (h3 : 3 ≤ s.size) (h2 : s[0] = 2) :
    Calls Tryd.prog 32 #[.string s, .int .i64 deep] w fun e w' => e = .returned (decAns (one1 s.data.toList) s.size) ∧ Below w.heap.size w w' := by
  have hc := u8_beq _ _ h2 2 rfl
  have hc1 := u8_bne s[0] 1 (by rw [h2]; decide) 1 rfl
  have hh : 3 ≤ (s.size : Int) := by omega
  have H2 := Lib.hid h2
  clear h2
  have hW : Below w.heap.size w (((w.alloc (.cells #[.int .i64 0, .int .i64 0, .string ⟨#[]⟩, .slice none 0 0] 24)).alloc (.cells #[.int .i64 0, .int .i64 0, .string ⟨#[]⟩, .slice none 0 0] 24)).alloc (.cells #[.pointer none, .slice none 0 0] 65)) := (((Below.refl _ _).alloc (Nat.le_refl _) _).alloc (by simp) _).alloc (by simp; try omega) _
  have hfr := Lib.fresh_isBuilder 65 5 ((w.alloc (.cells #[.int .i64 0, .int .i64 0, .string ⟨#[]⟩, .slice none 0 0] 24)).alloc (.cells #[.int .i64 0, .int .i64 0, .string ⟨#[]⟩, .slice none 0 0] 24))
  simp only [World.size_alloc] at hfr
  have zr0 : Zb (((w.alloc (.cells #[.int .i64 0, .int .i64 0, .string ⟨#[]⟩, .slice none 0 0] 24)).alloc (.cells #[.int .i64 0, .int .i64 0, .string ⟨#[]⟩, .slice none 0 0] 24)).alloc (.cells #[.pointer none, .slice none 0 0] 65)) w.heap.size := ⟨by go_simp, by go_simp, by go_simp, by go_simp, by go_simp, by go_simp, by go_simp, by go_simp⟩
  have zd0 : Zb (((w.alloc (.cells #[.int .i64 0, .int .i64 0, .string ⟨#[]⟩, .slice none 0 0] 24)).alloc (.cells #[.int .i64 0, .int .i64 0, .string ⟨#[]⟩, .slice none 0 0] 24)).alloc (.cells #[.pointer none, .slice none 0 0] 65)) (w.heap.size + 1) := ⟨by go_simp, by go_simp, by go_simp, by go_simp, by go_simp, by go_simp, by go_simp, by go_simp⟩
  by_cases h9 : (9 : Int) ≤ (s.size : Int)
  all_goals
    go_enter Tryd.func32, Tryd.ntmps32
    go_wp2
    go_loopw [7] (fun i wr => ∃ (j : Nat) (done : List UInt8), 1 ≤ j ∧ j ≤ s.size ∧ i = .int .i64 j ∧ Hid (scan done (s.data.toList.drop j) = scan [] (s.data.toList.drop 1)) ∧ done.length + 1 ≤ j ∧ Lib.IsBuilder 65 5 (w.heap.size + 1 + 1) (w.heap.size + 1 + 1) (Lib.byteCells done) wr ∧ Below w.heap.size w wr ∧ Zb wr w.heap.size ∧ Zb wr (w.heap.size + 1) ∧ w.heap.size + 1 + 1 < wr.heap.size) (fun i _ => s.size - (intOf i).toNat)
    case atStart => exact ⟨1, [], Nat.le_refl _, by omega, rfl, Lib.hid rfl, by simp, hfr, hW, zr0, zd0, by simp⟩
    case round =>
      obtain ⟨j, done, h1j, hj, rfl, HS, hdl, hb2, hbl, zr, zd, hz⟩ := hrel
      clear zr0 zd0 hfr hW
      by_cases hlt : j + 1 < s.size
      · have htwo := Lib.hid (two_at s j hlt)
        have hw1 : IntKind.i64.wrap ((j : Int) + 1) = (j : Int) + 1 := by rw [IntKind.wrap_i64]; omega
        have hl1 : (j : Int) + 1 < (s.size : Int) := by omega
        have hl0 : 0 ≤ (j : Int) + 1 := by omega
        have hn1 : ((j : Int) + 1).toNat = j + 1 := by omega
        by_cases e0 : s[j] = 0
        · have c0 := u8_beq _ _ e0 0 rfl
          by_cases e1 : s[j + 1] = 0
          · have c1 := u8_beq _ _ e1 0 rfl
            have hsc : scan [] (s.data.toList.drop 1) = (done, some (s.data.toList.drop (j + 2))) := by rw [← HS.out, htwo.out, scan_two, if_pos e0, if_pos e1]
            have hone := one1_some s (by omega) H2.out hsc
            clear e0 e1
            go_wp2_with fail
            refine (Tryd.Builder_String_any (w.heap.size + 1 + 1) (w.heap.size + 1 + 1) done _ hb2 (by omega)).mono ?_
            rintro e w5 ⟨rfl, hbl5⟩
            have zz5 := hbl5.size
            have hbl05 := hbl.trans (hbl5.mono (by omega))
            have zr5 := zr.later hbl5 (by omega)
            have zd5 := zd.later hbl5 (by omega)
            clear zr zd hb2
            have bq := zr5
            obtain ⟨zr50, zr51, zr52, zr53, zr5f0, zr5f1, zr5f2, zr5f3⟩ := bq
            have bq := zd5
            obtain ⟨zd50, zd51, zd52, zd53, zd5f0, zd5f1, zd5f2, zd5f3⟩ := bq
            go_wp2_with fail
            refine (may_any ⟨2, 0, toBA done, []⟩ none 0 _ (.inl rfl) (by simp)).mono ?_
            rintro e w6 ⟨rfl, hb6⟩
            rw [may_txt]
            obtain ⟨hc6, hf6⟩ := bcell hb6
            have zz6 := hb6.size
            simp at zz6
            have hbl6 : Below w.heap.size w w6 := ((((hbl05.setCell (p := ⟨w.heap.size + 1, 0, none⟩) (by simp) _).setCell (p := ⟨w.heap.size + 1, 1, none⟩) (by simp) _).setCell (p := ⟨w.heap.size + 1, 2, none⟩) (by simp) _).setCell (p := ⟨w.heap.size + 1, 3, none⟩) (by simp) _).trans (hb6.mono (by simp; omega))
            have r0 : w6.cell? ⟨w.heap.size, 0, none⟩ = some (.int .i64 0) := by rw [hc6 _ _ (by simp; omega)]; go_simp
            have q0 : w6.frozen? ⟨w.heap.size, 0, none⟩ = false := by rw [hf6 _ _ (by simp; omega)]; go_simp
            have r1 : w6.cell? ⟨w.heap.size, 1, none⟩ = some (.int .i64 0) := by rw [hc6 _ _ (by simp; omega)]; go_simp
            have q1 : w6.frozen? ⟨w.heap.size, 1, none⟩ = false := by rw [hf6 _ _ (by simp; omega)]; go_simp
            have r2 : w6.cell? ⟨w.heap.size, 2, none⟩ = some (.string ⟨#[]⟩) := by rw [hc6 _ _ (by simp; omega)]; go_simp
            have q2 : w6.frozen? ⟨w.heap.size, 2, none⟩ = false := by rw [hf6 _ _ (by simp; omega)]; go_simp
            have r3 : w6.cell? ⟨w.heap.size, 3, none⟩ = some (.slice none 0 0) := by rw [hc6 _ _ (by simp; omega)]; go_simp
            have q3 : w6.frozen? ⟨w.heap.size, 3, none⟩ = false := by rw [hf6 _ _ (by simp; omega)]; go_simp
            have d0 : w6.cell? ⟨w.heap.size + 1, 0, none⟩ = some (.int .i64 2) := by rw [hc6 _ _ (by simp; omega)]; go_simp
            have d1 : w6.cell? ⟨w.heap.size + 1, 1, none⟩ = some (.int .i64 0) := by rw [hc6 _ _ (by simp; omega)]; go_simp
            have d2 : w6.cell? ⟨w.heap.size + 1, 2, none⟩ = some (.string ⟨done.toArray⟩) := by rw [hc6 _ _ (by simp; omega)]; go_simp
            have d3 : w6.cell? ⟨w.heap.size + 1, 3, none⟩ = some (.slice none 0 0) := by rw [hc6 _ _ (by simp; omega)]; go_simp
            clear hc6 hf6 zr50 zr51 zr52 zr53 zr5f0 zr5f1 zr5f2 zr5f3 zd50 zd51 zd52 zd53 zd5f0 zd5f1 zd5f2 zd5f3 hb6
            by_cases h32 : done.length ≤ 32
            · have HV : Hid (decAns (one1 s.data.toList) s.size = .tuple #[dv 2 0 ⟨done.toArray⟩ none 0 0, .int .i64 ((j : Int) + 2)]) := Lib.hid (by
                rw [hone, if_pos h32, decAns]
                simp only [List.length_drop]
                have hl : s.data.toList.length = s.size := by simp
                rw [hl, show ((s.size : Int) - (s.size - (j + 2) : Nat)) = (j : Int) + 2 by omega]
                rfl)
              rw [decide_eq_true h32]
              clear h32 hone hsc
              go_wp2
              (try simp only [Exit.inBlock, Exit.then])
              refine bodyPost_ret (v := .tuple #[dv 2 0 ⟨done.toArray⟩ none 0 0, .int .i64 ((j : Int) + 2)]) ?_ rfl ⟨by rw [HV.out], ?_⟩
              · rw [results_cell_tmp rfl]
                go_simp
                try rfl
              · exact (((hbl6.setCell (p := ⟨w.heap.size, 0, none⟩) (Nat.le_refl _) _).setCell (p := ⟨w.heap.size, 1, none⟩) (Nat.le_refl _) _).setCell (p := ⟨w.heap.size, 2, none⟩) (Nat.le_refl _) _).setCell (p := ⟨w.heap.size, 3, none⟩) (Nat.le_refl _) _
            · have HV : Hid (decAns (one1 s.data.toList) s.size = .tuple #[dv 0 0 ⟨#[]⟩ none 0 0, .int .i64 0]) := Lib.hid (by rw [hone, if_neg h32]; rfl)
              rw [decide_eq_false h32]
              clear h32 hone hsc
              go_wp2
              (try simp only [Exit.inBlock, Exit.then])
              refine bodyPost_ret (v := .tuple #[dv 0 0 ⟨#[]⟩ none 0 0, .int .i64 0]) ?_ rfl ⟨by rw [HV.out], ?_⟩
              · rw [results_cell_tmp rfl]
                go_simp
                try rfl
              · exact (((hbl6.setCell (p := ⟨w.heap.size, 0, none⟩) (Nat.le_refl _) _).setCell (p := ⟨w.heap.size, 1, none⟩) (Nat.le_refl _) _).setCell (p := ⟨w.heap.size, 2, none⟩) (Nat.le_refl _) _).setCell (p := ⟨w.heap.size, 3, none⟩) (Nat.le_refl _) _
          · have c1 := u8_bne _ _ e1 0 rfl
            by_cases e2 : s[j + 1] = 255
            · have c2 := u8_beq _ _ e2 255 rfl
              have c2' : (((s[j + 1]).toNat : Int) != 255) = false := by rw [bne, c2]; rfl
              have hst : Hid (scan (done ++ [0]) (s.data.toList.drop (j + 2)) = scan [] (s.data.toList.drop 1)) := Lib.hid (by rw [← HS.out, htwo.out, scan_two, if_pos e0, if_neg e1, if_pos e2])
              have hcell : Lib.byteCells done ++ [.int .u8 s[j].toNat] = Lib.byteCells (done ++ [0]) := by rw [byteCells_append, e0]; rfl
              have HC := Lib.hid hcell
              clear e0 e1 e2 hcell
              go_wp2_with (go_at_call 47; refine (Tryd.bld_WriteByte (w.heap.size + 1 + 1) (w.heap.size + 1 + 1) _ _ _ hb2 (by rw [byteCells_length]; omega) (by omega)).mono ?_; rintro e w4 ⟨rfl, hb4, hbl4⟩)
              have zz4 := hbl4.size
              go_roundw
              case rel => exact ⟨j + 2, done ++ [0], by omega, by omega, by go_num, hst, by simp; omega, by rw [← HC.out]; exact .inr hb4, hbl.trans (hbl4.mono (by omega)), zr.later hbl4 (by omega), zd.later hbl4 (by omega), by omega⟩
              case measure => simp [intOf]; omega
            · have c2 := u8_bne _ _ e2 255 rfl
              have c2' : (((s[j + 1]).toNat : Int) != 255) = true := by rw [bne, c2]; rfl
              have hsc : scan [] (s.data.toList.drop 1) = (done, none) := by rw [← HS.out, htwo.out, scan_two, if_pos e0, if_neg e1, if_neg e2]
              have hone := one1_none s (by omega) H2.out hsc
              have HV : Hid (decAns (one1 s.data.toList) s.size = .tuple #[dv 0 0 ⟨#[]⟩ none 0 0, .int .i64 0]) := Lib.hid (by rw [hone]; rfl)
              clear e0 e1 e2 hone hsc
              have bq := zr
              obtain ⟨zr0, zr1, zr2, zr3, zrf0, zrf1, zrf2, zrf3⟩ := bq
              have bq := zd
              obtain ⟨zd0, zd1, zd2, zd3, zdf0, zdf1, zdf2, zdf3⟩ := bq
              go_wp2_with fail
              refine (may_any ⟨0, 0, ⟨#[]⟩, []⟩ none 0 _ (.inl rfl) (by simp)).mono ?_
              rintro e w6 ⟨rfl, hb6⟩
              rw [may_zero]
              obtain ⟨hc6, hf6⟩ := bcell hb6
              have zz6 := hb6.size
              have r0 : w6.cell? ⟨w.heap.size, 0, none⟩ = some (.int .i64 0) := by rw [hc6 _ _ (by omega)]; exact zr0
              have q0 : w6.frozen? ⟨w.heap.size, 0, none⟩ = false := by rw [hf6 _ _ (by omega)]; exact zrf0
              have r1 : w6.cell? ⟨w.heap.size, 1, none⟩ = some (.int .i64 0) := by rw [hc6 _ _ (by omega)]; exact zr1
              have q1 : w6.frozen? ⟨w.heap.size, 1, none⟩ = false := by rw [hf6 _ _ (by omega)]; exact zrf1
              have r2 : w6.cell? ⟨w.heap.size, 2, none⟩ = some (.string ⟨#[]⟩) := by rw [hc6 _ _ (by omega)]; exact zr2
              have q2 : w6.frozen? ⟨w.heap.size, 2, none⟩ = false := by rw [hf6 _ _ (by omega)]; exact zrf2
              have r3 : w6.cell? ⟨w.heap.size, 3, none⟩ = some (.slice none 0 0) := by rw [hc6 _ _ (by omega)]; exact zr3
              have q3 : w6.frozen? ⟨w.heap.size, 3, none⟩ = false := by rw [hf6 _ _ (by omega)]; exact zrf3
              clear hc6 hf6 zr0 zr1 zr2 zr3 zrf0 zrf1 zrf2 zrf3 zd0 zd1 zd2 zd3 zdf0 zdf1 zdf2 zdf3
              go_wp2
              (try simp only [Exit.inBlock, Exit.then])
              refine bodyPost_ret (v := .tuple #[dv 0 0 ⟨#[]⟩ none 0 0, .int .i64 0]) ?_ rfl ⟨by rw [HV.out], ?_⟩
              · rw [results_cell_tmp rfl]
                go_simp
                try rfl
              · exact ((((hbl.trans (hb6.mono (by omega))).setCell (p := ⟨w.heap.size, 0, none⟩) (Nat.le_refl _) _).setCell (p := ⟨w.heap.size, 1, none⟩) (Nat.le_refl _) _).setCell (p := ⟨w.heap.size, 2, none⟩) (Nat.le_refl _) _).setCell (p := ⟨w.heap.size, 3, none⟩) (Nat.le_refl _) _
        · have c0 := u8_bne _ _ e0 0 rfl
          have hst : Hid (scan (done ++ [s[j]]) (s.data.toList.drop (j + 1)) = scan [] (s.data.toList.drop 1)) := Lib.hid (by rw [← HS.out, htwo.out, scan_two, if_neg e0, drop_byte s (j + 1) (by omega)])
          have hcell : Lib.byteCells done ++ [.int .u8 s[j].toNat] = Lib.byteCells (done ++ [s[j]]) := by rw [byteCells_append]; rfl
          have HC := Lib.hid hcell
          clear e0 hcell
          go_wp2_with (go_at_call 47; refine (Tryd.bld_WriteByte (w.heap.size + 1 + 1) (w.heap.size + 1 + 1) _ _ _ hb2 (by rw [byteCells_length]; omega) (by omega)).mono ?_; rintro e w4 ⟨rfl, hb4, hbl4⟩)
          have zz4 := hbl4.size
          go_roundw
          case rel => exact ⟨j + 1, done ++ [s[j]], by omega, by omega, by go_num, hst, by simp; omega, by rw [← HC.out]; exact .inr hb4, hbl.trans (hbl4.mono (by omega)), zr.later hbl4 (by omega), zd.later hbl4 (by omega), by omega⟩
          case measure => simp [intOf]; omega
      · have hsc : scan [] (s.data.toList.drop 1) = (done, none) := by
          rw [← HS.out]
          by_cases hjs : j < s.size
          · rw [drop_byte s j hjs, List.drop_of_length_le (by simp; omega), scan_one]
          · rw [List.drop_of_length_le (by simp; omega), scan_nil]
        have hone := one1_none s (by omega) H2.out hsc
        have HV : Hid (decAns (one1 s.data.toList) s.size = .tuple #[dv 0 0 ⟨#[]⟩ none 0 0, .int .i64 0]) := Lib.hid (by rw [hone]; rfl)
        have hw1 : IntKind.i64.wrap ((j : Int) + 1) = (j : Int) + 1 := by rw [IntKind.wrap_i64]; omega
        have hl1 : ¬ (j : Int) + 1 < (s.size : Int) := by omega
        clear hone hsc
        have bq := zr
        obtain ⟨zr0, zr1, zr2, zr3, zrf0, zrf1, zrf2, zrf3⟩ := bq
        have bq := zd
        obtain ⟨zd0, zd1, zd2, zd3, zdf0, zdf1, zdf2, zdf3⟩ := bq
        go_wp2_with fail
        refine (may_any ⟨0, 0, ⟨#[]⟩, []⟩ none 0 _ (.inl rfl) (by simp)).mono ?_
        rintro e w6 ⟨rfl, hb6⟩
        rw [may_zero]
        obtain ⟨hc6, hf6⟩ := bcell hb6
        have zz6 := hb6.size
        have r0 : w6.cell? ⟨w.heap.size, 0, none⟩ = some (.int .i64 0) := by rw [hc6 _ _ (by omega)]; exact zr0
        have q0 : w6.frozen? ⟨w.heap.size, 0, none⟩ = false := by rw [hf6 _ _ (by omega)]; exact zrf0
        have r1 : w6.cell? ⟨w.heap.size, 1, none⟩ = some (.int .i64 0) := by rw [hc6 _ _ (by omega)]; exact zr1
        have q1 : w6.frozen? ⟨w.heap.size, 1, none⟩ = false := by rw [hf6 _ _ (by omega)]; exact zrf1
        have r2 : w6.cell? ⟨w.heap.size, 2, none⟩ = some (.string ⟨#[]⟩) := by rw [hc6 _ _ (by omega)]; exact zr2
        have q2 : w6.frozen? ⟨w.heap.size, 2, none⟩ = false := by rw [hf6 _ _ (by omega)]; exact zrf2
        have r3 : w6.cell? ⟨w.heap.size, 3, none⟩ = some (.slice none 0 0) := by rw [hc6 _ _ (by omega)]; exact zr3
        have q3 : w6.frozen? ⟨w.heap.size, 3, none⟩ = false := by rw [hf6 _ _ (by omega)]; exact zrf3
        clear hc6 hf6 zr0 zr1 zr2 zr3 zrf0 zrf1 zrf2 zrf3 zd0 zd1 zd2 zd3 zdf0 zdf1 zdf2 zdf3
        go_wp2
        (try simp only [Exit.inBlock, Exit.then])
        refine bodyPost_ret (v := .tuple #[dv 0 0 ⟨#[]⟩ none 0 0, .int .i64 0]) ?_ rfl ⟨by rw [HV.out], ?_⟩
        · rw [results_cell_tmp rfl]
          go_simp
          try rfl
        · exact ((((hbl.trans (hb6.mono (by omega))).setCell (p := ⟨w.heap.size, 0, none⟩) (Nat.le_refl _) _).setCell (p := ⟨w.heap.size, 1, none⟩) (Nat.le_refl _) _).setCell (p := ⟨w.heap.size, 2, none⟩) (Nat.le_refl _) _).setCell (p := ⟨w.heap.size, 3, none⟩) (Nat.le_refl _) _

end Go.Proofs.YtekcoddjdjllhaaDoor
