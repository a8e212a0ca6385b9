/- Check of predicates: the program's. Whether a predicate may be: the reference's; a part over a column. -/
import Derived.Test.YtdjlbfepddcmeaaGreatDoorQ15
set_option linter.unusedVariables false
set_option linter.unusedSimpArgs false
namespace Go.Proofs.YtdjlbfepddcmeaaGreatDoor
open Go.RowKit

set_option maxRecDepth 100000 in
set_option maxHeartbeats 4000000 in
theorem may_other (cols : List Co) (n m : Nat) (t : PT) (a : Option Addr) (c : Nat) (pa : Option Addr) (pc : Nat) (ac : Option Addr) (cc : Nat) (w : World) (hn : n < 8)
    (hp : PredIs m w t a pa) (hl : cols.length ≤ 140737488351232) (hz : t.col = 0 ∧ t.d.zero = true) (ho : ¬ (1 ≤ t.op ∧ t.op ≤ 6)) (h7 : ¬ t.op = 7) (h8 : ¬ t.op = 8) (h9 : ¬ t.op = 9) (h10 : ¬ t.op = 10) :
    Calls Tryz.prog 33 #[pv t a c pa pc, .slice ac cols.length cc, .int .i64 ((n + 1 : Nat) : Int)] w fun e w' => e = .returned (.bool false) ∧ Below w.heap.size w w' := by
  clear hp
  obtain ⟨hcol, hz⟩ := hz
  unfold Da.zero at hz
  simp only [Bool.and_eq_true, decide_eq_true_eq, List.isEmpty_iff] at hz
  obtain ⟨⟨⟨hk, hnn⟩, hs⟩, hll⟩ := hz
  rw [← Lib.toList_data] at hs
  unfold pv
  generalize t.op = op at *
  generalize t.col = col at *
  generalize t.d = d at *
  generalize t.parts = ps at *
  generalize d.k = dk at *
  generalize d.n = dn at *
  generalize d.s = ds at *
  generalize d.l.length = dl at *
  subst hcol hk hnn hll
  have hn0 : (((n + 1 : Nat) : Int) == 0) = false := beqI_f (by omega)
  generalize hN : ((n + 1 : Nat) : Int) = N at *
  by_cases h1 : 1 ≤ op
  · have h6 : ¬ op ≤ 6 := fun h => ho ⟨h1, h⟩
    clear ho
    go_enter Tryz.func33, Tryz.ntmps33
    go_wp2
    go_ret
    exact ⟨rfl, by go_grown⟩
  · clear ho
    go_enter Tryz.func33, Tryz.ntmps33
    go_wp2
    go_ret
    exact ⟨rfl, by go_grown⟩

theorem may_zero (cols : List Co) : MayOK cols 0 := by
  intro m t a c pa pc ac cc w hp hr hl
  go_enter Tryz.func33, Tryz.ntmps33
  go_wp2
  go_ret
  exact ⟨rfl, by go_grown⟩

theorem may_ok (cols : List Co) : ∀ n, n ≤ 8 → MayOK cols n
  | 0, _ => may_zero cols
  | n + 1, hn => by
    have ih := may_ok cols n (by omega)
    intro m t a c pa pc ac cc w hp hr hl
    by_cases ho : 1 ≤ t.op ∧ t.op ≤ 6
    · exact may_leaf cols n m t a c pa pc ac cc w (by omega) hp hr hl ho
    · by_cases hz : t.col ≠ 0 ∨ t.d.zero = false
      · exact may_col cols n m t a c pa pc ac cc w (by omega) hp hl ho hz
      · have hz' : t.col = 0 ∧ t.d.zero = true := by
          constructor
          · exact Decidable.byContradiction fun h => hz (.inl h)
          · cases h : t.d.zero
            · exact absurd (.inr h) hz
            · rfl
        have hm := mayP_in (cols := cols) (n := n) ho hz'.1 hz'.2
        by_cases h7 : t.op = 7
        · rw [hm, if_pos (.inl h7)]
          exact may_in7 cols n m t a c pa pc ac cc w (by omega) ih hp hr hl hz' h7
        · by_cases h8 : t.op = 8
          · rw [hm, if_pos (.inr h8)]
            exact may_in8 cols n m t a c pa pc ac cc w (by omega) ih hp hr hl hz' h8
          · rw [hm, if_neg (by rintro (h | h); exact h7 h; exact h8 h)]
            by_cases h9 : t.op = 9
            · rw [if_pos h9]
              have := may_in9 cols n m t a c pa pc ac cc w (by omega) ih hp hr hl hz' h9
              rwa [show partsB cols n 1 1 t.parts = (decide (t.parts.length = 1) && t.parts.all (mayP cols n)) by
                unfold partsB; congr 1; rw [Bool.eq_iff_iff]; simp; omega] at this
            · rw [if_neg h9]
              by_cases h10 : t.op = 10
              · rw [if_pos h10]
                have := may_in10 cols n m t a c pa pc ac cc w (by omega) ih hp hr hl hz' h10
                rwa [show partsB cols n 0 0 t.parts = decide (t.parts.length = 0) by
                  unfold partsB
                  by_cases h0 : t.parts = []
                  · rw [h0]; rfl
                  · simp [h0]] at this
              · rw [if_neg h10]
                exact may_other cols n m t a c pa pc ac cc w (by omega) hp hl hz' ho h7 h8 h9 h10

theorem checkp_any (cols : List Co) (m : Nat) (t : PT) (a : Option Addr) (c : Nat) (pa : Option Addr) (pc : Nat) (ac : Option Addr) (cc : Nat) (w : World)
    (hp : PredIs m w t a pa) (hr : ColIs w ac cols) (hl : cols.length ≤ 140737488351232) :
    Calls Tryz.prog 15 #[pv t a c pa pc, .slice ac cols.length cc] w fun e w' => e = .returned (.int .i64 (predE cols t)) ∧ Below w.heap.size w w' := by
  have hb0 : Below w.heap.size w (w.alloc (.cells #[.int .i64 t.op, .int .i64 t.col, .int .i64 t.d.k, .int .i64 t.d.n, .string t.d.s, .slice a t.d.l.length c, .slice pa t.parts.length pc] 27)) := by go_grown
  have HC := Lib.hid (columns_any cols ac cc _ (hr.below hb0) hl)
  cases h1 : colsB cols with
  | false =>
    rw [show colE cols = 160 by simp [colE, h1]] at HC
    have HR := Lib.hid (show predE cols t = 160 by simp [predE, h1])
    clear h1
    go_enter Tryz.func15, Tryz.ntmps15
    go_wp2_with (go_at_call 11; refine HC.out.mono ?_; rintro e w' ⟨rfl, hb1⟩)
    go_ret
    exact ⟨ret_int HR.out.symm, hb0.trans (hb1.mono (by simp))⟩
  | true =>
    rw [show colE cols = 0 by simp [colE, h1]] at HC
    cases h2 : mayP cols 8 t with
    | false =>
      have HR := Lib.hid (show predE cols t = 150 by simp [predE, h1, h2])
      clear h1
      go_enter Tryz.func15, Tryz.ntmps15
      go_wp2_with fail
      refine HC.out.mono ?_
      rintro e w' ⟨rfl, hb1⟩
      have hb01 := hb0.trans (hb1.mono (by simp))
      have d0 := (hb1.cell (p := ⟨w.heap.size, 0, none⟩) (by simp)).trans (show _ = some (.int .i64 t.op) by go_simp)
      have d1 := (hb1.cell (p := ⟨w.heap.size, 1, none⟩) (by simp)).trans (show _ = some (.int .i64 t.col) by go_simp)
      have d2 := (hb1.cell (p := ⟨w.heap.size, 2, none⟩) (by simp)).trans (show _ = some (.int .i64 t.d.k) by go_simp)
      have d3 := (hb1.cell (p := ⟨w.heap.size, 3, none⟩) (by simp)).trans (show _ = some (.int .i64 t.d.n) by go_simp)
      have d4 := (hb1.cell (p := ⟨w.heap.size, 4, none⟩) (by simp)).trans (show _ = some (.string t.d.s) by go_simp)
      have d5 := (hb1.cell (p := ⟨w.heap.size, 5, none⟩) (by simp)).trans (show _ = some (.slice a t.d.l.length c) by go_simp)
      have d6 := (hb1.cell (p := ⟨w.heap.size, 6, none⟩) (by simp)).trans (show _ = some (.slice pa t.parts.length pc) by go_simp)
      go_wp2_with fail
      refine (may_ok cols 8 (by omega) m t a c pa pc ac cc w' (hp.below hb01) (hr.below hb01) hl).mono ?_
      rintro e w2 ⟨rfl, hb2⟩
      rw [h2]
      go_wp2
      go_ret
      exact ⟨ret_int HR.out.symm, hb01.trans (hb2.mono hb01.size)⟩
    | true =>
      have HR := Lib.hid (show predE cols t = 0 by simp [predE, h1, h2])
      clear h1
      go_enter Tryz.func15, Tryz.ntmps15
      go_wp2_with fail
      refine HC.out.mono ?_
      rintro e w' ⟨rfl, hb1⟩
      have hb01 := hb0.trans (hb1.mono (by simp))
      have d0 := (hb1.cell (p := ⟨w.heap.size, 0, none⟩) (by simp)).trans (show _ = some (.int .i64 t.op) by go_simp)
      have d1 := (hb1.cell (p := ⟨w.heap.size, 1, none⟩) (by simp)).trans (show _ = some (.int .i64 t.col) by go_simp)
      have d2 := (hb1.cell (p := ⟨w.heap.size, 2, none⟩) (by simp)).trans (show _ = some (.int .i64 t.d.k) by go_simp)
      have d3 := (hb1.cell (p := ⟨w.heap.size, 3, none⟩) (by simp)).trans (show _ = some (.int .i64 t.d.n) by go_simp)
      have d4 := (hb1.cell (p := ⟨w.heap.size, 4, none⟩) (by simp)).trans (show _ = some (.string t.d.s) by go_simp)
      have d5 := (hb1.cell (p := ⟨w.heap.size, 5, none⟩) (by simp)).trans (show _ = some (.slice a t.d.l.length c) by go_simp)
      have d6 := (hb1.cell (p := ⟨w.heap.size, 6, none⟩) (by simp)).trans (show _ = some (.slice pa t.parts.length pc) by go_simp)
      go_wp2_with fail
      refine (may_ok cols 8 (by omega) m t a c pa pc ac cc w' (hp.below hb01) (hr.below hb01) hl).mono ?_
      rintro e w2 ⟨rfl, hb2⟩
      rw [h2]
      go_wp2
      go_ret
      exact ⟨ret_int HR.out.symm, hb01.trans (hb2.mono hb01.size)⟩
end Go.Proofs.YtdjlbfepddcmeaaGreatDoor

namespace Go.Proofs.YtdjlbfepddcmeaaGreatDoor
open Go.RowKit

theorem same_zero (d : Da) : d.same ⟨0, 0, ⟨#[]⟩, []⟩ = d.zero := by
  unfold Da.same Da.zero
  rw [Lib.toList_data, Lib.toList_data]
  by_cases h : d.l.length = 0
  · simp only [h, List.length_nil, List.range_zero, List.all_nil, Bool.and_true, decide_true]
    congr 1
    rw [Bool.eq_iff_iff]; simp
  · simp [h]

theorem rzero_any (m : Nat) (t : PT) (a : Option Addr) (c : Nat) (pa : Option Addr) (pc : Nat) (w : World) (hp : PredIs m w t a pa) :
    Calls Tryz.prog 50 #[pv t a c pa pc] w fun e w' => e = .returned (.bool (decide (t.col = 0) && t.d.zero)) ∧ Below w.heap.size w w' := by
  have hda := hp.da
  clear hp
  have hb0 : Below w.heap.size w (w.alloc (.cells #[.int .i64 t.op, .int .i64 t.col, .int .i64 t.d.k, .int .i64 t.d.n, .string t.d.s, .slice a t.d.l.length c, .slice pa t.parts.length pc] 27)) := by go_grown
  by_cases hc : t.col = 0
  · have HS := Lib.hid (rsame_any t.d ⟨0, 0, ⟨#[]⟩, []⟩ a c none 0 _ (hda.below hb0).row (.inl rfl) hda.l (by simp))
    rw [same_zero] at HS
    unfold pv
    generalize t.op = op at *
    generalize t.col = col at *
    generalize t.d = d at *
    generalize t.parts = ps at *
    subst hc
    go_enter Tryz.func50, Tryz.ntmps50
    go_wp2_with fail
    refine HS.out.mono ?_
    rintro e w' ⟨rfl, hb⟩
    go_wp2
    go_ret
    exact ⟨ret_bool (by simp), hb0.trans (hb.mono (by simp))⟩
  · unfold pv
    generalize t.op = op at *
    generalize t.col = col at *
    generalize t.d = d at *
    generalize t.parts = ps at *
    go_enter Tryz.func50, Tryz.ntmps50
    go_wp2
    go_ret
    exact ⟨ret_bool (by simp [hc]), hb0⟩

theorem bne3 (a : Int) : (a != 3) = !decide (a = 3) := by
  by_cases h : a = 3 <;> simp [h]
theorem suits_r (op kind col : Int) : suitsB op kind col = if op = 6 then decide (col = 3) && !decide (kind = 3) else decide (kind = col) && (decide (op = 1) || !decide (col = 3)) := by
  unfold suitsB
  split
  · rfl
  · by_cases h : kind = col
    · subst h; by_cases h1 : op = 1 <;> simp [h1]
    · simp [h]

set_option maxRecDepth 100000 in
set_option maxHeartbeats 4000000 in
theorem rmay_leaf (cols : List Co) (n m : Nat) (t : PT) (a : Option Addr) (c : Nat) (pa : Option Addr) (pc : Nat) (ac : Option Addr) (cc : Nat) (w : World) (hn : n < 8)
    (hp : PredIs m w t a pa) (hr : ColIs w ac cols) (hl : cols.length ≤ 140737488351232) (hop : 1 ≤ t.op ∧ t.op ≤ 6) :
    Calls Tryz.prog 26 #[pv t a c pa pc, .slice ac cols.length cc, .int .i64 ((n + 1 : Nat) : Int)] w fun e w' => e = .returned (.bool (mayP cols (n + 1) t)) ∧ Below w.heap.size w w' := by
  have HM := Lib.hid (mayP_leaf cols n t hop)
  have hda := hp.da
  have hplen := hp.len
  clear hp
  unfold pv
  generalize t.op = op at *
  generalize t.col = col at *
  generalize t.d = d at *
  generalize t.parts = ps at *
  have hB3 : Below w.heap.size w (w.alloc (.cells #[.int .i64 op, .int .i64 col, .int .i64 d.k, .int .i64 d.n, .string d.s, .slice a d.l.length c, .slice pa ps.length pc] 27)) := by go_grown
  have hn0 : (((n + 1 : Nat) : Int) == 0) = false := beqI_f (by omega)
  obtain ⟨ho1, ho2⟩ := hop
  generalize hN : ((n + 1 : Nat) : Int) = N at *
  have HN := Lib.hid hN
  clear hN
  by_cases hA : ps.length = 0
  · generalize ps.length = pl at *
    subst hA
    by_cases hB : 0 ≤ col
    · by_cases hC : col < cols.length
      · obtain ⟨k, rfl⟩ : ∃ k : Nat, col = k := ⟨col.toNat, by omega⟩
        have hk : k < cols.length := by omega
        have HK := Lib.hid (kindAt_eq cols k k rfl hk)
        have hkb : (0 : Int) ≤ (k : Int) := by omega
        have hr3 := hr.below hB3
        obtain ⟨b, off, rfl, g0, g1, _, _⟩ := hr3.at_ k hk
        generalize cols[k].kind = kd at *
        cases hD : d.may with
        | false =>
          have HF := Lib.hid (show mayP cols (n + 1) t = false by rw [HM.out, hD]; simp)
          have HD := Lib.hid (rmay_any d a c _ (hda.below hB3).row hda.s hda.l)
          rw [hD] at HD
          clear g0 g1 hr3
          go_enter Tryz.func26, Tryz.ntmps26
          go_wp2_with fail
          refine HD.out.mono ?_
          rintro e w' ⟨rfl, hb'⟩
          go_wp2
          go_ret
          exact ⟨ret_bool HF.out.symm, hB3.trans (hb'.mono (by simp))⟩
        | true =>
          have HF := Lib.hid (show mayP cols (n + 1) t = suitsB op d.k kd by rw [HM.out, hD, HK.out]; simp [hB, hC])
          have HD := Lib.hid (rmay_any d a c _ (hda.below hB3).row hda.s hda.l)
          rw [hD] at HD
          have HG1 := Lib.hid g1
          clear g0 g1 hr3
          by_cases h6 : op = 6
          · subst h6
            by_cases hk3 : kd = 3
            · cases hd3 : (d.k != 3)
              all_goals
                have HX := Lib.hid (show suitsB 6 d.k kd = (d.k != 3) by rw [suits_r, bne3]; simp [hk3])
                rw [hd3] at HX
                have ek3 : (kd == 3) = true := beqI_t hk3
                clear hk3
                go_enter Tryz.func26, Tryz.ntmps26
                go_wp2_with fail
                refine HD.out.mono ?_
                rintro e w' ⟨rfl, hb'⟩
                have d0 := (hb'.cell (p := ⟨w.heap.size, 0, none⟩) (by simp)).trans (show _ = some (.int .i64 6) by go_simp)
                have d1 := (hb'.cell (p := ⟨w.heap.size, 1, none⟩) (by simp)).trans (show _ = some (.int .i64 (k : Int)) by go_simp)
                have d2 := (hb'.cell (p := ⟨w.heap.size, 2, none⟩) (by simp)).trans (show _ = some (.int .i64 d.k) by go_simp)
                have g1 := (hb'.cell (World.block_lt_of_cell? _ _ HG1.out)).trans HG1.out
                go_wp2
                go_ret
                exact ⟨ret_bool (by rw [HF.out, HX.out]), hB3.trans (hb'.mono (by simp))⟩
            · have HX := Lib.hid (show suitsB 6 d.k kd = false by rw [suits_r]; simp [hk3])
              go_enter Tryz.func26, Tryz.ntmps26
              go_wp2_with fail
              refine HD.out.mono ?_
              rintro e w' ⟨rfl, hb'⟩
              have d0 := (hb'.cell (p := ⟨w.heap.size, 0, none⟩) (by simp)).trans (show _ = some (.int .i64 6) by go_simp)
              have d1 := (hb'.cell (p := ⟨w.heap.size, 1, none⟩) (by simp)).trans (show _ = some (.int .i64 (k : Int)) by go_simp)
              have d2 := (hb'.cell (p := ⟨w.heap.size, 2, none⟩) (by simp)).trans (show _ = some (.int .i64 d.k) by go_simp)
              have g1 := (hb'.cell (World.block_lt_of_cell? _ _ HG1.out)).trans HG1.out
              go_wp2
              go_ret
              exact ⟨ret_bool (by rw [HF.out, HX.out]), hB3.trans (hb'.mono (by simp))⟩
          · by_cases hkk : d.k = kd
            · by_cases h1 : op = 1
              · by_cases hk3 : True
                all_goals
                  clear hk3
                  have HX := Lib.hid (show suitsB op d.k kd = true by rw [suits_r]; simp [h6, hkk, h1])
                  have HKK := Lib.hid hkk
                  have ekk : (d.k == kd) = true := beqI_t hkk
                  clear hkk
                  subst h1
                  go_enter Tryz.func26, Tryz.ntmps26
                  go_wp2_with fail
                  refine HD.out.mono ?_
                  rintro e w' ⟨rfl, hb'⟩
                  have d0 := (hb'.cell (p := ⟨w.heap.size, 0, none⟩) (by simp)).trans (show _ = some (.int .i64 1) by go_simp)
                  have d1 := (hb'.cell (p := ⟨w.heap.size, 1, none⟩) (by simp)).trans (show _ = some (.int .i64 (k : Int)) by go_simp)
                  have d2 := (hb'.cell (p := ⟨w.heap.size, 2, none⟩) (by simp)).trans (show _ = some (.int .i64 d.k) by go_simp)
                  have g1 := (hb'.cell (World.block_lt_of_cell? _ _ HG1.out)).trans HG1.out
                  go_wp2
                  go_ret
                  exact ⟨ret_bool (by rw [HF.out, HX.out]), hB3.trans (hb'.mono (by simp))⟩
              · cases hk3 : (kd != 3)
                all_goals
                  have HX := Lib.hid (show suitsB op d.k kd = (kd != 3) by rw [suits_r, bne3]; simp [h6, hkk, h1])
                  have e1 : (op == 1) = false := beqI_f h1
                  rw [hk3] at HX
                  have HKK := Lib.hid hkk
                  have ekk : (d.k == kd) = true := beqI_t hkk
                  clear hkk
                  go_enter Tryz.func26, Tryz.ntmps26
                  go_wp2_with fail
                  refine HD.out.mono ?_
                  rintro e w' ⟨rfl, hb'⟩
                  have d0 := (hb'.cell (p := ⟨w.heap.size, 0, none⟩) (by simp)).trans (show _ = some (.int .i64 op) by go_simp)
                  have d1 := (hb'.cell (p := ⟨w.heap.size, 1, none⟩) (by simp)).trans (show _ = some (.int .i64 (k : Int)) by go_simp)
                  have d2 := (hb'.cell (p := ⟨w.heap.size, 2, none⟩) (by simp)).trans (show _ = some (.int .i64 d.k) by go_simp)
                  have g1 := (hb'.cell (World.block_lt_of_cell? _ _ HG1.out)).trans HG1.out
                  go_wp2
                  go_ret
                  exact ⟨ret_bool (by rw [HF.out, HX.out]), hB3.trans (hb'.mono (by simp))⟩
            · have HX := Lib.hid (show suitsB op d.k kd = false by rw [suits_r]; simp [h6, hkk])
              have ekk : (d.k == kd) = false := beqI_f hkk
              clear hkk
              go_enter Tryz.func26, Tryz.ntmps26
              go_wp2_with fail
              refine HD.out.mono ?_
              rintro e w' ⟨rfl, hb'⟩
              have d0 := (hb'.cell (p := ⟨w.heap.size, 0, none⟩) (by simp)).trans (show _ = some (.int .i64 op) by go_simp)
              have d1 := (hb'.cell (p := ⟨w.heap.size, 1, none⟩) (by simp)).trans (show _ = some (.int .i64 (k : Int)) by go_simp)
              have d2 := (hb'.cell (p := ⟨w.heap.size, 2, none⟩) (by simp)).trans (show _ = some (.int .i64 d.k) by go_simp)
              have g1 := (hb'.cell (World.block_lt_of_cell? _ _ HG1.out)).trans HG1.out
              go_wp2
              go_ret
              exact ⟨ret_bool (by rw [HF.out, HX.out]), hB3.trans (hb'.mono (by simp))⟩
      · have HF := Lib.hid (show mayP cols (n + 1) t = false by rw [HM.out]; simp [hC])
        have eC : decide ((cols.length : Int) ≤ col) = true := by rw [decide_eq_true_iff]; omega
        go_enter Tryz.func26, Tryz.ntmps26
        go_wp2
        go_ret
        exact ⟨ret_bool HF.out.symm, hB3⟩
    · have HF := Lib.hid (show mayP cols (n + 1) t = false by rw [HM.out]; simp [hB])
      go_enter Tryz.func26, Tryz.ntmps26
      go_wp2
      go_ret
      exact ⟨ret_bool HF.out.symm, hB3⟩
  · have eA : decide ((0 : Int) < (ps.length : Int)) = true := by rw [decide_eq_true_iff]; omega
    have HF := Lib.hid (show mayP cols (n + 1) t = false by rw [HM.out]; simp [hA])
    generalize ps.length = pl at *
    go_enter Tryz.func26, Tryz.ntmps26
    go_wp2
    go_ret
    exact ⟨ret_bool HF.out.symm, hB3⟩
end Go.Proofs.YtdjlbfepddcmeaaGreatDoor
