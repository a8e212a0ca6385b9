/- Whether a predicate is true: the reference's, whole; its Holds. -/
import Derived.Test.YtdjlbfepddcmeaaGreatDoorQ23
set_option linter.unusedVariables false
set_option linter.unusedSimpArgs false
namespace Go.Proofs.YtdjlbfepddcmeaaGreatDoor
open Go.RowKit

theorem rtrue_true (cells : List El) (n : Nat) (t : PT) (a : Option Addr) (c : Nat) (pa : Option Addr) (pc : Nat) (ca : Option Addr) (cc : Nat) (w : World) (ho : t.op = 10) :
    Calls Tryz.prog 27 #[pv t a c pa pc, .slice ca cells.length cc] w fun e w' => e = .returned (.bool (trueP cells (n + 1) t)) ∧ Below w.heap.size w w' := by
  have HT := Lib.hid (show trueP cells (n + 1) t = true by rw [trueP, if_pos ho])
  have hb0 : Below w.heap.size w (w.alloc (pbox t a c pa pc)) := by go_grown
  unfold pbox at hb0
  unfold pv
  generalize t.op = op at *
  generalize t.col = col at *
  generalize t.d = d at *
  generalize t.parts = ps at *
  subst ho
  go_enter Tryz.func27, Tryz.ntmps27
  go_wp2
  go_ret
  exact ⟨ret_bool HT.out.symm, hb0⟩

set_option maxRecDepth 100000 in
set_option maxHeartbeats 4000000 in
theorem rtrue_and (cols : List Co) (cells : List El) (n m : Nat) (t : PT) (a : Option Addr) (c : Nat) (pa : Option Addr) (pc : Nat) (ca : Option Addr) (cc : Nat) (w : World) (hok : RTrueOK cols cells n)
    (hp : PredIs m w t a pa) (hall : t.parts.all (mayP cols n) = true) (hr : DeepIs w ca cells) (ho : t.op = 7) :
    Calls Tryz.prog 27 #[pv t a c pa pc, .slice ca cells.length cc] w fun e w' => e = .returned (.bool (trueP cells (n + 1) t)) ∧ Below w.heap.size w w' := by
  obtain ⟨m, rfl⟩ : ∃ k, m = k + 1 := by
    cases m with
    | zero => exact hp.elim
    | succ k => exact ⟨k, rfl⟩
  have hb0 : Below w.heap.size w (w.alloc (pbox t a c pa pc)) := by go_grown
  have HT := Lib.hid (show trueP cells (n + 1) t = t.parts.all (trueP cells n) by rw [trueP, if_neg (by omega), if_neg (by omega), if_pos ho])
  have hps := hp.parts
  have hplen := hp.len
  have x6 := (PBx.new w t a c pa pc).c6
  clear hp
  generalize trueP cells (n + 1) t = R at *
  unfold pbox at *
  unfold pv
  generalize t.op = op at *
  generalize t.col = col at *
  generalize t.d = d at *
  generalize t.parts = ps at *
  subst ho
  go_enter Tryz.func27, Tryz.ntmps27
  go_wp2
  go_loopw [5] (fun i wr => ∃ j : Nat, j ≤ ps.length ∧ i = .int .i64 j ∧ (ps.take j).all (trueP cells n) = true ∧ Below w.heap.size w wr ∧ wr.cell? ⟨w.heap.size, 6, none⟩ = some (.slice pa ps.length pc) ∧ w.heap.size < wr.heap.size) (fun i _ => ps.length - (intOf i).toNat)
  case atStart => exact ⟨0, Nat.zero_le _, rfl, rfl, hb0, x6, by simp⟩
  case round =>
    clear x6 hb0
    obtain ⟨j, hj, rfl, hal, hb, hc6, hz⟩ := hrel
    have HA := Lib.hid hal
    clear hal
    by_cases hlt : j < ps.length
    · obtain ⟨b, off, rfl, a', c', pa', pc', hcell, hpi⟩ := (hps.below hb).at_ j hlt
      have hmx := List.all_eq_true.1 hall ps[j] (List.getElem_mem hlt)
      have HTS := Lib.hid (all_take_succ ps (trueP cells n) j hlt)
      have HNO := Lib.hid (all_false_of ps (trueP cells n) j hlt)
      have HK := Lib.hid (hok m ps[j] a' c' pa' pc' ca cc wr hpi hmx (hr.below hb))
      clear hpi hmx
      generalize ps[j] = x at *
      obtain ⟨g0, g1, g2, g3, g4, g5, g6⟩ := hcell
      cases hx : trueP cells n x with
      | true =>
        rw [hx] at HK
        go_wp2_with fail
        refine HK.out.mono ?_
        rintro e w2 ⟨rfl, hb2⟩
        have hc6' := (hb2.cell (p := ⟨w.heap.size, 6, none⟩) hz).trans hc6
        have hz2 := hb2.size
        go_wp2
        go_roundw
        case rel => exact ⟨j + 1, by omega, by go_num, by rw [HTS.out, HA.out, hx]; rfl, hb.trans (hb2.mono hb.size), hc6', by omega⟩
        case measure => simp [intOf]; omega
      | false =>
        rw [hx] at HK
        have HF := Lib.hid (HNO.out hx)
        go_wp2_with fail
        refine HK.out.mono ?_
        rintro e w2 ⟨rfl, hb2⟩
        go_wp2
        go_ret
        exact ⟨ret_bool (by rw [HT.out, HF.out]), hb.trans (hb2.mono hb.size)⟩
    · go_wp2
      go_ret
      exact ⟨ret_bool (by rw [HT.out, ← HA.out, List.take_of_length_le (by omega)]), hb⟩

set_option maxRecDepth 100000 in
set_option maxHeartbeats 4000000 in
theorem rtrue_or (cols : List Co) (cells : List El) (n m : Nat) (t : PT) (a : Option Addr) (c : Nat) (pa : Option Addr) (pc : Nat) (ca : Option Addr) (cc : Nat) (w : World) (hok : RTrueOK cols cells n)
    (hp : PredIs m w t a pa) (hall : t.parts.all (mayP cols n) = true) (hr : DeepIs w ca cells) (ho : t.op = 8) :
    Calls Tryz.prog 27 #[pv t a c pa pc, .slice ca cells.length cc] w fun e w' => e = .returned (.bool (trueP cells (n + 1) t)) ∧ Below w.heap.size w w' := by
  obtain ⟨m, rfl⟩ : ∃ k, m = k + 1 := by
    cases m with
    | zero => exact hp.elim
    | succ k => exact ⟨k, rfl⟩
  have hb0 : Below w.heap.size w (w.alloc (pbox t a c pa pc)) := by go_grown
  have HT := Lib.hid (show trueP cells (n + 1) t = t.parts.any (trueP cells n) by rw [trueP, if_neg (by omega), if_neg (by omega), if_neg (by omega), if_pos ho])
  have hps := hp.parts
  have hplen := hp.len
  have x6 := (PBx.new w t a c pa pc).c6
  clear hp
  generalize trueP cells (n + 1) t = R at *
  unfold pbox at *
  unfold pv
  generalize t.op = op at *
  generalize t.col = col at *
  generalize t.d = d at *
  generalize t.parts = ps at *
  subst ho
  go_enter Tryz.func27, Tryz.ntmps27
  go_wp2
  go_loopw [6] (fun i wr => ∃ j : Nat, j ≤ ps.length ∧ i = .int .i64 j ∧ (ps.take j).any (trueP cells n) = false ∧ Below w.heap.size w wr ∧ wr.cell? ⟨w.heap.size, 6, none⟩ = some (.slice pa ps.length pc) ∧ w.heap.size < wr.heap.size) (fun i _ => ps.length - (intOf i).toNat)
  case atStart => exact ⟨0, Nat.zero_le _, rfl, rfl, hb0, x6, by simp⟩
  case round =>
    clear x6 hb0
    obtain ⟨j, hj, rfl, hal, hb, hc6, hz⟩ := hrel
    have HA := Lib.hid hal
    clear hal
    by_cases hlt : j < ps.length
    · obtain ⟨b, off, rfl, a', c', pa', pc', hcell, hpi⟩ := (hps.below hb).at_ j hlt
      have hmx := List.all_eq_true.1 hall ps[j] (List.getElem_mem hlt)
      have HTS := Lib.hid (any_take_succ ps (trueP cells n) j hlt)
      have HNO := Lib.hid (any_true_of ps (trueP cells n) j hlt)
      have HK := Lib.hid (hok m ps[j] a' c' pa' pc' ca cc wr hpi hmx (hr.below hb))
      clear hpi hmx
      generalize ps[j] = x at *
      obtain ⟨g0, g1, g2, g3, g4, g5, g6⟩ := hcell
      cases hx : trueP cells n x with
      | false =>
        rw [hx] at HK
        go_wp2_with fail
        refine HK.out.mono ?_
        rintro e w2 ⟨rfl, hb2⟩
        have hc6' := (hb2.cell (p := ⟨w.heap.size, 6, none⟩) hz).trans hc6
        have hz2 := hb2.size
        go_wp2
        go_roundw
        case rel => exact ⟨j + 1, by omega, by go_num, by rw [HTS.out, HA.out, hx]; rfl, hb.trans (hb2.mono hb.size), hc6', by omega⟩
        case measure => simp [intOf]; omega
      | true =>
        rw [hx] at HK
        have HF := Lib.hid (HNO.out hx)
        go_wp2_with fail
        refine HK.out.mono ?_
        rintro e w2 ⟨rfl, hb2⟩
        go_wp2
        go_ret
        exact ⟨ret_bool (by rw [HT.out, HF.out]), hb.trans (hb2.mono hb.size)⟩
    · go_wp2
      go_ret
      exact ⟨ret_bool (by rw [HT.out, ← HA.out, List.take_of_length_le (by omega)]), hb⟩

set_option maxRecDepth 100000 in
set_option maxHeartbeats 4000000 in
theorem rtrue_not (cols : List Co) (cells : List El) (n m : Nat) (t : PT) (a : Option Addr) (c : Nat) (pa : Option Addr) (pc : Nat) (ca : Option Addr) (cc : Nat) (w : World) (hok : RTrueOK cols cells n)
    (hp : PredIs m w t a pa) (hall : t.parts.all (mayP cols n) = true) (hr : DeepIs w ca cells) (ho : t.op = 9) (h1 : t.parts.length = 1) :
    Calls Tryz.prog 27 #[pv t a c pa pc, .slice ca cells.length cc] w fun e w' => e = .returned (.bool (trueP cells (n + 1) t)) ∧ Below w.heap.size w w' := by
  obtain ⟨m, rfl⟩ : ∃ k, m = k + 1 := by
    cases m with
    | zero => exact hp.elim
    | succ k => exact ⟨k, rfl⟩
  have hb0 : Below w.heap.size w (w.alloc (pbox t a c pa pc)) := by go_grown
  obtain ⟨x, hx⟩ : ∃ x, t.parts = [x] := List.length_eq_one_iff.1 h1
  have HT := Lib.hid (show trueP cells (n + 1) t = !trueP cells n x by rw [trueP, if_neg (by omega), if_pos ho, hx])
  have hps := hp.parts.below hb0
  rw [hx] at hps hall
  have hmx : mayP cols n x = true := by simpa using hall
  obtain ⟨b, off, rfl, a', c', pa', pc', hcell, hpi⟩ := hps.at_ 0 (by simp)
  simp only [List.getElem_cons_zero, Nat.zero_mul, Nat.add_zero] at hcell hpi
  have HK := Lib.hid (hok m x a' c' pa' pc' ca cc _ hpi hmx (hr.below hb0))
  obtain ⟨g0, g1, g2, g3, g4, g5, g6⟩ := hcell
  clear hps hp hall hpi
  unfold pbox at *
  unfold pv at *
  rw [h1] at *
  generalize t.op = op at *
  generalize t.col = col at *
  generalize t.d = d at *
  subst ho
  go_enter Tryz.func27, Tryz.ntmps27
  go_wp2_with fail
  refine HK.out.mono ?_
  rintro e w1 ⟨rfl, hb1⟩
  go_wp2
  go_ret
  exact ⟨ret_bool HT.out.symm, hb0.trans (hb1.mono (by simp))⟩

theorem rtrue_ok (cols : List Co) (cells : List El) (hrow : RowOk cols cells) : ∀ n, RTrueOK cols cells n
  | 0 => fun _ _ _ _ _ _ _ _ _ _ hm => by cases hm
  | n + 1 => by
    have ih := rtrue_ok cols cells hrow n
    intro m t a c pa pc ca cc w hp hm hr
    by_cases ho : 1 ≤ t.op ∧ t.op ≤ 6
    · by_cases h6 : t.op = 6
      · exact rtrue_has cols cells n m t a c pa pc ca cc w hrow hp hm hr h6
      · by_cases h1 : t.op = 1
        · exact rtrue_eq cols cells n m t a c pa pc ca cc w hrow hp hm hr h1
        · exact rtrue_cmp cols cells n m t a c pa pc ca cc w hrow hp hm hr (by omega)
    · obtain ⟨hall, _, h | h | h | h, _⟩ := mayP_parts hm ho
      · exact rtrue_and cols cells n m t a c pa pc ca cc w ih hp hall hr h
      · exact rtrue_or cols cells n m t a c pa pc ca cc w ih hp hall hr h
      · exact rtrue_not cols cells n m t a c pa pc ca cc w ih hp hall hr h.1 h.2
      · exact rtrue_true cells n t a c pa pc ca cc w h.1

set_option maxRecDepth 100000 in
set_option maxHeartbeats 4000000 in
theorem rHolds_any (cols : List Co) (cells : List El) (m : Nat) (t : PT) (a : Option Addr) (c : Nat) (pa : Option Addr) (pc : Nat) (ac : Option Addr) (cc : Nat) (ca : Option Addr) (cc' : Nat) (w : World)
    (hp : PredIs m w t a pa) (hr : ColIs w ac cols) (hl : cols.length ≤ 140737488351232) (hr' : DeepIs w ca cells) (hl' : cells.length ≤ 140737488351232) :
    Calls Tryz.prog 10 #[pv t a c pa pc, .slice ac cols.length cc, .slice ca cells.length cc'] w fun e w' => e = .returned (.tuple #[.bool (holdV cols cells t), .int .i64 (holdE cols cells t)]) ∧ Below w.heap.size w w' := by
  have hb0 : Below w.heap.size w (w.alloc (pbox t a c pa pc)) := by go_grown
  have HC := Lib.hid (rcolumns_any cols ac cc _ (hr.below hb0) hl)
  have hx := PBx.new w t a c pa pc
  cases h1 : colsB cols with
  | false =>
    rw [show colE cols = 160 by simp [colE, h1]] at HC
    have HV := Lib.hid (show holdV cols cells t = false ∧ holdE cols cells t = 160 by simp [holdV, holdE, rowE, h1])
    clear h1
    go_enter Tryz.func10, Tryz.ntmps10
    go_wp2_with fail
    refine HC.out.mono ?_
    rintro e w1 ⟨rfl, hb1⟩
    go_wp2
    go_ret2
    exact ⟨by rw [HV.out.1, HV.out.2]; rfl, hb0.trans (hb1.mono (by simp))⟩
  | true =>
    rw [show colE cols = 0 by simp [colE, h1]] at HC
    cases h2 : rowB cols cells with
    | false =>
      have HV := Lib.hid (show holdV cols cells t = false ∧ holdE cols cells t = 70 by simp [holdV, holdE, rowE, h1, h2])
      clear h1
      go_enter Tryz.func10, Tryz.ntmps10
      go_wp2_with fail
      refine HC.out.mono ?_
      rintro e w1 ⟨rfl, hb1⟩
      have hb01 := hb0.trans (hb1.mono (by simp))
      go_wp2_with fail
      refine (rrowb_any cols ac cc cells ca cc' w1 (hr.below hb01) hl (hr'.below hb01) hl').mono ?_
      rintro e w2 ⟨rfl, hb2⟩
      rw [h2]
      go_wp2
      go_ret2
      exact ⟨by rw [HV.out.1, HV.out.2]; rfl, hb01.trans (hb2.mono hb01.size)⟩
    | true =>
      cases h3 : mayP cols 8 t with
      | false =>
        have HV := Lib.hid (show holdV cols cells t = false ∧ holdE cols cells t = 150 by simp [holdV, holdE, rowE, predE, h1, h2, h3])
        clear h1
        go_enter Tryz.func10, Tryz.ntmps10
        go_wp2_with fail
        refine HC.out.mono ?_
        rintro e w1 ⟨rfl, hb1⟩
        have hb01 := hb0.trans (hb1.mono (by simp))
        go_wp2_with fail
        refine (rrowb_any cols ac cc cells ca cc' w1 (hr.below hb01) hl (hr'.below hb01) hl').mono ?_
        rintro e w2 ⟨rfl, hb2⟩
        rw [h2]
        have hb02 := hb01.trans (hb2.mono hb01.size)
        have hx2 := (hx.below hb1).below hb2
        obtain ⟨x0, x1, x2, x3, x4, x5, x6⟩ := hx2
        go_wp2_with fail
        refine (rmay_ok cols 8 (by omega) m t a c pa pc ac cc w2 (hp.below hb02) (hr.below hb02) hl).mono ?_
        rintro e w3 ⟨rfl, hb3⟩
        rw [h3]
        go_wp2
        go_ret2
        exact ⟨by rw [HV.out.1, HV.out.2]; rfl, hb02.trans (hb3.mono hb02.size)⟩
      | true =>
        have HV := Lib.hid (show holdV cols cells t = trueP cells 8 t ∧ holdE cols cells t = 0 by simp [holdV, holdE, rowE, predE, h1, h2, h3])
        have hrow := RowOk.of h2
        clear h1
        go_enter Tryz.func10, Tryz.ntmps10
        go_wp2_with fail
        refine HC.out.mono ?_
        rintro e w1 ⟨rfl, hb1⟩
        have hb01 := hb0.trans (hb1.mono (by simp))
        go_wp2_with fail
        refine (rrowb_any cols ac cc cells ca cc' w1 (hr.below hb01) hl (hr'.below hb01) hl').mono ?_
        rintro e w2 ⟨rfl, hb2⟩
        rw [h2]
        have hb02 := hb01.trans (hb2.mono hb01.size)
        have hx2 := (hx.below hb1).below hb2
        obtain ⟨x0, x1, x2, x3, x4, x5, x6⟩ := hx2
        go_wp2_with fail
        refine (rmay_ok cols 8 (by omega) m t a c pa pc ac cc w2 (hp.below hb02) (hr.below hb02) hl).mono ?_
        rintro e w3 ⟨rfl, hb3⟩
        rw [h3]
        have hb03 := hb02.trans (hb3.mono hb02.size)
        have hx3 := ((hx.below hb1).below hb2).below hb3
        clear x0 x1 x2 x3 x4 x5 x6
        obtain ⟨x0, x1, x2, x3, x4, x5, x6⟩ := hx3
        have HM := Lib.hid h3
        clear h3
        go_wp2_with fail
        refine (rtrue_ok cols cells hrow 8 m t a c pa pc ca cc' w3 (hp.below hb03) HM.out (hr'.below hb03)).mono ?_
        rintro e w4 ⟨rfl, hb4⟩
        go_wp2
        go_ret2
        exact ⟨by rw [HV.out.1, HV.out.2]; rfl, hb03.trans (hb4.mono hb03.size)⟩
end Go.Proofs.YtdjlbfepddcmeaaGreatDoor
