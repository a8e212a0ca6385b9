/- Rows of columns: the program's and the reference's. Rows of columns: the reference's. Parts of predicates under a closure; which operator suits. -/
import Derived.Test.YtdjlbfepddcmeaaGreatDoorQ11
set_option linter.unusedVariables false
set_option linter.unusedSimpArgs false
namespace Go.Proofs.YtdjlbfepddcmeaaGreatDoor
open Go.RowKit

theorem cellA {w : World} {p : Addr} {v : Value} (h : w.cell? p = some v) (o : Obj) : (w.alloc o).cell? p = some v :=
  (((Below.refl w.heap.size w).alloc (Nat.le_refl _) o).cell (World.block_lt_of_cell? w _ h)).trans h

theorem rowf_any (nm : ByteArray) (kd : Int) (d : Da) (a : Option Addr) (c : Nat) (w : World) :
    Calls Tryz.prog 31 #[.agg #[.string nm, .int .i64 kd], dv d.k d.n d.s a d.l.length c] w fun e w' => e = .returned (.bool (decide (kd = d.k))) ∧ Below w.heap.size w w' := by
  by_cases h : kd = d.k
  all_goals
    go_enter Tryz.func31, Tryz.ntmps31
    go_wp2
    go_ret
    exact ⟨ret_bool (by simp [h]), by go_grown⟩

def kindOk (cols : List Co) (cells : List El) (i : Nat) : Bool := match cols[i]?, cells[i]? with
  | some c, some d => decide (c.kind = d.d.k)
  | _, _ => false
theorem kindsB_eq (cols : List Co) (cells : List El) : kindsB cols cells = (decide (cols.length = cells.length) && (List.range cols.length).all (kindOk cols cells)) := rfl
def kindsTo (cols : List Co) (cells : List El) (k : Nat) : Prop := ∀ i, i < k → kindOk cols cells i = true
theorem kinds_no {cols : List Co} {cells : List El} (k : Nat) (h : k < cols.length) (hk : kindOk cols cells k = false) : kindsB cols cells = false := by
  rw [kindsB_eq, Bool.and_eq_false_iff]
  exact .inr (List.all_eq_false.2 ⟨k, List.mem_range.2 h, by simp [hk]⟩)
theorem kinds_yes {cols : List Co} {cells : List El} (k : Nat) (hl : cols.length = cells.length) (h : cols.length ≤ k) (hk : kindsTo cols cells k) : kindsB cols cells = true := by
  rw [kindsB_eq, Bool.and_eq_true]
  exact ⟨by simpa using hl, List.all_eq_true.2 fun i hi => hk i (by have := List.mem_range.1 hi; omega)⟩
theorem kinds_len {cols : List Co} {cells : List El} (h : ¬ cols.length = cells.length) : kindsB cols cells = false := by simp [kindsB_eq, h]
theorem kindsTo_succ {cols : List Co} {cells : List El} {k : Nat} (h : kindsTo cols cells k) (hk : kindOk cols cells k = true) : kindsTo cols cells (k + 1) := by
  intro i hi
  by_cases e : i = k
  · subst e; exact hk
  · exact h i (by omega)
theorem kindOk_at (cols : List Co) (cells : List El) (k : Nat) (h : k < cols.length) (h' : k < cells.length) : kindOk cols cells k = decide (cols[k].kind = cells[k].d.k) := by
  simp [kindOk, h, h']

set_option maxRecDepth 100000 in
set_option maxHeartbeats 2000000 in
theorem equalFunc_any (cols : List Co) (a : Option Addr) (c : Nat) (cells : List El) (a' : Option Addr) (c' : Nat) (w : World) (hr : ColIs w a cols) (hl : cols.length ≤ 140737488351232) (hr' : DeepIs w a' cells) (hl' : cells.length ≤ 140737488351232) :
    Calls Tryz.prog 30 #[.slice a cols.length c, .slice a' cells.length c', .func (.func 31) #[] #[]] w fun e w' => e = .returned (.bool (kindsB cols cells)) ∧ Below w.heap.size w w' := by
  by_cases hll : cols.length = cells.length
  · have HL := Lib.hid hll
    have e0 : ((cols.length : Int) != (cells.length : Int)) = false := by simp [hll]
    clear hll
    go_enter Tryz.func30, Tryz.ntmps30
    go_wp2
    go_loopw [17] (fun i wr => ∃ k : Nat, k ≤ cols.length ∧ i = .int .i64 k ∧ kindsTo cols cells k ∧ Below w.heap.size w wr) (fun i _ => cols.length - (intOf i).toNat)
    case atStart => exact ⟨0, Nat.zero_le _, rfl, fun i hi => absurd hi (by omega), Below.refl _ _⟩
    case round =>
      obtain ⟨k, hk, rfl, hto, hb⟩ := hrel
      have HTO := Lib.hid hto
      clear hto
      have hz := hb.size
      by_cases hlt : k < cols.length
      · have hlt' : k < cells.length := by have := HL.out; omega
        obtain ⟨b, off, rfl, g0, g1, hsz, hin⟩ := (hr.below hb).at_ k hlt
        obtain ⟨b', off', rfl, q0, q1, q2, q3, hda⟩ := (hr'.below hb).at_ k hlt'
        have HK := Lib.hid (kindOk_at cols cells k hlt hlt')
        have HNO := Lib.hid (kinds_no (cols := cols) (cells := cells) k hlt)
        have HYES := Lib.hid (fun h => kindsTo_succ (cols := cols) (cells := cells) HTO.out h)
        generalize cols[k].kind = kd at *
        generalize cols[k].name = nm at *
        generalize cells[k].d = d at *
        generalize cells[k].a = ca at *
        generalize cells[k].c = cc at *
        have q0' := cellA q0 (.cells #[.string nm, .int .i64 kd] 46)
        have q1' := cellA q1 (.cells #[.string nm, .int .i64 kd] 46)
        have q2' := cellA q2 (.cells #[.string nm, .int .i64 kd] 46)
        have q3' := cellA q3 (.cells #[.string nm, .int .i64 kd] 46)
        by_cases hkd : kd = d.k
        · have HF := Lib.hid (rowf_any nm kd d ca cc)
          rw [show decide (kd = d.k) = true by simpa using hkd] at HF HK
          clear hkd
          go_wp2_with fail
          refine (HF.out _).mono ?_
          rintro e w' ⟨rfl, hb'⟩
          go_wp2
          go_roundw
          case rel => exact ⟨k + 1, by omega, by go_num, HYES.out HK.out, (((hb.alloc hz _).alloc (by simp; omega) _).trans (hb'.mono (by simp; omega)))⟩
          case measure => simp [intOf]; omega
        · have HF := Lib.hid (rowf_any nm kd d ca cc)
          rw [show decide (kd = d.k) = false by simpa using hkd] at HF HK
          have HC := Lib.hid (HNO.out HK.out)
          clear hkd
          go_wp2_with fail
          refine (HF.out _).mono ?_
          rintro e w' ⟨rfl, hb'⟩
          go_wp2
          go_ret
          exact ⟨ret_bool HC.out.symm, (((hb.alloc hz _).alloc (by simp; omega) _).trans (hb'.mono (by simp; omega)))⟩
      · have HC := Lib.hid (kinds_yes k HL.out (by omega) HTO.out)
        go_wp2
        go_ret
        exact ⟨ret_bool HC.out.symm, hb⟩
  · have e0 : ((cols.length : Int) != (cells.length : Int)) = true := by simp; omega
    have HC := Lib.hid (kinds_len hll)
    clear hll
    go_enter Tryz.func30, Tryz.ntmps30
    go_wp2
    go_ret
    exact ⟨ret_bool HC.out.symm, Below.refl _ _⟩

theorem keepE_eq (cells : List El) : keepE cells = if keepB cells = true then 0 else 70 := rfl

set_option maxRecDepth 100000 in
set_option maxHeartbeats 2000000 in
theorem row_any (cols : List Co) (a : Option Addr) (c : Nat) (cells : List El) (a' : Option Addr) (c' : Nat) (w : World) (hr : ColIs w a cols) (hl : cols.length ≤ 140737488351232) (hr' : DeepIs w a' cells) (hl' : cells.length ≤ 140737488351232) (hG : GlobsM w) (h16 : 8 ≤ w.heap.size) :
    Calls Tryz.prog 13 #[.slice a cols.length c, .slice a' cells.length c'] w fun e w' => e = .returned (.int .i64 (rowE cols cells)) ∧ Below w.heap.size w w' := by
  have HC := Lib.hid (columns_any cols a c w hr hl)
  cases h1 : colsB cols with
  | false =>
    rw [show colE cols = 160 by simp [colE, h1]] at HC
    have HR := Lib.hid (show rowE cols cells = 160 by simp [rowE, h1])
    clear h1
    go_enter Tryz.func13, Tryz.ntmps13
    go_wp2_with (go_at_call 11; refine HC.out.mono ?_; rintro e w' ⟨rfl, hb1⟩)
    go_ret
    exact ⟨ret_int HR.out.symm, hb1⟩
  | true =>
    rw [show colE cols = 0 by simp [colE, h1]] at HC
    cases h2 : kindsB cols cells with
    | false =>
      have HR := Lib.hid (show rowE cols cells = 70 by simp [rowE, h1, rowB, h2])
      clear h1
      go_enter Tryz.func13, Tryz.ntmps13
      go_wp2_with fail
      refine HC.out.mono ?_
      rintro e w' ⟨rfl, hb1⟩
      go_wp2_with fail
      refine (equalFunc_any cols a c cells a' c' w' (hr.below hb1) hl (hr'.below hb1) hl').mono ?_
      rintro e w2 ⟨rfl, hb2⟩
      rw [h2]
      go_wp2
      go_ret
      exact ⟨ret_int HR.out.symm, hb1.trans (hb2.mono hb1.size)⟩
    | true =>
      have HR := Lib.hid (show rowE cols cells = keepE cells by simp [rowE, h1, rowB, h2, keepE])
      clear h1
      go_enter Tryz.func13, Tryz.ntmps13
      go_wp2_with fail
      refine HC.out.mono ?_
      rintro e w' ⟨rfl, hb1⟩
      go_wp2_with fail
      refine (equalFunc_any cols a c cells a' c' w' (hr.below hb1) hl (hr'.below hb1) hl').mono ?_
      rintro e w2 ⟨rfl, hb2⟩
      rw [h2]
      have hb12 := hb1.trans (hb2.mono hb1.size)
      go_wp2_with fail
      refine (hbytes_any cells a' c' w2 (hr'.below hb12) hl' (hG.below hb12) (by have := hb12.size; omega)).mono ?_
      rintro e w3 ⟨rfl, hb3⟩
      go_wp2
      go_ret
      exact ⟨ret_int HR.out.symm, hb12.trans (hb3.mono hb12.size)⟩
end Go.Proofs.YtdjlbfepddcmeaaGreatDoor

namespace Go.Proofs.YtdjlbfepddcmeaaGreatDoor
open Go.RowKit

theorem below_q {B : Nat} {w w1 : World} (h : Below B w w1) (n : Nat) (hB : B ≤ w1.heap.size) : Below B w (w1.drewN n) := h.trans ((below_drewNg _ _).mono hB)

set_option maxRecDepth 100000 in
set_option maxHeartbeats 2000000 in
theorem rrowb_any (cols : List Co) (a : Option Addr) (c : Nat) (cells : List El) (a' : Option Addr) (c' : Nat) (w : World) (hr : ColIs w a cols) (hl : cols.length ≤ 140737488351232) (hr' : DeepIs w a' cells) (hl' : cells.length ≤ 140737488351232) :
    Calls Tryz.prog 25 #[.slice a cols.length c, .slice a' cells.length c'] w fun e w' => e = .returned (.bool (rowB cols cells)) ∧ Below w.heap.size w w' := by
  by_cases hll : cols.length = cells.length
  · have HL := Lib.hid hll
    have e0 : ((cells.length : Int) != (cols.length : Int)) = false := by simp [hll]
    clear hll
    go_enter Tryz.func25, Tryz.ntmps25
    go_wp2
    go_loopw [5] (fun i wr => ∃ k : Nat, k ≤ cols.length ∧ i = .int .i64 k ∧ kindsTo cols cells k ∧ Below w.heap.size w wr) (fun i _ => cols.length - (intOf i).toNat)
    case atStart => exact ⟨0, Nat.zero_le _, rfl, fun i hi => absurd hi (by omega), Below.refl _ _⟩
    case round =>
      obtain ⟨k, hk, rfl, hto, hb⟩ := hrel
      have HTO := Lib.hid hto
      clear hto
      have hz := hb.size
      by_cases hlt : k < cols.length
      · have hlt' : k < cells.length := by have := HL.out; omega
        obtain ⟨b, off, rfl, g0, g1, hsz, hin⟩ := (hr.below hb).at_ k hlt
        obtain ⟨b', off', rfl, q0, q1, q2, q3, hda⟩ := (hr'.below hb).at_ k hlt'
        have HK := Lib.hid (kindOk_at cols cells k hlt hlt')
        have HNO := Lib.hid (kinds_no (cols := cols) (cells := cells) k hlt)
        have HYES := Lib.hid (fun h => kindsTo_succ (cols := cols) (cells := cells) HTO.out h)
        generalize cols[k].kind = kd at *
        generalize cols[k].name = nm at *
        generalize cells[k].d = d at *
        generalize cells[k].a = ca at *
        generalize cells[k].c = cc at *
        by_cases hkd : kd = d.k
        · have e5 : (d.k != kd) = false := by simp [hkd]
          rw [show decide (kd = d.k) = true by simpa using hkd] at HK
          clear hkd
          go_wp2
          go_quiet (fail)
          go_wp2
          go_roundw
          case rel => exact ⟨k + 1, by omega, by go_num, HYES.out HK.out, below_q hb _ hz⟩
          case measure => simp [intOf]; omega
        · have e5 : (d.k != kd) = true := by simp; exact fun h => hkd h.symm
          rw [show decide (kd = d.k) = false by simpa using hkd] at HK
          have HC := Lib.hid (show rowB cols cells = false by rw [rowB, HNO.out HK.out]; rfl)
          clear hkd
          go_wp2
          go_quiet (fail)
          go_wp2
          go_ret
          exact ⟨ret_bool HC.out.symm, below_q hb _ hz⟩
      · have HC := Lib.hid (show rowB cols cells = keepB cells by rw [rowB, kinds_yes k HL.out (by omega) HTO.out]; rfl)
        have e6 : decide (k < cells.length) = false := by have := HL.out; simp; omega
        cases hk : keepB cells with
        | true =>
          go_wp2_with fail
          refine (rhbytes_any cells a' c' wr (hr'.below hb) hl').mono ?_
          rintro e w' ⟨rfl, hb'⟩
          rw [show keepE cells = 0 by simp [keepE, hk]]
          go_wp2
          go_ret
          exact ⟨ret_bool (by rw [HC.out, hk]), hb.trans (hb'.mono hz)⟩
        | false =>
          go_wp2_with fail
          refine (rhbytes_any cells a' c' wr (hr'.below hb) hl').mono ?_
          rintro e w' ⟨rfl, hb'⟩
          rw [show keepE cells = 70 by simp [keepE, hk]]
          go_wp2
          go_ret
          exact ⟨ret_bool (by rw [HC.out, hk]), hb.trans (hb'.mono hz)⟩
  · have e0 : ((cells.length : Int) != (cols.length : Int)) = true := by simp; omega
    have HC := Lib.hid (show rowB cols cells = false by rw [rowB, kinds_len hll]; rfl)
    clear hll
    go_enter Tryz.func25, Tryz.ntmps25
    go_wp2
    go_ret
    exact ⟨ret_bool HC.out.symm, Below.refl _ _⟩

set_option maxHeartbeats 1000000 in
theorem rrow_any (cols : List Co) (a : Option Addr) (c : Nat) (cells : List El) (a' : Option Addr) (c' : Nat) (w : World) (hr : ColIs w a cols) (hl : cols.length ≤ 140737488351232) (hr' : DeepIs w a' cells) (hl' : cells.length ≤ 140737488351232) :
    Calls Tryz.prog 14 #[.slice a cols.length c, .slice a' cells.length c'] w fun e w' => e = .returned (.int .i64 (rowE cols cells)) ∧ Below w.heap.size w w' := by
  have HC := Lib.hid (rcolumns_any cols a c w hr hl)
  cases h1 : colsB cols with
  | false =>
    rw [show colE cols = 160 by simp [colE, h1]] at HC
    have HR := Lib.hid (show rowE cols cells = 160 by simp [rowE, h1])
    clear h1
    go_enter Tryz.func14, Tryz.ntmps14
    go_wp2_with (go_at_call 12; refine HC.out.mono ?_; rintro e w' ⟨rfl, hb1⟩)
    go_ret
    exact ⟨ret_int HR.out.symm, hb1⟩
  | true =>
    rw [show colE cols = 0 by simp [colE, h1]] at HC
    cases h2 : rowB cols cells with
    | false =>
      have HR := Lib.hid (show rowE cols cells = 70 by simp [rowE, h1, h2])
      clear h1
      go_enter Tryz.func14, Tryz.ntmps14
      go_wp2_with fail
      refine HC.out.mono ?_
      rintro e w' ⟨rfl, hb1⟩
      go_wp2_with fail
      refine (rrowb_any cols a c cells a' c' w' (hr.below hb1) hl (hr'.below hb1) hl').mono ?_
      rintro e w2 ⟨rfl, hb2⟩
      rw [h2]
      go_wp2
      go_ret
      exact ⟨ret_int HR.out.symm, hb1.trans (hb2.mono hb1.size)⟩
    | true =>
      have HR := Lib.hid (show rowE cols cells = 0 by simp [rowE, h1, h2])
      clear h1
      go_enter Tryz.func14, Tryz.ntmps14
      go_wp2_with fail
      refine HC.out.mono ?_
      rintro e w' ⟨rfl, hb1⟩
      go_wp2_with fail
      refine (rrowb_any cols a c cells a' c' w' (hr.below hb1) hl (hr'.below hb1) hl').mono ?_
      rintro e w2 ⟨rfl, hb2⟩
      rw [h2]
      go_wp2
      go_ret
      exact ⟨ret_int HR.out.symm, hb1.trans (hb2.mono hb1.size)⟩
end Go.Proofs.YtdjlbfepddcmeaaGreatDoor

namespace Go.Proofs.YtdjlbfepddcmeaaGreatDoor
open Go.RowKit

theorem suits_any (op kind col : Int) (w : World) :
    Calls Tryz.prog 57 #[.int .i64 op, .int .i64 kind, .int .i64 col] w fun e w' => e = .returned (.bool (suitsB op kind col)) ∧ w' = w := by
  by_cases h6 : op = 6
  · subst h6
    by_cases h3 : col = 3
    · by_cases k3 : kind = 3
      all_goals
        go_enter Tryz.func57, Tryz.ntmps57
        go_wp2
        go_ret
        exact ⟨ret_bool (by simp [suitsB, h3, k3]), rfl⟩
    · go_enter Tryz.func57, Tryz.ntmps57
      go_wp2
      go_ret
      exact ⟨ret_bool (by simp [suitsB, h3]), rfl⟩
  · by_cases h1 : op = 1
    · subst h1
      by_cases h3 : kind = col
      all_goals
        go_enter Tryz.func57, Tryz.ntmps57
        go_wp2
        go_ret
        exact ⟨ret_bool (by simp [suitsB, h3]), rfl⟩
    · by_cases h3 : kind = col
      · subst h3
        by_cases k3 : kind = 3
        all_goals
          have HS := Lib.hid (show suitsB op kind kind = !decide (kind = 3) by simp [suitsB, h6, h1])
          go_enter Tryz.func57, Tryz.ntmps57
          go_wp2
          go_ret
          exact ⟨ret_bool (by rw [HS.out]; simp [k3]), rfl⟩
      · have HS := Lib.hid (show suitsB op kind col = false by simp [suitsB, h6, h1, h3])
        go_enter Tryz.func57, Tryz.ntmps57
        go_wp2
        go_ret
        exact ⟨ret_bool HS.out.symm, rfl⟩

/-- A closure over parts: in every later world it answers 'p' of the part. -/
def PredPt (f : Nat) (lb : Array Value) (n : Nat) (ps : List PT) (p : PT → Bool) (w : World) : Prop :=
  ∀ (W : World) (x : PT) (a : Option Addr) (c : Nat) (pa : Option Addr) (pc : Nat), x ∈ ps → PredIs n W x a pa → Below w.heap.size w W → w.heap.size ≤ W.heap.size →
    Calls Tryz.prog f (#[pv x a c pa pc] ++ lb) W fun e w' => e = .returned (.bool (p x)) ∧ Below W.heap.size W w'

set_option maxHeartbeats 1000000 in
theorem indexFunc_pt (f : Nat) (lb : Array Value) (p : PT → Bool) (n : Nat) (l : List PT) (a : Option Addr) (c : Nat) (w : World) (hr : PartsIs n w a l) (hl : l.length ≤ 140737488351232)
    (hp : PredPt f lb n l p w) (eg : ∀ args w, (callFunc f args).run Tryz.prog w = .ok (.enter f args) w) :
    Calls Tryz.prog 66 #[.slice a l.length c, .func (.func f) #[] lb] w fun e w' => idxOr (l.any p) e ∧ Below w.heap.size w w' := by
  go_enter Tryz.func66, Tryz.ntmps66
  go_wp2
  go_loopw [5, 8] (fun _ i wr => ∃ j : Nat, j ≤ l.length ∧ i = .int .i64 j ∧ (l.take j).any p = false ∧ Below w.heap.size w wr) (fun _ i _ => l.length - (intOf i).toNat)
  case atStart => exact ⟨0, Nat.zero_le _, rfl, rfl, Below.refl _ _⟩
  case round =>
    obtain ⟨j, hj, rfl, hall, hb⟩ := hrel
    have HA := Lib.hid hall
    clear hall
    by_cases hlt : j < l.length
    · obtain ⟨b, off, rfl, a', c', pa', pc', hc, hpi⟩ := (hr.below hb).at_ j hlt
      obtain ⟨g0, g1, g2, g3, g4, g5, g6⟩ := hc
      have HM := Lib.hid (List.getElem_mem hlt)
      have HT := Lib.hid (any_take_succ l p j hlt)
      have HY := Lib.hid (any_true_of l p j hlt)
      have HP := Lib.hid hp
      have HPI := Lib.hid hpi
      clear hp hpi
      generalize l[j] = x at *
      cases hx : p x with
      | false =>
        have HC := Lib.hid (HP.out wr x a' c' pa' pc' HM.out HPI.out hb hb.size)
        rw [hx] at HC
        go_wp2_with fail
        refine HC.out.mono ?_
        rintro e w' ⟨rfl, hb'⟩
        go_wp2
        go_roundw
        case rel => exact ⟨j + 1, by omega, by go_num, by rw [HT.out, HA.out, hx]; rfl, hb.trans (hb'.mono hb.size)⟩
        case measure => simp [intOf]; omega
      | true =>
        have HC := Lib.hid (HP.out wr x a' c' pa' pc' HM.out HPI.out hb hb.size)
        rw [hx] at HC
        go_wp2_with fail
        refine HC.out.mono ?_
        rintro e w' ⟨rfl, hb'⟩
        go_wp2
        go_ret
        refine ⟨?_, hb.trans (hb'.mono hb.size)⟩
        rw [HY.out hx]
        exact ⟨j, by omega, rfl⟩
    · go_wp2
      go_ret
      refine ⟨?_, hb⟩
      have : l.any p = false := by rw [← HA.out, List.take_of_length_le (by omega)]
      rw [this]; rfl

theorem containsFunc_pt (f : Nat) (lb : Array Value) (p : PT → Bool) (n : Nat) (l : List PT) (a : Option Addr) (c : Nat) (w : World) (hr : PartsIs n w a l) (hl : l.length ≤ 140737488351232)
    (hp : PredPt f lb n l p w) (eg : ∀ args w, (callFunc f args).run Tryz.prog w = .ok (.enter f args) w) :
    Calls Tryz.prog 42 #[.slice a l.length c, .func (.func f) #[] lb] w fun e w' => e = .returned (.bool (l.any p)) ∧ Below w.heap.size w w' := by
  have HP := Lib.hid hp
  clear hp
  cases hq : l.any p with
  | true =>
    go_enter Tryz.func42, Tryz.ntmps42
    go_wp2_with fail
    refine (indexFunc_pt f lb p n l a c _ hr hl HP.out eg).mono ?_
    rintro e w' ⟨he, hb⟩
    rw [hq] at he
    obtain ⟨n, hn, rfl⟩ := he
    go_wp2
    go_ret
    exact ⟨ret_bool (by simp), hb⟩
  | false =>
    go_enter Tryz.func42, Tryz.ntmps42
    go_wp2_with fail
    refine (indexFunc_pt f lb p n l a c _ hr hl HP.out eg).mono ?_
    rintro e w' ⟨he, hb⟩
    rw [hq] at he
    obtain rfl : e = .returned (.int .i64 (-1)) := he
    go_wp2
    go_ret
    exact ⟨rfl, hb⟩
end Go.Proofs.YtdjlbfepddcmeaaGreatDoor
