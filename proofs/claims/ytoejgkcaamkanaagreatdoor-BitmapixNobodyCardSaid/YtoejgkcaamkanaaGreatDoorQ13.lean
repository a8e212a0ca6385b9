/- The addresses of a row of bits. A catalog, a tree, an action that nobody made. Whole rows (arrays by value): loads and stores as steps; in a drawn region too. Data as plain values, and how they lie in memory. A bitmap index that nobody made. (Printed by gennb.py.) -/
import Derived.Test.YtoejgkcaamkanaaGreatDoorQ12
import Derived.BigQuiet
import Derived.Test.YtoejgkcaamkanaaGreatDoorQ11
import Derived.Test.YtoejgkcaamkanaaGreatDoorQ01
import Derived.Deep.WholeRow
import Derived.Laws.Tables
import Derived.Laws.Rows
import Derived.Deep.RegionHeld3
import Derived.Deep.RegionLaw
import Derived.Test.YtoejgkcaamkanaaGreatDoorChecked
import Derived.WalkKit
import Derived.WalkLawsBesides
import Derived.WalkSpells
import Derived.Outline
import Derived.Handy
import Derived.Deep.QuietTactic
import Derived.BigRegion
import Derived.Deep.Light
import Derived.Lib.Strings
import Derived.Lib.Hide
set_option linter.unusedVariables false
set_option linter.unusedSimpArgs false
namespace Go.Proofs.YtoejgkcaamkanaaGreatDoor
open Go.RowKit

def bitAt (v : ByteArray) (k : Nat) : Bool := (v.data.toList.getD (k / 8) 0).toNat / 2 ^ (k % 8) % 2 == 1
def baseT (key : ByteArray) : Nat := ((key.data.toList.getD (key.size - 2) 0).toNat * 256 + (key.data.toList.getD (key.size - 1) 0).toNat) * 256
def tidsN (x : KV) (n : Nat) : List Int := ((List.range n).filter (bitAt x.v)).map (fun k => ((baseT x.k + k : Nat) : Int))
def tidsL (x : KV) : List Int := tidsN x 256
theorem tidsN_succ (x : KV) (n : Nat) : tidsN x (n + 1) = tidsN x n ++ (if bitAt x.v n then [((baseT x.k + n : Nat) : Int)] else []) := by
  unfold tidsN
  rw [List.range_succ, List.filter_append, List.map_append]
  congr 1
  by_cases h : bitAt x.v n = true
  · simp [h]
  · simp [h]
theorem tidsN_len (x : KV) (n : Nat) : (tidsN x n).length ≤ n := by
  unfold tidsN
  rw [List.length_map]
  exact Nat.le_trans (List.length_filter_le _ _) (by simp)
theorem or_num2 (x0 x1 : UInt8) : bits .or .i64 ((x0.toNat : Int) * 256) (x1.toNat : Int) = ((x0.toNat * 256 + x1.toNat : Nat) : Int) := by
  have b0 := x0.toNat_lt
  have b1 := x1.toNat_lt
  generalize x0.toNat = a at *
  generalize x1.toNat = b at *
  rw [show (a : Int) * 256 = ((a * 256 : Nat) : Int) by omega, i64_or _ _ (by omega) (by omega)]
  have := Nat.two_pow_add_eq_or_of_lt (i := 8) (b := b) (by omega) a
  rw [show a * 256 = 2 ^ 8 * a by omega, ← this]
theorem getD_of_lt (s : ByteArray) (i : Nat) (h : i < s.size) : s.data.toList.getD i 0 = s[i] := by
  rw [List.getD_eq_getElem?_getD]
  have hl : i < s.data.toList.length := by simpa using h
  rw [List.getElem?_eq_getElem hl]
  simp
  rfl

theorem baseT_lt (key : ByteArray) : baseT key < 16777216 := by
  unfold baseT
  have b0 := (key.data.toList.getD (key.size - 2) 0).toNat_lt
  have b1 := (key.data.toList.getD (key.size - 1) 0).toNat_lt
  omega
theorem u8_and1 (a : Nat) (ha : a < 256) : bits .and .u8 (a : Int) 1 = ((a % 2 : Nat) : Int) := by
  revert ha
  revert a
  decide +kernel
theorem bit_test (v : ByteArray) (k : Nat) (h : k / 8 < v.size) : (bits .and .u8 ((v[k / 8].toNat : Int) / 2 ^ (k % 8)) 1 == 1) = bitAt v k := by
  have b0 := v[k / 8].toNat_lt
  unfold bitAt
  rw [getD_of_lt _ _ h]
  generalize v[k / 8].toNat = a at *
  have e : ((a : Int) / 2 ^ (k % 8)) = ((a / 2 ^ (k % 8) : Nat) : Int) := by
    rw [Int.natCast_ediv]
    congr 1
  have hlt : a / 2 ^ (k % 8) < 256 := Nat.lt_of_le_of_lt (Nat.div_le_self _ _) b0
  rw [e, u8_and1 _ hlt]
  generalize a / 2 ^ (k % 8) % 2 = q
  by_cases h : q = 1
  · subst h; rfl
  · have h' : ¬ ((q : Nat) : Int) = 1 := by omega
    rw [beq_eq_false_iff_ne.2 h', beq_eq_false_iff_ne.2 h]

set_option maxRecDepth 100000 in
set_option maxHeartbeats 4000000 in
theorem tids_any (x : KV) (w : World) (h2 : 2 ≤ x.k.size) (hk96 : x.k.size ≤ 96) (h32 : x.v.size = 32) :
    Calls Tryz.prog 45 #[.agg #[.string x.k, .string x.v]] w fun e w' => ∃ v, e = .returned v ∧ nuRows w' (w.heap.size + 1) v ((tidsL x).map Nu.mk) ∧ Below w.heap.size w w' := by
  have hx := hnew w (itemO x)
  have hb0 : Below w.heap.size w (w.alloc (itemO x)) := by go_grown
  obtain ⟨c0, c1⟩ := xcells hx
  obtain ⟨m, hm⟩ : ∃ m : Nat, x.k.size = m + 2 := ⟨x.k.size - 2, by omega⟩
  have i0 : (0 : Int) ≤ (m : Int) := by omega
  have i1 : (m : Int) < (m : Int) + 2 := by omega
  have i2 : (m : Int) + 1 < (m : Int) + 2 := by omega
  have i3 : (0 : Int) ≤ (m : Int) + 1 := by omega
  have iw0 : IntKind.i64.wrap (m : Int) = (m : Int) := by rw [IntKind.wrap_i64]; omega
  have iw1 : IntKind.i64.wrap ((m : Int) + 2 - 1) = (m : Int) + 1 := by rw [IntKind.wrap_i64]; omega
  have hbase : wrap64 (bits .or .i64 (wrap64 (wrap64 (x.k[m].toNat : Int) * 256)) (wrap64 (x.k[m + 1].toNat : Int)) * 256) = ((baseT x.k : Nat) : Int) := by
    have b0 := x.k[m].toNat_lt
    have b1 := x.k[m + 1].toNat_lt
    have e0 : wrap64 (x.k[m].toNat : Int) = (x.k[m].toNat : Int) := by unfold wrap64; omega
    have e1 : wrap64 (x.k[m + 1].toNat : Int) = (x.k[m + 1].toNat : Int) := by unfold wrap64; omega
    have e2 : wrap64 ((x.k[m].toNat : Int) * 256) = (x.k[m].toNat : Int) * 256 := by unfold wrap64; omega
    rw [e0, e1, e2, or_num2]
    have e3 : baseT x.k = (x.k[m].toNat * 256 + x.k[m + 1].toNat) * 256 := by
      unfold baseT
      rw [getD_of_lt _ _ (by omega), getD_of_lt _ _ (by omega)]
      simp only [hm]
      rfl
    rw [e3]
    unfold wrap64
    omega
  have HBs := Lib.hid hbase
  clear hbase
  have H := Lib.hid (And.intro hx hb0)
  clear hx hb0
  go_enter Tryz.func45, Tryz.ntmps45
  go_wp2
  go_quiet (fail)
  rw [HBs.out]
  have hx0 : ((w.alloc (itemO x)).drewN nq).heap[w.heap.size]? = some (itemO x) := H.out.1
  have hb0 : Below w.heap.size w ((w.alloc (itemO x)).drewN nq) := ⟨H.out.2.os, H.out.2.tape, H.out.2.output, H.out.2.size, H.out.2.block⟩
  obtain ⟨b0, hb0'⟩ : ∃ b, baseT x.k = b := ⟨_, rfl⟩
  rw [hb0']
  have HBT := Lib.hid hb0'
  clear hb0' iw0 iw1 c0 c1
  have H0 := Lib.hid (And.intro hx0 hb0)
  clear hx0 hb0
  go_wp2
  go_loopw [25, 5] (fun i v wr => ∃ k : Nat, k ≤ 256 ∧ i = .int .i64 k ∧ nuRows wr (w.heap.size + 1) v ((tidsN x k).map Nu.mk) ∧ wr.heap[w.heap.size]? = some (itemO x) ∧ Below w.heap.size w wr) (fun i _ _ => 256 - (intOf i).toNat)
  case atStart => exact ⟨0, by omega, rfl, nuRows.nil _ _, H0.out.1, H0.out.2⟩
  case round =>
    obtain ⟨k, hk, rfl, hrow, hbx, hbw⟩ := hrel
    clear H0 H HBs
    by_cases hlt : k < 256
    · have hk2 : (k : Int) < 256 := by omega
      have hq0 : (0 : Int) ≤ (k : Int) / 8 := by omega
      have hq1 : (k : Int) / 8 < 32 := by omega
      have hwr : wrap64 ((b0 : Int) + (k : Int)) = (b0 : Int) + (k : Int) := by
        have := baseT_lt x.k
        rw [HBT.out] at this
        unfold wrap64
        omega
      obtain ⟨c0, c1⟩ := xcells hbx
      obtain ⟨A, cp, hv⟩ := hrow.slice
      rw [List.length_map] at hv
      subst hv
      have hsz := hbw.size
      have hlt0 : w.heap.size < wr.heap.size := (Array.getElem?_eq_some_iff.1 hbx).1
      have HRow := Lib.hid (show nuRows (wr.alloc (nuO ⟨(b0 : Int) + (k : Int)⟩)) (w.heap.size + 1) (.slice A (tidsN x k).length cp) ((tidsN x k).map Nu.mk) from World.ownsRow.alloc hrow _)
      have HCell := Lib.hid (show (wr.alloc (nuO ⟨(b0 : Int) + (k : Int)⟩)).cell? ⟨wr.heap.size, 0, none⟩ = some (.int .i64 ((b0 : Int) + (k : Int))) by go_simp)
      have HLen := Lib.hid (show ((tidsN x k).map Nu.mk).length ≤ 1099511627776 by rw [List.length_map]; have := tidsN_len x k; omega)
      have HR := Lib.hid (And.intro hrow (And.intro hbx hbw))
      have HG := Lib.hid (show ∀ (w8 : World) {row : Option Nat}, (wr.alloc (nuO ⟨(b0 : Int) + (k : Int)⟩)).grownBy w8 row → row = (Value.slice A (tidsN x k).length cp).ownBlock → w8.heap[w.heap.size]? = some (itemO x) ∧ Below w.heap.size w w8 by
        intro w8 row hg hrw
        subst hrw
        have hne : ∀ j, j < w.heap.size + 1 → some j ≠ (Value.slice A (tidsN x k).length cp).ownBlock := fun j hj e => by
          have := (World.ownsRow.lt HRow.out j e.symm).1
          omega
        have hba : Below wr.heap.size wr (wr.alloc (nuO ⟨(b0 : Int) + (k : Int)⟩)) := by go_grown
        have hsa : (wr.alloc (nuO ⟨(b0 : Int) + (k : Int)⟩)).heap.size = wr.heap.size + 1 := by simp
        refine ⟨(hg.block _ (by omega) (hne _ (by omega))).trans ((hba.block _ hlt0).trans hbx), ?_⟩
        exact ⟨hg.os.trans (hba.os.trans hbw.os), hg.tape.trans (hba.tape.trans hbw.tape), hg.output.trans (hba.output.trans hbw.output), by have := hg.size; omega, fun j hj => (hg.block j (by omega) (hne j (by omega))).trans ((hba.block j (by omega)).trans (hbw.block j hj))⟩)
      have hbt := bit_test x.v k (by omega)
      cases hb : bitAt x.v k with
      | true =>
        rw [hb] at hbt
        have HE := Lib.hid (show (tidsN x k).map Nu.mk ++ [⟨(b0 : Int) + (k : Int)⟩] = (tidsN x (k + 1)).map Nu.mk by
          rw [tidsN_succ, hb, HBT.out]
          simp)
        clear hrow hbx hbw hb
        go_wp2_with (at_builtin; refine wp_appnu rfl _ _ rfl (w.heap.size + 1) _ ((tidsN x k).map Nu.mk) rfl HRow.out ⟨(b0 : Int) + (k : Int)⟩ wr.heap.size 1 rfl HCell.out HLen.out (by simp; omega) ?_; intro g cap w8 hr8 hg8 hat8; have h8 := HG.out _ hg8 rfl; have H8 := Lib.hid (And.intro hr8 h8); clear hr8 hg8 hat8 h8)
        go_roundw
        case rel => exact ⟨k + 1, by omega, by go_num, by rw [← HE.out]; simpa using H8.out.1, H8.out.2.1, H8.out.2.2⟩
        case measure => simp [intOf]; omega
      | false =>
        rw [hb] at hbt
        have HE := Lib.hid (show (tidsN x k).map Nu.mk = (tidsN x (k + 1)).map Nu.mk by
          rw [tidsN_succ, hb]
          simp)
        clear hrow hbx hbw hb
        go_wp2
        go_roundw
        case rel => exact ⟨k + 1, by omega, by go_num, by rw [← HE.out]; exact HR.out.1, HR.out.2.1, HR.out.2.2⟩
        case measure => simp [intOf]; omega
    · have hk2 : k = 256 := by omega
      subst hk2
      have HR := Lib.hid (And.intro hrow hbw)
      clear hrow hbx hbw
      go_wp2
      go_ret
      exact ⟨_, rfl, HR.out.1, HR.out.2⟩
end Go.Proofs.YtoejgkcaamkanaaGreatDoor

namespace Go.Proofs.YtoejgkcaamkanaaGreatDoor
open Go.RowKit

theorem goingA_nil (w : World) : Calls Tryz.prog 100 #[.pointer none] w fun e w' => e = .returned (.int .i64 1) ∧ w' = w := by
  go_enter Tryz.func100, Tryz.ntmps100
  go_wp2
  go_ret
  exact ⟨rfl, rfl⟩
theorem rootA_nil (k : Int) (w : World) : Calls Tryz.prog 52 #[.pointer none, .int .i64 k] w fun e w' => e = .returned (.tuple #[.int .i64 0, .int .i64 1]) ∧ w' = w := by
  have H := Lib.hid (goingA_nil w)
  go_enter Tryz.func52, Tryz.ntmps52
  go_wp2_with fail
  refine H.out.mono ?_
  rintro e w1 ⟨rfl, rfl⟩
  go_wp2
  go_ret2
  exact ⟨rfl, rfl⟩
theorem treeNew_nil (k : Int) (w : World) : Calls Tryz.prog 36 #[.pointer none, .int .i64 k] w fun e w' => e = .returned (.tuple #[.pointer none, .int .i64 1]) ∧ w' = w := by
  have H := Lib.hid (rootA_nil k w)
  go_enter Tryz.func36, Tryz.ntmps36
  go_wp2_with fail
  refine H.out.mono ?_
  rintro e w1 ⟨rfl, rfl⟩
  go_wp2
  go_ret2
  exact ⟨rfl, rfl⟩
theorem top_nil (w : World) : Calls Tryz.prog 89 #[.pointer none] w fun e w' => e = .returned (.tuple #[.int .i64 0, .int .i64 1]) ∧ w' = w := by
  go_enter Tryz.func89, Tryz.ntmps89
  go_wp2
  go_ret2
  exact ⟨rfl, rfl⟩
theorem Get_nil (s : ByteArray) (w : World) : Calls Tryz.prog 88 #[.pointer none, .string s] w fun e w' => e = .returned (.tuple #[.string ⟨#[]⟩, .int .i64 1]) ∧ w' = w := by
  have H := Lib.hid (top_nil w)
  go_enter Tryz.func88, Tryz.ntmps88
  go_wp2_with fail
  refine H.out.mono ?_
  rintro e w1 ⟨rfl, rfl⟩
  go_wp2
  go_ret2
  exact ⟨rfl, rfl⟩
end Go.Proofs.YtoejgkcaamkanaaGreatDoor

namespace Go.Proofs.YtoejgkcaamkanaaGreatDoor
open Go.RowKit

section
variable {P : Program} {ops : Array Oper} {rest : List Oper} {o : Oper} {a : Act} {K : Act → World → Prop} {Q : Exit → Act → World → Prop} {E : Prop} {W : World}
theorem wp_loadRow (t : TypeId) (p : Operand) (ho : o.op = .load t p) (g : Nat) (c : Array Value) (fr : Nat × Nat) (hp : a.eval p = .pointer (some ⟨g, 0, none⟩)) (hb : W.heap[g]? = some (.cells c t fr))
    (n : Nat) (e : TypeId) (hu : P.underlying t = some (.array n e)) (hi : (P.info? t).map (·.size) = some c.size) (h : K (a.put o.dst (.agg c)) W) : Oper.wp P o a W K Q := by
  have hr := run_loadVar_row (P := P) W g t t c fr _ hb hu rfl hi
  unfold Oper.wp execOp
  simp only [ho, hp, Instr.loadAt, Instr.sureAddr, Sem.run_bind, Sem.run_pure, Result.andThen_ok, hr]
  exact h
theorem wp_storeRow (t : TypeId) (p x : Operand) (ho : o.op = .store t p x) (g : Nat) (old c : Array Value) (hp : a.eval p = .pointer (some ⟨g, 0, none⟩)) (hx : a.eval x = .agg c) (hb : W.heap[g]? = some (.cells old t (0, 0)))
    (hi : (P.info? t).map (·.size) = some c.size) (hs : old.size = c.size) (h1 : c.all (·.oneCell') = true) (h : K (a.put o.dst undef) (W.setRow g c)) : Oper.wp P o a W K Q := by
  have hr := run_storeVar_row (P := P) W g t t old c hb hi hs h1
  unfold Oper.wp execOp
  simp only [ho, hp, hx, Instr.storeAt, Instr.sureAddr, Sem.run_bind, Sem.run_pure, Result.andThen_ok, hr]
  first | exact h | (rw [Oper.upon_skip]; exact h)
theorem step_loadRow (hgd : o.guard = none) (t : TypeId) (p : Operand) (ho : o.op = .load t p) (g : Nat) (c : Array Value) (fr : Nat × Nat) (hp : a.eval p = .pointer (some ⟨g, 0, none⟩)) (hb : W.heap[g]? = some (.cells c t fr))
    (n : Nat) (e : TypeId) (hu : P.underlying t = some (.array n e)) (hi : (P.info? t).map (·.size) = some c.size) (h : K (a.put o.dst (.agg c)) W) : if Region.wanted o (yielded ops a.tmps) = true then Oper.wp P o a W K Q else E := by
  have hw : Region.wanted o (yielded ops a.tmps) = true := by simp [Region.wanted, hgd]
  rw [if_pos hw]
  exact wp_loadRow t p ho g c fr hp hb n e hu hi h
theorem step_storeRow (hgd : o.guard = none) (t : TypeId) (p x : Operand) (ho : o.op = .store t p x) (g : Nat) (old c : Array Value) (hp : a.eval p = .pointer (some ⟨g, 0, none⟩)) (hx : a.eval x = .agg c) (hb : W.heap[g]? = some (.cells old t (0, 0)))
    (hi : (P.info? t).map (·.size) = some c.size) (hs : old.size = c.size) (h1 : c.all (·.oneCell') = true) (h : K (a.put o.dst undef) (W.setRow g c)) : if Region.wanted o (yielded ops a.tmps) = true then Oper.wp P o a W K Q else E := by
  have hw : Region.wanted o (yielded ops a.tmps) = true := by simp [Region.wanted, hgd]
  rw [if_pos hw]
  exact wp_storeRow t p x ho g old c hp hx hb hi hs h1 h
theorem wpList_loadRow (hgd : o.guard = none) (t : TypeId) (p : Operand) (ho : o.op = .load t p) (g : Nat) (c : Array Value) (fr : Nat × Nat) (hp : a.eval p = .pointer (some ⟨g, 0, none⟩)) (hb : W.heap[g]? = some (.cells c t fr))
    (n : Nat) (e : TypeId) (hu : P.underlying t = some (.array n e)) (hi : (P.info? t).map (·.size) = some c.size) (h : wpList P ops Q rest (a.put o.dst (.agg c)) W) : wpList P ops Q (o :: rest) a W :=
  wpList_plain hgd fun _ hK => wp_loadRow t p ho g c fr hp hb n e hu hi (hK _ _ h)
theorem wpList_storeRow (hgd : o.guard = none) (t : TypeId) (p x : Operand) (ho : o.op = .store t p x) (g : Nat) (old c : Array Value) (hp : a.eval p = .pointer (some ⟨g, 0, none⟩)) (hx : a.eval x = .agg c) (hb : W.heap[g]? = some (.cells old t (0, 0)))
    (hi : (P.info? t).map (·.size) = some c.size) (hs : old.size = c.size) (h1 : c.all (·.oneCell') = true) (h : wpList P ops Q rest (a.put o.dst undef) (W.setRow g c)) : wpList P ops Q (o :: rest) a W :=
  wpList_plain hgd fun _ hK => wp_storeRow t p x ho g old c hp hx hb hi hs h1 (hK _ _ h)
/-- A whole row into the block that was made last. -/
theorem wpList_storeNew {w1 : World} (hgd : o.guard = none) (t : TypeId) (p x : Operand) (ho : o.op = .store t p x) (old c : Array Value) (hp : a.eval p = .pointer (some ⟨w1.heap.size, 0, none⟩)) (hx : a.eval x = .agg c)
    (hi : (P.info? t).map (·.size) = some c.size) (hs : old.size = c.size) (h1 : c.all (·.oneCell') = true) (h : wpList P ops Q rest (a.put o.dst undef) (w1.alloc (.cells c t))) : wpList P ops Q (o :: rest) a (w1.alloc (.cells old t)) :=
  wpList_storeRow hgd t p x ho w1.heap.size old c hp hx (heap_alloc_last w1 _) hi hs h1 (by rw [World.setRow_alloc_new]; exact h)
end
theorem results_trt {P : Program} {fn : Func} {p u x : Tmp} {t : TypeId} (h : fn.results = #[.tmp p, .cell u t, .tmp x]) {tmps : Array Value} {w : World} {g : Nat} {c : Array Value} {fr : Nat × Nat} (hg : tmps.getD u undef = .pointer (some ⟨g, 0, none⟩)) (hb : w.heap[g]? = some (.cells c t fr))
    (n : Nat) (e : TypeId) (hu : P.underlying t = some (.array n e)) (hi : (P.info? t).map (·.size) = some c.size) :
    (results fn tmps).run P w = .ok (.tuple #[tmps.getD p undef, .agg c, tmps.getD x undef]) w := by
  have hr := run_loadVar_row (P := P) w g t t c fr _ hb hu rfl hi
  simp only [results, h]
  simp [Sem.run_bind, Result.andThen]
  rw [show tmps[u]?.getD undef = tmps.getD u undef by simp, hg]
  simp [asAddr, Result.andThen, hr]
theorem setRow_off (w : World) (g : Nat) (c : Array Value) : Off (· = g) w (w.setRow g c) := by
  refine ⟨rfl, rfl, rfl, by simp [World.setRow], fun k hk hne => ?_⟩
  have hne' : ¬ g = k := fun e => hne e.symm
  simp only [World.setRow, Array.getElem?_modify]
  rw [if_neg hne']
theorem setRow_below {w w1 : World} (h : Below w.heap.size w w1) (g : Nat) (hg : w.heap.size ≤ g) (c : Array Value) : Below w.heap.size w (w1.setRow g c) :=
  have ho := setRow_off w1 g c
  ⟨ho.os.trans h.os, ho.tape.trans h.tape, ho.output.trans h.output, Nat.le_trans h.size ho.size, fun k hk => (ho.block k (Nat.lt_of_lt_of_le hk h.size) (fun e => by have e' : k = g := e; omega)).trans (h.block k hk)⟩
end Go.Proofs.YtoejgkcaamkanaaGreatDoor

namespace Go.Proofs.YtoejgkcaamkanaaGreatDoor
open Go.RowKit

/-- A datum as a value. -/
abbrev dv (k n : Int) (s : ByteArray) (a : Option Addr) (l c : Nat) : Value := .agg #[.int .i64 k, .int .i64 n, .string s, .slice a l c]

/-- An item of a list: of its own list the length alone. -/
structure It where
  k : Int
  n : Int
  s : ByteArray
  ln : Nat

structure Da where
  k : Int
  n : Int
  s : ByteArray
  l : List It

/-- A number of 64 bits. -/
def In64 (n : Int) : Prop := -9223372036854775808 ≤ n ∧ n ≤ 9223372036854775807

/-- Items in a row, four cells each. -/
def RowIs (w : World) (a : Option Addr) (l : List It) : Prop :=
  l = [] ∨ ∃ b off, a = some ⟨b, off, none⟩ ∧ ∀ i (h : i < l.length),
    w.cell? ⟨b, off + i * 4, none⟩ = some (.int .i64 l[i].k) ∧ w.cell? ⟨b, off + i * 4 + 1, none⟩ = some (.int .i64 l[i].n) ∧
    w.cell? ⟨b, off + i * 4 + 2, none⟩ = some (.string l[i].s) ∧ (∃ a' c', w.cell? ⟨b, off + i * 4 + 3, none⟩ = some (.slice a' l[i].ln c')) ∧ l[i].ln ≤ 140737488351232 ∧ l[i].s.size ≤ 140737488351232 ∧ In64 l[i].n

theorem RowIs.below {w w1 : World} {a : Option Addr} {l : List It} (h : RowIs w a l) (hb : Below w.heap.size w w1) : RowIs w1 a l := by
  rcases h with h | ⟨b, off, ha, h⟩
  · exact .inl h
  · refine .inr ⟨b, off, ha, fun i hi => ?_⟩
    obtain ⟨h0, h1, h2, ⟨a', c', h3⟩, h4⟩ := h i hi
    exact ⟨(hb.cell (World.block_lt_of_cell? w _ h0)).trans h0, (hb.cell (World.block_lt_of_cell? w _ h1)).trans h1,
      (hb.cell (World.block_lt_of_cell? w _ h2)).trans h2, ⟨a', c', (hb.cell (World.block_lt_of_cell? w _ h3)).trans h3⟩, h4⟩

theorem RowIs.at_ {w : World} {a : Option Addr} {l : List It} (h : RowIs w a l) (k : Nat) (hk : k < l.length) :
    ∃ b off a' c', a = some ⟨b, off, none⟩ ∧ w.cell? ⟨b, off + k * 4, none⟩ = some (.int .i64 l[k].k) ∧ w.cell? ⟨b, off + k * 4 + 1, none⟩ = some (.int .i64 l[k].n) ∧
    w.cell? ⟨b, off + k * 4 + 2, none⟩ = some (.string l[k].s) ∧ w.cell? ⟨b, off + k * 4 + 3, none⟩ = some (.slice a' l[k].ln c') ∧ l[k].ln ≤ 140737488351232 ∧ l[k].s.size ≤ 140737488351232 ∧ In64 l[k].n := by
  rcases h with h | ⟨b, off, ha, h⟩
  · subst h; simp at hk
  · obtain ⟨h0, h1, h2, ⟨a', c', h3⟩, h4⟩ := h k hk
    exact ⟨b, off, a', c', ha, h0, h1, h2, h3, h4⟩

def simpleB (k n : Int) (s : ByteArray) (l : Nat) : Bool := decide (l = 0) && ((decide (k = 1) && s.toList.isEmpty) || (decide (k = 2) && decide (n = 0) && decide (s.size ≤ 32)))

def It.may (x : It) : Bool := simpleB x.k x.n x.s x.ln

/-- May a datum be? -/
def Da.may (d : Da) : Bool :=
  if d.k = 3 then decide (d.n = 0) && d.s.toList.isEmpty && decide (d.l.length ≤ 8) && d.l.all It.may else simpleB d.k d.n d.s d.l.length

theorem bcell {W w1 : World} (hb : Below W.heap.size W w1) : (∀ b o, b < W.heap.size → w1.cell? ⟨b, o, none⟩ = W.cell? ⟨b, o, none⟩) ∧ (∀ b o, b < W.heap.size → w1.frozen? ⟨b, o, none⟩ = W.frozen? ⟨b, o, none⟩) :=
  ⟨fun b o h => hb.cell (p := ⟨b, o, none⟩) h, fun b o h => hb.frozen (p := ⟨b, o, none⟩) h⟩

theorem ret_val {a b : Value} (h : a = b) : Ending.returned a = .returned b := by rw [h]
theorem ret_bool {a b : Bool} (h : a = b) : Ending.returned (.bool a) = .returned (.bool b) := by rw [h]
theorem ret_int {k : IntKind} {a b : Int} (h : a = b) : Ending.returned (.int k a) = .returned (.int k b) := by rw [h]
theorem ret_str {a b : ByteArray} (h : a = b) : Ending.returned (.string a) = .returned (.string b) := by rw [h]

theorem isEmpty_of {s : ByteArray} (h : s.toList = []) : s = ⟨#[]⟩ := by
  rw [Go.Lib.toList_data] at h
  obtain ⟨d⟩ := s
  simp at h
  subst h; rfl

theorem all_take_succ {α : Type} (l : List α) (p : α → Bool) (k : Nat) (h : k < l.length) : (l.take (k + 1)).all p = ((l.take k).all p && p l[k]) := by
  rw [List.take_succ_eq_append_getElem h, List.all_append]; simp

theorem all_false_of {α : Type} (l : List α) (p : α → Bool) (k : Nat) (h : k < l.length) (hp : p l[k] = false) : l.all p = false := by
  rw [List.all_eq_false]; exact ⟨_, List.getElem_mem h, by simp [hp]⟩

theorem may_list {l : List It} (h8 : l.length ≤ 8) (s : ByteArray) (hs : s.toList = []) : (Da.mk 3 0 s l).may = l.all It.may := by
  simp [Da.may, hs, h8]
theorem may_long {l : List It} (h8 : ¬ l.length ≤ 8) (n : Int) (s : ByteArray) : (Da.mk 3 n s l).may = false := by
  simp [Da.may, h8]

end Go.Proofs.YtoejgkcaamkanaaGreatDoor

namespace Go.Proofs.YtoejgkcaamkanaaGreatDoor
open Go.RowKit

abbrev env (k n : Int) (s : ByteArray) (a : Option Addr) (l c : Nat) (t : Int) : Value := .agg #[.int .i64 k, .int .i64 n, .string s, .slice a l c, .int .i64 t]
abbrev noBmO : Obj := .cells #[.pointer none] 59
def NoBm (w : World) (c : Value) : Prop := c = .pointer none ∨ ∃ g, c = .pointer (some ⟨g, 0, none⟩) ∧ w.heap[g]? = some noBmO
theorem NoBm.below {w w' : World} {c : Value} (h : NoBm w c) (hb : Below w.heap.size w w') : NoBm w' c := by
  rcases h with h | ⟨g, hg, hh⟩
  · exact .inl h
  · exact .inr ⟨g, hg, (hb.block g (Array.getElem?_eq_some_iff.1 hh).1).trans hh⟩
theorem noBmGoing {w : World} {c : Value} (h : NoBm w c) : Calls Tryz.prog 40 #[c] w fun e w' => e = .returned (.int .i64 1) ∧ w' = w := by
  rcases h with rfl | ⟨g, rfl, hg⟩
  · go_enter Tryz.func40, Tryz.ntmps40
    go_wp2
    go_ret
    exact ⟨rfl, rfl⟩
  · have c0 : w.cell? ⟨g, 0, none⟩ = some (.pointer none) := by unfold World.cell?; rw [hg]; rfl
    have H := Lib.hid (Get_nil ⟨#[120]⟩ w)
    clear hg
    go_enter Tryz.func40, Tryz.ntmps40
    go_wp2_with fail
    refine H.out.mono ?_
    rintro e w1 ⟨rfl, rfl⟩
    go_wp2
    go_ret
    exact ⟨rfl, rfl⟩

abbrev enO (k n : Int) (s : ByteArray) (a : Option Addr) (l c : Nat) (t : Int) : Obj := .cells #[.int .i64 k, .int .i64 n, .string s, .slice a l c, .int .i64 t] 37
abbrev z32 : Array Value := #[.int .u8 0, .int .u8 0, .int .u8 0, .int .u8 0, .int .u8 0, .int .u8 0, .int .u8 0, .int .u8 0, .int .u8 0, .int .u8 0, .int .u8 0, .int .u8 0, .int .u8 0, .int .u8 0, .int .u8 0, .int .u8 0, .int .u8 0, .int .u8 0, .int .u8 0, .int .u8 0, .int .u8 0, .int .u8 0, .int .u8 0, .int .u8 0, .int .u8 0, .int .u8 0, .int .u8 0, .int .u8 0, .int .u8 0, .int .u8 0, .int .u8 0, .int .u8 0]
set_option maxRecDepth 100000 in
set_option maxHeartbeats 4000000 in
theorem noBmPlace {w : World} {v : Value} (h : NoBm w v) (k n : Int) (s : ByteArray) (a : Option Addr) (l c : Nat) (t : Int) :
    Calls Tryz.prog 37 #[v, env k n s a l c t] w fun e w' => e = .returned (.tuple #[.string ⟨#[]⟩, .agg z32, .int .i64 1]) ∧ Below w.heap.size w w' := by
  have hb : Below w.heap.size w (((w.alloc (enO k n s a l c t)).alloc (.cells z32 77)).alloc (.cells z32 77)) := by go_grown
  have H := Lib.hid (And.intro (noBmGoing (h.below hb)) hb)
  clear hb
  go_enter Tryz.func37, Tryz.ntmps37
  go_wp2_with fail
  refine H.out.1.mono ?_
  rintro e w1 ⟨rfl, rfl⟩
  go_wp2
  obtain ⟨W, hW⟩ : ∃ W, W = (((w.alloc (enO k n s a l c t)).alloc (.cells z32 77)).alloc (.cells z32 77)) := ⟨_, rfl⟩
  have hS : W.heap[w.heap.size + 1]? = some (.cells z32 77) ∧ W.heap[w.heap.size + 1 + 1]? = some (.cells z32 77) := by
    have h1 := hnew (w.alloc (enO k n s a l c t)) (.cells z32 77)
    have h2 := hnew ((w.alloc (enO k n s a l c t)).alloc (.cells z32 77)) (.cells z32 77)
    have e1 : (w.alloc (enO k n s a l c t)).heap.size = w.heap.size + 1 := by simp
    have e2 : ((w.alloc (enO k n s a l c t)).alloc (.cells z32 77)).heap.size = w.heap.size + 1 + 1 := by simp
    rw [e1] at h1
    rw [e2] at h2
    rw [hW]
    exact ⟨(Below.heap_alloc _ _ _ (by simp)).trans h1, h2⟩
  have HB := Lib.hid (show Below w.heap.size w W by rw [hW]; exact H.out.2)
  rw [← hW]
  clear hW
  refine wp_region_noPanic ?_
  refine wp_region_held_drew (S := (fun w' => w'.heap[w.heap.size + 1]? = some (.cells z32 77) ∧ w'.heap[w.heap.size + 1 + 1]? = some (.cells z32 77))) (by kernel_rfl) hS (fun hS => ?_)
  refine wpAnyH_take (i := 1) (v := ?_) rfl (by kernel_rfl) (by kernel_rfl) (by kernel_rfl) (fun _ _ _ h => h) (Or.inl ⟨by rfl, ?_⟩) hS ?_
  rotate_left
  · rintro w9 ⟨t0, t1⟩
    go_simp
    try with_reducible rfl
  try simp only [Act.put, List.getElem_toArray, List.getElem_cons_succ, List.getElem_cons_zero, List.setIfInBounds_toArray, List.set_cons_zero, List.set_cons_succ]
  refine wpAnyH_take (i := 2) (v := ?_) rfl (by kernel_rfl) (by kernel_rfl) (by kernel_rfl) (fun _ _ _ h => h) (Or.inl ⟨by rfl, ?_⟩) hS ?_
  rotate_left
  · rintro w9 ⟨t0, t1⟩
    go_simp
    try with_reducible rfl
  try simp only [Act.put, List.getElem_toArray, List.getElem_cons_succ, List.getElem_cons_zero, List.setIfInBounds_toArray, List.set_cons_zero, List.set_cons_succ]
  refine wpAnyH_ready (rs := [0]) (by kernel_rfl) (by simp) ?_
  refine AllReadyH.cons rfl (fun K hK => ?_) AllReadyH.nil
  refine step_loadRow rfl 77 _ rfl _ z32 _ rfl hS.2 _ _ Tryz.underlying77 (by kernel_rfl) ?_
  refine hK.out _ _ hS (fun _ => ?_)
  clear hK K
  try simp only [Act.put, List.getElem_toArray, List.getElem_cons_succ, List.getElem_cons_zero, List.setIfInBounds_toArray, List.set_cons_zero, List.set_cons_succ]
  refine wpAnyH_ready (rs := [3]) (by kernel_rfl) (by simp) ?_
  refine AllReadyH.cons rfl (fun K hK => ?_) AllReadyH.nil
  refine step_storeRow rfl 77 _ _ rfl _ z32 z32 rfl rfl hS.1 (by kernel_rfl) rfl (by decide +kernel) ?_
  have hS3 := And.intro (setRow_heap W.drew (w.heap.size + 1) z32 z32 _ _ hS.1) (((setRow_off W.drew (w.heap.size + 1) z32).block (w.heap.size + 1 + 1) (Array.getElem?_eq_some_iff.1 hS.2).1 (fun e => by have e' : w.heap.size + 1 + 1 = w.heap.size + 1 := e; omega)).trans hS.2)
  refine hK.out _ _ hS3 (fun _ => ?_)
  clear hK K
  try simp only [Act.put, List.getElem_toArray, List.getElem_cons_succ, List.getElem_cons_zero, List.setIfInBounds_toArray, List.set_cons_zero, List.set_cons_succ]
  refine wpAnyH_take (i := 4) (v := ?_) rfl (by kernel_rfl) (by kernel_rfl) (by kernel_rfl) (fun _ _ _ h => h) (Or.inl ⟨by rfl, ?_⟩) hS3 ?_
  rotate_left
  · rintro w9 ⟨t0, t1⟩
    go_simp
    try with_reducible rfl
  try simp only [Act.put, List.getElem_toArray, List.getElem_cons_succ, List.getElem_cons_zero, List.setIfInBounds_toArray, List.set_cons_zero, List.set_cons_succ]
  refine wpAnyH_done (by kernel_rfl) ?_ _
  refine NoPanic.normal ?_
  go_wp2
  refine bodyPost_ret (v := .tuple #[.string ⟨#[]⟩, .agg z32, .int .i64 1]) ?_ rfl ⟨rfl, setRow_below (HB.out.drew) _ (by omega) _⟩
  exact (results_trt rfl rfl hS3.1 _ _ Tryz.underlying77 (by kernel_rfl)).trans rfl

set_option maxRecDepth 100000 in
set_option maxHeartbeats 2000000 in
theorem noBmFind {w : World} {v : Value} (h : NoBm w v) (k n : Int) (s : ByteArray) (a : Option Addr) (l c : Nat) : Calls Tryz.prog 12 #[v, dv k n s a l c] w fun e w' => e = .returned (.tuple #[.slice none 0 0, .int .i64 1]) ∧ Below w.heap.size w w' := by
  have hb : Below w.heap.size w (w.alloc (.cells #[.int .i64 k, .int .i64 n, .string s, .slice a l c] 34)) := by first | exact Below.refl _ _ | go_grown
  have H := Lib.hid (And.intro (noBmGoing (h.below hb)) hb)
  clear hb
  go_enter Tryz.func12, Tryz.ntmps12
  go_wp2_with fail
  refine H.out.1.mono ?_
  rintro e w1 ⟨rfl, rfl⟩
  go_wp2
  go_ret2
  exact ⟨rfl, H.out.2⟩

set_option maxRecDepth 100000 in
set_option maxHeartbeats 2000000 in
theorem noBmPages {w : World} {v : Value} (h : NoBm w v) : Calls Tryz.prog 246 #[v] w fun e w' => e = .returned (.slice none 0 0) ∧ Below w.heap.size w w' := by
  have hb : Below w.heap.size w (w) := by first | exact Below.refl _ _ | go_grown
  have H := Lib.hid (And.intro (noBmGoing (h.below hb)) hb)
  clear hb
  go_enter Tryz.func246, Tryz.ntmps246
  go_wp2_with fail
  refine H.out.1.mono ?_
  rintro e w1 ⟨rfl, rfl⟩
  go_wp2
  go_ret
  exact ⟨rfl, H.out.2⟩

set_option maxRecDepth 100000 in
set_option maxHeartbeats 2000000 in
theorem noBmDrop {w : World} {v : Value} (h : NoBm w v) : Calls Tryz.prog 245 #[v] w fun e w' => e = .returned (.int .i64 1) ∧ Below w.heap.size w w' := by
  have hb : Below w.heap.size w (w) := by first | exact Below.refl _ _ | go_grown
  have H := Lib.hid (And.intro (noBmGoing (h.below hb)) hb)
  clear hb
  go_enter Tryz.func245, Tryz.ntmps245
  go_wp2_with fail
  refine H.out.1.mono ?_
  rintro e w1 ⟨rfl, rfl⟩
  go_wp2
  go_ret
  exact ⟨rfl, H.out.2⟩

theorem noBmEach {w : World} {v : Value} (h : NoBm w v) (f : Value) : Calls Tryz.prog 47 #[v, f] w fun e w' => e = .returned (.tuple #[]) ∧ w' = w := by
  have H := Lib.hid (noBmGoing h)
  go_enter Tryz.func47, Tryz.ntmps47
  go_wp2_with fail
  refine H.out.mono ?_
  rintro e w1 ⟨rfl, rfl⟩
  go_wp2
  exact bodyPost_ret (v := .tuple #[]) (results_none rfl _ _ _) rfl ⟨rfl, rfl⟩
set_option maxRecDepth 100000 in
set_option maxHeartbeats 2000000 in
theorem noBmEntries {w : World} {v : Value} (h : NoBm w v) : Calls Tryz.prog 14 #[v] w fun e w' => e = .returned (.slice none 0 0) ∧ Below w.heap.size w w' := by
  have hb : Below w.heap.size w (w.alloc (.cells #[.slice none 0 0] 41)) := by go_grown
  have H := Lib.hid (And.intro (fun f => noBmEach (h.below hb) f) hb)
  clear hb
  go_enter Tryz.func14, Tryz.ntmps14
  go_wp2_with fail
  refine (H.out.1 _).mono ?_
  rintro e w1 ⟨rfl, rfl⟩
  go_wp2
  go_ret
  exact ⟨rfl, H.out.2⟩
set_option maxRecDepth 100000 in
set_option maxHeartbeats 2000000 in
theorem noBmCounts {w : World} {v : Value} (h : NoBm w v) : Calls Tryz.prog 27 #[v] w fun e w' => e = .returned (.tuple #[.slice none 0 0, .slice none 0 0]) ∧ Below w.heap.size w w' := by
  have hb : Below w.heap.size w (((w.alloc (.cells #[.slice none 0 0] 32)).alloc (.cells #[.slice none 0 0] 38)).alloc (.cells #[.string ⟨#[]⟩] 9)) := by go_grown
  have H := Lib.hid (And.intro (fun f => noBmEach (h.below hb) f) hb)
  clear hb
  go_enter Tryz.func27, Tryz.ntmps27
  go_wp2_with fail
  refine (H.out.1 _).mono ?_
  rintro e w1 ⟨rfl, rfl⟩
  go_wp2
  go_quiet (fail)
  go_wp2
  go_ret2
  exact ⟨rfl, ⟨H.out.2.os, H.out.2.tape, H.out.2.output, H.out.2.size, H.out.2.block⟩⟩
set_option maxRecDepth 100000 in
set_option maxHeartbeats 2000000 in
theorem noBmCheck {w : World} {v : Value} (h : NoBm w v) : Calls Tryz.prog 15 #[v] w fun e w' => e = .returned (.bool false) ∧ Below w.heap.size w w' := by
  have hb : Below w.heap.size w (w.alloc (.cells #[.bool false] 4)) := by go_grown
  have H := Lib.hid (And.intro (noBmGoing h) (And.intro (fun f => noBmEach (h.below hb) f) hb))
  clear hb
  go_enter Tryz.func15, Tryz.ntmps15
  go_wp2_with fail
  refine H.out.1.mono ?_
  rintro e w1 ⟨rfl, rfl⟩
  go_wp2_with fail
  refine (H.out.2.1 _).mono ?_
  rintro e w1 ⟨rfl, rfl⟩
  go_wp2
  go_ret
  exact ⟨rfl, H.out.2.2⟩

set_option maxRecDepth 100000 in
set_option maxHeartbeats 2000000 in
theorem noBmInsert {w : World} {v : Value} (h : NoBm w v) (k n : Int) (s : ByteArray) (a : Option Addr) (l c : Nat) (t : Int) : Calls Tryz.prog 10 #[v, env k n s a l c t] w fun e w' => e = .returned (.int .i64 1) ∧ Below w.heap.size w w' := by
  have hb : Below w.heap.size w (w.alloc (enO k n s a l c t)) := by go_grown
  have H := Lib.hid (And.intro (noBmPlace (h.below hb) k n s a l c t) hb)
  clear hb
  go_enter Tryz.func10, Tryz.ntmps10
  go_wp2_with fail
  refine H.out.1.mono ?_
  rintro e w1 ⟨rfl, hb1⟩
  have HB := Lib.hid (H.out.2.trans (hb1.mono (by simp)))
  clear hb1
  go_wp2_with (refine wpList_storeNew (w1 := w1) (by rfl) 77 _ _ (by rfl) z32 z32 (by rfl) (by rfl) (by kernel_rfl) rfl (by decide +kernel) ?_)
  go_ret
  exact ⟨rfl, Below.alloc HB.out HB.out.size _⟩

set_option maxRecDepth 100000 in
set_option maxHeartbeats 2000000 in
theorem noBmDelete {w : World} {v : Value} (h : NoBm w v) (k n : Int) (s : ByteArray) (a : Option Addr) (l c : Nat) (t : Int) : Calls Tryz.prog 13 #[v, env k n s a l c t] w fun e w' => e = .returned (.int .i64 1) ∧ Below w.heap.size w w' := by
  have hb : Below w.heap.size w (w.alloc (enO k n s a l c t)) := by go_grown
  have H := Lib.hid (And.intro (noBmPlace (h.below hb) k n s a l c t) hb)
  clear hb
  go_enter Tryz.func13, Tryz.ntmps13
  go_wp2_with fail
  refine H.out.1.mono ?_
  rintro e w1 ⟨rfl, hb1⟩
  have HB := Lib.hid (H.out.2.trans (hb1.mono (by simp)))
  clear hb1
  go_wp2_with (refine wpList_storeNew (w1 := w1) (by rfl) 77 _ _ (by rfl) z32 z32 (by rfl) (by rfl) (by kernel_rfl) rfl (by decide +kernel) ?_)
  go_ret
  exact ⟨rfl, Below.alloc HB.out HB.out.size _⟩

end Go.Proofs.YtoejgkcaamkanaaGreatDoor
