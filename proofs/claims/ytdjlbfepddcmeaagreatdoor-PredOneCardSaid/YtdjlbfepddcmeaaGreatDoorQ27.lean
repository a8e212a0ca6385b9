/- A predicate's text is written: whole. -/
import Derived.Test.YtdjlbfepddcmeaaGreatDoorQ26
set_option linter.unusedVariables false
set_option linter.unusedSimpArgs false
namespace Go.Proofs.YtdjlbfepddcmeaaGreatDoor
open Go.RowKit

theorem str_true (l : List UInt8) : l ++ (⟨#[116, 114, 117, 101]⟩ : ByteArray).data.toList = l ++ [116, 114, 117, 101] := rfl
theorem box_at {w : World} {g : Nat} {t : PT} {a : Option Addr} {c : Nat} {pa : Option Addr} {pc : Nat} (h : w.heap[g]? = some (pbox t a c pa pc)) : PBx w g t a c pa pc := PBx.of_heap h

/-- What is written ahead of part k. -/
def wordK (W : ByteArray) (k : Nat) : ByteArray := if k = 0 then ⟨#[40]⟩ else W
def preK (cols : List Co) (n : Nat) (W : ByteArray) (ps : List PT) (k : Nat) : List UInt8 := if k = 0 then [] else [40] ++ Lib.join ((ps.take k).map (textP cols n)) W.data.toList
theorem preK_succ (cols : List Co) (n : Nat) (W : ByteArray) (ps : List PT) (k : Nat) (h : k < ps.length) : preK cols n W ps (k + 1) = preK cols n W ps k ++ ((wordK W k).data.toList ++ textP cols n ps[k]) := by
  unfold preK wordK
  rw [if_neg (by omega), List.take_succ_eq_append_getElem h, List.map_append, List.map_cons, List.map_nil, join_snoc]
  by_cases h0 : k = 0
  · subst h0; simp
  · rw [if_neg h0, if_neg h0, if_neg]
    · simp
    · intro e
      have e2 : ps.take k = [] := by simpa using e
      have := congrArg List.length e2
      rw [List.length_take, List.length_nil] at this
      omega
theorem preK_all (cols : List Co) (n : Nat) (W : ByteArray) (ps : List PT) (k : Nat) (h : ps.length ≤ k) (h0 : 0 < k) : preK cols n W ps k = [40] ++ Lib.join (ps.map (textP cols n)) W.data.toList := by
  unfold preK
  rw [if_neg (by omega), List.take_of_length_le h]

def Written (B b : Nat) (w : World) (l t : List UInt8) (M : Nat) (e : Ending) (w' : World) : Prop := e = .returned (.tuple #[]) ∧ ∃ l', Wrote B b w w' l' ∧ WR l t l' ∧ l'.length ≤ max l.length M

set_option maxRecDepth 100000 in
set_option maxHeartbeats 4000000 in
theorem write_true (cols : List Co) (ac : Option Addr) (cc : Nat) (w0 : World) (b n m : Nat) (t : PT) (a : Option Addr) (c : Nat) (pa : Option Addr) (pc : Nat) (l : List UInt8) (w : World)
    (hp : PredIs m w0 t a pa) (ho : t.op = 10)
    (hb0 : Below w0.heap.size w0 w) (hbd : BD w0.heap.size b l w) (hl : l.length ≤ 1024) (hn : n < 8) :
    Calls Tryz.prog 34 #[.pointer (some ⟨b, 0, none⟩), pv t a c pa pc, .slice ac cols.length cc] w (Written w0.heap.size b w l (textP cols (n + 1) t) (3000 + 50 * (n + 1))) := by
  have hb1 : Below w.heap.size w (w.alloc (pbox t a c pa pc)) := by go_grown
  have hb01 := hb0.trans (hb1.mono hb0.size)
  have hbd1 := bkeepI hbd hb1
  have hw1 := Wrote.of_below hbd hb1 hb0.size
  have hgb : w.heap.size ≠ b := by have := BD.lt hbd; omega
  have hbox : (w.alloc (pbox t a c pa pc)).heap[w.heap.size]? = some (pbox t a c pa pc) := heap_alloc_new w _
  have HL := Lib.hid (blen_any _ b l _ hbd1)
  have e1 : decide ((1024 : Int) < (l.length : Int)) = false := by rw [decide_eq_false_iff_not]; omega
  have hz0 := hb01.size
  have HBX := Lib.hid hbox
  have HW1 := Lib.hid hw1
  have HB01 := Lib.hid hb01
  have HTX := Lib.hid (show textP cols (n + 1) t = [116, 114, 117, 101] by rw [textP, if_pos ho])
  have HS := Lib.hid (wstr_any _ b l ⟨#[116, 114, 117, 101]⟩ _ hbd1 (by omega) (by decide) hz0)
  clear hp hbd hbd1 hw1 hbox hb0 hb01 hb1
  generalize hll : l.length = ll at *
  have HLL := Lib.hid hll
  clear hll
  generalize textP cols (n + 1) t = TX at *
  unfold pbox at *
  unfold pv
  generalize t.op = op at *
  generalize t.col = col at *
  generalize t.d = d at *
  generalize t.parts = ps at *
  subst ho
  go_enter Tryz.func34, Tryz.ntmps34
  go_wp2_with fail
  refine HL.out.mono ?_
  rintro e w' ⟨rfl, rfl⟩
  go_wp2_with fail
  refine HS.out.mono ?_
  rintro e w2 ⟨rfl, hw2⟩
  go_wp2
  go_end0
  exact ⟨rfl, _, HW1.out.trans hw2, .inl (by rw [HTX.out]), by have := HLL.out; simp; omega⟩

set_option maxRecDepth 100000 in
set_option maxHeartbeats 4000000 in
theorem write_not (cols : List Co) (ac : Option Addr) (cc : Nat) (w0 : World) (b n m : Nat) (t : PT) (a : Option Addr) (c : Nat) (pa : Option Addr) (pc : Nat) (l : List UInt8) (w : World) (hok : WriteOK cols ac cc w0 b n)
    (hp : PredIs m w0 t a pa) (hall : t.parts.all (mayP cols n) = true) (ho : t.op = 9) (h1 : t.parts.length = 1)
    (hb0 : Below w0.heap.size w0 w) (hbd : BD w0.heap.size b l w) (hl : l.length ≤ 1024) (hn : n < 8) :
    Calls Tryz.prog 34 #[.pointer (some ⟨b, 0, none⟩), pv t a c pa pc, .slice ac cols.length cc] w (Written w0.heap.size b w l (textP cols (n + 1) t) (3000 + 50 * (n + 1))) := by
  have hb1 : Below w.heap.size w (w.alloc (pbox t a c pa pc)) := by go_grown
  have hb01 := hb0.trans (hb1.mono hb0.size)
  have hbd1 := bkeepI hbd hb1
  have hw1 := Wrote.of_below hbd hb1 hb0.size
  have hgb : w.heap.size ≠ b := by have := BD.lt hbd; omega
  have hbox : (w.alloc (pbox t a c pa pc)).heap[w.heap.size]? = some (pbox t a c pa pc) := heap_alloc_new w _
  have HL := Lib.hid (blen_any _ b l _ hbd1)
  have e1 : decide ((1024 : Int) < (l.length : Int)) = false := by rw [decide_eq_false_iff_not]; omega
  have hz0 := hb01.size
  have HBX := Lib.hid hbox
  have HW1 := Lib.hid hw1
  have HB01 := Lib.hid hb01
  obtain ⟨m, rfl⟩ : ∃ k, m = k + 1 := by
    cases m with
    | zero => exact hp.elim
    | succ k => exact ⟨k, rfl⟩
  obtain ⟨x, hx⟩ : ∃ x, t.parts = [x] := List.length_eq_one_iff.1 h1
  have HTX := Lib.hid (show textP cols (n + 1) t = [110, 111, 116, 32] ++ textP cols n x by rw [textP, if_neg (by omega), if_pos ho, hx])
  have hps := hp.parts
  rw [hx] at hps hall
  have hmx : mayP cols n x = true := by simpa using hall
  obtain ⟨rb, ro, rfl, a', c', pa', pc', hcell, hpi⟩ := hps.at_ 0 (by simp)
  simp only [List.getElem_cons_zero, Nat.zero_mul, Nat.add_zero] at hcell hpi
  have HS := Lib.hid (wstr_any _ b l ⟨#[110, 111, 116, 32]⟩ _ hbd1 (by omega) (by decide) hz0)
  have HK := Lib.hid (fun l1 W => hok m x a' c' pa' pc' l1 W hpi hmx)
  have HC := Lib.hid hcell
  clear hp hps hall hbd hbd1 hw1 hbox hb0 hb01 hb1 hok hpi hcell hmx
  generalize hll : l.length = ll at *
  have HLL := Lib.hid hll
  clear hll
  generalize textP cols (n + 1) t = TX at *
  generalize hQ : textP cols n x = XT at *
  clear hQ
  unfold pbox at *
  unfold pv at *
  rw [h1] at *
  generalize t.op = op at *
  generalize t.col = col at *
  generalize t.d = d at *
  subst ho
  go_enter Tryz.func34, Tryz.ntmps34
  go_wp2_with fail
  refine HL.out.mono ?_
  rintro e w' ⟨rfl, rfl⟩
  go_wp2_with fail
  refine HS.out.mono ?_
  rintro e w2 ⟨rfl, hw2⟩
  have hbx2 := hw2.kept w.heap.size _ HBX.out (by simpa using hgb) (fun c fz e => by injection e with _ h2; cases h2)
  have q6 : w2.cell? ⟨w.heap.size, 6, none⟩ = some (.slice (some ⟨rb, ro, none⟩) 1 pc) := by unfold World.cell?; rw [hbx2]; rfl
  have hb02 := HB01.out.trans hw2.below
  have hc2 := HC.out.below hb02
  obtain ⟨g0, g1, g2, g3, g4, g5, g6⟩ := hc2
  have HW2 := Lib.hid hw2
  have HB02 := Lib.hid hb02
  clear hbx2 hw2 hb02
  go_wp2_with fail
  refine (HK.out _ w2 HB02.out HW2.out.bd (by have := HLL.out; simp; omega)).mono ?_
  rintro e w3 ⟨rfl, l3, hw3, hr3, hl3⟩
  go_wp2
  go_end0
  refine ⟨rfl, l3, (HW1.out.trans HW2.out).trans hw3, ?_, ?_⟩
  · rw [HTX.out]
    exact (WR.whole l [110, 111, 116, 32]).trans hr3
  · have := HLL.out
    simp at hl3
    omega

set_option maxRecDepth 100000 in
set_option maxHeartbeats 4000000 in
theorem write_and (cols : List Co) (ac : Option Addr) (cc : Nat) (w0 : World) (b n m : Nat) (t : PT) (a : Option Addr) (c : Nat) (pa : Option Addr) (pc : Nat) (l : List UInt8) (w : World) (hok : WriteOK cols ac cc w0 b n)
    (hp : PredIs m w0 t a pa) (hall : t.parts.all (mayP cols n) = true) (ho : t.op = 7) (h2 : 1 ≤ t.parts.length) (h8 : t.parts.length ≤ 8)
    (hb0 : Below w0.heap.size w0 w) (hbd : BD w0.heap.size b l w) (hl : l.length ≤ 1024) (hn : n < 8) :
    Calls Tryz.prog 34 #[.pointer (some ⟨b, 0, none⟩), pv t a c pa pc, .slice ac cols.length cc] w (Written w0.heap.size b w l (textP cols (n + 1) t) (3000 + 50 * (n + 1))) := by
  have hb1 : Below w.heap.size w (w.alloc (pbox t a c pa pc)) := by go_grown
  have hb01 := hb0.trans (hb1.mono hb0.size)
  have hbd1 := bkeepI hbd hb1
  have hw1 := Wrote.of_below hbd hb1 hb0.size
  have hgb : w.heap.size ≠ b := by have := BD.lt hbd; omega
  have hbox : (w.alloc (pbox t a c pa pc)).heap[w.heap.size]? = some (pbox t a c pa pc) := heap_alloc_new w _
  have HL := Lib.hid (blen_any _ b l _ hbd1)
  have e1 : decide ((1024 : Int) < (l.length : Int)) = false := by rw [decide_eq_false_iff_not]; omega
  have hz0 := hb01.size
  have HBX := Lib.hid hbox
  have HW1 := Lib.hid hw1
  have HB01 := Lib.hid hb01
  obtain ⟨m, rfl⟩ : ∃ k, m = k + 1 := by
    cases m with
    | zero => exact hp.elim
    | succ k => exact ⟨k, rfl⟩
  have HTX := Lib.hid (show textP cols (n + 1) t = [40] ++ Lib.join (t.parts.map (textP cols n)) (⟨#[32, 97, 110, 100, 32]⟩ : ByteArray).data.toList ++ [41] by rw [textP, if_neg (by omega), if_neg (by omega), if_pos ho])
  have hps := hp.parts
  have hplen := hp.len
  have HW0 := Lib.hid (WR.refl l)
  clear hp hbd hbd1 hw1 hbox hb0 hb01 hb1
  generalize hll : l.length = ll at *
  have HLL := Lib.hid hll
  clear hll
  generalize textP cols (n + 1) t = TX at *
  unfold pbox at *
  unfold pv at *
  generalize t.op = op at *
  generalize t.col = col at *
  generalize t.d = d at *
  generalize t.parts = ps at *
  subst ho
  go_enter Tryz.func34, Tryz.ntmps34
  go_wp2_with fail
  refine HL.out.mono ?_
  rintro e w' ⟨rfl, rfl⟩
  go_wp2
  go_loopw [6, 62] (fun u i wr => ∃ (k : Nat) (l1 : List UInt8), k ≤ ps.length ∧ i = .int .i64 k ∧ u = .string (wordK ⟨#[32, 97, 110, 100, 32]⟩ k) ∧ Wrote w0.heap.size b w wr l1 ∧ WR l (preK cols n ⟨#[32, 97, 110, 100, 32]⟩ ps k) l1 ∧ l1.length ≤ 3000 + 50 * n + 5 * k ∧
      wr.heap[w.heap.size]? = some (.cells #[.int .i64 7, .int .i64 col, .int .i64 d.k, .int .i64 d.n, .string d.s, .slice a d.l.length c, .slice pa ps.length pc] 27) ∧ Below w0.heap.size w0 wr ∧ w.heap.size < wr.heap.size) (fun _ i _ => ps.length - (intOf i).toNat)
  case atStart => exact ⟨0, l, Nat.zero_le _, rfl, rfl, HW1.out, HW0.out, by have := HLL.out; omega, HBX.out, HB01.out, by simp⟩
  case round =>
    obtain ⟨k, l1, hk, rfl, rfl, hw, hwr, hlen1, hbx, hbb, hgz⟩ := hrel
    have hd6 : wr.cell? ⟨w.heap.size, 6, none⟩ = some (.slice pa ps.length pc) := by unfold World.cell?; rw [hbx]; rfl
    have HW := Lib.hid hw
    have HWR := Lib.hid hwr
    have HBX' := Lib.hid hbx
    have HBB := Lib.hid hbb
    clear hw hwr hbx hbb
    by_cases hlt : k < ps.length
    · obtain ⟨rb, ro, rfl, a', c', pa', pc', hcell, hpi⟩ := hps.at_ k hlt
      have hmx := List.all_eq_true.1 hall ps[k] (List.getElem_mem hlt)
      have HPS := Lib.hid (preK_succ cols n ⟨#[32, 97, 110, 100, 32]⟩ ps k hlt)
      have HK := Lib.hid (fun l2 W => hok m ps[k] a' c' pa' pc' l2 W hpi hmx)
      have hcell' := hcell.below HBB.out
      clear hpi hmx hcell
      generalize ps[k] = x at *
      obtain ⟨g0, g1, g2, g3, g4, g5, g6⟩ := hcell'
      have hwsz : (wordK ⟨#[32, 97, 110, 100, 32]⟩ k).size ≤ 5 := by
        unfold wordK; split <;> decide
      have hwd : (wordK ⟨#[32, 97, 110, 100, 32]⟩ k).data.toList.length ≤ 5 := by
        have e : (wordK ⟨#[32, 97, 110, 100, 32]⟩ k).data.toList.length = (wordK ⟨#[32, 97, 110, 100, 32]⟩ k).size := by simp
        omega
      have HWD := Lib.hid hwd
      have hwn : wordK ⟨#[32, 97, 110, 100, 32]⟩ (k + 1) = ⟨#[32, 97, 110, 100, 32]⟩ := by unfold wordK; rw [if_neg (by omega)]
      have HWN := Lib.hid hwn
      clear hwn hwd
      generalize hWK : wordK ⟨#[32, 97, 110, 100, 32]⟩ k = WK at *
      clear hWK
      have hbx1 : Below wr.heap.size wr (wr.alloc (pbox x a' c' pa' pc')) := by go_grown
      have hwx := HW.out.after hbx1 (by have := HBB.out.size; exact this)
      have HS := Lib.hid (wstr_any _ b l1 WK _ hwx.bd (by omega) (by omega) (by have := HBB.out.size; simp; omega))
      have HXB := Lib.hid (heap_alloc_new wr (pbox x a' c' pa' pc'))
      have hgb2 : wr.heap.size ≠ b := by have := BD.lt HW.out.bd; omega
      have HPB := Lib.hid ((Below.heap_alloc wr (pbox x a' c' pa' pc') w.heap.size hgz).trans HBX'.out)
      have HWX := Lib.hid hwx
      have HBX1 := Lib.hid (HBB.out.trans (hbx1.mono HBB.out.size))
      clear hbx1 hwx
      unfold pbox at *
      go_wp2_with fail
      refine HS.out.mono ?_
      rintro e w2 ⟨rfl, hw2⟩
      have hxb2 := hw2.kept wr.heap.size _ HXB.out (by simpa using hgb2) (fun c fz e => by injection e with _ h2; cases h2)
      have hpb2 := hw2.kept w.heap.size _ HPB.out (by simpa using hgb) (fun c fz e => by injection e with _ h2; cases h2)
      have x0 : w2.cell? ⟨wr.heap.size, 0, none⟩ = some (.int .i64 x.op) := by unfold World.cell?; rw [hxb2]; rfl
      have x1 : w2.cell? ⟨wr.heap.size, 1, none⟩ = some (.int .i64 x.col) := by unfold World.cell?; rw [hxb2]; rfl
      have x2 : w2.cell? ⟨wr.heap.size, 2, none⟩ = some (.int .i64 x.d.k) := by unfold World.cell?; rw [hxb2]; rfl
      have x3 : w2.cell? ⟨wr.heap.size, 3, none⟩ = some (.int .i64 x.d.n) := by unfold World.cell?; rw [hxb2]; rfl
      have x4 : w2.cell? ⟨wr.heap.size, 4, none⟩ = some (.string x.d.s) := by unfold World.cell?; rw [hxb2]; rfl
      have x5 : w2.cell? ⟨wr.heap.size, 5, none⟩ = some (.slice a' x.d.l.length c') := by unfold World.cell?; rw [hxb2]; rfl
      have x6 : w2.cell? ⟨wr.heap.size, 6, none⟩ = some (.slice pa' x.parts.length pc') := by unfold World.cell?; rw [hxb2]; rfl
      have HW2 := Lib.hid hw2
      have HPB2 := Lib.hid hpb2
      have hz2 := (HBX1.out.trans hw2.below).size
      have HB2 := Lib.hid (HBX1.out.trans hw2.below)
      clear hxb2 hpb2 hw2
      go_wp2_with fail
      refine (HK.out _ w2 HB2.out HW2.out.bd (by have := HWD.out; simp; simp at this; omega)).mono ?_
      rintro e w3 ⟨rfl, l3, hw3, hr3, hl3⟩
      have hpb3 := hw3.kept w.heap.size _ HPB2.out (by simpa using hgb) (fun c fz e => by injection e with _ h2; cases h2)
      have y0 : w3.cell? ⟨w.heap.size, 0, none⟩ = some (.int .i64 7) := by unfold World.cell?; rw [hpb3]; rfl
      have HR3 := Lib.hid (show WR l (preK cols n ⟨#[32, 97, 110, 100, 32]⟩ ps (k + 1)) l3 by
        rw [HPS.out]
        exact HWR.out.trans ((WR.whole _ _).trans hr3))
      have HL3 := Lib.hid hl3
      have HW3 := Lib.hid hw3
      have HPB3 := Lib.hid hpb3
      clear hr3 hl3 hpb3 x0 x1 x2 x3 x4 x5 x6 g0 g1 g2 g3 g4 g5 g6 hw3
      go_wp2
      go_roundw
      case rel => exact ⟨k + 1, l3, by omega, by go_num, by rw [HWN.out], (HWX.out.trans HW2.out).trans HW3.out, HR3.out, by have h := HL3.out; have h2 := HWD.out; simp at h h2; omega, HPB3.out, HB2.out.trans HW3.out.below, by
        rcases Nat.lt_or_ge w.heap.size w3.heap.size with h' | h'
        · exact h'
        · have := HPB3.out; rw [Array.getElem?_eq_none h'] at this; cases this⟩
      case measure => simp [intOf]; omega
    · have hke : k = ps.length := by omega
      have HPA := Lib.hid (preK_all cols n ⟨#[32, 97, 110, 100, 32]⟩ ps k (by omega) (by omega))
      have HS := Lib.hid (wstr_any _ b l1 ⟨#[41]⟩ wr HW.out.bd (by omega) (by decide) (by have := HBB.out.size; omega))
      clear hke
      go_wp2_with fail
      refine HS.out.mono ?_
      rintro e w2 ⟨rfl, hw2⟩
      go_wp2
      go_end0
      refine ⟨rfl, _, HW.out.trans hw2, ?_, ?_⟩
      · rw [HTX.out]
        have := HWR.out
        rw [HPA.out] at this
        exact this.trans (WR.whole _ [41])
      · have := HLL.out
        simp
        omega

set_option maxRecDepth 100000 in
set_option maxHeartbeats 4000000 in
theorem write_or (cols : List Co) (ac : Option Addr) (cc : Nat) (w0 : World) (b n m : Nat) (t : PT) (a : Option Addr) (c : Nat) (pa : Option Addr) (pc : Nat) (l : List UInt8) (w : World) (hok : WriteOK cols ac cc w0 b n)
    (hp : PredIs m w0 t a pa) (hall : t.parts.all (mayP cols n) = true) (ho : t.op = 8) (h2 : 1 ≤ t.parts.length) (h8 : t.parts.length ≤ 8)
    (hb0 : Below w0.heap.size w0 w) (hbd : BD w0.heap.size b l w) (hl : l.length ≤ 1024) (hn : n < 8) :
    Calls Tryz.prog 34 #[.pointer (some ⟨b, 0, none⟩), pv t a c pa pc, .slice ac cols.length cc] w (Written w0.heap.size b w l (textP cols (n + 1) t) (3000 + 50 * (n + 1))) := by
  have hb1 : Below w.heap.size w (w.alloc (pbox t a c pa pc)) := by go_grown
  have hb01 := hb0.trans (hb1.mono hb0.size)
  have hbd1 := bkeepI hbd hb1
  have hw1 := Wrote.of_below hbd hb1 hb0.size
  have hgb : w.heap.size ≠ b := by have := BD.lt hbd; omega
  have hbox : (w.alloc (pbox t a c pa pc)).heap[w.heap.size]? = some (pbox t a c pa pc) := heap_alloc_new w _
  have HL := Lib.hid (blen_any _ b l _ hbd1)
  have e1 : decide ((1024 : Int) < (l.length : Int)) = false := by rw [decide_eq_false_iff_not]; omega
  have hz0 := hb01.size
  have HBX := Lib.hid hbox
  have HW1 := Lib.hid hw1
  have HB01 := Lib.hid hb01
  obtain ⟨m, rfl⟩ : ∃ k, m = k + 1 := by
    cases m with
    | zero => exact hp.elim
    | succ k => exact ⟨k, rfl⟩
  have HTX := Lib.hid (show textP cols (n + 1) t = [40] ++ Lib.join (t.parts.map (textP cols n)) (⟨#[32, 111, 114, 32]⟩ : ByteArray).data.toList ++ [41] by rw [textP, if_neg (by omega), if_neg (by omega), if_neg (by omega), if_pos ho])
  have hps := hp.parts
  have hplen := hp.len
  have HW0 := Lib.hid (WR.refl l)
  clear hp hbd hbd1 hw1 hbox hb0 hb01 hb1
  generalize hll : l.length = ll at *
  have HLL := Lib.hid hll
  clear hll
  generalize textP cols (n + 1) t = TX at *
  unfold pbox at *
  unfold pv at *
  generalize t.op = op at *
  generalize t.col = col at *
  generalize t.d = d at *
  generalize t.parts = ps at *
  subst ho
  go_enter Tryz.func34, Tryz.ntmps34
  go_wp2_with fail
  refine HL.out.mono ?_
  rintro e w' ⟨rfl, rfl⟩
  go_wp2
  go_loopw [6, 62] (fun u i wr => ∃ (k : Nat) (l1 : List UInt8), k ≤ ps.length ∧ i = .int .i64 k ∧ u = .string (wordK ⟨#[32, 111, 114, 32]⟩ k) ∧ Wrote w0.heap.size b w wr l1 ∧ WR l (preK cols n ⟨#[32, 111, 114, 32]⟩ ps k) l1 ∧ l1.length ≤ 3000 + 50 * n + 5 * k ∧
      wr.heap[w.heap.size]? = some (.cells #[.int .i64 8, .int .i64 col, .int .i64 d.k, .int .i64 d.n, .string d.s, .slice a d.l.length c, .slice pa ps.length pc] 27) ∧ Below w0.heap.size w0 wr ∧ w.heap.size < wr.heap.size) (fun _ i _ => ps.length - (intOf i).toNat)
  case atStart => exact ⟨0, l, Nat.zero_le _, rfl, rfl, HW1.out, HW0.out, by have := HLL.out; omega, HBX.out, HB01.out, by simp⟩
  case round =>
    obtain ⟨k, l1, hk, rfl, rfl, hw, hwr, hlen1, hbx, hbb, hgz⟩ := hrel
    have hd6 : wr.cell? ⟨w.heap.size, 6, none⟩ = some (.slice pa ps.length pc) := by unfold World.cell?; rw [hbx]; rfl
    have HW := Lib.hid hw
    have HWR := Lib.hid hwr
    have HBX' := Lib.hid hbx
    have HBB := Lib.hid hbb
    clear hw hwr hbx hbb
    by_cases hlt : k < ps.length
    · obtain ⟨rb, ro, rfl, a', c', pa', pc', hcell, hpi⟩ := hps.at_ k hlt
      have hmx := List.all_eq_true.1 hall ps[k] (List.getElem_mem hlt)
      have HPS := Lib.hid (preK_succ cols n ⟨#[32, 111, 114, 32]⟩ ps k hlt)
      have HK := Lib.hid (fun l2 W => hok m ps[k] a' c' pa' pc' l2 W hpi hmx)
      have hcell' := hcell.below HBB.out
      clear hpi hmx hcell
      generalize ps[k] = x at *
      obtain ⟨g0, g1, g2, g3, g4, g5, g6⟩ := hcell'
      have hwsz : (wordK ⟨#[32, 111, 114, 32]⟩ k).size ≤ 5 := by
        unfold wordK; split <;> decide
      have hwd : (wordK ⟨#[32, 111, 114, 32]⟩ k).data.toList.length ≤ 5 := by
        have e : (wordK ⟨#[32, 111, 114, 32]⟩ k).data.toList.length = (wordK ⟨#[32, 111, 114, 32]⟩ k).size := by simp
        omega
      have HWD := Lib.hid hwd
      have hwn : wordK ⟨#[32, 111, 114, 32]⟩ (k + 1) = ⟨#[32, 111, 114, 32]⟩ := by unfold wordK; rw [if_neg (by omega)]
      have HWN := Lib.hid hwn
      clear hwn hwd
      generalize hWK : wordK ⟨#[32, 111, 114, 32]⟩ k = WK at *
      clear hWK
      have hbx1 : Below wr.heap.size wr (wr.alloc (pbox x a' c' pa' pc')) := by go_grown
      have hwx := HW.out.after hbx1 (by have := HBB.out.size; exact this)
      have HS := Lib.hid (wstr_any _ b l1 WK _ hwx.bd (by omega) (by omega) (by have := HBB.out.size; simp; omega))
      have HXB := Lib.hid (heap_alloc_new wr (pbox x a' c' pa' pc'))
      have hgb2 : wr.heap.size ≠ b := by have := BD.lt HW.out.bd; omega
      have HPB := Lib.hid ((Below.heap_alloc wr (pbox x a' c' pa' pc') w.heap.size hgz).trans HBX'.out)
      have HWX := Lib.hid hwx
      have HBX1 := Lib.hid (HBB.out.trans (hbx1.mono HBB.out.size))
      clear hbx1 hwx
      unfold pbox at *
      go_wp2_with fail
      refine HS.out.mono ?_
      rintro e w2 ⟨rfl, hw2⟩
      have hxb2 := hw2.kept wr.heap.size _ HXB.out (by simpa using hgb2) (fun c fz e => by injection e with _ h2; cases h2)
      have hpb2 := hw2.kept w.heap.size _ HPB.out (by simpa using hgb) (fun c fz e => by injection e with _ h2; cases h2)
      have x0 : w2.cell? ⟨wr.heap.size, 0, none⟩ = some (.int .i64 x.op) := by unfold World.cell?; rw [hxb2]; rfl
      have x1 : w2.cell? ⟨wr.heap.size, 1, none⟩ = some (.int .i64 x.col) := by unfold World.cell?; rw [hxb2]; rfl
      have x2 : w2.cell? ⟨wr.heap.size, 2, none⟩ = some (.int .i64 x.d.k) := by unfold World.cell?; rw [hxb2]; rfl
      have x3 : w2.cell? ⟨wr.heap.size, 3, none⟩ = some (.int .i64 x.d.n) := by unfold World.cell?; rw [hxb2]; rfl
      have x4 : w2.cell? ⟨wr.heap.size, 4, none⟩ = some (.string x.d.s) := by unfold World.cell?; rw [hxb2]; rfl
      have x5 : w2.cell? ⟨wr.heap.size, 5, none⟩ = some (.slice a' x.d.l.length c') := by unfold World.cell?; rw [hxb2]; rfl
      have x6 : w2.cell? ⟨wr.heap.size, 6, none⟩ = some (.slice pa' x.parts.length pc') := by unfold World.cell?; rw [hxb2]; rfl
      have HW2 := Lib.hid hw2
      have HPB2 := Lib.hid hpb2
      have hz2 := (HBX1.out.trans hw2.below).size
      have HB2 := Lib.hid (HBX1.out.trans hw2.below)
      clear hxb2 hpb2 hw2
      go_wp2_with fail
      refine (HK.out _ w2 HB2.out HW2.out.bd (by have := HWD.out; simp; simp at this; omega)).mono ?_
      rintro e w3 ⟨rfl, l3, hw3, hr3, hl3⟩
      have hpb3 := hw3.kept w.heap.size _ HPB2.out (by simpa using hgb) (fun c fz e => by injection e with _ h2; cases h2)
      have y0 : w3.cell? ⟨w.heap.size, 0, none⟩ = some (.int .i64 8) := by unfold World.cell?; rw [hpb3]; rfl
      have HR3 := Lib.hid (show WR l (preK cols n ⟨#[32, 111, 114, 32]⟩ ps (k + 1)) l3 by
        rw [HPS.out]
        exact HWR.out.trans ((WR.whole _ _).trans hr3))
      have HL3 := Lib.hid hl3
      have HW3 := Lib.hid hw3
      have HPB3 := Lib.hid hpb3
      clear hr3 hl3 hpb3 x0 x1 x2 x3 x4 x5 x6 g0 g1 g2 g3 g4 g5 g6 hw3
      go_wp2
      go_roundw
      case rel => exact ⟨k + 1, l3, by omega, by go_num, by rw [HWN.out], (HWX.out.trans HW2.out).trans HW3.out, HR3.out, by have h := HL3.out; have h2 := HWD.out; simp at h h2; omega, HPB3.out, HB2.out.trans HW3.out.below, by
        rcases Nat.lt_or_ge w.heap.size w3.heap.size with h' | h'
        · exact h'
        · have := HPB3.out; rw [Array.getElem?_eq_none h'] at this; cases this⟩
      case measure => simp [intOf]; omega
    · have hke : k = ps.length := by omega
      have HPA := Lib.hid (preK_all cols n ⟨#[32, 111, 114, 32]⟩ ps k (by omega) (by omega))
      have HS := Lib.hid (wstr_any _ b l1 ⟨#[41]⟩ wr HW.out.bd (by omega) (by decide) (by have := HBB.out.size; omega))
      clear hke
      go_wp2_with fail
      refine HS.out.mono ?_
      rintro e w2 ⟨rfl, hw2⟩
      go_wp2
      go_end0
      refine ⟨rfl, _, HW.out.trans hw2, ?_, ?_⟩
      · rw [HTX.out]
        have := HWR.out
        rw [HPA.out] at this
        exact this.trans (WR.whole _ [41])
      · have := HLL.out
        simp
        omega

theorem write_ok (cols : List Co) (ac : Option Addr) (cc : Nat) (w0 : World) (b : Nat) (hcols : colsB cols = true) (hr0 : ColIs w0 ac cols) (hG : Globs w0) : ∀ n, n ≤ 8 → WriteOK cols ac cc w0 b n
  | 0, _ => fun _ _ _ _ _ _ _ _ _ hm => by cases hm
  | n + 1, hn => by
    have ih := write_ok cols ac cc w0 b hcols hr0 hG n (by omega)
    intro m t a c pa pc l w hp hm hb0 hbd hl5
    by_cases hl : l.length ≤ 1024
    · by_cases ho : 1 ≤ t.op ∧ t.op ≤ 6
      · rcases six ho with h | h | h | h | h | h
        · exact write_leaf1 cols ac cc w0 b n m t a c pa pc l w hcols hr0 hG hp hm h hb0 hbd hl
        · exact write_leaf2 cols ac cc w0 b n m t a c pa pc l w hcols hr0 hG hp hm h hb0 hbd hl
        · exact write_leaf3 cols ac cc w0 b n m t a c pa pc l w hcols hr0 hG hp hm h hb0 hbd hl
        · exact write_leaf4 cols ac cc w0 b n m t a c pa pc l w hcols hr0 hG hp hm h hb0 hbd hl
        · exact write_leaf5 cols ac cc w0 b n m t a c pa pc l w hcols hr0 hG hp hm h hb0 hbd hl
        · exact write_leaf6 cols ac cc w0 b n m t a c pa pc l w hcols hr0 hG hp hm h hb0 hbd hl
      · have hm' := hm
        rw [mayP, if_neg ho] at hm'
        obtain ⟨hall, h8, h | h | h | h, hc0, hz0⟩ := mayP_parts hm ho
        · rw [if_neg (by rw [hc0, hz0]; simp), if_pos (.inl h)] at hm'
          simp only [Bool.and_eq_true, decide_eq_true_eq] at hm'
          exact write_and cols ac cc w0 b n m t a c pa pc l w ih hp hall h (by omega) h8 hb0 hbd hl (by omega)
        · rw [if_neg (by rw [hc0, hz0]; simp), if_pos (.inr h)] at hm'
          simp only [Bool.and_eq_true, decide_eq_true_eq] at hm'
          exact write_or cols ac cc w0 b n m t a c pa pc l w ih hp hall h (by omega) h8 hb0 hbd hl (by omega)
        · exact write_not cols ac cc w0 b n m t a c pa pc l w ih hp hall h.1 h.2 hb0 hbd hl (by omega)
        · exact write_true cols ac cc w0 b n m t a c pa pc l w hp h.1 hb0 hbd hl (by omega)
    · exact write_long cols ac cc w0 b (n + 1) t a c pa pc l w hb0 hbd (by omega) hl5
end Go.Proofs.YtdjlbfepddcmeaaGreatDoor
