/- PredOne: the walk. -/
import Derived.Test.YtdjlbfepddcmeaaGreatDoorQ42
set_option linter.unusedVariables false
set_option linter.unusedSimpArgs false
namespace Go.Proofs.YtdjlbfepddcmeaaGreatDoor
open Go.RowKit

def seenV (v : Nat → Bool) (j i : Nat) : Bool := decide (1 ≤ i) && decide (i < j) && v i
def cntV (v : Nat → Bool) : Nat → Int
  | 0 => 0
  | j + 1 => if j = 0 then 0 else cntV v j + if v j then 1 else 0
theorem colsX_is (w : World) (k : Int) (hk : In64 k) (w1 : World) (hb : Below (w.heap.size + 1) (w.alloc (.cells #[.string ⟨#[120]⟩, .int .i64 k] 46)) w1) : ColIs w1 (some ⟨w.heap.size, 0, none⟩) (colsX k) := by
  have h0 : ColIs (w.alloc (.cells #[.string ⟨#[120]⟩, .int .i64 k] 46)) (some ⟨w.heap.size, 0, none⟩) (colsX k) := by
    refine .inr ⟨w.heap.size, 0, rfl, fun i hi => ?_⟩
    obtain rfl : i = 0 := by
      have : i < 1 := hi
      omega
    exact ⟨by go_simp; rfl, by go_simp; rfl, by show (1 : Nat) ≤ _; omega, hk⟩
  exact h0.below (by simpa using hb)
theorem cell_row (w : World) (x : Da) (a : Option Addr) (c : Nat) (h : DaIs w x a) : DeepIs (w.alloc (.cells #[.int .i64 x.k, .int .i64 x.n, .string x.s, .slice a x.l.length c] 24)) (some ⟨w.heap.size, 0, none⟩) [⟨x, a, c⟩] := by
  have hb : Below w.heap.size w (w.alloc (.cells #[.int .i64 x.k, .int .i64 x.n, .string x.s, .slice a x.l.length c] 24)) := by go_grown
  refine .inr ⟨w.heap.size, 0, rfl, fun i hi => ?_⟩
  obtain rfl : i = 0 := by
    have : i < 1 := hi
    omega
  exact ⟨by go_simp, by go_simp, by go_simp, by go_simp, h.below hb⟩
theorem leaf_of {w : World} {x : Da} {a : Option Addr} (h : DaIs w x a) (op : Int) (ho : In64 op) : PredIs 1 w (leafP op x) a none := ⟨h, ho, (by show In64 0; exact ⟨by omega, by omega⟩), (by show 0 ≤ _; omega), .inl rfl⟩
theorem cntV_le (v : Nat → Bool) : ∀ j : Nat, 0 ≤ cntV v j ∧ cntV v j ≤ j
  | 0 => ⟨by rw [cntV]; omega, by rw [cntV]; omega⟩
  | j + 1 => by
    have ih := cntV_le v j
    rw [cntV]
    by_cases h : j = 0
    · rw [if_pos h]; omega
    · rw [if_neg h]; split <;> omega
def Arr (w : World) (g : Nat) (u : Nat → Bool) : Prop := w.heap[g]? = some (.cells #[.bool (u 0), .bool (u 1), .bool (u 2), .bool (u 3), .bool (u 4), .bool (u 5)] 47)
theorem Arr.cell {w : World} {g : Nat} {u : Nat → Bool} (h : Arr w g u) (i : Nat) (hi : i < 6) : w.cell? ⟨g, i, none⟩ = some (.bool (u i)) := by
  unfold Arr at h
  unfold World.cell?
  simp only [h]
  match i, hi with
  | 0, _ => rfl
  | 1, _ => rfl
  | 2, _ => rfl
  | 3, _ => rfl
  | 4, _ => rfl
  | 5, _ => rfl
theorem Arr.frozen {w : World} {g : Nat} {u : Nat → Bool} (h : Arr w g u) (i : Nat) : w.frozen? ⟨g, i, none⟩ = false := by
  unfold Arr at h
  unfold World.frozen?
  simp only [h]
  simp
theorem Arr.lt {w : World} {g : Nat} {u : Nat → Bool} (h : Arr w g u) : g < w.heap.size := World.block_lt_of_cell? w ⟨g, 0, none⟩ (h.cell 0 (by omega))
theorem Arr.later {w w1 : World} {B g : Nat} {u : Nat → Bool} (h : Arr w g u) (hb : Below B w w1) (hg : g < B) : Arr w1 g u := (hb.block g hg).trans h
theorem Arr.congr {w : World} {g : Nat} {u u' : Nat → Bool} (h : Arr w g u) (e : ∀ i, u i = u' i) : Arr w g u' := by
  rwa [show u = u' from funext e] at h
theorem Arr.put {w : World} {g : Nat} {u : Nat → Bool} (h : Arr w g u) (j : Nat) (hj : j < 6) (b : Bool) : Arr (w.setCell ⟨g, j, none⟩ (.bool b)) g (fun i => if i = j then b else u i) := by
  unfold Arr at h ⊢
  simp only [World.setCell, Array.getElem?_modify]
  simp only [h]
  match j, hj with
  | 0, _ => rfl
  | 1, _ => rfl
  | 2, _ => rfl
  | 3, _ => rfl
  | 4, _ => rfl
  | 5, _ => rfl
abbrev dbox (x : Da) (a : Option Addr) (c : Nat) : Obj := .cells #[.int .i64 x.k, .int .i64 x.n, .string x.s, .slice a x.l.length c] 24
theorem dbox4 {w : World} {g : Nat} {x : Da} {a : Option Addr} {c : Nat} (h : w.heap[g]? = some (dbox x a c)) :
    w.cell? ⟨g, 0, none⟩ = some (.int .i64 x.k) ∧ w.cell? ⟨g, 1, none⟩ = some (.int .i64 x.n) ∧ w.cell? ⟨g, 2, none⟩ = some (.string x.s) ∧ w.cell? ⟨g, 3, none⟩ = some (.slice a x.l.length c) := by
  refine ⟨?_, ?_, ?_, ?_⟩ <;> (unfold World.cell?; rw [h]; rfl)

abbrev three (w : World) (k n0 : Int) (s0 : ByteArray) (l0 : List It) (a0 : Option Addr) (c0 : Nat) (n1 : Int) (s1 : ByteArray) (l1 : List It) (a1 : Option Addr) (c1 : Nat) : World :=
  ((w.alloc (dbox ⟨k, n0, s0, l0⟩ a0 c0)).alloc (dbox ⟨k, n1, s1, l1⟩ a1 c1)).alloc (.cells #[.string ⟨#[120]⟩, .int .i64 k] 46)
def vals (k n0 : Int) (s0 : ByteArray) (l0 : List It) (a0 : Option Addr) (c0 : Nat) (n1 : Int) (s1 : ByteArray) (l1 : List It) (i : Nat) : Bool := holdV (colsX k) [⟨⟨k, n0, s0, l0⟩, a0, c0⟩] (leafP i ⟨k, n1, s1, l1⟩)

theorem one_round {k n0 : Int} {s0 : ByteArray} {l0 : List It} {a0 : Option Addr} {c0 : Nat} {n1 : Int} {s1 : ByteArray} {l1 : List It} {a1 : Option Addr} {c1 : Nat} {w wr : World}
    (hb : Below (w.heap.size + 3) (three w k n0 s0 l0 a0 c0 n1 s1 l1 a1 c1) wr) (h0 : DaIs w ⟨k, n0, s0, l0⟩ a0) (h1 : DaIs w ⟨k, n1, s1, l1⟩ a1) (hG : GlobsM w) (hk : In64 k) (h8 : 8 ≤ w.heap.size) :
    wr.heap[w.heap.size]? = some (dbox ⟨k, n0, s0, l0⟩ a0 c0) ∧ wr.heap[w.heap.size + 1]? = some (dbox ⟨k, n1, s1, l1⟩ a1 c1) ∧ Below w.heap.size w wr ∧ ColIs wr (some ⟨w.heap.size + 1 + 1, 0, none⟩) (colsX k) ∧
    DaIs wr ⟨k, n0, s0, l0⟩ a0 ∧ DaIs wr ⟨k, n1, s1, l1⟩ a1 ∧ GlobsM wr ∧ w.heap.size + 3 ≤ wr.heap.size := by
  have hz : (three w k n0 s0 l0 a0 c0 n1 s1 l1 a1 c1).heap.size = w.heap.size + 3 := by simp
  have hb0 : Below w.heap.size w (three w k n0 s0 l0 a0 c0 n1 s1 l1 a1 c1) := by go_grown
  have hw : Below w.heap.size w wr := hb0.trans (hb.mono (by omega))
  have r0 : ((w.alloc (dbox ⟨k, n0, s0, l0⟩ a0 c0)).alloc (dbox ⟨k, n1, s1, l1⟩ a1 c1)).heap[w.heap.size]? = some (dbox ⟨k, n0, s0, l0⟩ a0 c0) := (Below.heap_alloc _ _ w.heap.size (by simp)).trans (heap_alloc_new w _)
  have r1 : ((w.alloc (dbox ⟨k, n0, s0, l0⟩ a0 c0)).alloc (dbox ⟨k, n1, s1, l1⟩ a1 c1)).heap[w.heap.size + 1]? = some (dbox ⟨k, n1, s1, l1⟩ a1 c1) := by
    have := heap_alloc_new (w.alloc (dbox ⟨k, n0, s0, l0⟩ a0 c0)) (dbox ⟨k, n1, s1, l1⟩ a1 c1)
    simpa using this
  have hc := colsX_is ((w.alloc (dbox ⟨k, n0, s0, l0⟩ a0 c0)).alloc (dbox ⟨k, n1, s1, l1⟩ a1 c1)) k hk wr (by simpa using hb)
  refine ⟨(hb.block _ (by omega)).trans ((Below.heap_alloc _ _ w.heap.size (by simp; omega)).trans r0), (hb.block _ (by omega)).trans ((Below.heap_alloc _ _ (w.heap.size + 1) (by simp)).trans r1), hw, by simpa using hc, h0.below hw, h1.below hw, hG.belowB hw h8, ?_⟩
  have := hb.size
  omega
theorem seen_next (v : Nat → Bool) (j i : Nat) (hj : 1 ≤ j) : seenV v (j + 1) i = if i = j then v j else seenV v j i := by
  unfold seenV
  by_cases h : i = j
  · subst h; simp [hj]
  · rw [if_neg h]
    by_cases h1 : i < j
    · simp [h1, show i < j + 1 by omega]
    · simp [h1, show ¬ i < j + 1 by omega]
theorem seen_six (v : Nat → Bool) (j : Nat) (hj : 1 ≤ j) (h6 : j < 6) : seenV v 6 j = v j := by simp [seenV, hj, h6]
theorem Arr.set {w : World} {g : Nat} {v : Nat → Bool} {j : Nat} (h : Arr w g (seenV v j)) (hj : 1 ≤ j) (h6 : j < 6) : Arr (w.setCell ⟨g, j, none⟩ (.bool (v j))) g (seenV v (j + 1)) :=
  (h.put j h6 (v j)).congr fun i => (seen_next v j i hj).symm

set_option maxRecDepth 100000 in
set_option maxHeartbeats 4000000 in
theorem one_kind (k : Int) (hk : k = 1 ∨ k = 2) (n0 : Int) (s0 : ByteArray) (l0 : List It) (n1 : Int) (s1 : ByteArray) (l1 : List It) (a0 : Option Addr) (c0 : Nat) (a1 : Option Addr) (c1 : Nat) (w : World)
    (h0 : DaIs w ⟨k, n0, s0, l0⟩ a0) (h1 : DaIs w ⟨k, n1, s1, l1⟩ a1) (hG : GlobsM w) (h8 : 8 ≤ w.heap.size) :
    Calls Tryz.prog 7 #[dv k n0 s0 a0 l0.length c0, dv k n1 s1 a1 l1.length c1] w fun e w' => e = .returned (.bool true) ∧ Below w.heap.size w w' := by
  have HE := Lib.hid (fun op (ho : 1 ≤ op ∧ op ≤ 5) (cells : List El) => one_err k op ⟨k, n1, s1, l1⟩ cells ho hk rfl)
  have HLaw := Lib.hid (one_law k ⟨k, n1, s1, l1⟩ ⟨⟨k, n0, s0, l0⟩, a0, c0⟩ hk rfl rfl)
  have hik : In64 k := by rcases hk with rfl | rfl <;> exact ⟨by omega, by omega⟩
  have hg1 : (k != 1) = true → (k != 2) = false := by rcases hk with rfl | rfl <;> simp
  have HI := Lib.hid (And.intro h0 (And.intro h1 (And.intro hG hik)))
  have hb0 : Below w.heap.size w (((w.alloc (dbox ⟨k, n0, s0, l0⟩ a0 c0)).alloc (dbox ⟨k, n1, s1, l1⟩ a1 c1)).alloc (.cells #[.string ⟨#[120]⟩, .int .i64 k] 46)) := by go_grown
  have HB := Lib.hid hb0
  clear h0 h1 hG hik hk hb0
  go_enter Tryz.func7, Tryz.ntmps7
  cases hk1 : (k != 1) with
  | true =>
    have hk2 := hg1 hk1
    clear hg1
    go_wp2
    by_cases hE : holdE (colsX k) [⟨⟨k, n0, s0, l0⟩, a0, c0⟩] (leafP 1 ⟨k, n1, s1, l1⟩) = 0
    · have HLw := Lib.hid (HLaw.out hE)
      have HE0 := Lib.hid hE
      clear hE
      go_loopw [7] (fun i wr => ∃ j : Nat, 1 ≤ j ∧ j ≤ 6 ∧ i = .int .i64 j ∧ Below (w.heap.size + 3) (three w k n0 s0 l0 a0 c0 n1 s1 l1 a1 c1) wr ∧ Arr wr (w.heap.size + 1 + 1 + 1) (seenV (vals k n0 s0 l0 a0 c0 n1 s1 l1) j)) (fun i _ => 6 - (intOf i).toNat)
      case atStart =>
        refine ⟨1, by omega, by omega, rfl, (Below.refl _ _).alloc (by simp) _, ?_⟩
        have := heap_alloc_new (three w k n0 s0 l0 a0 c0 n1 s1 l1 a1 c1) (.cells #[.bool false, .bool false, .bool false, .bool false, .bool false, .bool false] 47)
        rw [show (three w k n0 s0 l0 a0 c0 n1 s1 l1 a1 c1).heap.size = w.heap.size + 1 + 1 + 1 by simp] at this
        exact this
      case round =>
        obtain ⟨j, hj1, hj6, rfl, hb, harr⟩ := hrel
        obtain ⟨x0, x1, hw, hcol, d0, d1, hGr, hz⟩ := one_round hb HI.out.1 HI.out.2.1 HI.out.2.2.1 HI.out.2.2.2 h8
        by_cases hlt : j ≤ 5
        · have hbc : Below wr.heap.size wr (wr.alloc (dbox ⟨k, n0, s0, l0⟩ a0 c0)) := by go_grown
          have HK := Lib.hid (Holds_any (colsX k) [⟨⟨k, n0, s0, l0⟩, a0, c0⟩] 1 (leafP j ⟨k, n1, s1, l1⟩) a1 c1 none 0 (some ⟨w.heap.size + 1 + 1, 0, none⟩) 1 (some ⟨wr.heap.size, 0, none⟩) 1 (wr.alloc (dbox ⟨k, n0, s0, l0⟩ a0 c0))
            (leaf_of (d1.below hbc) j ⟨by omega, by omega⟩) (hcol.below hbc) (by show (1 : Nat) ≤ _; omega) (cell_row wr _ a0 c0 d0) (by show (1 : Nat) ≤ _; omega) (hGr.below hbc) (by simp; omega))
          rw [(HE.out j ⟨by omega, by omega⟩ _).trans HE0.out] at HK
          have HH := Lib.hid (And.intro hb (And.intro harr (And.intro hw hbc)))
          obtain ⟨e0, e1, e2, e3⟩ := dbox4 x0
          obtain ⟨f0, f1, f2, f3⟩ := dbox4 x1
          clear hb harr hw x0 x1 hcol d0 d1 hGr hbc
          unfold pv leafP at HK
          go_wp2_with fail
          refine HK.out.mono ?_
          rintro e w2 ⟨rfl, hb2⟩
          have hz2 := hb2.size
          simp at hz2
          have hbw2 : Below (w.heap.size + 3) (three w k n0 s0 l0 a0 c0 n1 s1 l1 a1 c1) w2 := HH.out.1.trans (((Below.refl _ _).alloc (by omega) _).trans (hb2.mono (by simp; omega)))
          have harr2 := (HH.out.2.1.later (HH.out.2.2.2) HH.out.2.1.lt).later hb2 (by have := HH.out.2.1.lt; simp; omega)
          have hcj := harr2.cell j (by omega)
          have hfj := harr2.frozen j
          have HA := Lib.hid harr2
          have HB2 := Lib.hid hbw2
          clear hb2 harr2 hbw2 e0 e1 e2 e3 f0 f1 f2 f3
          go_wp2
          go_roundw
          case rel =>
            refine ⟨j + 1, by omega, by omega, by go_num, HB2.out.setCell (by simp) _, HA.out.set hj1 (by omega)⟩
          case measure => simp [intOf]; omega
        · obtain rfl : j = 6 := by omega
          have HV : ((if vals k n0 s0 l0 a0 c0 n1 s1 l1 1 then (1 : Int) else 0) + (if vals k n0 s0 l0 a0 c0 n1 s1 l1 2 then 1 else 0) + (if vals k n0 s0 l0 a0 c0 n1 s1 l1 3 then 1 else 0) = 1) ∧
              vals k n0 s0 l0 a0 c0 n1 s1 l1 4 = (!vals k n0 s0 l0 a0 c0 n1 s1 l1 3) ∧ vals k n0 s0 l0 a0 c0 n1 s1 l1 5 = (!vals k n0 s0 l0 a0 c0 n1 s1 l1 2) := HLw.out
          have HAW := Lib.hid (awake_any wr hGr (by omega))
          have HH := Lib.hid hw
          generalize vals k n0 s0 l0 a0 c0 n1 s1 l1 = v at *
          have HA := Lib.hid harr
          have HVh := Lib.hid HV
          clear HV harr hb hw x0 x1 hcol d0 d1 hGr HLw HLaw HE HE0
          go_wp2
          go_loop [12, 13] (fun n i => ∃ j : Nat, 1 ≤ j ∧ j ≤ 4 ∧ i = .int .i64 j ∧ n = .int .i64 (cntV v j)) (fun _ i => 4 - (intOf i).toNat)
          case atStart => exact ⟨1, by omega, by omega, rfl, rfl⟩
          case round =>
            obtain ⟨p, hp1, hp4, rfl, rfl⟩ := hrel
            have hle := cntV_le v p
            by_cases hp : p ≤ 3
            · have hc := HA.out.cell p (by omega)
              rw [seen_six v p hp1 (by omega)] at hc
              have hstep : cntV v (p + 1) = cntV v p + if v p then 1 else 0 := by rw [cntV, if_neg (by omega)]
              have HST := Lib.hid hstep
              clear hstep
              cases hv : v p with
              | true =>
                rw [hv] at hc HST
                go_wp2
                go_round
                case rel => exact ⟨p + 1, by omega, by omega, by go_num, by rw [HST.out]; go_num⟩
                case measure => simp [intOf]; omega
              | false =>
                rw [hv] at hc HST
                go_wp2
                go_round
                case rel => exact ⟨p + 1, by omega, by omega, by go_num, by rw [HST.out]; simp⟩
                case measure => simp [intOf]; omega
            · obtain rfl : p = 4 := by omega
              have h4 : cntV v 4 = 1 := by
                have e : cntV v 4 = 0 + (if v 1 then 1 else 0) + (if v 2 then 1 else 0) + (if v 3 then 1 else 0) := rfl
                rw [e]
                have := HVh.out.1
                omega
              rw [h4] at hle ⊢
              have c2 := HA.out.cell 2 (by omega)
              have c3 := HA.out.cell 3 (by omega)
              have c4 := HA.out.cell 4 (by omega)
              have c5 := HA.out.cell 5 (by omega)
              rw [seen_six v 2 (by omega) (by omega)] at c2
              rw [seen_six v 3 (by omega) (by omega)] at c3
              rw [seen_six v 4 (by omega) (by omega), HVh.out.2.1] at c4
              rw [seen_six v 5 (by omega) (by omega), HVh.out.2.2] at c5
              clear h4 HVh
              generalize v 2 = A2 at *
              generalize v 3 = A3 at *
              cases A2 <;> cases A3 <;> (
                go_wp2_with fail
                refine HAW.out.mono ?_
                rintro e w6 ⟨rfl, hb6⟩
                go_wp2
                go_ret
                exact ⟨rfl, HH.out.trans (hb6.mono HH.out.size)⟩)
    · have hE1 : (holdE (colsX k) [⟨⟨k, n0, s0, l0⟩, a0, c0⟩] (leafP 1 ⟨k, n1, s1, l1⟩) != 0) = true := by simpa using hE
      have hee : (holdE (colsX k) [⟨⟨k, n0, s0, l0⟩, a0, c0⟩] (leafP 1 ⟨k, n1, s1, l1⟩) == holdE (colsX k) [⟨⟨k, n0, s0, l0⟩, a0, c0⟩] (leafP 1 ⟨k, n1, s1, l1⟩)) = true := by simp
      clear hE
      go_loopw [7] (fun i wr => i = .int .i64 1 ∧ Below (w.heap.size + 3) (three w k n0 s0 l0 a0 c0 n1 s1 l1 a1 c1) wr) (fun i _ => 6 - (intOf i).toNat)
      case atStart => exact ⟨rfl, (Below.refl _ _).alloc (by simp) _⟩
      case round =>
        obtain ⟨rfl, hb⟩ := hrel
        obtain ⟨x0, x1, hw, hcol, d0, d1, hGr, hz⟩ := one_round hb HI.out.1 HI.out.2.1 HI.out.2.2.1 HI.out.2.2.2 h8
        have hbc : Below wr.heap.size wr (wr.alloc (dbox ⟨k, n0, s0, l0⟩ a0 c0)) := by go_grown
        have HK := Lib.hid (Holds_any (colsX k) [⟨⟨k, n0, s0, l0⟩, a0, c0⟩] 1 (leafP 1 ⟨k, n1, s1, l1⟩) a1 c1 none 0 (some ⟨w.heap.size + 1 + 1, 0, none⟩) 1 (some ⟨wr.heap.size, 0, none⟩) 1 (wr.alloc (dbox ⟨k, n0, s0, l0⟩ a0 c0))
          (leaf_of (d1.below hbc) 1 ⟨by omega, by omega⟩) (hcol.below hbc) (by show (1 : Nat) ≤ _; omega) (cell_row wr _ a0 c0 d0) (by show (1 : Nat) ≤ _; omega) (hGr.below hbc) (by simp; omega))
        have HH := Lib.hid (And.intro hb (And.intro hw hbc))
        obtain ⟨e0, e1, e2, e3⟩ := dbox4 x0
        obtain ⟨f0, f1, f2, f3⟩ := dbox4 x1
        clear hb hw x0 x1 hcol d0 d1 hGr hbc
        generalize hE1e : holdE (colsX k) [⟨⟨k, n0, s0, l0⟩, a0, c0⟩] (leafP 1 ⟨k, n1, s1, l1⟩) = E1 at *
        have HEq := Lib.hid hE1e
        clear hE1e
        generalize holdV (colsX k) [⟨⟨k, n0, s0, l0⟩, a0, c0⟩] (leafP 1 ⟨k, n1, s1, l1⟩) = V1 at *
        unfold pv leafP at HK
        go_wp2_with fail
        refine HK.out.mono ?_
        rintro e w2 ⟨rfl, hb2⟩
        have hz2 := hb2.size
        simp at hz2
        have hbw2 : Below (w.heap.size + 3) (three w k n0 s0 l0 a0 c0 n1 s1 l1 a1 c1) w2 := HH.out.1.trans (((Below.refl _ _).alloc (by omega) _).trans (hb2.mono (by simp; omega)))
        clear e0 e1 e2 e3 f0 f1 f2 f3 HK hb2
        obtain ⟨x0, x1, hw, hcol, d0, d1, hGr, hz⟩ := one_round hbw2 HI.out.1 HI.out.2.1 HI.out.2.2.1 HI.out.2.2.2 h8
        have hbc : Below w2.heap.size w2 (w2.alloc (dbox ⟨k, n0, s0, l0⟩ a0 c0)) := by go_grown
        have HK := Lib.hid (rHolds_any (colsX k) [⟨⟨k, n0, s0, l0⟩, a0, c0⟩] 1 (leafP 1 ⟨k, n1, s1, l1⟩) a1 c1 none 0 (some ⟨w.heap.size + 1 + 1, 0, none⟩) 1 (some ⟨w2.heap.size, 0, none⟩) 1 (w2.alloc (dbox ⟨k, n0, s0, l0⟩ a0 c0))
          (leaf_of (d1.below hbc) 1 ⟨by omega, by omega⟩) (hcol.below hbc) (by show (1 : Nat) ≤ _; omega) (cell_row w2 _ a0 c0 d0) (by show (1 : Nat) ≤ _; omega))
        obtain ⟨e0, e1, e2, e3⟩ := dbox4 x0
        obtain ⟨f0, f1, f2, f3⟩ := dbox4 x1
        have HW2 := Lib.hid (And.intro hw (And.intro hbc hGr))
        clear x0 x1 hcol d0 d1 hw hbc hGr hbw2 HH
        rw [HEq.out] at HK
        generalize holdV (colsX k) [⟨⟨k, n0, s0, l0⟩, a0, c0⟩] (leafP 1 ⟨k, n1, s1, l1⟩) = V2 at *
        unfold pv leafP at HK
        go_wp2_with fail
        refine HK.out.mono ?_
        rintro e w3 ⟨rfl, hb3⟩
        have hw3 : Below w.heap.size w w3 := HW2.out.1.trans ((HW2.out.2.1.trans (hb3.mono (by simp))).mono HW2.out.1.size)
        have HAW := Lib.hid (awake_any w3 (HI.out.2.2.1.belowB hw3 h8) (by have := hw3.size; omega))
        have HW3 := Lib.hid hw3
        clear hw3 hb3 e0 e1 e2 e3 f0 f1 f2 f3
        go_wp2_with fail
        refine HAW.out.mono ?_
        rintro e w4 ⟨rfl, hb4⟩
        go_wp2
        go_ret
        exact ⟨rfl, HW3.out.trans (hb4.mono HW3.out.size)⟩
  | false =>
    clear hg1
    go_wp2
    by_cases hE : holdE (colsX k) [⟨⟨k, n0, s0, l0⟩, a0, c0⟩] (leafP 1 ⟨k, n1, s1, l1⟩) = 0
    · have HLw := Lib.hid (HLaw.out hE)
      have HE0 := Lib.hid hE
      clear hE
      go_loopw [7] (fun i wr => ∃ j : Nat, 1 ≤ j ∧ j ≤ 6 ∧ i = .int .i64 j ∧ Below (w.heap.size + 3) (three w k n0 s0 l0 a0 c0 n1 s1 l1 a1 c1) wr ∧ Arr wr (w.heap.size + 1 + 1 + 1) (seenV (vals k n0 s0 l0 a0 c0 n1 s1 l1) j)) (fun i _ => 6 - (intOf i).toNat)
      case atStart =>
        refine ⟨1, by omega, by omega, rfl, (Below.refl _ _).alloc (by simp) _, ?_⟩
        have := heap_alloc_new (three w k n0 s0 l0 a0 c0 n1 s1 l1 a1 c1) (.cells #[.bool false, .bool false, .bool false, .bool false, .bool false, .bool false] 47)
        rw [show (three w k n0 s0 l0 a0 c0 n1 s1 l1 a1 c1).heap.size = w.heap.size + 1 + 1 + 1 by simp] at this
        exact this
      case round =>
        obtain ⟨j, hj1, hj6, rfl, hb, harr⟩ := hrel
        obtain ⟨x0, x1, hw, hcol, d0, d1, hGr, hz⟩ := one_round hb HI.out.1 HI.out.2.1 HI.out.2.2.1 HI.out.2.2.2 h8
        by_cases hlt : j ≤ 5
        · have hbc : Below wr.heap.size wr (wr.alloc (dbox ⟨k, n0, s0, l0⟩ a0 c0)) := by go_grown
          have HK := Lib.hid (Holds_any (colsX k) [⟨⟨k, n0, s0, l0⟩, a0, c0⟩] 1 (leafP j ⟨k, n1, s1, l1⟩) a1 c1 none 0 (some ⟨w.heap.size + 1 + 1, 0, none⟩) 1 (some ⟨wr.heap.size, 0, none⟩) 1 (wr.alloc (dbox ⟨k, n0, s0, l0⟩ a0 c0))
            (leaf_of (d1.below hbc) j ⟨by omega, by omega⟩) (hcol.below hbc) (by show (1 : Nat) ≤ _; omega) (cell_row wr _ a0 c0 d0) (by show (1 : Nat) ≤ _; omega) (hGr.below hbc) (by simp; omega))
          rw [(HE.out j ⟨by omega, by omega⟩ _).trans HE0.out] at HK
          have HH := Lib.hid (And.intro hb (And.intro harr (And.intro hw hbc)))
          obtain ⟨e0, e1, e2, e3⟩ := dbox4 x0
          obtain ⟨f0, f1, f2, f3⟩ := dbox4 x1
          clear hb harr hw x0 x1 hcol d0 d1 hGr hbc
          unfold pv leafP at HK
          go_wp2_with fail
          refine HK.out.mono ?_
          rintro e w2 ⟨rfl, hb2⟩
          have hz2 := hb2.size
          simp at hz2
          have hbw2 : Below (w.heap.size + 3) (three w k n0 s0 l0 a0 c0 n1 s1 l1 a1 c1) w2 := HH.out.1.trans (((Below.refl _ _).alloc (by omega) _).trans (hb2.mono (by simp; omega)))
          have harr2 := (HH.out.2.1.later (HH.out.2.2.2) HH.out.2.1.lt).later hb2 (by have := HH.out.2.1.lt; simp; omega)
          have hcj := harr2.cell j (by omega)
          have hfj := harr2.frozen j
          have HA := Lib.hid harr2
          have HB2 := Lib.hid hbw2
          clear hb2 harr2 hbw2 e0 e1 e2 e3 f0 f1 f2 f3
          go_wp2
          go_roundw
          case rel =>
            refine ⟨j + 1, by omega, by omega, by go_num, HB2.out.setCell (by simp) _, HA.out.set hj1 (by omega)⟩
          case measure => simp [intOf]; omega
        · obtain rfl : j = 6 := by omega
          have HV : ((if vals k n0 s0 l0 a0 c0 n1 s1 l1 1 then (1 : Int) else 0) + (if vals k n0 s0 l0 a0 c0 n1 s1 l1 2 then 1 else 0) + (if vals k n0 s0 l0 a0 c0 n1 s1 l1 3 then 1 else 0) = 1) ∧
              vals k n0 s0 l0 a0 c0 n1 s1 l1 4 = (!vals k n0 s0 l0 a0 c0 n1 s1 l1 3) ∧ vals k n0 s0 l0 a0 c0 n1 s1 l1 5 = (!vals k n0 s0 l0 a0 c0 n1 s1 l1 2) := HLw.out
          have HAW := Lib.hid (awake_any wr hGr (by omega))
          have HH := Lib.hid hw
          generalize vals k n0 s0 l0 a0 c0 n1 s1 l1 = v at *
          have HA := Lib.hid harr
          have HVh := Lib.hid HV
          clear HV harr hb hw x0 x1 hcol d0 d1 hGr HLw HLaw HE HE0
          go_wp2
          go_loop [12, 13] (fun n i => ∃ j : Nat, 1 ≤ j ∧ j ≤ 4 ∧ i = .int .i64 j ∧ n = .int .i64 (cntV v j)) (fun _ i => 4 - (intOf i).toNat)
          case atStart => exact ⟨1, by omega, by omega, rfl, rfl⟩
          case round =>
            obtain ⟨p, hp1, hp4, rfl, rfl⟩ := hrel
            have hle := cntV_le v p
            by_cases hp : p ≤ 3
            · have hc := HA.out.cell p (by omega)
              rw [seen_six v p hp1 (by omega)] at hc
              have hstep : cntV v (p + 1) = cntV v p + if v p then 1 else 0 := by rw [cntV, if_neg (by omega)]
              have HST := Lib.hid hstep
              clear hstep
              cases hv : v p with
              | true =>
                rw [hv] at hc HST
                go_wp2
                go_round
                case rel => exact ⟨p + 1, by omega, by omega, by go_num, by rw [HST.out]; go_num⟩
                case measure => simp [intOf]; omega
              | false =>
                rw [hv] at hc HST
                go_wp2
                go_round
                case rel => exact ⟨p + 1, by omega, by omega, by go_num, by rw [HST.out]; simp⟩
                case measure => simp [intOf]; omega
            · obtain rfl : p = 4 := by omega
              have h4 : cntV v 4 = 1 := by
                have e : cntV v 4 = 0 + (if v 1 then 1 else 0) + (if v 2 then 1 else 0) + (if v 3 then 1 else 0) := rfl
                rw [e]
                have := HVh.out.1
                omega
              rw [h4] at hle ⊢
              have c2 := HA.out.cell 2 (by omega)
              have c3 := HA.out.cell 3 (by omega)
              have c4 := HA.out.cell 4 (by omega)
              have c5 := HA.out.cell 5 (by omega)
              rw [seen_six v 2 (by omega) (by omega)] at c2
              rw [seen_six v 3 (by omega) (by omega)] at c3
              rw [seen_six v 4 (by omega) (by omega), HVh.out.2.1] at c4
              rw [seen_six v 5 (by omega) (by omega), HVh.out.2.2] at c5
              clear h4 HVh
              generalize v 2 = A2 at *
              generalize v 3 = A3 at *
              cases A2 <;> cases A3 <;> (
                go_wp2_with fail
                refine HAW.out.mono ?_
                rintro e w6 ⟨rfl, hb6⟩
                go_wp2
                go_ret
                exact ⟨rfl, HH.out.trans (hb6.mono HH.out.size)⟩)
    · have hE1 : (holdE (colsX k) [⟨⟨k, n0, s0, l0⟩, a0, c0⟩] (leafP 1 ⟨k, n1, s1, l1⟩) != 0) = true := by simpa using hE
      have hee : (holdE (colsX k) [⟨⟨k, n0, s0, l0⟩, a0, c0⟩] (leafP 1 ⟨k, n1, s1, l1⟩) == holdE (colsX k) [⟨⟨k, n0, s0, l0⟩, a0, c0⟩] (leafP 1 ⟨k, n1, s1, l1⟩)) = true := by simp
      clear hE
      go_loopw [7] (fun i wr => i = .int .i64 1 ∧ Below (w.heap.size + 3) (three w k n0 s0 l0 a0 c0 n1 s1 l1 a1 c1) wr) (fun i _ => 6 - (intOf i).toNat)
      case atStart => exact ⟨rfl, (Below.refl _ _).alloc (by simp) _⟩
      case round =>
        obtain ⟨rfl, hb⟩ := hrel
        obtain ⟨x0, x1, hw, hcol, d0, d1, hGr, hz⟩ := one_round hb HI.out.1 HI.out.2.1 HI.out.2.2.1 HI.out.2.2.2 h8
        have hbc : Below wr.heap.size wr (wr.alloc (dbox ⟨k, n0, s0, l0⟩ a0 c0)) := by go_grown
        have HK := Lib.hid (Holds_any (colsX k) [⟨⟨k, n0, s0, l0⟩, a0, c0⟩] 1 (leafP 1 ⟨k, n1, s1, l1⟩) a1 c1 none 0 (some ⟨w.heap.size + 1 + 1, 0, none⟩) 1 (some ⟨wr.heap.size, 0, none⟩) 1 (wr.alloc (dbox ⟨k, n0, s0, l0⟩ a0 c0))
          (leaf_of (d1.below hbc) 1 ⟨by omega, by omega⟩) (hcol.below hbc) (by show (1 : Nat) ≤ _; omega) (cell_row wr _ a0 c0 d0) (by show (1 : Nat) ≤ _; omega) (hGr.below hbc) (by simp; omega))
        have HH := Lib.hid (And.intro hb (And.intro hw hbc))
        obtain ⟨e0, e1, e2, e3⟩ := dbox4 x0
        obtain ⟨f0, f1, f2, f3⟩ := dbox4 x1
        clear hb hw x0 x1 hcol d0 d1 hGr hbc
        generalize hE1e : holdE (colsX k) [⟨⟨k, n0, s0, l0⟩, a0, c0⟩] (leafP 1 ⟨k, n1, s1, l1⟩) = E1 at *
        have HEq := Lib.hid hE1e
        clear hE1e
        generalize holdV (colsX k) [⟨⟨k, n0, s0, l0⟩, a0, c0⟩] (leafP 1 ⟨k, n1, s1, l1⟩) = V1 at *
        unfold pv leafP at HK
        go_wp2_with fail
        refine HK.out.mono ?_
        rintro e w2 ⟨rfl, hb2⟩
        have hz2 := hb2.size
        simp at hz2
        have hbw2 : Below (w.heap.size + 3) (three w k n0 s0 l0 a0 c0 n1 s1 l1 a1 c1) w2 := HH.out.1.trans (((Below.refl _ _).alloc (by omega) _).trans (hb2.mono (by simp; omega)))
        clear e0 e1 e2 e3 f0 f1 f2 f3 HK hb2
        obtain ⟨x0, x1, hw, hcol, d0, d1, hGr, hz⟩ := one_round hbw2 HI.out.1 HI.out.2.1 HI.out.2.2.1 HI.out.2.2.2 h8
        have hbc : Below w2.heap.size w2 (w2.alloc (dbox ⟨k, n0, s0, l0⟩ a0 c0)) := by go_grown
        have HK := Lib.hid (rHolds_any (colsX k) [⟨⟨k, n0, s0, l0⟩, a0, c0⟩] 1 (leafP 1 ⟨k, n1, s1, l1⟩) a1 c1 none 0 (some ⟨w.heap.size + 1 + 1, 0, none⟩) 1 (some ⟨w2.heap.size, 0, none⟩) 1 (w2.alloc (dbox ⟨k, n0, s0, l0⟩ a0 c0))
          (leaf_of (d1.below hbc) 1 ⟨by omega, by omega⟩) (hcol.below hbc) (by show (1 : Nat) ≤ _; omega) (cell_row w2 _ a0 c0 d0) (by show (1 : Nat) ≤ _; omega))
        obtain ⟨e0, e1, e2, e3⟩ := dbox4 x0
        obtain ⟨f0, f1, f2, f3⟩ := dbox4 x1
        have HW2 := Lib.hid (And.intro hw (And.intro hbc hGr))
        clear x0 x1 hcol d0 d1 hw hbc hGr hbw2 HH
        rw [HEq.out] at HK
        generalize holdV (colsX k) [⟨⟨k, n0, s0, l0⟩, a0, c0⟩] (leafP 1 ⟨k, n1, s1, l1⟩) = V2 at *
        unfold pv leafP at HK
        go_wp2_with fail
        refine HK.out.mono ?_
        rintro e w3 ⟨rfl, hb3⟩
        have hw3 : Below w.heap.size w w3 := HW2.out.1.trans ((HW2.out.2.1.trans (hb3.mono (by simp))).mono HW2.out.1.size)
        have HAW := Lib.hid (awake_any w3 (HI.out.2.2.1.belowB hw3 h8) (by have := hw3.size; omega))
        have HW3 := Lib.hid hw3
        clear hw3 hb3 e0 e1 e2 e3 f0 f1 f2 f3
        go_wp2_with fail
        refine HAW.out.mono ?_
        rintro e w4 ⟨rfl, hb4⟩
        go_wp2
        go_ret
        exact ⟨rfl, HW3.out.trans (hb4.mono HW3.out.size)⟩

set_option maxRecDepth 100000 in
set_option maxHeartbeats 4000000 in
theorem one_walk (x0 x1 : Da) (a0 : Option Addr) (c0 : Nat) (a1 : Option Addr) (c1 : Nat) (w : World) (h0 : DaIs w x0 a0) (h1 : DaIs w x1 a1) (hG : GlobsM w) (h8 : 8 ≤ w.heap.size) :
    Calls Tryz.prog 7 #[dv x0.k x0.n x0.s a0 x0.l.length c0, dv x1.k x1.n x1.s a1 x1.l.length c1] w fun e w' => e = .returned (.bool true) ∧ Below w.heap.size w w' := by
  obtain ⟨k, n0, s0, l0⟩ := x0
  obtain ⟨k1, n1, s1, l1⟩ := x1
  by_cases hk : k = k1 ∧ (k = 1 ∨ k = 2)
  · obtain ⟨rfl, hk⟩ := hk
    exact one_kind k hk n0 s0 l0 n1 s1 l1 a0 c0 a1 c1 w h0 h1 hG h8
  · have hb0 : Below w.heap.size w ((w.alloc (dbox ⟨k, n0, s0, l0⟩ a0 c0)).alloc (dbox ⟨k1, n1, s1, l1⟩ a1 c1)) := by go_grown
    have HA := Lib.hid (awake_any _ (hG.belowB hb0 h8) (by have := hb0.size; omega))
    have HB := Lib.hid hb0
    clear hb0 h0 h1 hG
    by_cases e : k = k1
    · subst e
      have e1 : (k != 1) = true := by
        have : ¬ k = 1 := fun h => hk ⟨rfl, .inl h⟩
        simpa using this
      have e2 : (k != 2) = true := by
        have : ¬ k = 2 := fun h => hk ⟨rfl, .inr h⟩
        simpa using this
      clear hk
      go_enter Tryz.func7, Tryz.ntmps7
      go_wp2_with fail
      refine HA.out.mono ?_
      rintro e w1 ⟨rfl, hb1⟩
      go_wp2
      go_ret
      exact ⟨rfl, HB.out.trans (hb1.mono HB.out.size)⟩
    · have e0 : (k != k1) = true := by simpa using e
      clear hk e
      go_enter Tryz.func7, Tryz.ntmps7
      go_wp2_with fail
      refine HA.out.mono ?_
      rintro e w1 ⟨rfl, hb1⟩
      go_wp2
      go_ret
      exact ⟨rfl, HB.out.trans (hb1.mono HB.out.size)⟩
end Go.Proofs.YtdjlbfepddcmeaaGreatDoor
