/- The reference's Drop, Same, SameColumns. The reference's Same, SameColumns. The reference's Add, Set. The reference's Set. -/
import Derived.Test.YtiakepcgalmjfaaGreatQ21
set_option linter.unusedVariables false
set_option linter.unusedSimpArgs false
namespace Go.Proofs.YtiakepcgalmjfaaGreat
open Go.RowKit

def dropXi (l : List Xi) (s : ByteArray) : List Xi := l.filter fun y => !(y.name.toList == s.toList)
theorem filter_take_succ {α : Type} (p : α → Bool) (L : List α) (j : Nat) (h : j < L.length) : (L.take (j + 1)).filter p = (L.take j).filter p ++ if p L[j] then [L[j]] else [] := by
  rw [List.take_succ_eq_append_getElem h, List.filter_append]
  congr 1
  simp [List.filter]
  split <;> simp_all
set_option maxRecDepth 100000 in
set_option maxHeartbeats 4000000 in
theorem rdrop_any (L : List Xi) (A : Option Addr) (c : Nat) (s : ByteArray) (w : World) (h : IxR w A L) (hl : L.length ≤ 65536) :
    Calls Tryz.prog 28 #[.slice A L.length c, .string s] w fun e w' => ∃ v, e = .returned v ∧ xiRows w' w.heap.size v (dropXi L s) ∧ Below w.heap.size w w' := by
  have HW := Lib.hid h
  clear h
  go_enter Tryz.func28, Tryz.ntmps28
  go_wp2
  go_loopw [5, 6] (fun o i wr => ∃ (j k : Nat) (A' : Option Addr) (c' : Nat), j ≤ L.length ∧ i = .int .i64 j ∧ o = .slice A' k c' ∧ k = ((L.take j).filter fun y => !(y.name.toList == s.toList)).length ∧ xiRows wr w.heap.size (.slice A' k c') ((L.take j).filter fun y => !(y.name.toList == s.toList)) ∧ Below w.heap.size w wr) (fun _ i _ => L.length - (intOf i).toNat)
  case atStart => exact ⟨0, 0, none, 0, Nat.zero_le _, rfl, rfl, rfl, xiRows.nil _ _, Below.refl _ _⟩
  case round =>
    obtain ⟨j, k, A', c', hj, rfl, rfl, hk, hr, hb⟩ := hrel
    by_cases hlt : j < L.length
    · have hrd := HW.out.below hb
      rcases hrd with h0 | ⟨b, off, rfl, hc⟩
      · rw [h0] at hlt; simp at hlt
      · obtain ⟨x0, x1, x2, x3, x4⟩ := hc j hlt
        have HT := Lib.hid (filter_take_succ (fun y : Xi => !(y.name.toList == s.toList)) L j hlt)
        have hkl : k ≤ L.length := by
          rw [hk]
          exact Nat.le_trans (List.length_filter_le _ _) (by rw [List.length_take]; omega)
        have H := Lib.hid (And.intro hk (And.intro hr hb))
        clear hc hr hk
        obtain ⟨y, hy⟩ : ∃ y, L[j] = y := ⟨_, rfl⟩
        rw [hy] at x0 x1 x2 x3 x4 HT
        have hjl : (j : Int) < L.length := by omega
        have hsz := hb.size
        clear hy hb
        cases he : (y.name.toList == s.toList) with
        | true =>
          have he2 : (y.name.toList != s.toList) = false := by show (!(y.name.toList == s.toList)) = false; rw [he]; rfl
          have HE := Lib.hid he
          go_wp2
          go_roundw
          case rel =>
            refine ⟨j + 1, k, A', c', by omega, by go_num, rfl, ?_, ?_, H.out.2.2⟩
            · rw [HT.out, HE.out, show ((if (!true) = true then [y] else []) : List Xi) = [] from rfl, List.append_nil]
              exact H.out.1
            · rw [HT.out, HE.out, show ((if (!true) = true then [y] else []) : List Xi) = [] from rfl, List.append_nil]
              exact H.out.2.1
          case measure => simp [intOf]; omega
        | false =>
          have he2 : (y.name.toList != s.toList) = true := by show (!(y.name.toList == s.toList)) = true; rw [he]; rfl
          have HE := Lib.hid he
          have hbA : Below wr.heap.size wr (wr.alloc (xiO y)) := by go_grown
          have hrA : xiRows (wr.alloc (xiO y)) w.heap.size (.slice A' k c') ((L.take j).filter fun y => !(y.name.toList == s.toList)) := World.ownsRow.alloc H.out.2.1 _
          have hxA := xi5 (hnew wr (xiO y))
          have HA := Lib.hid (And.intro hrA (And.intro hxA (show w.heap.size ≤ (wr.alloc (xiO y)).heap.size by simp; omega)))
          clear hbA hrA hxA
          obtain ⟨l0, hl0⟩ : ∃ l0, ((L.take j).filter fun y => !(y.name.toList == s.toList)) = l0 := ⟨_, rfl⟩
          rw [hl0] at HA HT H
          clear hl0
          go_wp2_with (at_builtin; refine wp_appxi rfl _ _ rfl w.heap.size _ l0 rfl HA.out.1 y wr.heap.size 1 rfl HA.out.2.1.1 HA.out.2.1.2.1 HA.out.2.1.2.2.1 HA.out.2.1.2.2.2.1 HA.out.2.1.2.2.2.2 (by rw [← H.out.1]; omega) HA.out.2.2 ?_; intro g cap w8 hr8 hg8 hat8; have hb8 : Below w.heap.size w w8 := (H.out.2.2.alloc hsz _).grown hg8 (by simp; omega) (fun q hq => (World.ownsRow.lt H.out.2.1 q hq).1); have H8 := Lib.hid (And.intro hr8 hb8); clear hr8 hg8 hat8 hb8)
          go_roundw
          case rel =>
            refine ⟨j + 1, (l0 ++ [y]).length, some ⟨g, 0, none⟩, cap, by omega, by go_num, by simp, ?_, ?_, H8.out.2⟩
            · rw [HT.out, HE.out]; rfl
            · rw [HT.out, HE.out]; exact H8.out.1
          case measure => simp [intOf]; omega
    · have hjl : ¬ (j : Int) < L.length := by omega
      have H := Lib.hid (And.intro hr hb)
      clear hr hk hb
      go_wp2
      go_ret
      refine ⟨_, rfl, ?_, H.out.2⟩
      have := H.out.1
      rw [List.take_of_length_le (show L.length ≤ j by omega)] at this
      exact this

end Go.Proofs.YtiakepcgalmjfaaGreat

namespace Go.Proofs.YtiakepcgalmjfaaGreat
open Go.RowKit

/- Lists that are equal are the same. -/
set_option maxRecDepth 100000 in
set_option maxHeartbeats 4000000 in
theorem rsame_any (L : List Xi) (A A' : Option Addr) (c c' : Nat) (w : World) (h : IxR w A L) (h' : IxR w A' L) (hl : L.length ≤ 65536) :
    Calls Tryz.prog 8 #[.slice A L.length c, .slice A' L.length c'] w fun e w' => e = .returned (.bool true) ∧ Below w.heap.size w w' := by
  have HW := Lib.hid (And.intro h h')
  clear h h'
  go_enter Tryz.func8, Tryz.ntmps8
  go_wp2
  go_loopw [5] (fun i wr => ∃ j : Nat, j ≤ L.length ∧ i = .int .i64 j ∧ Below w.heap.size w wr) (fun i _ => L.length - (intOf i).toNat)
  case atStart => exact ⟨0, Nat.zero_le _, rfl, Below.refl _ _⟩
  case round =>
    obtain ⟨j, hj, rfl, hb⟩ := hrel
    by_cases hlt : j < L.length
    · have hrd := HW.out.1.below hb
      have hrd' := HW.out.2.below hb
      rcases hrd with h0 | ⟨b, off, rfl, hc⟩
      · rw [h0] at hlt; simp at hlt
      rcases hrd' with h0 | ⟨b', off', rfl, hc'⟩
      · rw [h0] at hlt; simp at hlt
      obtain ⟨x0, x1, x2, x3, x4⟩ := hc j hlt
      obtain ⟨y0, y1, y2, y3, y4⟩ := hc' j hlt
      have hjl : (j : Int) < L.length := by omega
      have HB := Lib.hid hb
      clear hc hc' hb
      generalize L[j] = x at *
      go_wp2
      go_quiet (fail)
      go_wp2
      go_roundw
      case rel => exact ⟨j + 1, by omega, by go_num, below_drewK HB.out nq⟩
      case measure => simp [intOf]; omega
    · have hjl : ¬ (j : Int) < L.length := by omega
      have HB := Lib.hid hb
      clear hb
      go_wp2
      go_ret
      exact ⟨rfl, HB.out⟩

/-- Columns at an address. -/
def CoR (w : World) (A : Option Addr) (L : List Co) : Prop := L = [] ∨ ∃ b off, A = some ⟨b, off, none⟩ ∧ ∀ i (h : i < L.length), w.cell? ⟨b, off + i * 2, none⟩ = some (.string L[i].name) ∧ w.cell? ⟨b, off + i * 2 + 1, none⟩ = some (.int .i64 L[i].kind)
theorem CoR.below {w w' : World} {A : Option Addr} {L : List Co} (h : CoR w A L) (hb : Below w.heap.size w w') : CoR w' A L := by
  rcases h with h | ⟨b, off, ha, h⟩
  · exact .inl h
  · exact .inr ⟨b, off, ha, fun i hi => ⟨(hb.cell (World.block_lt_of_cell? w _ (h i hi).1)).trans (h i hi).1, (hb.cell (World.block_lt_of_cell? w _ (h i hi).2)).trans (h i hi).2⟩⟩
theorem ColIs.read {w : World} {A : Option Addr} {L : List Co} (h : ColIs w A L) : CoR w A L := by
  rcases h with h | ⟨b, off, ha, h⟩
  · exact .inl h
  · exact .inr ⟨b, off, ha, fun i hi => ⟨(h i hi).1, (h i hi).2.1⟩⟩
theorem coRows.read {w : World} {B n c : Nat} {A : Option Addr} {L : List Co} (h : coRows w B (.slice A n c) L) : CoR w A L := by
  cases A with
  | none => exact .inl (coRows.nonil h)
  | some a =>
    obtain ⟨b, off, sp⟩ := a
    rcases h.2 with ⟨e, h0⟩ | ⟨g', cap, cur, e, hg', _⟩
    · cases e
    · simp only [Value.slice.injEq, Option.some.injEq, Addr.mk.injEq] at e
      obtain ⟨⟨rfl, rfl, rfl⟩, rfl, rfl⟩ := e
      refine .inr ⟨b, 0, rfl, fun i hi => ?_⟩
      have := (coRows.cells h i hi).2.2
      simpa using this
set_option maxRecDepth 100000 in
set_option maxHeartbeats 4000000 in
theorem rsamecols_any (L : List Co) (A A' : Option Addr) (c c' : Nat) (w : World) (h : CoR w A L) (h' : CoR w A' L) (hl : L.length ≤ 65536) :
    Calls Tryz.prog 12 #[.slice A L.length c, .slice A' L.length c'] w fun e w' => e = .returned (.bool true) ∧ Below w.heap.size w w' := by
  have HW := Lib.hid (And.intro h h')
  clear h h'
  go_enter Tryz.func12, Tryz.ntmps12
  go_wp2
  go_loopw [5] (fun i wr => ∃ j : Nat, j ≤ L.length ∧ i = .int .i64 j ∧ Below w.heap.size w wr) (fun i _ => L.length - (intOf i).toNat)
  case atStart => exact ⟨0, Nat.zero_le _, rfl, Below.refl _ _⟩
  case round =>
    obtain ⟨j, hj, rfl, hb⟩ := hrel
    by_cases hlt : j < L.length
    · have hrd := HW.out.1.below hb
      have hrd' := HW.out.2.below hb
      rcases hrd with h0 | ⟨b, off, rfl, hc⟩
      · rw [h0] at hlt; simp at hlt
      rcases hrd' with h0 | ⟨b', off', rfl, hc'⟩
      · rw [h0] at hlt; simp at hlt
      obtain ⟨x0, x1⟩ := hc j hlt
      obtain ⟨y0, y1⟩ := hc' j hlt
      have hjl : (j : Int) < L.length := by omega
      have HB := Lib.hid hb
      clear hc hc' hb
      generalize L[j] = x at *
      go_wp2
      go_quiet (fail)
      go_wp2
      go_roundw
      case rel => exact ⟨j + 1, by omega, by go_num, below_drewK HB.out nq⟩
      case measure => simp [intOf]; omega
    · have hjl : ¬ (j : Int) < L.length := by omega
      have HB := Lib.hid hb
      clear hb
      go_wp2
      go_ret
      exact ⟨rfl, HB.out⟩
end Go.Proofs.YtiakepcgalmjfaaGreat

namespace Go.Proofs.YtiakepcgalmjfaaGreat
open Go.RowKit

/-- Is a name above another one? -/
def nmGt (a b : ByteArray) : Bool := !(Op.bytesLess a.toList b.toList || a.toList == b.toList)
def addF (x : Xi) (o : List Xi × Bool) (y : Xi) : List Xi × Bool := if !o.2 && nmGt y.name x.name then (o.1 ++ [x] ++ [y], true) else (o.1 ++ [y], o.2)
def addTo (l : List Xi) (x : Xi) (j : Nat) : List Xi × Bool := (l.take j).foldl (addF x) ([], false)
def begun (x : Xi) : Xi := ⟨x.name, x.meth, x.col, x.uniq, 1⟩
/-- Indexes with another one that is being built. -/
def addXi (l : List Xi) (x : Xi) : List Xi := if (addTo l (begun x) l.length).2 then (addTo l (begun x) l.length).1 else (addTo l (begun x) l.length).1 ++ [begun x]
theorem addTo_succ (l : List Xi) (x : Xi) (j : Nat) (h : j < l.length) : addTo l x (j + 1) = addF x (addTo l x j) l[j] := by
  unfold addTo
  rw [List.take_succ_eq_append_getElem h, List.foldl_append]
  rfl
theorem addTo_len (l : List Xi) (x : Xi) : ∀ j, j ≤ l.length → (addTo l x j).1.length ≤ j + 1 ∧ ((addTo l x j).2 = false → (addTo l x j).1.length = j)
  | 0, _ => by simp [addTo]
  | j + 1, h => by
    obtain ⟨h1, h2⟩ := addTo_len l x j (by omega)
    rw [addTo_succ l x j (by omega)]
    unfold addF
    split
    · rename_i hc
      simp only [Bool.and_eq_true, Bool.not_eq_true'] at hc
      have := h2 hc.1
      refine ⟨by simp; omega, fun e => by cases e⟩
    · refine ⟨by simp; omega, fun e => ?_⟩
      have := h2 e
      simp
      omega

theorem ownsRow_weak' {w W : World} {o : Obj} {e : TypeId} {s n : Nat} {v : Value} {xs : List Value} (h : W.ownsRow (w.alloc o).heap.size e s v n xs) : W.ownsRow w.heap.size e s v n xs := by
  refine ⟨h.1, ?_⟩
  rcases h.2 with h2 | ⟨g, cap, cur, hv, hg, rest⟩
  · exact .inl h2
  · exact .inr ⟨g, cap, cur, hv, by simp at hg; omega, rest⟩
/-- A row that grows while a call goes. -/
def RA (W0 wr : World) (v : Value) (l : List Xi) : Prop := xiRows wr W0.heap.size v l ∧ Below W0.heap.size W0 wr
theorem RA.below {W0 wr w' : World} {v : Value} {l : List Xi} (h : RA W0 wr v l) (hb : Below wr.heap.size wr w') : RA W0 w' v l :=
  ⟨World.ownsRow.kept (row := none) h.1 ⟨hb.os, hb.tape, hb.output, hb.size, fun k hk _ => hb.block k hk⟩ (by cases v.ownBlock <;> simp), Below.trans' hb h.2⟩
theorem RA.app {W0 wr w8 : World} {v v' : Value} {l l' : List Xi} (h : RA W0 wr v l) (hr : xiRows w8 W0.heap.size v' l') (hg : wr.grownBy w8 v.ownBlock) : RA W0 w8 v' l' :=
  ⟨hr, h.2.grown hg h.2.size (fun q hq => (World.ownsRow.lt h.1 q hq).1)⟩
set_option maxRecDepth 100000 in
set_option maxHeartbeats 8000000 in
theorem radd_any (L : List Xi) (A : Option Addr) (c : Nat) (x : Xi) (w : World) (h : IxR w A L) (hl : L.length ≤ 65536) :
    Calls Tryz.prog 24 #[.slice A L.length c, xiV x] w fun e w' => ∃ v, e = .returned v ∧ xiRows w' w.heap.size v (addXi L x) ∧ (∀ k, v.ownBlock = some k → w.heap.size < k) ∧ Below w.heap.size w w' := by
  have hb0 : Below w.heap.size w (w.alloc (xiO (begun x))) := by go_grown
  have HW := Lib.hid (And.intro (h.below hb0) hb0)
  have HX0 := Lib.hid (show (w.alloc (xiO (begun x))).heap[w.heap.size]? = some (xiO (begun x)) from hnew w _)
  clear h hb0
  go_enter Tryz.func24, Tryz.ntmps24
  go_wp2
  go_loopw [5, 6, 7] (fun o d i wr => ∃ (j k : Nat) (A' : Option Addr) (c' : Nat), j ≤ L.length ∧ i = .int .i64 j ∧ o = .slice A' k c' ∧ k = (addTo L (begun x) j).1.length ∧ d = .bool (addTo L (begun x) j).2 ∧ RA (w.alloc (xiO (begun x))) wr (.slice A' k c') (addTo L (begun x) j).1) (fun _ _ i _ => L.length - (intOf i).toNat)
  case atStart => exact ⟨0, 0, none, 0, Nat.zero_le _, rfl, rfl, rfl, rfl, xiRows.nil _ _, Below.refl _ _⟩
  case round =>
    obtain ⟨j, k, A', c', hj, rfl, rfl, hk, rfl, hra⟩ := hrel
    have hlen := (addTo_len L (begun x) j hj).1
    have hbx : wr.heap[w.heap.size]? = some (xiO (begun x)) := (hra.2.block w.heap.size (by simp)).trans HX0.out
    obtain ⟨b0, b1, b2, b3, b4⟩ := xi5 hbx
    have HBX := Lib.hid hbx
    clear hbx
    by_cases hlt : j < L.length
    · rcases HW.out.1.below hra.2 with h0 | ⟨b, off, rfl, hc⟩
      · rw [h0] at hlt; simp at hlt
      have HQ := Lib.hid (show ∀ W : World, Below (w.alloc (xiO (begun x))).heap.size (w.alloc (xiO (begun x))) W → W.cell? ⟨b, off + j * 5, none⟩ = some (.string L[j].name) ∧ W.cell? ⟨b, off + j * 5 + 1, none⟩ = some (.string L[j].meth) ∧ W.cell? ⟨b, off + j * 5 + 2, none⟩ = some (.int .i64 L[j].col) ∧ W.cell? ⟨b, off + j * 5 + 3, none⟩ = some (.bool L[j].uniq) ∧ W.cell? ⟨b, off + j * 5 + 4, none⟩ = some (.int .i64 L[j].state) from fun W hb => by
        rcases HW.out.1.below hb with h0 | ⟨b', off', e, hc'⟩
        · rw [h0] at hlt; simp at hlt
        · simp only [Option.some.injEq, Addr.mk.injEq] at e
          obtain ⟨rfl, rfl, _⟩ := e
          exact hc' j hlt)
      obtain ⟨x0, x1, x2, x3, x4⟩ := hc j hlt
      have HT := Lib.hid (addTo_succ L (begun x) j hlt)
      clear hc
      obtain ⟨y, hy⟩ : ∃ y, L[j] = y := ⟨_, rfl⟩
      rw [hy] at x0 x1 x2 x3 x4 HT HQ
      have hjl : (j : Int) < L.length := by omega
      obtain ⟨l0, hl0⟩ : ∃ l0, (addTo L (begun x) j).1 = l0 := ⟨_, rfl⟩
      obtain ⟨d, hd⟩ : ∃ d, (addTo L (begun x) j).2 = d := ⟨_, rfl⟩
      have HE := Lib.hid (show addTo L (begun x) j = (l0, d) by rw [← hl0, ← hd])
      rw [hl0] at hra hk hlen
      rw [hd]
      have HRA := Lib.hid (And.intro hra (And.intro hk hlen))
      have hkl : k ≤ 65537 := by omega
      clear hy hl0 hd hra hk hlen
      cases d with
      | true =>
        go_wp2
        go_quiet (fail)
        have hA := HRA.out.1.below (show Below wr.heap.size wr ((wr.drewN nq).alloc (xiO y)) from (below_drewK (Below.refl _ _) nq).alloc (Nat.le_refl _) _)
        have HA := Lib.hid (And.intro hA (And.intro (xi5 (show ((wr.drewN nq).alloc (xiO y)).heap[wr.heap.size]? = some (xiO y) from hnew (wr.drewN nq) _)) trivial))
        clear hA
        go_wp2_with (at_builtin; refine wp_appxi rfl _ _ rfl (w.alloc (xiO (begun x))).heap.size _ l0 rfl HA.out.1.1 y wr.heap.size 1 rfl HA.out.2.1.1 HA.out.2.1.2.1 HA.out.2.1.2.2.1 HA.out.2.1.2.2.2.1 HA.out.2.1.2.2.2.2 (by rw [← HRA.out.2.1]; omega) (by have := HA.out.1.2.size; exact this) ?_; intro g cap w8 hr8 hg8 hat8; have hra8 := HA.out.1.app hr8 hg8; have H8 := Lib.hid hra8; clear hr8 hg8 hat8 hra8)
        go_roundw
        case rel =>
          have e : addTo L (begun x) (j + 1) = (l0 ++ [y], true) := by rw [HT.out, HE.out]; rfl
          refine ⟨j + 1, (l0 ++ [y]).length, some ⟨g, 0, none⟩, cap, by omega, by go_num, by simp, by rw [e], by rw [e], by rw [e]; exact H8.out⟩
        case measure => simp [intOf]; omega
      | false =>
        obtain ⟨p1, hp1⟩ : ∃ p, Op.bytesLess y.name.toList (begun x).name.toList = p := ⟨_, rfl⟩
        obtain ⟨p2, hp2⟩ : ∃ p, (y.name.toList == (begun x).name.toList) = p := ⟨_, rfl⟩
        have HP := Lib.hid (show nmGt y.name (begun x).name = !(p1 || p2) by unfold nmGt; rw [hp1, hp2])
        cases p1 with
        | true =>
          have HP := Lib.hid (show nmGt y.name (begun x).name = false by rw [HP.out]; rfl)
          go_wp2
          go_quiet (fail)
          have hA := HRA.out.1.below (show Below wr.heap.size wr ((wr.drewN nq).alloc (xiO y)) from (below_drewK (Below.refl _ _) nq).alloc (Nat.le_refl _) _)
          have HA := Lib.hid (And.intro hA (And.intro (xi5 (show ((wr.drewN nq).alloc (xiO y)).heap[wr.heap.size]? = some (xiO y) from hnew (wr.drewN nq) _)) trivial))
          clear hA
          go_wp2_with (at_builtin; refine wp_appxi rfl _ _ rfl (w.alloc (xiO (begun x))).heap.size _ l0 rfl HA.out.1.1 y wr.heap.size 1 rfl HA.out.2.1.1 HA.out.2.1.2.1 HA.out.2.1.2.2.1 HA.out.2.1.2.2.2.1 HA.out.2.1.2.2.2.2 (by rw [← HRA.out.2.1]; omega) (by have := HA.out.1.2.size; exact this) ?_; intro g cap w8 hr8 hg8 hat8; have hra8 := HA.out.1.app hr8 hg8; have H8 := Lib.hid hra8; clear hr8 hg8 hat8 hra8)
          go_roundw
          case rel =>
            have e : addTo L (begun x) (j + 1) = (l0 ++ [y], false) := by rw [HT.out, HE.out]; unfold addF; rw [if_neg (by simp only [HP.out]; decide)]
            refine ⟨j + 1, (l0 ++ [y]).length, some ⟨g, 0, none⟩, cap, by omega, by go_num, by simp, by rw [e], by rw [e], by rw [e]; exact H8.out⟩
          case measure => simp [intOf]; omega
        | false =>
          cases p2 with
          | true =>
            have HP := Lib.hid (show nmGt y.name (begun x).name = false by rw [HP.out]; rfl)
            go_wp2
            go_quiet (fail)
            have hA := HRA.out.1.below (show Below wr.heap.size wr ((wr.drewN nq).alloc (xiO y)) from (below_drewK (Below.refl _ _) nq).alloc (Nat.le_refl _) _)
            have HA := Lib.hid (And.intro hA (And.intro (xi5 (show ((wr.drewN nq).alloc (xiO y)).heap[wr.heap.size]? = some (xiO y) from hnew (wr.drewN nq) _)) trivial))
            clear hA
            go_wp2_with (at_builtin; refine wp_appxi rfl _ _ rfl (w.alloc (xiO (begun x))).heap.size _ l0 rfl HA.out.1.1 y wr.heap.size 1 rfl HA.out.2.1.1 HA.out.2.1.2.1 HA.out.2.1.2.2.1 HA.out.2.1.2.2.2.1 HA.out.2.1.2.2.2.2 (by rw [← HRA.out.2.1]; omega) (by have := HA.out.1.2.size; exact this) ?_; intro g cap w8 hr8 hg8 hat8; have hra8 := HA.out.1.app hr8 hg8; have H8 := Lib.hid hra8; clear hr8 hg8 hat8 hra8)
            go_roundw
            case rel =>
              have e : addTo L (begun x) (j + 1) = (l0 ++ [y], false) := by rw [HT.out, HE.out]; unfold addF; rw [if_neg (by simp only [HP.out]; decide)]
              refine ⟨j + 1, (l0 ++ [y]).length, some ⟨g, 0, none⟩, cap, by omega, by go_num, by simp, by rw [e], by rw [e], by rw [e]; exact H8.out⟩
            case measure => simp [intOf]; omega
          | false =>
            have HP := Lib.hid (show nmGt y.name (begun x).name = true by rw [HP.out]; rfl)
            go_wp2
            go_quiet (fail)
            have hA := HRA.out.1.below (show Below wr.heap.size wr ((wr.drewN nq).alloc (xiO (begun x))) from (below_drewK (Below.refl _ _) nq).alloc (Nat.le_refl _) _)
            have HA := Lib.hid (And.intro hA (And.intro (xi5 (show ((wr.drewN nq).alloc (xiO (begun x))).heap[wr.heap.size]? = some (xiO (begun x)) from hnew (wr.drewN nq) _)) trivial))
            clear hA
            go_wp2_with (at_builtin; first | (refine wp_appxi rfl _ _ rfl (w.alloc (xiO (begun x))).heap.size _ l0 rfl HA.out.1.1 (begun x) wr.heap.size 1 rfl HA.out.2.1.1 HA.out.2.1.2.1 HA.out.2.1.2.2.1 HA.out.2.1.2.2.2.1 HA.out.2.1.2.2.2.2 (by rw [← HRA.out.2.1]; omega) (by have := HA.out.1.2.size; exact this) ?_; intro g cap w8 hr8 hg8 hat8; have hra8 := HA.out.1.app hr8 hg8; obtain ⟨y0, y1, y2, y3, y4⟩ := HQ.out w8 hra8.2; have hB := hra8.below (show Below w8.heap.size w8 (w8.alloc (xiO y)) by go_grown); rw [show (l0 ++ [begun x]).length = l0.length + 1 by simp] at hB; have HB := Lib.hid (And.intro hB (And.intro (xi5 (hnew w8 (xiO y))) trivial)); clear hB; have H8 := Lib.hid hra8; clear hr8 hg8 hat8 hra8) | (refine wp_appxi rfl _ _ rfl (w.alloc (xiO (begun x))).heap.size _ (l0 ++ [begun x]) rfl HB.out.1.1 y w8.heap.size 1 rfl HB.out.2.1.1 HB.out.2.1.2.1 HB.out.2.1.2.2.1 HB.out.2.1.2.2.2.1 HB.out.2.1.2.2.2.2 (by rw [List.length_append, ← HRA.out.2.1]; simp; omega) (by have := HB.out.1.2.size; exact this) ?_; intro g2 cap2 w9 hr8 hg8 hat8; have hra8 := HB.out.1.app hr8 hg8; have H9 := Lib.hid hra8; clear hr8 hg8 hat8 hra8))
            go_roundw
            case rel =>
              have e : addTo L (begun x) (j + 1) = (l0 ++ [begun x] ++ [y], true) := by rw [HT.out, HE.out]; unfold addF; rw [if_pos (by simp only [HP.out]; decide)]
              refine ⟨j + 1, (l0 ++ [begun x] ++ [y]).length, some ⟨g2, 0, none⟩, cap2, by omega, by go_num, by simp, by rw [e], by rw [e], by rw [e]; exact H9.out⟩
            case measure => simp [intOf]; omega
    · have hjl : ¬ (j : Int) < L.length := by omega
      have hjL : j = L.length := by omega
      obtain ⟨l0, hl0⟩ : ∃ l0, (addTo L (begun x) j).1 = l0 := ⟨_, rfl⟩
      obtain ⟨d, hd⟩ : ∃ d, (addTo L (begun x) j).2 = d := ⟨_, rfl⟩
      have HR := Lib.hid (show addXi L x = if d then l0 else l0 ++ [begun x] by unfold addXi; rw [← hjL, hl0, hd])
      rw [hl0] at hra hk hlen
      rw [hd]
      have HRA := Lib.hid (And.intro hra (And.intro hk hlen))
      have hkl : k ≤ 65537 := by omega
      clear hl0 hd hra hk hlen
      cases d with
      | true =>
        go_wp2
        go_ret
        refine ⟨_, rfl, by rw [HR.out]; exact ownsRow_weak' HRA.out.1.1, fun q hq => ?_, Below.trans' HRA.out.1.2 HW.out.2⟩
        have := (World.ownsRow.lt HRA.out.1.1 q hq).1
        simp at this
        omega
      | false =>
        have hA := HRA.out.1.below (show Below wr.heap.size wr (wr.alloc (xiO (begun x))) by go_grown)
        have HA := Lib.hid (And.intro hA (And.intro (xi5 (hnew wr (xiO (begun x)))) trivial))
        clear hA
        go_wp2_with (at_builtin; refine wp_appxi rfl _ _ rfl (w.alloc (xiO (begun x))).heap.size _ l0 rfl HA.out.1.1 (begun x) wr.heap.size 1 rfl HA.out.2.1.1 HA.out.2.1.2.1 HA.out.2.1.2.2.1 HA.out.2.1.2.2.2.1 HA.out.2.1.2.2.2.2 (by rw [← HRA.out.2.1]; omega) (by have := HA.out.1.2.size; exact this) ?_; intro g cap w8 hr8 hg8 hat8; have hra8 := HA.out.1.app hr8 hg8; have H8 := Lib.hid hra8; clear hr8 hg8 hat8 hra8)
        go_ret
        refine ⟨_, rfl, ?_, fun q hq => ?_, Below.trans' H8.out.2 HW.out.2⟩
        · show xiRows w8 w.heap.size (.slice (some ⟨g, 0, none⟩) (l0.length + 1) cap) _
          rw [HR.out, show l0.length + 1 = (l0 ++ [begun x]).length by simp]
          exact ownsRow_weak' H8.out.1
        · have := (World.ownsRow.lt H8.out.1 q hq).1
          simp at this
          omega
end Go.Proofs.YtiakepcgalmjfaaGreat

namespace Go.Proofs.YtiakepcgalmjfaaGreat
open Go.RowKit

def atState (x : Xi) (st : Int) : Xi := ⟨x.name, x.meth, x.col, x.uniq, st⟩
theorem xi_flat_len (L : List Xi) : (L.flatMap xic).length = L.length * 5 := by
  induction L with
  | nil => rfl
  | cons x L ih => rw [List.flatMap_cons, List.length_append, ih, List.length_cons]; show 5 + _ = _; omega
theorem xi_flat_one (L : List Xi) : ∀ v ∈ L.flatMap xic, v.oneCell' = true := fun v hv => by
  obtain ⟨x, _, h⟩ := List.mem_flatMap.1 hv
  simp [xic] at h
  rcases h with rfl | rfl | rfl | rfl | rfl <;> rfl
theorem IxR.flat {w : World} {b off : Nat} {L : List Xi} (h : IxR w (some ⟨b, off, none⟩) L) (p : Nat) (u : Value) (hu : (L.flatMap xic)[p]? = some u) : w.cell? ((⟨b, off, none⟩ : Addr).add p) = some u := by
  have ha : (⟨b, off, none⟩ : Addr).add p = ⟨b, off + p, none⟩ := by unfold Addr.add; split <;> simp_all
  rw [ha]
  have hp : p < (L.flatMap xic).length := (List.getElem?_eq_some_iff.1 hu).1
  rw [xi_flat_len] at hp
  rcases h with h0 | ⟨b', off', e, hc⟩
  · rw [h0] at hp; simp at hp
  · simp only [Option.some.injEq, Addr.mk.injEq] at e
    obtain ⟨rfl, rfl, _⟩ := e
    have hi : p / 5 < L.length := by omega
    have hj : p % 5 < 5 := by omega
    have hpe : p = p / 5 * 5 + p % 5 := by omega
    rw [hpe, xi_at L (p / 5) hi (p % 5) hj] at hu
    obtain ⟨c0, c1, c2, c3, c4⟩ := hc (p / 5) hi
    rw [hpe, ← Nat.add_assoc]
    match p % 5, hj, hu with
    | 0, _, hu => simp [xic] at hu; subst hu; exact c0
    | 1, _, hu => simp [xic] at hu; subst hu; exact c1
    | 2, _, hu => simp [xic] at hu; subst hu; exact c2
    | 3, _, hu => simp [xic] at hu; subst hu; exact c3
    | 4, _, hu => simp [xic] at hu; subst hu; exact c4
theorem xi_flat_set : ∀ (L : List Xi) (k : Nat) (h : k < L.length) (st : Int), (L.set k (atState L[k] st)).flatMap xic = (L.flatMap xic).set (k * 5 + 4) (.int .i64 st)
  | [], k, h, _ => by simp at h
  | x :: L, 0, h, st => by
    simp only [List.set_cons_zero, List.flatMap_cons, List.getElem_cons_zero]
    rw [List.set_append_left _ _ (by show 0 * 5 + 4 < 5; omega)]
    rfl
  | x :: L, k + 1, h, st => by
    simp only [List.set_cons_succ, List.flatMap_cons, List.getElem_cons_succ]
    rw [xi_flat_set L k (by simpa using h) st, List.set_append_right _ _ (by show 5 ≤ (k + 1) * 5 + 4; omega)]
    congr 2
    show k * 5 + 4 = (k + 1) * 5 + 4 - 5
    omega
theorem xiRows.setState {w : World} {B g c : Nat} {L : List Xi} (h : xiRows w B (.slice (some ⟨g, 0, none⟩) L.length c) L) (k : Nat) (hk : k < L.length) (st : Int) : xiRows (w.setCell ⟨g, k * 5 + 4, none⟩ (.int .i64 st)) B (.slice (some ⟨g, 0, none⟩) L.length c) (L.set k (atState L[k] st)) := by
  unfold xiRows at h ⊢
  rw [List.length_set]
  refine ⟨by rw [xi_flat_len, List.length_set], ?_⟩
  rcases h.2 with ⟨e, h0⟩ | ⟨g', cap, cur, e, hB, hg, hle, hmax, hsz, ht⟩
  · omega
  · simp only [Value.slice.injEq, Option.some.injEq, Addr.mk.injEq] at e
    obtain ⟨⟨rfl, _, _⟩, _, rfl⟩ := e
    refine .inr ⟨g, c, cur.setIfInBounds (k * 5 + 4) (.int .i64 st), rfl, hB, ?_, hle, hmax, by rw [Array.size_setIfInBounds]; exact hsz, ?_⟩
    · rw [setCell_eq_setRow w g (k * 5 + 4) cur _ (0, 0) _ hg]
      exact setRow_heap _ g cur _ _ _ hg
    · rw [Array.toList_setIfInBounds, List.take_set, ht, xi_flat_set L k hk st]

/-- Indexes with one of another state. -/
def setXi (L : List Xi) (k : Nat) (st : Int) : List Xi := match L[k]? with
  | some x => L.set k (atState x st)
  | none => L
theorem findXi_lt : ∀ (L : List Xi) (s : ByteArray), findXi L s < L.length
  | [], s => by simp [findXi]
  | x :: L, s => by
    have := findXi_lt L s
    simp only [findXi, List.length_cons]
    split
    · omega
    · split <;> omega
set_option maxRecDepth 100000 in
set_option maxHeartbeats 4000000 in
theorem rset_any (L : List Xi) (A : Option Addr) (c : Nat) (s : ByteArray) (st : Int) (w : World) (h : IxR w A L) (hl : L.length ≤ 65536) (hf : 0 ≤ findXi L s) :
    Calls Tryz.prog 26 #[.slice A L.length c, .string s, .int .i64 st] w fun e w' => ∃ v, e = .returned v ∧ xiRows w' w.heap.size v (setXi L (findXi L s).toNat st) ∧ Below w.heap.size w w' := by
  obtain ⟨i0, hi, hz0, hz1, hz2⟩ := info_of xi_info
  have hlt := findXi_lt L s
  obtain ⟨k, hk⟩ : ∃ k : Nat, findXi L s = k := ⟨(findXi L s).toNat, by omega⟩
  have hkl : k < L.length := by omega
  have hset : setXi L (findXi L s).toNat st = L.set k (atState L[k] st) := by
    unfold setXi
    rw [hk, Int.toNat_natCast, List.getElem?_eq_getElem hkl]
  rw [hset]
  rcases h with h0 | ⟨b, off, rfl, hc⟩
  · rw [h0] at hkl; simp at hkl
  have hR : IxR w (some ⟨b, off, none⟩) L := .inr ⟨b, off, rfl, hc⟩
  have HR := Lib.hid hR
  clear hc hR hset hlt
  go_enter Tryz.func26, Tryz.ntmps26
  go_wp2_with (at_builtin; refine wpList_append_lies w rfl _ _ 31 rfl w.heap.size 35 i0 _ 5 56 Tryz.underlying31 hi hz0 hz1 hz2 rfl (by decide) (.slice none 0 0) 0 [] rfl (World.ownsRow_nil _ _ _ _) ⟨b, off, none⟩ L.length c (L.flatMap xic) rfl (xi_flat_len L) (fun p u hu => HR.out.flat p u hu) (xi_flat_one L) (by omega) (by unfold maxLen; omega) (by omega) (Nat.le_refl _) _ rfl ?_; intro g cap w8 hr8 hg8 hat8 hlt8; rw [Nat.zero_add, List.nil_append] at hr8; have hb8 : Below w.heap.size w w8 := ⟨hg8.os, hg8.tape, hg8.output, hg8.size, fun q hq => hg8.block q hq (by simp [Value.ownBlock])⟩; have HFd := Lib.hid (rfind_any L (some ⟨b, off, none⟩) c s w8 (HR.out.below hb8) (by omega)); have hcl := (xiRows.cells (show xiRows w8 w.heap.size (.slice (some ⟨g, 0, none⟩) L.length cap) L from hr8) k hkl).2.2.2.2.2.2; have hfz : w8.frozen? ⟨g, k * 5 + 4, none⟩ = false := World.ownsRow.frozenAt hr8 _; have H8 := Lib.hid (And.intro hr8 (And.intro hb8 (World.ownsRow.lt hr8 g rfl))); clear hr8 hg8 hat8 hb8)
  refine HFd.out.mono ?_
  rintro e w9 ⟨rfl, rfl⟩
  rw [hk]
  have hki : (k : Int) < L.length := by omega
  clear HFd hf
  go_wp2
  go_ret
  have hq := xiRows.setState (show xiRows w9 w.heap.size (.slice (some ⟨g, 0, none⟩) L.length cap) L from H8.out.1) k hkl st
  exact ⟨_, rfl, hq, H8.out.2.1.setCell (p := ⟨g, k * 5 + 4, none⟩) H8.out.2.2.1 _⟩
end Go.Proofs.YtiakepcgalmjfaaGreat
