/- A part over a column is read, or none is. A predicate's text is read: its parts one by one. -/
import Derived.Test.YtdjlbfepddcmeaaGreatDoorQ31
set_option linter.unusedVariables false
set_option linter.unusedSimpArgs false
namespace Go.Proofs.YtdjlbfepddcmeaaGreatDoor
open Go.RowKit

abbrev zbox : Obj := .cells #[.int .i64 0, .int .i64 0, .int .i64 0, .int .i64 0, .string ⟨#[]⟩, .slice none 0 0, .slice none 0 0] 27
def zeroP : PT := .node 0 0 ⟨0, 0, ⟨#[]⟩, []⟩ []
theorem ret2 {v : Value} {e : Ending} (h : e = .returned v) : e = .returned v := h

/-- A text, a column's part's lead, as a string made up. -/
theorem lead_str (nm : ByteArray) (op : Int) : (nm ++ ⟨#[32]⟩ ++ signB op ++ ⟨#[32]⟩ : ByteArray).data.toList = leadL nm.data.toList op := by
  simp [leadL, signB]

theorem box7 {w : World} {g : Nat} (h : w.heap[g]? = some zbox) :
    (w.cell? ⟨g, 0, none⟩ = some (.int .i64 0) ∧ w.cell? ⟨g, 1, none⟩ = some (.int .i64 0) ∧ w.cell? ⟨g, 2, none⟩ = some (.int .i64 0) ∧ w.cell? ⟨g, 3, none⟩ = some (.int .i64 0) ∧ w.cell? ⟨g, 4, none⟩ = some (.string ⟨#[]⟩) ∧ w.cell? ⟨g, 5, none⟩ = some (.slice none 0 0) ∧ w.cell? ⟨g, 6, none⟩ = some (.slice none 0 0))
    ∧ (w.frozen? ⟨g, 0, none⟩ = false ∧ w.frozen? ⟨g, 1, none⟩ = false ∧ w.frozen? ⟨g, 2, none⟩ = false ∧ w.frozen? ⟨g, 3, none⟩ = false ∧ w.frozen? ⟨g, 4, none⟩ = false ∧ w.frozen? ⟨g, 5, none⟩ = false ∧ w.frozen? ⟨g, 6, none⟩ = false) := by
  refine ⟨⟨?_, ?_, ?_, ?_, ?_, ?_, ?_⟩, ?_, ?_, ?_, ?_, ?_, ?_, ?_⟩ <;> first | (unfold World.cell?; rw [h]; rfl) | (unfold World.frozen?; rw [h]; rfl)

theorem cols_four {cols : List Co} (h : colsB cols = true) : cols.length ≤ 4 := by
  simp only [colsB, Bool.and_eq_true, decide_eq_true_eq] at h
  omega
/-- Seven cells written in block z. -/
def put7 (w : World) (z : Nat) (v0 v1 v2 v3 v4 v5 v6 : Value) : World :=
  ((((((w.setCell ⟨z, 0, none⟩ v0).setCell ⟨z, 1, none⟩ v1).setCell ⟨z, 2, none⟩ v2).setCell ⟨z, 3, none⟩ v3).setCell ⟨z, 4, none⟩ v4).setCell ⟨z, 5, none⟩ v5).setCell ⟨z, 6, none⟩ v6
theorem RdL.put7 {r : Nat} {ac : Option Addr} {n cc : Nat} {l : List UInt8} {w : World} (h : RdL r ac n cc l w) {z : Nat} (hz : z ≠ r) (v0 v1 v2 v3 v4 v5 v6 : Value) : RdL r ac n cc l (put7 w z v0 v1 v2 v3 v4 v5 v6) :=
  ((((((h.off ⟨z, 0, none⟩ hz v0).off ⟨z, 1, none⟩ hz v1).off ⟨z, 2, none⟩ hz v2).off ⟨z, 3, none⟩ hz v3).off ⟨z, 4, none⟩ hz v4).off ⟨z, 5, none⟩ hz v5).off ⟨z, 6, none⟩ hz v6
theorem Only.put7 {r : Nat} {a w : World} (h : Only r a w) {z : Nat} (hz : a.heap.size ≤ z) (v0 v1 v2 v3 v4 v5 v6 : Value) : Only r a (put7 w z v0 v1 v2 v3 v4 v5 v6) :=
  ((((((h.set ⟨z, 0, none⟩ (.inr hz) v0).set ⟨z, 1, none⟩ (.inr hz) v1).set ⟨z, 2, none⟩ (.inr hz) v2).set ⟨z, 3, none⟩ (.inr hz) v3).set ⟨z, 4, none⟩ (.inr hz) v4).set ⟨z, 5, none⟩ (.inr hz) v5).set ⟨z, 6, none⟩ (.inr hz) v6
theorem veil_put7 {B : Nat} {w : World} {z : Nat} (hz : z < B) (v0 v1 v2 v3 v4 v5 v6 : Value) : Ext (veil B w) (veil B (put7 w z v0 v1 v2 v3 v4 v5 v6)) :=
  ((((((veil_set (p := ⟨z, 0, none⟩) hz v0).trans (veil_set (p := ⟨z, 1, none⟩) hz v1)).trans (veil_set (p := ⟨z, 2, none⟩) hz v2)).trans (veil_set (p := ⟨z, 3, none⟩) hz v3)).trans (veil_set (p := ⟨z, 4, none⟩) hz v4)).trans (veil_set (p := ⟨z, 5, none⟩) hz v5)).trans (veil_set (p := ⟨z, 6, none⟩) hz v6)

theorem Only.heap {r : Nat} {a w : World} (h : Only r a w) {g : Nat} {o : Obj} (hg : a.heap[g]? = some o) (hne : g ≠ r) : w.heap[g]? = some o :=
  (h.block g (by rcases Nat.lt_or_ge g a.heap.size with h' | h'
                 · exact h'
                 · rw [Array.getElem?_eq_none h'] at hg; cases hg) (by simpa using hne)).trans hg

set_option maxRecDepth 100000 in
set_option maxHeartbeats 4000000 in
theorem simple_no (r : Nat) (ac : Option Addr) (cc : Nat) (cols : List Co) (s : List UInt8) (w : World) (h : RdL r ac cols.length cc s w) (hc : ColIs (blank w r) ac cols) (hcols : colsB cols = true)
    (hno : ∀ k (hk : k < cols.length) op, 1 ≤ op → op ≤ 6 → (leadL cols[k].name.data.toList op).isPrefixOf s = false) :
    Calls Tryz.prog 64 #[.pointer (some ⟨r, 0, none⟩)] w fun e w' => e = .returned (.tuple #[pv zeroP none 0 none 0, .bool false]) ∧ RdL r ac cols.length cc s w' ∧ Only r w w' := by
  have hrl := h.lt
  have hrne : r ≠ w.heap.size := by omega
  have hb0 : Below w.heap.size w (w.alloc zbox) := by go_grown
  have h1 := h.below hb0
  have hc1 := h1.c1
  have HB := Lib.hid (And.intro h1 (And.intro (Only.of_below r hb0) (heap_alloc_new w zbox)))
  have HC := Lib.hid hc
  have HNO := Lib.hid hno
  have HCO := Lib.hid hcols
  clear h1 hc hno hcols h hb0
  go_enter Tryz.func64, Tryz.ntmps64
  go_wp2
  go_loopw [13] (fun i wr => ∃ k : Nat, k ≤ cols.length ∧ i = .int .i64 k ∧ RdL r ac cols.length cc s wr ∧ Only r w wr ∧ wr.heap[w.heap.size]? = some zbox)
    (fun i _ => cols.length - (intOf i).toNat)
  case atStart => exact ⟨0, Nat.zero_le _, rfl, HB.out.1, HB.out.2.1, HB.out.2.2⟩
  case round =>
    obtain ⟨k, hk, rfl, hrd, hon, hbx⟩ := hrel
    by_cases hlt : k < cols.length
    · obtain ⟨b, off, hac, g0, g1, hsz, hin⟩ := (HC.out.ext hon.ext).at_ k hlt
      subst hac
      obtain ⟨hbr, g0⟩ := blank_cell g0
      obtain ⟨-, g1⟩ := blank_cell g1
      have hns := (name_len HCO.out k hlt).2
      have HN := Lib.hid (HNO.out k hlt)
      generalize cols[k].name = nm at *
      generalize cols[k].kind = kd at *
      have hwz := hon.size
      have hc4 := cols_four HCO.out
      have HR := Lib.hid (And.intro hrd (And.intro hon hbx))
      clear hrd hon hbx
      go_wp2_with fail
      refine (signs_any _).mono ?_
      rintro e w2 ⟨rfl, rfl⟩
      have hbk : Below wr.heap.size wr ((wr.alloc (.cells #[.string nm, .int .i64 kd] 46)).alloc signsObj) := by go_grown
      have hrz : r < wr.heap.size := HR.out.1.lt
      have hg5 : ((wr.alloc (.cells #[.string nm, .int .i64 kd] 46)).alloc signsObj).cell? ⟨wr.heap.size, 0, none⟩ = some (.string nm) := by go_simp
      have hgs : ∀ op, 1 ≤ op ∧ op ≤ 6 → ((wr.alloc (.cells #[.string nm, .int .i64 kd] 46)).alloc signsObj).cell? ⟨wr.heap.size + 1, (op - 1).toNat, none⟩ = some (.string (signB op)) := fun op ho => by
        have := signs_cell (wr.alloc (.cells #[.string nm, .int .i64 kd] 46)) op ho
        simpa using this
      have HW1 := Lib.hid (And.intro (HR.out.1.below hbk) (And.intro (HR.out.2.1.below hbk) (And.intro ((hbk.block w.heap.size (World.block_lt_of_cell? wr _ (box7 HR.out.2.2).1.1)).trans HR.out.2.2) (And.intro hg5 hgs))))
      clear hg5 hgs hbk
      go_wp2
      obtain ⟨wo, rfl⟩ : ∃ wo : World, wo = wr := ⟨_, rfl⟩
      generalize hw1e : (wo.alloc (.cells #[.string nm, .int .i64 kd] 46)).alloc signsObj = W1 at *
      clear hw1e
      go_loopw [20] (fun i wq => ∃ j : Nat, j ≤ 6 ∧ i = .int .i64 j ∧ RdL r (some ⟨b, off, none⟩) cols.length cc s wq ∧ Only r W1 wq)
        (fun i _ => 6 - (intOf i).toNat)
      case atStart => exact ⟨0, by omega, rfl, HW1.out.1, Only.refl r W1⟩
      case round =>
        obtain ⟨j, hj, rfl, hrq, hoq⟩ := hrel
        by_cases hj6 : j < 6
        · have hop : (1 : Int) ≤ ((j : Int) + 1) ∧ ((j : Int) + 1) ≤ 6 := by omega
          have k5 := hoq.cell HW1.out.2.2.2.1 (show wo.heap.size ≠ r by omega)
          have k7 := hoq.cell (HW1.out.2.2.2.2 _ hop) (show wo.heap.size + 1 ≠ r by omega)
          rw [show (((j : Int) + 1) - 1).toNat = j by omega] at k7
          have hss := signB_size ((j : Int) + 1)
          have HT := Lib.hid (takes_no r (some ⟨b, off, none⟩) cols.length cc (nm ++ ⟨#[32]⟩ ++ signB ((j : Int) + 1) ++ ⟨#[32]⟩) s wr hrq (by rw [lead_str]; exact HN.out _ hop.1 hop.2))
          generalize signB ((j : Int) + 1) = sg at *
          have c1 : ¬ 9223372036854775807 < nm.size + 1 := by omega
          have c2 : ¬ 9223372036854775807 < nm.size + 1 + sg.size := by omega
          have c3 : ¬ 9223372036854775807 < nm.size + 1 + sg.size + 1 := by omega
          go_wp2_with fail
          refine HT.out.mono ?_
          rintro e w3 ⟨rfl, hr3, ho3⟩
          go_wp2
          go_roundw
          case rel => exact ⟨j + 1, by omega, by go_num, hr3, hoq.trans ho3⟩
          case measure => simp [intOf]; omega
        · go_wp2
          go_roundw
          case rel => exact ⟨k + 1, by omega, by go_num, hrq, HW1.out.2.1.trans hoq, hoq.heap HW1.out.2.2.1 hrne.symm⟩
          case measure => simp [intOf]; omega
    · obtain ⟨⟨e0, e1, e2, e3, e4, e5, e6⟩, f0, f1, f2, f3, f4, f5, f6⟩ := box7 hbx
      go_wp2
      (try simp only [Exit.inBlock, Exit.then])
      refine bodyPost_ret (v := .tuple #[pv zeroP none 0 none 0, .bool false]) ?_ rfl ⟨rfl, hrd.put7 hrne.symm _ _ _ _ _ _ _, hon.put7 (Nat.le_refl _) _ _ _ _ _ _ _⟩
      rw [results_cell_tmp rfl]
      go_simp
      exact ⟨rfl, rfl, rfl, rfl, rfl, rfl, rfl⟩
theorem names_apart {cols : List Co} (h : colsB cols = true) (i k : Nat) (hi : i < cols.length) (hk : k < cols.length) (e : cols[i].name.data.toList = cols[k].name.data.toList) : i = k := by
  simp only [colsB, Bool.and_eq_true, decide_eq_true_eq] at h
  have key : ∀ (i k : Nat) (hi : i < cols.length) (hk : k < cols.length), i < k → cols[i].name.data.toList ≠ cols[k].name.data.toList := fun i k hi hk hlt e => by
    have h2 := (goodTo_at cols cols.length h.2 k hk hk).2
    unfold seenB at h2
    rw [List.any_eq_false] at h2
    refine h2 cols[i] (List.mem_take_iff_getElem.2 ⟨i, by omega, rfl⟩) ?_
    simpa using e
  rcases Nat.lt_trichotomy i k with h' | h' | h'
  · exact absurd e (key i k hi hk h')
  · exact h'
  · exact absurd e.symm (key k i hk hi h')
/-- Just one part over a column begins so. -/
theorem lead_here {cols : List Co} (h : colsB cols = true) {k0 : Nat} (hk0 : k0 < cols.length) {op0 : Int} (ho : 1 ≤ op0 ∧ op0 ≤ 6) (r : List UInt8) (k : Nat) (hk : k < cols.length) (op : Int) (h1 : 1 ≤ op) (h6 : op ≤ 6) (hne : ¬ (k = k0 ∧ op = op0)) :
    (leadL cols[k].name.data.toList op).isPrefixOf (leadL cols[k0].name.data.toList op0 ++ r) = false := by
  cases hp : (leadL cols[k].name.data.toList op).isPrefixOf (leadL cols[k0].name.data.toList op0 ++ r) with
  | false => rfl
  | true =>
    have n0 := (name_len h k0 hk0).1
    have n1 := (name_len h k hk).1
    simp only [nameB, Bool.and_eq_true] at n0 n1
    obtain ⟨e1, e2⟩ := lead_only n0.1.2 n1.1.2 ho ⟨h1, h6⟩ hp
    exact absurd ⟨names_apart h k k0 hk hk0 e1, e2⟩ hne

set_option maxRecDepth 100000 in
set_option maxHeartbeats 4000000 in
theorem simple_yes (r : Nat) (ac : Option Addr) (cc : Nat) (cols : List Co) (k0 : Nat) (hk0 : k0 < cols.length) (op0 : Int) (ho0 : 1 ≤ op0 ∧ op0 ≤ 6) (d : Da) (rest : List UInt8) (w : World)
    (h : RdL r ac cols.length cc (leadL cols[k0].name.data.toList op0 ++ (d.text ++ rest)) w) (hc : ColIs (blank w r) ac cols) (hcols : colsB cols = true) (hd : Good d) (hst : Stop rest) (hlen : (d.text ++ rest).length ≤ 4194304) (hG : Globs w) (h8 : 8 ≤ r) :
    Calls Tryz.prog 64 #[.pointer (some ⟨r, 0, none⟩)] w fun e w' => ∃ a c, e = .returned (.tuple #[pv (.node op0 k0 d []) a c none 0, .bool true]) ∧ DaIs (veil w.heap.size w') d a ∧ RdL r ac cols.length cc rest w' ∧ Only r w w' := by
  have hno := lead_here hcols hk0 ho0 (d.text ++ rest)
  have HS := Lib.hid (rfl : leadL cols[k0].name.data.toList op0 ++ (d.text ++ rest) = leadL cols[k0].name.data.toList op0 ++ (d.text ++ rest))
  generalize hse : leadL cols[k0].name.data.toList op0 ++ (d.text ++ rest) = s at h hno
  rw [hse] at HS
  have HSE := Lib.hid hse
  clear hse HS
  have HD := Lib.hid (And.intro hd (And.intro hst (And.intro hlen hG)))
  clear hd hst hlen hG
  have hrl := h.lt
  have hrne : r ≠ w.heap.size := by omega
  have hb0 : Below w.heap.size w (w.alloc zbox) := by go_grown
  have h1 := h.below hb0
  have hc1 := h1.c1
  have HB := Lib.hid (And.intro h1 (And.intro (Only.of_below r hb0) (heap_alloc_new w zbox)))
  have HC := Lib.hid hc
  have HNO := Lib.hid hno
  have HCO := Lib.hid hcols
  clear h1 hc hno hcols h hb0
  have HH8 := Lib.hid h8
  go_enter Tryz.func64, Tryz.ntmps64
  go_wp2
  go_loopw [13] (fun i wr => ∃ k : Nat, k ≤ k0 ∧ i = .int .i64 k ∧ RdL r ac cols.length cc s wr ∧ Only r w wr ∧ wr.heap[w.heap.size]? = some zbox)
    (fun i _ => cols.length - (intOf i).toNat)
  case atStart => exact ⟨0, Nat.zero_le _, rfl, HB.out.1, HB.out.2.1, HB.out.2.2⟩
  case round =>
    obtain ⟨k, hk, rfl, hrd, hon, hbx⟩ := hrel
    have hlt : k < cols.length := by omega
    · obtain ⟨b, off, hac, g0, g1, hsz, hin⟩ := (HC.out.ext hon.ext).at_ k hlt
      subst hac
      obtain ⟨hbr, g0⟩ := blank_cell g0
      obtain ⟨-, g1⟩ := blank_cell g1
      have hns := (name_len HCO.out k hlt).2
      have HN := Lib.hid (HNO.out k hlt)
      have HE := Lib.hid (show k = k0 → cols[k0].name = cols[k].name from fun e => by subst e; rfl)
      generalize cols[k0].name = nm0 at *
      generalize cols[k].name = nm at *
      generalize cols[k].kind = kd at *
      have hwz := hon.size
      have hc4 := cols_four HCO.out
      have HR := Lib.hid (And.intro hrd (And.intro hon hbx))
      clear hrd hon hbx
      go_wp2_with fail
      refine (signs_any _).mono ?_
      rintro e w2 ⟨rfl, rfl⟩
      have hbk : Below wr.heap.size wr ((wr.alloc (.cells #[.string nm, .int .i64 kd] 46)).alloc signsObj) := by go_grown
      have hrz : r < wr.heap.size := HR.out.1.lt
      have hg5 : ((wr.alloc (.cells #[.string nm, .int .i64 kd] 46)).alloc signsObj).cell? ⟨wr.heap.size, 0, none⟩ = some (.string nm) := by go_simp
      have hgs : ∀ op, 1 ≤ op ∧ op ≤ 6 → ((wr.alloc (.cells #[.string nm, .int .i64 kd] 46)).alloc signsObj).cell? ⟨wr.heap.size + 1, (op - 1).toNat, none⟩ = some (.string (signB op)) := fun op ho => by
        have := signs_cell (wr.alloc (.cells #[.string nm, .int .i64 kd] 46)) op ho
        simpa using this
      have HW1 := Lib.hid (And.intro (HR.out.1.below hbk) (And.intro (HR.out.2.1.below hbk) (And.intro ((hbk.block w.heap.size (World.block_lt_of_cell? wr _ (box7 HR.out.2.2).1.1)).trans HR.out.2.2) (And.intro hg5 hgs))))
      clear hg5 hgs hbk
      go_wp2
      obtain ⟨wo, rfl⟩ : ∃ wo : World, wo = wr := ⟨_, rfl⟩
      generalize hw1e : (wo.alloc (.cells #[.string nm, .int .i64 kd] 46)).alloc signsObj = W1 at *
      clear hw1e
      go_loopw [20] (fun i wq => ∃ j : Nat, j ≤ 6 ∧ (k = k0 → (j : Int) + 1 ≤ op0) ∧ i = .int .i64 j ∧ RdL r (some ⟨b, off, none⟩) cols.length cc s wq ∧ Only r W1 wq)
        (fun i _ => 6 - (intOf i).toNat)
      case atStart => exact ⟨0, by omega, by omega, rfl, HW1.out.1, Only.refl r W1⟩
      case round =>
        obtain ⟨j, hj, hjo, rfl, hrq, hoq⟩ := hrel
        by_cases hj6 : j < 6
        · have hop : (1 : Int) ≤ ((j : Int) + 1) ∧ ((j : Int) + 1) ≤ 6 := by omega
          have k5 := hoq.cell HW1.out.2.2.2.1 (show wo.heap.size ≠ r by omega)
          have k7 := hoq.cell (HW1.out.2.2.2.2 _ hop) (show wo.heap.size + 1 ≠ r by omega)
          rw [show (((j : Int) + 1) - 1).toNat = j by omega] at k7
          have hss := signB_size ((j : Int) + 1)
          by_cases hit : k = k0 ∧ ((j : Int) + 1) = op0
          · have hss' := hss
            obtain ⟨rfl, hopj⟩ := hit
            have HT := Lib.hid (takes_yes r (some ⟨b, off, none⟩) cols.length cc (nm ++ ⟨#[32]⟩ ++ signB ((j : Int) + 1) ++ ⟨#[32]⟩) (d.text ++ rest) wr (by rw [lead_str, hopj, ← HE.out rfl, HSE.out]; exact hrq))
            have HOP := Lib.hid hopj
            clear hopj
            generalize signB ((j : Int) + 1) = sg at *
            have c1 : ¬ 9223372036854775807 < nm.size + 1 := by omega
            have c2 : ¬ 9223372036854775807 < nm.size + 1 + sg.size := by omega
            have c3 : ¬ 9223372036854775807 < nm.size + 1 + sg.size + 1 := by omega
            go_wp2_with fail
            refine HT.out.mono ?_
            rintro e w3 ⟨rfl, hr3, ho3⟩
            have hon3 : Only r w w3 := HW1.out.2.1.trans (hoq.trans ho3)
            have hz3 := hon3.size
            have hq3 : Only r W1 w3 := hoq.trans ho3
            have hz4 : w.heap.size < w3.heap.size := Nat.lt_of_lt_of_le (World.block_lt_of_cell? W1 ⟨w.heap.size, 0, none⟩ (box7 HW1.out.2.2.1).1.1) hq3.size
            go_wp2_with fail
            refine (rdatum_any r _ _ _ d rest w3 hr3 HD.out.1 HD.out.2.1 HD.out.2.2.1 (Globs.ext HD.out.2.2.2 (hon3.under (Nat.le_refl r) (by omega)) HH8.out)).mono ?_
            rintro e w4 ⟨a, c, rfl, hda, hr4, ho4⟩
            have hon4 : Only r w w4 := hon3.trans ho4
            have hq4 : Only r W1 w4 := (hoq.trans ho3).trans ho4
            obtain ⟨⟨e0, e1, e2, e3, e4, e5, e6⟩, f0, f1, f2, f3, f4, f5, f6⟩ := box7 (hq4.heap HW1.out.2.2.1 hrne.symm)
            go_wp2
            (try simp only [Exit.inBlock, Exit.then])
            refine bodyPost_ret (v := .tuple #[pv (.node op0 k d []) a c none 0, .bool true]) ?_ rfl ⟨a, c, rfl, (hda.ext (veil_put7 hz4 _ _ _ _ _ _ _)).ext (veil_mono _ hz3), hr4.put7 hrne.symm _ _ _ _ _ _ _, hon4.put7 (Nat.le_refl _) _ _ _ _ _ _ _⟩
            rw [results_cell_tmp rfl]
            go_simp
            exact ⟨by rw [← HOP.out]; show 1 + (j : Int) = (j : Int) + 1; omega, rfl, rfl, rfl, rfl, rfl, rfl⟩
          · have HT := Lib.hid (takes_no r (some ⟨b, off, none⟩) cols.length cc (nm ++ ⟨#[32]⟩ ++ signB ((j : Int) + 1) ++ ⟨#[32]⟩) s wr hrq (by rw [lead_str]; exact HN.out _ hop.1 hop.2 hit))
            generalize signB ((j : Int) + 1) = sg at *
            have c1 : ¬ 9223372036854775807 < nm.size + 1 := by omega
            have c2 : ¬ 9223372036854775807 < nm.size + 1 + sg.size := by omega
            have c3 : ¬ 9223372036854775807 < nm.size + 1 + sg.size + 1 := by omega
            go_wp2_with fail
            refine HT.out.mono ?_
            rintro e w3 ⟨rfl, hr3, ho3⟩
            go_wp2
            go_roundw
            case rel => exact ⟨j + 1, by omega, by omega, by go_num, hr3, hoq.trans ho3⟩
            case measure => simp [intOf]; omega
        · go_wp2
          go_roundw
          case rel => exact ⟨k + 1, by omega, by go_num, hrq, HW1.out.2.1.trans hoq, hoq.heap HW1.out.2.2.1 hrne.symm⟩
          case measure => simp [intOf]; omega
end Go.Proofs.YtdjlbfepddcmeaaGreatDoor

namespace Go.Proofs.YtdjlbfepddcmeaaGreatDoor
open Go.RowKit

/-- What reader.pred leaves. -/
def PrPost (n r : Nat) (ac : Option Addr) (cc : Nat) (cols : List Co) (rest : List UInt8) (t : PT) (w : World) (e : Ending) (w' : World) : Prop :=
  ∃ a c pa pc, e = .returned (pv t a c pa pc) ∧ PredIs n (veil w.heap.size w') t a pa ∧ RdL r ac cols.length cc rest w' ∧ Only r w w'
/-- reader.pred reads what it must, so deep. -/
def ReadOK (cols : List Co) (ac : Option Addr) (cc n : Nat) : Prop :=
  ∀ (m : Nat) (w0 : World) (t : PT) (a0 pa0 : Option Addr) (r : Nat) (rest : List UInt8) (w : World), PredIs m w0 t a0 pa0 → mayP cols n t = true → RdL r ac cols.length cc (textP cols n t ++ rest) w → ColIs (blank w r) ac cols → Stop rest →
    (textP cols n t ++ rest).length ≤ 4194304 → Globs w → 8 ≤ r → Calls Tryz.prog 39 #[.pointer (some ⟨r, 0, none⟩), .int .i64 n] w (PrPost n r ac cc cols rest t w)

theorem RdL.alloc {r : Nat} {ac : Option Addr} {n cc : Nat} {l : List UInt8} {w : World} (h : RdL r ac n cc l w) (o : Obj) : RdL r ac n cc l (w.alloc o) := h.below (by go_grown)
theorem Only.alloc {r : Nat} {a w : World} (h : Only r a w) (o : Obj) : Only r a (w.alloc o) := h.below (by go_grown)
theorem veil_alloc (B : Nat) (w : World) (o : Obj) : Ext (veil B w) (veil B (w.alloc o)) := veil_below (by go_grown)

set_option maxRecDepth 100000 in
set_option maxHeartbeats 4000000 in
theorem read_leaf (cols : List Co) (ac : Option Addr) (cc n : Nat) (hcols : colsB cols = true) (m : Nat) (w0 : World) (t : PT) (a0 pa0 : Option Addr) (r : Nat) (rest : List UInt8) (w : World) (hp : PredIs m w0 t a0 pa0) (hm : mayP cols (n + 1) t = true)
    (ho : 1 ≤ t.op ∧ t.op ≤ 6) (h : RdL r ac cols.length cc (textP cols (n + 1) t ++ rest) w) (hc : ColIs (blank w r) ac cols) (hst : Stop rest) (hlen : (textP cols (n + 1) t ++ rest).length ≤ 4194304) (hG : Globs w) (h8 : 8 ≤ r) :
    Calls Tryz.prog 39 #[.pointer (some ⟨r, 0, none⟩), .int .i64 (n + 1 : Nat)] w (PrPost (n + 1) r ac cc cols rest t w) := by
  obtain ⟨k, hcol, hklt, hdm, hpl⟩ := LeafOk.of hm ho
  have hgd := hp.da.good hdm
  have hrl := h.lt
  have hrne : r ≠ w.heap.size := by omega
  have hb0 : Below w.heap.size w (w.alloc zbox) := by go_grown
  rw [textP_leaf ho, nameAt_eq cols t.col k hcol hklt, List.append_assoc] at h hlen
  have hlen2 : (t.d.text ++ rest).length ≤ 4194304 := by rw [List.length_append] at hlen; omega
  have HS := Lib.hid (simple_yes r ac cc cols k hklt t.op ho t.d rest (w.alloc zbox) (h.alloc zbox) (hc.ext (Only.of_below r hb0).ext) hcols hgd hst hlen2 (hG.below hb0) h8)
  have hbox : (w.alloc zbox).heap[w.heap.size]? = some zbox := heap_alloc_new w zbox
  have HB := Lib.hid (And.intro hbox (Only.of_below r hb0))
  have hn0 : (((n + 1 : Nat) : Int) == 0) = false := by rw [beq_eq_false_iff_ne]; omega
  have hps : t.parts = [] := by
    rw [mayP, if_pos ho] at hm
    simp only [Bool.and_eq_true, decide_eq_true_eq] at hm
    exact List.eq_nil_of_length_eq_zero hm.1.1.1
  have hcol64 : In64 t.col := by rw [hcol]; have := cols_four hcols; exact ⟨by omega, by omega⟩
  have ht : t = .node t.op k t.d [] := by rw [← hcol, ← hps]; exact t.eta
  have HT := Lib.hid (And.intro ht hcol64)
  have HCO := Lib.hid hcol
  have HPS := Lib.hid hps
  clear h hc hcol hlen hlen2 hG hp hm hgd hdm hpl hbox hb0 hcol64 ht hps
  generalize ht : t = t' at *
  have HTE := Lib.hid ht
  clear ht
  go_enter Tryz.func39, Tryz.ntmps39
  go_wp2_with fail
  refine HS.out.mono ?_
  rintro e w2 ⟨a, c, he, hda, hr2, ho2⟩
  rw [← HT.out.1] at he
  subst he
  have hz2 := ho2.size
  simp at hz2
  have hzz : w.heap.size < (w.alloc zbox).heap.size := by simp
  have hzz' : w.heap.size ≤ (w.alloc zbox).heap.size := by simp
  have n1 : ¬ w.heap.size = w2.heap.size := by omega
  have n2 : ¬ w2.heap.size = w.heap.size := by omega
  unfold pv
  obtain ⟨⟨e0, e1, e2, e3, e4, e5, e6⟩, f0, f1, f2, f3, f4, f5, f6⟩ := box7 ((Below.heap_alloc w2 (pbox t' a c none 0) w.heap.size (by omega)).trans (ho2.heap HB.out.1 hrne.symm))
  unfold pbox at *
  go_wp2
  (try simp only [Exit.inBlock, Exit.then])
  have hO : Only r w w2 := HB.out.2.trans ho2
  refine bodyPost_ret (v := pv t' a c none 0) ?_ rfl ⟨a, c, none, 0, rfl, ⟨((hda.ext (veil_alloc _ _ _)).ext (veil_put7 hzz _ _ _ _ _ _ _)).ext (veil_mono _ hzz'), ?_, HT.out.2, by rw [HPS.out]; simp, .inl HPS.out⟩, (hr2.alloc _).put7 hrne.symm _ _ _ _ _ _ _, (hO.alloc _).put7 (Nat.le_refl _) _ _ _ _ _ _ _⟩
  · rw [results_cell1 rfl]
    go_simp
    try rfl
  · show In64 t'.op
    exact ⟨by omega, by omega⟩
theorem da_zero {d : Da} (h : d.zero = true) : d = ⟨0, 0, ⟨#[]⟩, []⟩ := by
  obtain ⟨k, n, s, l⟩ := d
  simp only [Da.zero, Bool.and_eq_true, decide_eq_true_eq, List.isEmpty_iff, List.length_eq_zero_iff] at h
  obtain ⟨⟨⟨h1, h2⟩, h3⟩, h4⟩ := h
  obtain ⟨⟨s⟩⟩ := s
  simp only at h1 h2 h3 h4
  subst h1 h2 h4 h3
  rfl
theorem heap_put7 {w : World} {z g : Nat} (hz : z ≠ g) (v0 v1 v2 v3 v4 v5 v6 : Value) : (put7 w z v0 v1 v2 v3 v4 v5 v6).heap[g]? = w.heap[g]? := by
  unfold put7 World.setCell
  simp only [Array.getElem?_modify, if_neg hz]
theorem PBx.cells {w : World} {g : Nat} {t : PT} {a : Option Addr} {c : Nat} {pa : Option Addr} {pc : Nat} (h : w.heap[g]? = some (pbox t a c pa pc)) {B : Nat} (hB : B ≤ g) : PCells (veil B w) g 0 t a c pa pc := by
  have h := PBx.of_heap h
  exact ⟨cell_veil hB h.c0, cell_veil hB h.c1, cell_veil hB h.c2, cell_veil hB h.c3, cell_veil hB h.c4, cell_veil hB h.c5, cell_veil hB h.c6⟩

set_option maxRecDepth 100000 in
set_option maxHeartbeats 4000000 in
theorem read_true (cols : List Co) (ac : Option Addr) (cc n : Nat) (hcols : colsB cols = true) (m : Nat) (w0 : World) (t : PT) (a0 pa0 : Option Addr) (r : Nat) (rest : List UInt8) (w : World) (hp : PredIs m w0 t a0 pa0) (hm : mayP cols (n + 1) t = true)
    (ho : t.op = 10) (h : RdL r ac cols.length cc (textP cols (n + 1) t ++ rest) w) (hc : ColIs (blank w r) ac cols) (hst : Stop rest) (hlen : (textP cols (n + 1) t ++ rest).length ≤ 4194304) (hG : Globs w) (h8 : 8 ≤ r) :
    Calls Tryz.prog 39 #[.pointer (some ⟨r, 0, none⟩), .int .i64 (n + 1 : Nat)] w (PrPost (n + 1) r ac cc cols rest t w) := by
  obtain ⟨hall, hp8, hops, hcol, hdz⟩ := mayP_parts hm (by omega)
  have hrl := h.lt
  have hrne : r ≠ w.heap.size := by omega
  have hb0 : Below w.heap.size w (w.alloc zbox) := by go_grown
  have hc1 : ColIs (blank (w.alloc zbox) r) ac cols := hc.ext (Only.of_below r hb0).ext
  have hbox : (w.alloc zbox).heap[w.heap.size]? = some zbox := heap_alloc_new w zbox
  have HB := Lib.hid (And.intro hbox (And.intro (Only.of_below r hb0) (And.intro (hG.below hb0) hc1)))
  have hn0 : (((n + 1 : Nat) : Int) == 0) = false := by rw [beq_eq_false_iff_ne]; omega
  have hzz : w.heap.size < (w.alloc zbox).heap.size := by simp
  have hzz' : w.heap.size ≤ (w.alloc zbox).heap.size := by simp
  have hd0 := da_zero hdz
  rw [show textP cols (n + 1) t = [116, 114, 117, 101] by rw [textP, if_pos ho]] at h
  have HS := Lib.hid (simple_no r ac cc cols _ (w.alloc zbox) (h.alloc zbox) hc1 hcols (fun k hk op h1 h6 => lead_none (name_len hcols k hk).1 (.inl (by rw [head_true hst]; decide))))
  have hps : t.parts = [] := by
    rcases hops with h | h | ⟨h, _⟩ | ⟨_, h⟩
    · omega
    · omega
    · omega
    · exact List.eq_nil_of_length_eq_zero h
  have ht : t = .node 10 0 ⟨0, 0, ⟨#[]⟩, []⟩ [] := by rw [← hps, ← hd0, ← hcol, ← ho]; exact t.eta
  subst ht
  clear h hc hlen hG hp hm hbox hb0 hops hall hp8 ho hcol hd0 hps hc1 hdz
  go_enter Tryz.func39, Tryz.ntmps39
  go_wp2_with fail
  refine HS.out.mono ?_
  rintro e w2 ⟨rfl, hr2, ho2⟩
  have hz2 := ho2.size
  simp at hz2
  have hb2 := (Below.heap_alloc w2 (pbox zeroP none 0 none 0) w.heap.size (by omega)).trans (ho2.heap HB.out.1 hrne.symm)
  have HT := Lib.hid (takes_yes r ac cols.length cc ⟨#[116, 114, 117, 101]⟩ rest (w2.alloc (pbox zeroP none 0 none 0)) (hr2.alloc _))
  have HO2 := Lib.hid ho2
  clear ho2
  unfold pbox at *
  go_wp2_with fail
  refine HT.out.mono ?_
  rintro e w3 ⟨rfl, hr3, ho3⟩
  obtain ⟨⟨e0, e1, e2, e3, e4, e5, e6⟩, f0, f1, f2, f3, f4, f5, f6⟩ := box7 (Only.heap ho3 hb2 hrne.symm)
  go_wp2
  (try simp only [Exit.inBlock, Exit.then])
  have hO : Only r w w3 := (Only.alloc (HB.out.2.1.trans HO2.out) _).trans ho3
  refine bodyPost_ret (v := pv (.node 10 0 ⟨0, 0, ⟨#[]⟩, []⟩ []) none 0 none 0) ?_ rfl ⟨none, 0, none, 0, rfl, ⟨⟨.inl rfl, (by show In64 0; exact ⟨by omega, by omega⟩), (by show 0 ≤ _; omega), (by show 0 ≤ _; omega)⟩, (by show In64 10; exact ⟨by omega, by omega⟩), (by show In64 0; exact ⟨by omega, by omega⟩), (by show 0 ≤ _; omega), .inl rfl⟩, hr3.put7 hrne.symm _ _ _ _ _ _ _, hO.put7 (Nat.le_refl _) _ _ _ _ _ _ _⟩
  rw [results_cell1 rfl]
  go_simp
  exact ⟨rfl, rfl, rfl, rfl, rfl, rfl, rfl⟩
theorem zeroD_is (w : World) : DaIs w ⟨0, 0, ⟨#[]⟩, []⟩ none := ⟨.inl rfl, (by show In64 0; exact ⟨by omega, by omega⟩), (by show 0 ≤ _; omega), (by show 0 ≤ _; omega)⟩
theorem not_is {n z : Nat} {w5 : World} {x : PT} {a : Option Addr} {c : Nat} {pa : Option Addr} {pc : Nat} {B B4 : Nat} (h : PredIs n (veil B4 w5) x a pa) (hz : z < B4) (h45 : B4 ≤ w5.heap.size) (hB : B ≤ w5.heap.size) (hB4 : B ≤ B4) {v0 v1 v2 v3 v4 v5 v6 : Value} {op : Int} (ho : In64 op := by exact ⟨by omega, by omega⟩) :
    PredIs (n + 1) (veil B (put7 (w5.alloc (pbox x a c pa pc)) z v0 v1 v2 v3 v4 v5 v6)) (.node op 0 ⟨0, 0, ⟨#[]⟩, []⟩ [x]) none (some ⟨w5.heap.size, 0, none⟩) := by
  refine ⟨zeroD_is _, ho, (by show In64 0; exact ⟨by omega, by omega⟩), (by show 1 ≤ _; omega), .inr ⟨w5.heap.size, 0, rfl, fun i hi => ?_⟩⟩
  obtain rfl : i = 0 := by
    have : i < 1 := hi
    omega
  refine ⟨a, c, pa, pc, PBx.cells ?_ hB, ?_⟩
  · rw [heap_put7 (by omega)]
    exact heap_alloc_new w5 _
  · exact ((h.ext (veil_alloc B4 w5 (pbox x a c pa pc))).ext (veil_put7 hz _ _ _ _ _ _ _)).ext (veil_mono _ hB4)

set_option maxRecDepth 100000 in
set_option maxHeartbeats 1000000 in
theorem read_not (cols : List Co) (ac : Option Addr) (cc n : Nat) (hn8 : n < 8) (hcols : colsB cols = true) (hok : ReadOK cols ac cc n) (m : Nat) (w0 : World) (t : PT) (a0 pa0 : Option Addr) (r : Nat) (rest : List UInt8) (w : World) (hp : PredIs m w0 t a0 pa0) (hm : mayP cols (n + 1) t = true)
    (ho : t.op = 9) (h : RdL r ac cols.length cc (textP cols (n + 1) t ++ rest) w) (hc : ColIs (blank w r) ac cols) (hst : Stop rest) (hlen : (textP cols (n + 1) t ++ rest).length ≤ 4194304) (hG : Globs w) (h8 : 8 ≤ r) :
    Calls Tryz.prog 39 #[.pointer (some ⟨r, 0, none⟩), .int .i64 (n + 1 : Nat)] w (PrPost (n + 1) r ac cc cols rest t w) := by
  obtain ⟨hall, hp8, hops, hcol, hdz⟩ := mayP_parts hm (by omega)
  have hrl := h.lt
  have hrne : r ≠ w.heap.size := by omega
  have hb0 : Below w.heap.size w (w.alloc zbox) := by go_grown
  have hc1 : ColIs (blank (w.alloc zbox) r) ac cols := hc.ext (Only.of_below r hb0).ext
  have hbox : (w.alloc zbox).heap[w.heap.size]? = some zbox := heap_alloc_new w zbox
  have HB := Lib.hid (And.intro hbox (And.intro (Only.of_below r hb0) (And.intro (hG.below hb0) hc1)))
  have HCW := Lib.hid hc
  have HGW := Lib.hid hG
  have hn0 : (((n + 1 : Nat) : Int) == 0) = false := by rw [beq_eq_false_iff_ne]; omega
  have hzz : w.heap.size < (w.alloc zbox).heap.size := by simp
  have hzz' : w.heap.size ≤ (w.alloc zbox).heap.size := by simp
  have hd0 := da_zero hdz
  obtain ⟨x, hx⟩ : ∃ x, t.parts = [x] := by
    rcases hops with h | h | ⟨_, h⟩ | ⟨h, _⟩
    · omega
    · omega
    · exact List.length_eq_one_iff.1 h
    · omega
  obtain ⟨m, rfl⟩ : ∃ k, m = k + 1 := by
    cases m with
    | zero => exact hp.elim
    | succ k => exact ⟨k, rfl⟩
  rw [show textP cols (n + 1) t = [110, 111, 116, 32] ++ textP cols n x by rw [textP, if_neg (by omega), if_pos ho, hx], List.append_assoc] at h hlen
  have hps := hp.parts
  rw [hx] at hps hall
  have hmx : mayP cols n x = true := by simpa using hall
  obtain ⟨rb, ro, -, a', c', pa', pc', hcell, hpi⟩ := hps.at_ 0 (by simp)
  simp only [List.getElem_cons_zero] at hpi
  have HS := Lib.hid (simple_no r ac cc cols _ (w.alloc zbox) (h.alloc zbox) hc1 hcols (fun k hk op h1 h6 => lead_none (name_len hcols k hk).1 (.inl (by rw [head_not]; decide))))
  have HK := Lib.hid (fun W hr hcc hg => hok m w0 x a' pa' r rest W hpi hmx hr hcc hst (by rw [List.length_append] at hlen; omega) hg h8)
  have ht : t = .node 9 0 ⟨0, 0, ⟨#[]⟩, []⟩ [x] := by rw [← hx, ← hd0, ← hcol, ← ho]; exact t.eta
  subst ht
  clear h hc hlen hG hp hm hbox hb0 hops hall hp8 ho hcol hd0 hps hc1 hdz hok hmx hcell hpi hx
  generalize hQ : textP cols n x = XT at *
  clear hQ
  go_enter Tryz.func39, Tryz.ntmps39
  go_wp2_with fail
  refine HS.out.mono ?_
  rintro e w2 ⟨rfl, hr2, ho2⟩
  have hz2 := ho2.size
  simp at hz2
  have hb2 := (Below.heap_alloc w2 (pbox zeroP none 0 none 0) w.heap.size (by omega)).trans (ho2.heap HB.out.1 hrne.symm)
  have HT := Lib.hid (takes_no r ac cols.length cc ⟨#[116, 114, 117, 101]⟩ _ (w2.alloc (pbox zeroP none 0 none 0)) (hr2.alloc _) (by simp [List.isPrefixOf]))
  have HO2 := Lib.hid (Only.alloc (HB.out.2.1.trans ho2) (pbox zeroP none 0 none 0))
  clear ho2
  unfold pbox at *
  go_wp2_with fail
  refine HT.out.mono ?_
  rintro e w3 ⟨rfl, hr3, ho3⟩
  have hb3 := Only.heap ho3 hb2 hrne.symm
  go_wp2_with fail
  refine (takes_yes r ac cols.length cc ⟨#[110, 111, 116, 32]⟩ _ w3 hr3).mono ?_
  rintro e w4 ⟨rfl, hr4, ho4⟩
  have hb4 := Only.heap ho4 hb3 hrne.symm
  have hO4 : Only r w w4 := (HO2.out.trans ho3).trans ho4
  have hz4 : w.heap.size < w4.heap.size := World.block_lt_of_cell? w4 ⟨w.heap.size, 0, none⟩ (box7 hb4).1.1
  go_wp2_with fail
  refine (HK.out w4 hr4 (HCW.out.ext hO4.ext) (Globs.ext HGW.out (hO4.under (Nat.le_refl r) (by omega)) h8)).mono ?_
  rintro e w5 ⟨a, c, pa, pc, rfl, hpx, hr5, ho5⟩
  have hb5 := Only.heap ho5 hb4 hrne.symm
  have hO5 : Only r w w5 := hO4.trans ho5
  have hz5 : w4.heap.size ≤ w5.heap.size := ho5.size
  have hb6 := (Below.heap_alloc w5 (pbox x a c pa pc) w.heap.size (by omega)).trans hb5
  obtain ⟨⟨e0, e1, e2, e3, e4, e5, e6⟩, f0, f1, f2, f3, f4, f5, f6⟩ := box7 hb6
  unfold pv
  unfold pbox at *
  clear hb2 hb3 hb4 hb5
  go_wp2
  (try simp only [Exit.inBlock, Exit.then])
  have hlt5 : w.heap.size ≤ w5.heap.size := by omega
  refine bodyPost_ret (v := pv (.node 9 0 ⟨0, 0, ⟨#[]⟩, []⟩ [x]) none 0 (some ⟨w5.heap.size, 0, none⟩) 1) ?_ rfl ⟨none, 0, some ⟨w5.heap.size, 0, none⟩, 1, rfl, not_is hpx hz4 (by omega) hlt5 (by omega), (hr5.alloc _).put7 hrne.symm _ _ _ _ _ _ _, (hO5.alloc _).put7 (Nat.le_refl _) _ _ _ _ _ _ _⟩
  rw [results_cell1 rfl]
  go_simp
  exact ⟨rfl, rfl, rfl, rfl, rfl, rfl, rfl⟩
end Go.Proofs.YtdjlbfepddcmeaaGreatDoor
