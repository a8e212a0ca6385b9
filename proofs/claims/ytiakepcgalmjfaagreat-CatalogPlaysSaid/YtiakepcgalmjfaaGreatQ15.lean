/- Which kind a method is; whether it is for columns of a kind. -/
import Derived.Test.YtiakepcgalmjfaaGreatQ14
set_option linter.unusedVariables false
set_option linter.unusedSimpArgs false
namespace Go.Proofs.YtiakepcgalmjfaaGreat
open Go.RowKit

def isK (m : ByteArray) (i : Nat) : Bool := (kname i).toList == m.toList
/-- The number of a method. -/
def IsKind (m : ByteArray) (at_ : Int) : Prop := (at_ = -1 ∧ ∀ i, i < 4 → isK m i = false) ∨ ∃ i : Nat, i < 4 ∧ at_ = i ∧ isK m i = true ∧ ∀ t, t < i → isK m t = false

theorem addc_any {w : World} {bx : Nat} {x : Xi} (h : w.heap[bx]? = some (xiO x)) (i g n fn : Nat) (u : Bool) :
    Calls Tryz.prog 45 #[.agg #[.string (kname i), .slice (some ⟨g, 0, none⟩) n n, .bool u, .func (.func fn) #[] #[]], .pointer (some ⟨bx, 0, none⟩)] w fun e w' => e = .returned (.bool (isK x.meth i)) ∧ Below w.heap.size w w' := by
  obtain ⟨x0, x1, x2, x3, x4⟩ := xi5 h
  have hlt := (Array.getElem?_eq_some_iff.1 h).1
  clear h
  unfold isK
  generalize kname i = kk
  go_enter Tryz.func45, Tryz.ntmps45
  go_wp2
  go_ret
  exact ⟨rfl, by go_grown⟩

set_option maxRecDepth 100000 in
set_option maxHeartbeats 2000000 in
theorem kindx_any {w : World} {g gp gl bx : Nat} {x : Xi} (hk : KindsAt w g gp gl) (h : w.heap[bx]? = some (xiO x)) :
    Calls Tryz.prog 44 #[.slice (some ⟨g, 0, none⟩) 4 4, .func (.func 45) #[] #[.pointer (some ⟨bx, 0, none⟩)]] w fun e w' => ∃ at_, e = .returned (.int .i64 at_) ∧ IsKind x.meth at_ ∧ Below w.heap.size w w' := by
  have H := Lib.hid (And.intro hk h)
  clear hk h
  go_enter Tryz.func44, Tryz.ntmps44
  go_wp2
  go_loopw [8] (fun i wr => ∃ j : Nat, j ≤ 4 ∧ i = .int .i64 j ∧ (∀ t, t < j → isK x.meth t = false) ∧ Below w.heap.size w wr) (fun i _ => 4 - (intOf i).toNat)
  case atStart => exact ⟨0, by omega, rfl, fun t h => by omega, Below.refl _ _⟩
  case round =>
    obtain ⟨j, hj, rfl, hall, hb⟩ := hrel
    have HA := Lib.hid (And.intro hall hb)
    by_cases hlt : j < 4
    · have hlt' : (j : Int) < 4 := by omega
      obtain ⟨k0, k1, k2, k3⟩ := (H.out.1.below hb).cells j hlt
      have HC := Lib.hid (addc_any ((hb.block bx (Array.getElem?_eq_some_iff.1 H.out.2).1).trans H.out.2) j (kg gp gl j) (kn j) (kopen j) (kuniq j))
      clear hall hb
      generalize kg gp gl j = q1 at *
      generalize kuniq j = q2 at *
      generalize kopen j = q3 at *
      generalize kn j = q5 at *
      generalize kname j = q4 at *
      go_wp2_with fail
      refine HC.out.mono ?_
      rintro e w2 ⟨rfl, hb2⟩
      have HB := Lib.hid (HA.out.2.trans (hb2.mono HA.out.2.size))
      clear hb2
      cases hq : isK x.meth j with
      | true =>
        have HQ := Lib.hid hq
        clear hq
        go_wp2
        go_ret
        exact ⟨j, rfl, .inr ⟨j, hlt, rfl, HQ.out, HA.out.1⟩, HB.out⟩
      | false =>
        have HQ := Lib.hid hq
        clear hq
        go_wp2
        go_roundw
        case rel => exact ⟨j + 1, by omega, by go_num, fun t ht => by
          by_cases e : t = j
          · subst e; exact HQ.out
          · exact HA.out.1 t (by omega), HB.out⟩
        case measure => simp [intOf]; omega
    · clear hall hb
      have hlt' : ¬ (j : Int) < 4 := by omega
      go_wp2
      go_ret
      exact ⟨-1, rfl, .inl ⟨rfl, fun i hi => HA.out.1 i (by omega)⟩, HA.out.2⟩

theorem icols_any {w : World} {g n c : Nat} (L : List Int) (hn : L.length = n) (hc : ∀ j (hj : j < L.length), w.cell? ⟨g, j, none⟩ = some (.int .i64 L[j])) (hl : L.length ≤ 1000) (z : Int) :
    Calls Tryz.prog 88 #[.slice (some ⟨g, 0, none⟩) n c, .int .i64 z] w fun e w' => (∃ r : Int, e = .returned (.int .i64 r) ∧ (decide (0 ≤ r) = L.contains z)) ∧ w' = w := by
  subst hn
  have HC := Lib.hid hc
  clear hc
  go_enter Tryz.func88, Tryz.ntmps88
  go_wp2
  go_loop [8] (fun i => ∃ j : Nat, j ≤ L.length ∧ i = .int .i64 j ∧ (L.take j).contains z = false) (fun i => L.length - (intOf i).toNat)
  case atStart => exact ⟨0, Nat.zero_le _, rfl, rfl⟩
  case round =>
    obtain ⟨j, hj, rfl, hall⟩ := hrel
    have HA := Lib.hid hall
    clear hall
    by_cases hlt : j < L.length
    · have g0 := HC.out j hlt
      have hm : L[j] ∈ L := List.getElem_mem hlt
      have HM := Lib.hid hm
      have HT := Lib.hid (show L.take (j + 1) = L.take j ++ [L[j]] from List.take_succ_eq_append_getElem hlt)
      clear hm
      generalize L[j] = q at *
      by_cases he : z = q
      · have HE := Lib.hid he
        subst he
        go_wp2
        go_ret
        exact ⟨⟨j, rfl, by have := HM.out; simp [this]⟩, rfl⟩
      · have HE := Lib.hid he
        go_wp2
        go_round
        case rel =>
          refine ⟨j + 1, by omega, by go_num, ?_⟩
          have h1 := HA.out
          have h2 := HE.out
          rw [HT.out]
          simp only [List.contains_eq_mem, decide_eq_false_iff_not, List.mem_append, List.mem_singleton] at h1 ⊢
          rintro (e | e)
          · exact h1 e
          · exact h2 e
        case measure => simp [intOf]; omega
    · go_wp2
      go_ret
      refine ⟨⟨-1, rfl, ?_⟩, rfl⟩
      have h1 := HA.out
      rw [List.take_of_length_le (by omega)] at h1
      simp only [List.contains_eq_mem, decide_eq_false_iff_not] at h1
      simp [h1]
theorem ccols_any {w : World} {g n c : Nat} (L : List Int) (hn : L.length = n) (hc : ∀ j (hj : j < L.length), w.cell? ⟨g, j, none⟩ = some (.int .i64 L[j])) (hl : L.length ≤ 1000) (z : Int) :
    Calls Tryz.prog 46 #[.slice (some ⟨g, 0, none⟩) n c, .int .i64 z] w fun e w' => e = .returned (.bool (L.contains z)) ∧ w' = w := by
  have HI := Lib.hid (icols_any (c := c) L hn hc hl z)
  clear hc hn
  go_enter Tryz.func46, Tryz.ntmps46
  go_wp2_with fail
  refine HI.out.mono ?_
  rintro e w' ⟨⟨r, rfl, hr⟩, rfl⟩
  have HR := Lib.hid hr
  clear hr
  go_wp2
  go_ret
  exact ⟨ret_bool HR.out, rfl⟩
end Go.Proofs.YtiakepcgalmjfaaGreat
