/- Where a key stands among items. -/
import Derived.Test.YtddddjpmeegedaaGreatSpO
set_option linter.unusedVariables false
set_option linter.unusedSimpArgs false
namespace Go.Proofs.YtddddjpmeegedaaGreat
open Go.RowKit

def cmpK (x : KV) (key : ByteArray) : Int := Go.Lib.compareBytes x.k.data.toList key.data.toList
/-- Items as they lie. -/
def ItemsR (w : World) (A : Option Addr) (L : List KV) : Prop := L = [] ∨ ∃ b off, A = some ⟨b, off, none⟩ ∧ ∀ i (h : i < L.length), w.cell? ⟨b, off + i * 2, none⟩ = some (.string L[i].k) ∧ w.cell? ⟨b, off + i * 2 + 1, none⟩ = some (.string L[i].v)
theorem ItemsR.below {w w' : World} {A : Option Addr} {L : List KV} (h : ItemsR w A L) (hb : Below w.heap.size w w') : ItemsR w' A L := by
  rcases h with h | ⟨b, off, ha, h⟩
  · exact .inl h
  · exact .inr ⟨b, off, ha, fun i hi => ⟨(hb.cell (World.block_lt_of_cell? w _ (h i hi).1)).trans (h i hi).1, (hb.cell (World.block_lt_of_cell? w _ (h i hi).2)).trans (h i hi).2⟩⟩
theorem Items.read {w : World} {B n c : Nat} {A : Option Addr} {L : List KV} (h : Items w B (.slice A n c) L) : ItemsR w A L := by
  by_cases h0 : L = []
  · exact .inl h0
  · have hp : 0 < L.length := List.length_pos_iff.2 h0
    cases A with
    | none =>
      rcases h.2 with ⟨e, e0⟩ | ⟨g, cap, cur, e, _⟩
      · exact absurd (List.eq_nil_of_length_eq_zero e0) h0
      · cases e
    | some a =>
      obtain ⟨g, o, sp⟩ := a
      rcases h.2 with ⟨e, e0⟩ | ⟨g', cap, cur, e, _⟩
      · exact absurd (List.eq_nil_of_length_eq_zero e0) h0
      · simp only [Value.slice.injEq, Option.some.injEq, Addr.mk.injEq] at e
        obtain ⟨⟨rfl, rfl, rfl⟩, rfl, rfl⟩ := e
        exact .inr ⟨g, 0, rfl, fun i hi => by
          obtain ⟨_, _, h1, h2, _⟩ := h.cells i hi
          exact ⟨by simpa using h1, by simpa using h2⟩⟩

set_option maxHeartbeats 1000000 in
theorem findc_any (x : KV) (key : ByteArray) (w : World) :
    Calls Tryz.prog 149 #[.agg #[.string x.k, .string x.v], .string key] w fun e w' => e = .returned (.int .i64 (cmpK x key)) ∧ Below w.heap.size w w' := by
  have HC := Lib.hid (Tryz.strings_Compare x.k key (w.alloc (itemO x)))
  go_enter Tryz.func149, Tryz.ntmps149
  go_wp2_with fail
  refine HC.out.mono ?_
  rintro e w1 ⟨rfl, rfl⟩
  go_wp2
  go_ret
  exact ⟨rfl, by go_grown⟩

def isAt (L : List KV) (key : ByteArray) (i : Nat) : Bool := match L[i]? with
  | some x => decide (cmpK x key = 0)
  | none => false
/-- i of the items are below a key. -/
structure Cut (L : List KV) (key : ByteArray) (i : Nat) : Prop where
  le : i ≤ L.length
  lo : ∀ t (h : t < L.length), t < i → cmpK L[t] key < 0
  hi : ∀ t (h : t < L.length), i ≤ t → 0 ≤ cmpK L[t] key

set_option maxRecDepth 100000 in
set_option maxHeartbeats 2000000 in
theorem search_any (L : List KV) (key : ByteArray) (A : Option Addr) (c : Nat) (w : World) (h : ItemsR w A L) (hn : L.length ≤ 1099511627776) (hmono : ∀ s t (hs : s < L.length) (ht : t < L.length), s ≤ t → cmpK L[t] key < 0 → cmpK L[s] key < 0) :
    Calls Tryz.prog 148 #[.slice A L.length c, .string key, .func (.func 149) #[] #[]] w fun e w' => ∃ i : Nat, e = .returned (.tuple #[.int .i64 i, .bool (isAt L key i)]) ∧ Cut L key i ∧ Below w.heap.size w w' := by
  go_enter Tryz.func148, Tryz.ntmps148
  go_wp2
  go_loopw [9, 10] (fun i j wr => ∃ a b : Nat, a ≤ b ∧ b ≤ L.length ∧ i = .int .i64 a ∧ j = .int .i64 b ∧ (∀ t (h : t < L.length), t < a → cmpK L[t] key < 0) ∧ (∀ t (h : t < L.length), b ≤ t → 0 ≤ cmpK L[t] key) ∧ Below w.heap.size w wr) (fun i j _ => (intOf j).toNat - (intOf i).toNat)
  case atStart => exact ⟨0, L.length, Nat.zero_le _, Nat.le_refl _, rfl, rfl, fun t _ h => by omega, fun t h h' => by omega, Below.refl _ _⟩
  case round =>
    obtain ⟨a, b, hab, hb, rfl, rfl, hlo, hhi, hbel⟩ := hrel
    have HH := Lib.hid (And.intro hlo (And.intro hhi hbel))
    clear hlo hhi hbel
    by_cases hlt : a < b
    · have hm1 : a ≤ (a + b) / 2 ∧ (a + b) / 2 < b := by omega
      rcases h.below HH.out.2.2 with h0 | ⟨g, off, rfl, hc⟩
      · subst h0; simp at hb; omega
      · obtain ⟨k0, k1⟩ := hc ((a + b) / 2) (by omega)
        have HC := Lib.hid (findc_any (L[(a + b) / 2]'(by omega)) key wr)
        have HM := Lib.hid (And.intro (fun t (ht : t < L.length) (hle : t ≤ (a + b) / 2) => hmono t ((a + b) / 2) ht (by omega) hle) (fun t (ht : t < L.length) (hle : (a + b) / 2 ≤ t) => hmono ((a + b) / 2) t (by omega) ht hle))
        generalize hx : (L[(a + b) / 2]'(by omega)) = x at *
        have HX := Lib.hid hx
        clear hc hx
        have h5 : ((a : Int) + (b : Int)) / 2 = (((a + b) / 2 : Nat) : Int) := by omega
        have H5 := Lib.hid h5
        clear h5
        go_wp2_with fail
        refine HC.out.mono ?_
        rintro e w2 ⟨rfl, hb2⟩
        have hbw := HH.out.2.2.trans (hb2.mono HH.out.2.2.size)
        by_cases hneg : cmpK x key < 0
        · have hall : ∀ t (h : t < L.length), t < (a + b) / 2 + 1 → cmpK L[t] key < 0 := fun t ht hlt' => HM.out.1 t ht (by omega) (by rw [HX.out]; exact hneg)
          have HA := Lib.hid (And.intro hall hbw)
          clear hall hbw hb2
          go_wp2
          go_roundw
          case rel => exact ⟨(a + b) / 2 + 1, b, by omega, hb, by rw [H5.out]; go_num, rfl, HA.out.1, HH.out.2.1, HA.out.2⟩
          case measure => rw [H5.out]; simp [intOf]; omega
        · have hall : ∀ t (h : t < L.length), (a + b) / 2 ≤ t → 0 ≤ cmpK L[t] key := fun t ht hle => by
            by_cases h9 : cmpK L[t] key < 0
            · exact absurd (HM.out.2 t ht hle h9) (by rw [HX.out]; exact hneg)
            · omega
          have HA := Lib.hid (And.intro hall hbw)
          clear hall hbw hb2
          go_wp2
          go_roundw
          case rel => exact ⟨a, (a + b) / 2, by omega, by omega, rfl, by rw [H5.out], HH.out.1, HA.out.1, HA.out.2⟩
          case measure => rw [H5.out]; simp [intOf]; omega
    · obtain rfl : a = b := by omega
      have HCut := Lib.hid (show Cut L key a from ⟨hb, HH.out.1, HH.out.2.1⟩)
      by_cases hend : a < L.length
      · rcases h.below HH.out.2.2 with h0 | ⟨g, off, rfl, hc⟩
        · subst h0; simp at hend
        · obtain ⟨k0, k1⟩ := hc a hend
          have HI := Lib.hid (show isAt L key a = decide (cmpK L[a] key = 0) from by rw [isAt, List.getElem?_eq_getElem hend])
          have HC := Lib.hid (findc_any L[a] key wr)
          generalize L[a] = x at *
          clear hc
          go_wp2_with fail
          refine HC.out.mono ?_
          rintro e w2 ⟨rfl, hb2⟩
          have HA := Lib.hid (HH.out.2.2.trans (hb2.mono HH.out.2.2.size))
          clear hb2
          go_wp2
          go_ret2
          refine ⟨a, ret_two rfl ?_, HCut.out, HA.out⟩
          rw [HI.out]
          rfl
      · have HI := Lib.hid (show isAt L key a = false from by rw [isAt, List.getElem?_eq_none (by omega)])
        go_wp2
        go_ret2
        exact ⟨a, ret_two rfl (by rw [HI.out]; rfl), HCut.out, HH.out.2.2⟩
end Go.Proofs.YtddddjpmeegedaaGreat
