/- awake. -/
import Derived.Test.YtddddjpmeegedaaGreatSqS
set_option linter.unusedVariables false
set_option linter.unusedSimpArgs false
namespace Go.Proofs.YtddddjpmeegedaaGreat
open Go.RowKit

/-- Add at the end of the leaf. -/
theorem addEnd {bs : Nat} {B : Base bs} {gb ba tb : Nat} {R : Raw} {L : List KV} {x : KV} (L' : List KV) (e : L' = L ++ [x]) (hx : x.ok) (hx0 : 0 < x.k.size) (hend : ∀ t (h : t < L.length), cmpK L[t] x.k < 0) (hok : ∀ y ∈ L', y.ok) (hs : Sorted L') (hlen : (leafB L').length ≤ 512) (hn : L'.length < 256) {w1 : World} {F1 : Nat → Prop} (h : CatIs B w1 gb ba tb F1 R L) :
    Calls Tryz.prog 27 #[.pointer (some ⟨tb, 0, none⟩), .string x.k, .string x.v] w1 fun e w' => e = .returned (.tuple #[.bool true, .int .i64 0]) ∧ CStep B gb ba tb w1 F1 (R.put (R.root 0) 0 (pageL (leafB L'))) L' w' := by
  subst e
  refine (Put_end h.tree h.act h.fine h.tF (by decide) h.leaf x hx hx0 hend hlen (by rw [List.length_append] at hn; simpa using hn)).mono ?_
  rintro e w' ⟨rfl, hs'⟩
  obtain ⟨n1, n2, _⟩ := h.leaf.next h.fine hok hs hlen hn
  exact ⟨rfl, h.step hs' n1 n2⟩
theorem wL0_end : ∀ t (h : t < wL0.length), cmpK wL0[t] wX.k < 0 := by
  have : ∀ t : Fin wL0.length, cmpK wL0[t.1] wX.k < 0 := by decide +kernel
  exact fun t h => this ⟨t, h⟩
theorem wX_ok : wX.ok ∧ 0 < wX.k.size := ⟨⟨by decide +kernel, by decide +kernel⟩, by decide +kernel⟩

/-- While awake goes: all that changes is young. -/
structure AW {bs : Nat} (B : Base bs) (n : Nat) (w wi : World) (gb ba tb : Nat) (F : Nat → Prop) (R : Raw) (L : List KV) : Prop where
  cat : CatIs B wi gb ba tb F R L
  lo : ∀ k, F k → n ≤ k
  size : n ≤ wi.heap.size
  bel : Below n w wi
theorem young_step {n : Nat} {w wi wj : World} {F Fj : Nat → Prop} (hlo : ∀ k, F k → n ≤ k) (hn : n ≤ wi.heap.size) (hb : Below n w wi) (hF : ∀ k, k < wi.heap.size → Fj k → F k) (ho : Off F wi wj) : (∀ k, Fj k → n ≤ k) ∧ n ≤ wj.heap.size ∧ Below n w wj := by
  refine ⟨fun k hk => ?_, Nat.le_trans hn ho.size, hb.trans (ho.below hlo hn)⟩
  by_cases h : k < wi.heap.size
  · exact hlo k (hF k h hk)
  · omega
theorem AW.step {bs : Nat} {B : Base bs} {n : Nat} {w wi wj : World} {gb ba tb : Nat} {F : Nat → Prop} {R R' : Raw} {L L' : List KV} (h : AW B n w wi gb ba tb F R L) (hs : CStep B gb ba tb wi F R' L' wj) : ∃ Fj, AW B n w wj gb ba tb Fj R' L' := by
  obtain ⟨Fj, hc, hF, ho⟩ := hs
  obtain ⟨h1, h2, h3⟩ := young_step h.lo h.size h.bel hF ho
  exact ⟨Fj, hc, h1, h2, h3⟩
theorem root_raw0 : raw0.root 0 = 0 := by unfold raw0 Raw.root; decide +kernel
theorem total_raw0 : raw0.total + 1 < 4096 := by unfold raw0 Raw.total; decide +kernel

set_option maxRecDepth 100000 in
set_option maxHeartbeats 4000000 in
theorem awake_any (w : World) :
    Calls Tryz.prog 15 #[] w fun e w' => e = .returned (.bool true) ∧ Below w.heap.size w w' := by
  have HB := Lib.hid (begun_any w)
  go_enter Tryz.func15, Tryz.ntmps15
  go_wp2_with fail
  refine HB.out.mono ?_
  rintro e w1 ⟨bd, bs, ba, F, rfl, hA, hF, hb⟩
  have HT := Lib.hid (two_any w1)
  have hb1 : Below w1.heap.size w1 (w1.alloc twoO) := by go_grown
  have HM := Lib.hid (show Calls Tryz.prog 7 #[.pointer (some ⟨ba, 0, none⟩), .slice (some ⟨w1.heap.size, 0, none⟩) 2 2] (w1.alloc twoO) fun e w' => e = .returned (.int .i64 0) ∧ ∃ R', MadeIs (base0 bs) raw0 twoL 2 R' ∧ Step (base0 bs) ba (w1.alloc twoO) F R' w' from
    Make_any (hA.below hb1) (fine0 bs) root_raw0 total_raw0 twoL (some ⟨w1.heap.size, 0, none⟩) 2 (two_cols (hnew w1 _)) (by show 2 ≤ _; omega) (fun b off e e2 => by
      simp only [Option.some.injEq, Addr.mk.injEq] at e
      have := hA.1 b e2
      omega) two_ok)
  have H1 := Lib.hid (And.intro (show w.heap.size ≤ (w1.alloc twoO).heap.size from by have := hb.size; simp; omega) (And.intro hF (Below.trans' hb1 hb)))
  clear hA hF hb hb1 HB
  go_wp2_with fail
  refine HT.out.mono ?_
  rintro e w2 ⟨rfl, rfl⟩
  clear HT
  go_wp2_with fail
  refine HM.out.mono ?_
  rintro e w3 ⟨rfl, R3, hm3, F3, hA3, hF3, ho3⟩
  obtain ⟨l3, l4, l5⟩ := young_step H1.out.2.1 H1.out.1 H1.out.2.2 hF3 ho3
  have HN := Lib.hid (New_any hA3 hm3.fine (show Leaf R3 0 wL0 from wL0_eq ▸ (hm3.leaf (by omega)).1) (by decide +kernel))
  have H3 := Lib.hid (And.intro l3 (And.intro l4 l5))
  clear hm3 hA3 hF3 ho3 l3 l4 l5 HM
  go_wp2_with fail
  refine HN.out.mono ?_
  rintro e w4 ⟨gb, tb, rfl, F4, hc4, hF4, ho4⟩
  obtain ⟨m3, m4, m5⟩ := young_step H3.out.1 H3.out.2.1 H3.out.2.2 hF4 ho4
  have HAdd := Lib.hid (Add_any hc4 wXi (fun y hy => (w_ok y (w_ok0 y hy)).1) (fun y hy => (w_ok y (w_ok0 y hy)).2) (R' := fun _ => R3.put (R3.root 0) 0 (pageL (leafB wL1))) (L' := fun _ => wL1) (fun v w1 F1 ha hc => by
    rw [(add_i ha).2]
    exact addEnd wL1 rfl wX_ok.1 wX_ok.2 wL0_end wL1_laws.1 wL1_laws.2.1 wL1_laws.2.2.1 wL1_laws.2.2.2 hc))
  have H4 := Lib.hid (show AW (base0 bs) w.heap.size w w4 gb ba tb F4 R3 wL0 from ⟨hc4, m3, m4, m5⟩)
  clear hc4 hF4 ho4 m3 m4 m5 HN
  go_wp2_with fail
  refine HAdd.out.mono ?_
  rintro e w5 ⟨r5, v5, rfl, ha5, hs5⟩
  obtain ⟨rfl, -⟩ := add_i ha5
  obtain ⟨F5, h5⟩ := H4.out.step (hs5.resolve_left (fun e => e.1 rfl)).2
  have HAdd2 := Lib.hid (Add_any h5.cat wXj (fun y hy => (w_ok y hy).1) (fun y hy => (w_ok y hy).2) (R' := fun _ => R3) (L' := fun _ => wL1) (fun v w1 F1 ha hc => absurd (add_j ha) (by decide)))
  have H5 := Lib.hid h5
  clear ha5 hs5 h5 HAdd
  go_wp2_with fail
  refine HAdd2.out.mono ?_
  rintro e w6 ⟨r6, v6, rfl, ha6, hs6⟩
  obtain rfl := add_j ha6
  obtain ⟨F6, h6⟩ := H5.out.step (hs6.resolve_right (fun e => absurd e.1 (by decide))).2
  have HAdd3 := Lib.hid (Add_any h6.cat wXh (fun y hy => (w_ok y hy).1) (fun y hy => (w_ok y hy).2) (R' := fun _ => R3) (L' := fun _ => wL1) (fun v w1 F1 ha hc => absurd (add_h ha) (by decide)))
  have H6 := Lib.hid h6
  clear ha6 hs6 h6 HAdd2
  go_wp2_with fail
  refine HAdd3.out.mono ?_
  rintro e w7 ⟨r7, v7, rfl, ha7, hs7⟩
  obtain rfl := add_h ha7
  obtain ⟨F7, h7⟩ := H6.out.step (hs7.resolve_right (fun e => absurd e.1 (by decide))).2
  have HIx := Lib.hid (Indexes_any h7.cat (fun y hy => (w_ok y hy).2))
  have H7 := Lib.hid h7
  clear ha7 hs7 h7 HAdd3
  go_wp2_with fail
  refine HIx.out.mono ?_
  rintro e w8 ⟨v8, i8, n8, rfl, hsp8, hr8, -, F8, hc8, -, hF8, ho8⟩
  obtain ⟨F8', h8⟩ := H7.out.step ⟨F8, hc8, hF8, ho8⟩
  obtain ⟨rfl, rfl⟩ := hsp8.uniq spans1.2
  obtain ⟨A8, c8, rfl⟩ := hr8.slice
  rw [show (((wL1.drop 2).take 1).map xiOf).length = 1 from rfl]
  have HCo := Lib.hid (Columns_any h8.cat (fun y hy => (w_ok y hy).1))
  have H8 := Lib.hid h8
  clear hsp8 hr8 hc8 hF8 ho8 h8 HIx
  go_wp2_with fail
  refine HCo.out.mono ?_
  rintro e w9 ⟨v9, i9, n9, rfl, hsp9, hr9, -, F9, hc9, -, hF9, ho9⟩
  obtain ⟨F9', h9⟩ := H8.out.step ⟨F9, hc9, hF9, ho9⟩
  obtain ⟨rfl, rfl⟩ := hsp9.uniq spans1.1
  obtain ⟨A9, c9, rfl⟩ := hr9.slice
  rw [show (((wL1.drop 0).take 2).map colOf).length = 2 from rfl]
  have H9 := Lib.hid h9
  clear hsp9 hr9 hc9 hF9 ho9 h9 HCo
  go_wp2
  go_ret
  exact ⟨rfl, H9.out.bel⟩
end Go.Proofs.YtddddjpmeegedaaGreat
