/- PredLogic: the walk. -/
import Derived.Test.YtdjlbfepddcmeaaGreatDoorQ39
set_option linter.unusedVariables false
set_option linter.unusedSimpArgs false
namespace Go.Proofs.YtdjlbfepddcmeaaGreatDoor
open Go.RowKit

abbrev prow (E : List PE) : Obj := .cells (E.flatMap peCells).toArray 27
theorem nbox7 {w : World} {g : Nat} {op : Int} {h k cap : Nat} (hx : w.heap[g]? = some (nbox op h k cap)) :
    w.cell? ⟨g, 0, none⟩ = some (.int .i64 op) ∧ w.cell? ⟨g, 1, none⟩ = some (.int .i64 0) ∧ w.cell? ⟨g, 2, none⟩ = some (.int .i64 0) ∧ w.cell? ⟨g, 3, none⟩ = some (.int .i64 0) ∧ w.cell? ⟨g, 4, none⟩ = some (.string ⟨#[]⟩) ∧ w.cell? ⟨g, 5, none⟩ = some (.slice none 0 0) ∧ w.cell? ⟨g, 6, none⟩ = some (.slice (some ⟨h, 0, none⟩) k cap) := by
  refine ⟨?_, ?_, ?_, ?_, ?_, ?_, ?_⟩ <;> (unfold World.cell?; rw [hx]; rfl)
theorem heap_two {w : World} {o o' : Obj} : (((w.alloc o).alloc o').heap[w.heap.size]? = some o) ∧ ((w.alloc o).alloc o').heap[w.heap.size + 1]? = some o' := by
  refine ⟨(Below.heap_alloc _ _ w.heap.size (by simp)).trans (heap_alloc_new w _), ?_⟩
  have := heap_alloc_new (w.alloc o) o'
  simpa using this
abbrev sixW (w2 : World) (e1 e2 : PE) : World := (((((w2.alloc (prow [e1, e2])).alloc (nbox 7 w2.heap.size 2 2)).alloc (prow [e2, e1])).alloc (nbox 8 (w2.heap.size + 1 + 1) 2 2)).alloc (prow [e1])).alloc (nbox 9 (w2.heap.size + 1 + 1 + 1 + 1) 1 1)
theorem sixW_is (w2 : World) (e1 e2 : PE) : Below w2.heap.size w2 (sixW w2 e1 e2) ∧ (sixW w2 e1 e2).heap.size = w2.heap.size + 6 ∧
    (sixW w2 e1 e2).heap[w2.heap.size]? = some (prow [e1, e2]) ∧ (sixW w2 e1 e2).heap[w2.heap.size + 1]? = some (nbox 7 w2.heap.size 2 2) ∧
    (sixW w2 e1 e2).heap[w2.heap.size + 1 + 1]? = some (prow [e2, e1]) ∧ (sixW w2 e1 e2).heap[w2.heap.size + 1 + 1 + 1]? = some (nbox 8 (w2.heap.size + 1 + 1) 2 2) ∧
    (sixW w2 e1 e2).heap[w2.heap.size + 1 + 1 + 1 + 1]? = some (prow [e1]) ∧ (sixW w2 e1 e2).heap[w2.heap.size + 1 + 1 + 1 + 1 + 1]? = some (nbox 9 (w2.heap.size + 1 + 1 + 1 + 1) 1 1) := by
  have hA := heap_two (w := w2) (o := prow [e1, e2]) (o' := nbox 7 w2.heap.size 2 2)
  have sA : ((w2.alloc (prow [e1, e2])).alloc (nbox 7 w2.heap.size 2 2)).heap.size = w2.heap.size + 1 + 1 := by simp
  have hB := heap_two (w := (w2.alloc (prow [e1, e2])).alloc (nbox 7 w2.heap.size 2 2)) (o := prow [e2, e1]) (o' := nbox 8 (w2.heap.size + 1 + 1) 2 2)
  have sB : ((((w2.alloc (prow [e1, e2])).alloc (nbox 7 w2.heap.size 2 2)).alloc (prow [e2, e1])).alloc (nbox 8 (w2.heap.size + 1 + 1) 2 2)).heap.size = w2.heap.size + 1 + 1 + 1 + 1 := by simp
  have hC := heap_two (w := (((w2.alloc (prow [e1, e2])).alloc (nbox 7 w2.heap.size 2 2)).alloc (prow [e2, e1])).alloc (nbox 8 (w2.heap.size + 1 + 1) 2 2)) (o := prow [e1]) (o' := nbox 9 (w2.heap.size + 1 + 1 + 1 + 1) 1 1)
  rw [sA] at hB
  rw [sB] at hC
  have up : ∀ (w : World) (o o' : Obj) (k : Nat), k < w.heap.size → ((w.alloc o).alloc o').heap[k]? = w.heap[k]? := fun w o o' k hk => (Below.heap_alloc _ _ k (by simp; omega)).trans (Below.heap_alloc _ _ k hk)
  refine ⟨by go_grown, by simp, ?_, ?_, ?_, ?_, hC.1, hC.2⟩
  · exact (up _ _ _ _ (by rw [sB]; omega)).trans ((up _ _ _ _ (by rw [sA]; omega)).trans hA.1)
  · exact (up _ _ _ _ (by rw [sB]; omega)).trans ((up _ _ _ _ (by rw [sA]; omega)).trans hA.2)
  · exact (up _ _ _ _ (by rw [sB]; omega)).trans hB.1
  · exact (up _ _ _ _ (by rw [sB]; omega)).trans hB.2

structure LF (w : World) (M : Nat) (t : PT) (a : Option Addr) (c : Nat) (pa : Option Addr) (pc : Nat) (ac : Option Addr) (cols : List Co) (cc : Nat) (ca : Option Addr) (cells : List El) (ce : Nat) (q : PT) (g : Nat) (w' : World) : Prop where
  b : Below w.heap.size w w'
  ask : AskIs M w' t a pa ac cols ca cells
  x : w'.heap[w.heap.size]? = some (askO t a c pa pc ac cols.length cc ca cells.length ce)
  n1 : w'.heap[g + 1]? = some (nbox 7 g 2 2)
  n2 : w'.heap[g + 1 + 1 + 1]? = some (nbox 8 (g + 1 + 1) 2 2)
  n3 : w'.heap[g + 1 + 1 + 1 + 1 + 1]? = some (nbox 9 (g + 1 + 1 + 1 + 1) 1 1)
  p1 : PredIs (M + 1) w' (andP t q) none (some ⟨g, 0, none⟩)
  p2 : PredIs (M + 1) w' (orP q t) none (some ⟨g + 1 + 1, 0, none⟩)
  p3 : PredIs (M + 1) w' (notP t) none (some ⟨g + 1 + 1 + 1 + 1, 0, none⟩)
  lt : w.heap.size < w'.heap.size ∧ g + 1 + 1 + 1 + 1 + 1 < w'.heap.size
theorem LF.later {w : World} {M : Nat} {t : PT} {a : Option Addr} {c : Nat} {pa : Option Addr} {pc : Nat} {ac : Option Addr} {cols : List Co} {cc : Nat} {ca : Option Addr} {cells : List El} {ce : Nat} {q : PT} {g : Nat} {w' w'' : World}
    (h : LF w M t a c pa pc ac cols cc ca cells ce q g w') (hb : Below w'.heap.size w' w'') : LF w M t a c pa pc ac cols cc ca cells ce q g w'' :=
  ⟨h.b.trans (hb.mono h.b.size), h.ask.below hb, (hb.block _ h.lt.1).trans h.x, (hb.block _ (by have := h.lt.2; omega)).trans h.n1, (hb.block _ (by have := h.lt.2; omega)).trans h.n2, (hb.block _ h.lt.2).trans h.n3, h.p1.below hb, h.p2.below hb, h.p3.below hb, ⟨Nat.lt_of_lt_of_le h.lt.1 hb.size, Nat.lt_of_lt_of_le h.lt.2 hb.size⟩⟩

set_option maxRecDepth 100000 in
set_option maxHeartbeats 4000000 in
theorem logic_walk (m : Nat) (t : PT) (a : Option Addr) (c : Nat) (pa : Option Addr) (pc : Nat) (ac : Option Addr) (cols : List Co) (cc : Nat) (ca : Option Addr) (cells : List El) (ce : Nat) (m' : Nat) (q : PT) (a' : Option Addr) (c' : Nat) (pa' : Option Addr) (pc' : Nat) (w : World)
    (h : AskIs m w t a pa ac cols ca cells) (hq : PredIs m' w q a' pa') (hG : GlobsM w) (h8 : 8 ≤ w.heap.size) :
    Calls Tryz.prog 6 #[askV t a c pa pc ac cols.length cc ca cells.length ce, pv q a' c' pa' pc'] w fun e w' => e = .returned (.bool true) ∧ Below w.heap.size w w' := by
  obtain ⟨M, h, hq⟩ : ∃ M, AskIs M w t a pa ac cols ca cells ∧ PredIs M w q a' pa' := ⟨max m m', ⟨h.p.upTo (Nat.le_max_left _ _), h.co, h.el, h.lc, h.le⟩, hq.upTo (Nat.le_max_right _ _)⟩
  have hb0 : Below w.heap.size w ((w.alloc (askO t a c pa pc ac cols.length cc ca cells.length ce)).alloc (pbox q a' c' pa' pc')) := by go_grown
  have hx1 : ((w.alloc (askO t a c pa pc ac cols.length cc ca cells.length ce)).alloc (pbox q a' c' pa' pc')).heap[w.heap.size]? = some (askO t a c pa pc ac cols.length cc ca cells.length ce) := (Below.heap_alloc _ _ w.heap.size (by simp)).trans (heap_alloc_new w _)
  have hx2 : ((w.alloc (askO t a c pa pc ac cols.length cc ca cells.length ce)).alloc (pbox q a' c' pa' pc')).heap[w.heap.size + 1]? = some (pbox q a' c' pa' pc') := by
    have := heap_alloc_new (w.alloc (askO t a c pa pc ac cols.length cc ca cells.length ce)) (pbox q a' c' pa' pc')
    simpa using this
  have HA0 := Lib.hid (And.intro hb0 (And.intro (h.below hb0) (hq.below hb0)))
  have HL := Lib.hid (And.intro h.lc (And.intro h.le hG))
  have HX := Lib.hid (And.intro hx1 hx2)
  have HP1 := Lib.hid (Holds_any cols cells M t a c pa pc ac cc ca ce _ HA0.out.2.1.p HA0.out.2.1.co HL.out.1 HA0.out.2.1.el HL.out.2.1 (HL.out.2.2.belowB HA0.out.1 h8) (by have := HA0.out.1.size; omega))
  have HPl := Lib.hid (And.intro (logic_errs cols cells t q) (And.intro (logic_same cols cells t q) (logic_vals cols cells t q)))
  clear hx1 hx2 hb0 h hq hG
  unfold pbox pv at *
  go_enter Tryz.func6, Tryz.ntmps6
  go_wp2_with fail
  refine HP1.out.mono ?_
  rintro e w1 ⟨rfl, hb1⟩
  have hz1 := hb1.size
  simp at hz1
  obtain ⟨e0, e1, e2, e3, e4, e5, e6, e7, e8⟩ := ask9 ((hb1.block w.heap.size (by simp; omega)).trans HX.out.1)
  obtain ⟨⟨f0, f1, f2, f3, f4, f5, f6⟩, -⟩ := pbox7 ((hb1.block (w.heap.size + 1) (by simp)).trans HX.out.2)
  have HA1 := Lib.hid (And.intro (HA0.out.1.trans (hb1.mono (by simp; omega))) (And.intro (HA0.out.2.1.below hb1) (HA0.out.2.2.below hb1)))
  have HP2 := Lib.hid (Holds_any cols cells M q a' c' pa' pc' ac cc ca ce w1 HA1.out.2.2 HA1.out.2.1.co HL.out.1 HA1.out.2.1.el HL.out.2.1 (HL.out.2.2.belowB HA1.out.1 h8) (by omega))
  have HX1 := Lib.hid (And.intro ((hb1.block w.heap.size (by simp; omega)).trans HX.out.1) ((hb1.block (w.heap.size + 1) (by simp)).trans HX.out.2))
  clear hb1 HP1
  unfold pv at HP2
  go_wp2_with fail
  refine HP2.out.mono ?_
  rintro e w2 ⟨rfl, hb2⟩
  clear e0 e1 e2 e3 e4 e5 e6 e7 e8 f0 f1 f2 f3 f4 f5 f6
  have hz2 := hb2.size
  have hX2 := And.intro ((hb2.block w.heap.size (by omega)).trans HX1.out.1) ((hb2.block (w.heap.size + 1) (by omega)).trans HX1.out.2)
  obtain ⟨e0, e1, e2, e3, e4, e5, e6, e7, e8⟩ := ask9 hX2.1
  obtain ⟨⟨f0, f1, f2, f3, f4, f5, f6⟩, -⟩ := pbox7 hX2.2
  have HX2 := Lib.hid hX2
  have HA2 := Lib.hid (And.intro (HA1.out.1.trans (hb2.mono (by omega))) (And.intro (HA1.out.2.1.below hb2) (HA1.out.2.2.below hb2)))
  clear hb2 hX2 HP2
  have hl0 : w.heap.size < w2.heap.size := by omega
  have hl1 : w.heap.size + 1 < w2.heap.size := by omega
  have hl2 : w.heap.size < w2.heap.size + 1 := by omega
  have hl3 : w.heap.size + 1 < w2.heap.size + 1 := by omega
  have hl4 : w.heap.size < w2.heap.size + 1 + 1 := by omega
  have hl5 : w.heap.size + 1 < w2.heap.size + 1 + 1 := by omega
  have hl6 : w.heap.size < w2.heap.size + 1 + 1 + 1 := by omega
  have hl7 : w.heap.size + 1 < w2.heap.size + 1 + 1 + 1 := by omega
  have hl8 : w.heap.size < w2.heap.size + 1 + 1 + 1 + 1 := by omega
  have hl9 : w.heap.size + 1 < w2.heap.size + 1 + 1 + 1 + 1 := by omega
  have hl10 : w.heap.size < w2.heap.size + 1 + 1 + 1 + 1 + 1 := by omega
  have hl11 : w.heap.size + 1 < w2.heap.size + 1 + 1 + 1 + 1 + 1 := by omega
  have hl12 : w.heap.size < w2.heap.size + 1 + 1 + 1 + 1 + 1 + 1 := by omega
  have hl13 : w.heap.size + 1 < w2.heap.size + 1 + 1 + 1 + 1 + 1 + 1 := by omega
  go_wp2_with fail
  have H6 := Lib.hid (sixW_is w2 ⟨t, a, c, pa, pc⟩ ⟨q, a', c', pa', pc'⟩)
  have HF := Lib.hid (show LF w M t a c pa pc ac cols cc ca cells ce q w2.heap.size (sixW w2 ⟨t, a, c, pa, pc⟩ ⟨q, a', c', pa', pc'⟩) from by
    obtain ⟨hb, hs, r1, r2, r3, r4, r5, r6⟩ := H6.out
    have hz := HA2.out.1.size
    have hp1 := HA2.out.2.1.p
    have hp2 := HA2.out.2.2
    have both : ∀ e ∈ ([⟨t, a, c, pa, pc⟩, ⟨q, a', c', pa', pc'⟩] : List PE), PredIs M w2 e.t e.a e.pa := fun e he => by
      rcases List.mem_cons.1 he with rfl | he
      · exact hp1
      · obtain rfl := List.mem_singleton.1 he
        exact hp2
    have both' : ∀ e ∈ ([⟨q, a', c', pa', pc'⟩, ⟨t, a, c, pa, pc⟩] : List PE), PredIs M w2 e.t e.a e.pa := fun e he => by
      rcases List.mem_cons.1 he with rfl | he
      · exact hp2
      · obtain rfl := List.mem_singleton.1 he
        exact hp1
    exact ⟨HA2.out.1.trans (hb.mono hz), HA2.out.2.1.below hb, (hb.block _ (by omega)).trans HX2.out.1, r2, r4, r6,
      node_new [⟨t, a, c, pa, pc⟩, ⟨q, a', c', pa', pc'⟩] (by simp) r1 hb both 7 ⟨by omega, by omega⟩,
      node_new [⟨q, a', c', pa', pc'⟩, ⟨t, a, c, pa, pc⟩] (by simp) r3 hb both' 8 ⟨by omega, by omega⟩,
      node_new [⟨t, a, c, pa, pc⟩] (by simp) r5 hb (fun e he => by obtain rfl := List.mem_singleton.1 he; exact hp1) 9 ⟨by omega, by omega⟩, by rw [hs]; omega, by rw [hs]; omega⟩)
  clear e0 e1 e2 e3 e4 e5 e6 e7 e8 f0 f1 f2 f3 f4 f5 f6 HX2 HA2 HX1 HA1 H6
  refine (Holds_any cols cells (M + 1) (andP t q) none 0 (some ⟨w2.heap.size, 0, none⟩) 2 ac cc ca ce (sixW w2 ⟨t, a, c, pa, pc⟩ ⟨q, a', c', pa', pc'⟩) HF.out.p1 HF.out.ask.co HL.out.1 HF.out.ask.el HL.out.2.1 (HL.out.2.2.belowB HF.out.b h8) (by have := HF.out.b.size; omega)).mono ?_
  rintro e w3 ⟨rfl, hb3⟩
  have HF3 := Lib.hid (HF.out.later hb3)
  clear hb3 HF
  clear hl0 hl1 hl2 hl3 hl4 hl5 hl6 hl7 hl8 hl9 hl10 hl11 hl12 hl13
  generalize w2.heap.size = g at *
  obtain ⟨e0, e1, e2, e3, e4, e5, e6, e7, e8⟩ := ask9 HF3.out.x
  obtain ⟨f0, f1, f2, f3, f4, f5, f6⟩ := nbox7 HF3.out.n2
  go_wp2_with fail
  refine (Holds_any cols cells (M + 1) (orP q t) none 0 (some ⟨g + 1 + 1, 0, none⟩) 2 ac cc ca ce w3 HF3.out.p2 HF3.out.ask.co HL.out.1 HF3.out.ask.el HL.out.2.1 (HL.out.2.2.belowB HF3.out.b h8) (by have := HF3.out.b.size; omega)).mono ?_
  rintro e w4 ⟨rfl, hb4⟩
  have HF4 := Lib.hid (HF3.out.later hb4)
  clear hb4 HF3 e0 e1 e2 e3 e4 e5 e6 e7 e8 f0 f1 f2 f3 f4 f5 f6
  obtain ⟨e0, e1, e2, e3, e4, e5, e6, e7, e8⟩ := ask9 HF4.out.x
  obtain ⟨f0, f1, f2, f3, f4, f5, f6⟩ := nbox7 HF4.out.n3
  go_wp2_with fail
  refine (Holds_any cols cells (M + 1) (notP t) none 0 (some ⟨g + 1 + 1 + 1 + 1, 0, none⟩) 1 ac cc ca ce w4 HF4.out.p3 HF4.out.ask.co HL.out.1 HF4.out.ask.el HL.out.2.1 (HL.out.2.2.belowB HF4.out.b h8) (by have := HF4.out.b.size; omega)).mono ?_
  rintro e w5 ⟨rfl, hb5⟩
  have HF5 := Lib.hid (HF4.out.later hb5)
  clear hb5 HF4 e0 e1 e2 e3 e4 e5 e6 e7 e8 f0 f1 f2 f3 f4 f5 f6
  obtain ⟨e0, e1, e2, e3, e4, e5, e6, e7, e8⟩ := ask9 HF5.out.x
  obtain ⟨f0, f1, f2, f3, f4, f5, f6⟩ := nbox7 HF5.out.n1
  obtain ⟨g0, g1, g2, g3, g4, g5, g6⟩ := nbox7 HF5.out.n3
  have HAW := Lib.hid (awake_any w5 (HL.out.2.2.belowB HF5.out.b h8) (by have := HF5.out.b.size; omega))
  by_cases hcase : holdE cols cells t ≠ 0 ∨ holdE cols cells q ≠ 0
  · obtain ⟨q1, q2, q3⟩ := HPl.out.1 hcase
    clear HPl
    generalize holdE cols cells t = E1 at *
    generalize holdE cols cells q = E2 at *
    generalize holdE cols cells (andP t q) = E3 at *
    generalize holdE cols cells (orP q t) = E4 at *
    generalize holdE cols cells (notP t) = E5 at *
    have q1' : (E3 != 0) = true := by simpa using q1
    have q2' : (E4 != 0) = true := by simpa using q2
    by_cases hE : E1 = 0
    · have hE2 : (E2 != 0) = true := by
        rcases hcase with h | h
        · exact absurd hE h
        · simpa using h
      subst hE
      clear hcase q1 q2 q3
      go_wp2_with fail
      refine HAW.out.mono ?_
      rintro e w6 ⟨rfl, hb6⟩
      go_wp2
      go_ret
      exact ⟨rfl, HF5.out.b.trans (hb6.mono HF5.out.b.size)⟩
    · have hE1 : (E1 != 0) = true := by simpa using hE
      have hE1' : (E1 == 0) = false := by simpa using hE
      have hE5 : (E5 != 0) = true := by
        rcases q3 with h | h
        · exact absurd h hE
        · simpa using h
      clear hcase q1 q2 q3 hE
      go_wp2_with fail
      refine HAW.out.mono ?_
      rintro e w6 ⟨rfl, hb6⟩
      go_wp2
      go_ret
      exact ⟨rfl, HF5.out.b.trans (hb6.mono HF5.out.b.size)⟩
  · obtain ⟨hE1, hE2⟩ : holdE cols cells t = 0 ∧ holdE cols cells q = 0 := by
      by_cases h1 : holdE cols cells t = 0
      · by_cases h2 : holdE cols cells q = 0
        · exact ⟨h1, h2⟩
        · exact absurd (.inr h2) hcase
      · exact absurd (.inl h1) hcase
    have hrow : rowE cols cells = 0 := by
      by_cases h : rowE cols cells = 0
      · exact h
      · rw [holdE_row h] at hE1; exact absurd hE1 h
    clear hcase
    rw [hE1, hE2]
    have HRow := Lib.hid hrow
    clear hrow hE1 hE2
    have hC1 : predE cols (andP t q) = holdE cols cells (andP t q) := checkE_hold HRow.out _
    have hC2 : predE cols (notP t) = holdE cols cells (notP t) := checkE_hold HRow.out _
    have HVs := Lib.hid (HPl.out.2.2 HRow.out)
    have hsame := HPl.out.2.1
    clear HPl HAW
    rw [← hsame]
    have HC1 := Lib.hid (rcheckp_any cols (M + 1) (andP t q) none 0 (some ⟨g, 0, none⟩) 2 ac cc w5 HF5.out.p1 HF5.out.ask.co HL.out.1)
    rw [hC1] at HC1
    have HS := Lib.hid (And.intro hC1 (And.intro hC2 hsame))
    clear hC1 hC2 hsame
    by_cases hB1 : holdE cols cells (andP t q) = 0
    · have HB1 := Lib.hid hB1
      rw [hB1] at HC1
      rw [hB1]
      clear hB1
      go_wp2_with fail
      refine HC1.out.mono ?_
      rintro e w6 ⟨rfl, hb6⟩
      have HF6 := Lib.hid (HF5.out.later hb6)
      clear hb6 HF5 HC1
      clear e0 e1 e2 e3 e4 e5 e6 e7 e8 f0 f1 f2 f3 f4 f5 f6 g0 g1 g2 g3 g4 g5 g6
      obtain ⟨e0, e1, e2, e3, e4, e5, e6, e7, e8⟩ := ask9 HF6.out.x
      obtain ⟨f0, f1, f2, f3, f4, f5, f6⟩ := nbox7 HF6.out.n1
      obtain ⟨g0, g1, g2, g3, g4, g5, g6⟩ := nbox7 HF6.out.n3
      have HC2 := Lib.hid (rcheckp_any cols (M + 1) (notP t) none 0 (some ⟨g + 1 + 1 + 1 + 1, 0, none⟩) 1 ac cc w6 HF6.out.p3 HF6.out.ask.co HL.out.1)
      rw [HS.out.2.1] at HC2
      by_cases hB2 : holdE cols cells (notP t) = 0
      · have HB2 := Lib.hid hB2
        rw [hB2] at HC2
        rw [hB2]
        clear hB2
        go_wp2_with fail
        refine HC2.out.mono ?_
        rintro e w7 ⟨rfl, hb7⟩
        have HF7 := Lib.hid (HF6.out.later hb7)
        clear hb7 HF6 HC2
        clear e0 e1 e2 e3 e4 e5 e6 e7 e8 f0 f1 f2 f3 f4 f5 f6 g0 g1 g2 g3 g4 g5 g6
        have HAW7 := Lib.hid (awake_any w7 (HL.out.2.2.belowB HF7.out.b h8) (by have := HF7.out.b.size; omega))
        obtain ⟨v1, v2, v3, v4, v5, v6⟩ := HVs.out (HS.out.1.trans HB1.out) (HS.out.2.1.trans HB2.out)
        rw [v4, v5, v6]
        clear v1 v2 v3 v4 v5 v6 HVs HS HB1 HB2
        generalize holdV cols cells t = A at *
        generalize holdV cols cells q = B at *
        cases A <;> cases B <;> (
          go_wp2_with fail
          refine HAW7.out.mono ?_
          rintro e w9 ⟨rfl, hb9⟩
          go_wp2
          go_ret
          exact ⟨rfl, HF7.out.b.trans (hb9.mono HF7.out.b.size)⟩)
      · have hb2' : (holdE cols cells (notP t) != 0) = true := by simpa using hB2
        clear hB2
        go_wp2_with fail
        refine HC2.out.mono ?_
        rintro e w7 ⟨rfl, hb7⟩
        have HF7 := Lib.hid (HF6.out.later hb7)
        clear hb7 HF6 HC2
        clear e0 e1 e2 e3 e4 e5 e6 e7 e8 f0 f1 f2 f3 f4 f5 f6 g0 g1 g2 g3 g4 g5 g6
        obtain ⟨e0, e1, e2, e3, e4, e5, e6, e7, e8⟩ := ask9 HF7.out.x
        obtain ⟨f0, f1, f2, f3, f4, f5, f6⟩ := nbox7 HF7.out.n1
        obtain ⟨g0, g1, g2, g3, g4, g5, g6⟩ := nbox7 HF7.out.n3
        have HR := Lib.hid (rHolds_any cols cells (M + 1) (andP t q) none 0 (some ⟨g, 0, none⟩) 2 ac cc ca ce w7 HF7.out.p1 HF7.out.ask.co HL.out.1 HF7.out.ask.el HL.out.2.1)
        rw [HB1.out] at HR
        go_wp2_with fail
        refine HR.out.mono ?_
        rintro e w8 ⟨rfl, hb8⟩
        have HF8 := Lib.hid (HF7.out.later hb8)
        clear hb8 HF7 HR
        clear e0 e1 e2 e3 e4 e5 e6 e7 e8 f0 f1 f2 f3 f4 f5 f6 g0 g1 g2 g3 g4 g5 g6
        have HAW8 := Lib.hid (awake_any w8 (HL.out.2.2.belowB HF8.out.b h8) (by have := HF8.out.b.size; omega))
        go_wp2_with fail
        refine HAW8.out.mono ?_
        rintro e w9 ⟨rfl, hb9⟩
        go_wp2
        go_ret
        exact ⟨rfl, HF8.out.b.trans (hb9.mono HF8.out.b.size)⟩
    · have hb1' : (holdE cols cells (andP t q) != 0) = true := by simpa using hB1
      have hee : (holdE cols cells (andP t q) == holdE cols cells (andP t q)) = true := by simp
      clear hB1
      go_wp2_with fail
      refine HC1.out.mono ?_
      rintro e w6 ⟨rfl, hb6⟩
      have HF6 := Lib.hid (HF5.out.later hb6)
      clear hb6 HF5 HC1
      clear e0 e1 e2 e3 e4 e5 e6 e7 e8 f0 f1 f2 f3 f4 f5 f6 g0 g1 g2 g3 g4 g5 g6
      obtain ⟨e0, e1, e2, e3, e4, e5, e6, e7, e8⟩ := ask9 HF6.out.x
      obtain ⟨f0, f1, f2, f3, f4, f5, f6⟩ := nbox7 HF6.out.n1
      obtain ⟨g0, g1, g2, g3, g4, g5, g6⟩ := nbox7 HF6.out.n3
      have HR := Lib.hid (rHolds_any cols cells (M + 1) (andP t q) none 0 (some ⟨g, 0, none⟩) 2 ac cc ca ce w6 HF6.out.p1 HF6.out.ask.co HL.out.1 HF6.out.ask.el HL.out.2.1)
      go_wp2_with fail
      refine HR.out.mono ?_
      rintro e w7 ⟨rfl, hb7⟩
      have HF7 := Lib.hid (HF6.out.later hb7)
      clear hb7 HF6 HR
      clear e0 e1 e2 e3 e4 e5 e6 e7 e8 f0 f1 f2 f3 f4 f5 f6 g0 g1 g2 g3 g4 g5 g6
      have HAW7 := Lib.hid (awake_any w7 (HL.out.2.2.belowB HF7.out.b h8) (by have := HF7.out.b.size; omega))
      go_wp2_with fail
      refine HAW7.out.mono ?_
      rintro e w9 ⟨rfl, hb9⟩
      go_wp2
      go_ret
      exact ⟨rfl, HF7.out.b.trans (hb9.mono HF7.out.b.size)⟩
end Go.Proofs.YtdjlbfepddcmeaaGreatDoor
