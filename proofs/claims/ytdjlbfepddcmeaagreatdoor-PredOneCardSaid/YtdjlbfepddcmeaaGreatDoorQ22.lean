/- Holds: the program's. Whether a predicate is true: the reference's, a part over a column. -/
import Derived.Test.YtdjlbfepddcmeaaGreatDoorQ21
set_option linter.unusedVariables false
set_option linter.unusedSimpArgs false
namespace Go.Proofs.YtdjlbfepddcmeaaGreatDoor
open Go.RowKit

abbrev pbox (t : PT) (a : Option Addr) (c : Nat) (pa : Option Addr) (pc : Nat) : Obj :=
  .cells #[.int .i64 t.op, .int .i64 t.col, .int .i64 t.d.k, .int .i64 t.d.n, .string t.d.s, .slice a t.d.l.length c, .slice pa t.parts.length pc] 27
/-- A boxed predicate. -/
structure PBx (w : World) (g : Nat) (t : PT) (a : Option Addr) (c : Nat) (pa : Option Addr) (pc : Nat) : Prop where
  c0 : w.cell? ⟨g, 0, none⟩ = some (.int .i64 t.op)
  c1 : w.cell? ⟨g, 1, none⟩ = some (.int .i64 t.col)
  c2 : w.cell? ⟨g, 2, none⟩ = some (.int .i64 t.d.k)
  c3 : w.cell? ⟨g, 3, none⟩ = some (.int .i64 t.d.n)
  c4 : w.cell? ⟨g, 4, none⟩ = some (.string t.d.s)
  c5 : w.cell? ⟨g, 5, none⟩ = some (.slice a t.d.l.length c)
  c6 : w.cell? ⟨g, 6, none⟩ = some (.slice pa t.parts.length pc)
theorem PBx.new (w : World) (t : PT) (a : Option Addr) (c : Nat) (pa : Option Addr) (pc : Nat) : PBx (w.alloc (pbox t a c pa pc)) w.heap.size t a c pa pc :=
  ⟨by go_simp, by go_simp, by go_simp, by go_simp, by go_simp, by go_simp, by go_simp⟩
theorem PBx.later {w w1 : World} {B g : Nat} {t : PT} {a : Option Addr} {c : Nat} {pa : Option Addr} {pc : Nat} (h : PBx w g t a c pa pc) (hb : Below B w w1) (hlt : g < B) : PBx w1 g t a c pa pc :=
  ⟨(hb.cell (p := ⟨g, 0, none⟩) hlt).trans h.c0, (hb.cell (p := ⟨g, 1, none⟩) hlt).trans h.c1, (hb.cell (p := ⟨g, 2, none⟩) hlt).trans h.c2, (hb.cell (p := ⟨g, 3, none⟩) hlt).trans h.c3, (hb.cell (p := ⟨g, 4, none⟩) hlt).trans h.c4, (hb.cell (p := ⟨g, 5, none⟩) hlt).trans h.c5, (hb.cell (p := ⟨g, 6, none⟩) hlt).trans h.c6⟩
theorem PBx.below {w w1 : World} {g : Nat} {t : PT} {a : Option Addr} {c : Nat} {pa : Option Addr} {pc : Nat} (h : PBx w g t a c pa pc) (hb : Below w.heap.size w w1) : PBx w1 g t a c pa pc :=
  h.later hb (World.block_lt_of_cell? _ _ h.c0)

theorem predE_cols {cols : List Co} {cells : List El} {t : PT} (h : rowE cols cells = 0) : colsB cols = true ∧ rowB cols cells = true := by
  unfold rowE at h
  cases h1 : colsB cols
  · rw [h1] at h; cases h
  · cases h2 : rowB cols cells
    · rw [h1, h2] at h; cases h
    · exact ⟨rfl, rfl⟩
theorem predE_may {cols : List Co} {t : PT} (h : predE cols t = 0) : mayP cols 8 t = true := by
  unfold predE at h
  cases h1 : colsB cols
  · rw [h1] at h; cases h
  · cases h2 : mayP cols 8 t
    · rw [h1, h2] at h; cases h
    · rfl
theorem rowE_three (cols : List Co) (cells : List El) : rowE cols cells = 0 ∨ rowE cols cells = 70 ∨ rowE cols cells = 160 := by
  unfold rowE
  split
  · split
    · exact .inl rfl
    · exact .inr (.inl rfl)
  · exact .inr (.inr rfl)
theorem predE_three (cols : List Co) (t : PT) : predE cols t = 0 ∨ predE cols t = 150 ∨ predE cols t = 160 := by
  unfold predE
  split
  · split
    · exact .inl rfl
    · exact .inr (.inl rfl)
  · exact .inr (.inr rfl)

set_option maxRecDepth 100000 in
set_option maxHeartbeats 4000000 in
theorem Holds_any (cols : List Co) (cells : List El) (m : Nat) (t : PT) (a : Option Addr) (c : Nat) (pa : Option Addr) (pc : Nat) (ac : Option Addr) (cc : Nat) (ca : Option Addr) (cc' : Nat) (w : World)
    (hp : PredIs m w t a pa) (hr : ColIs w ac cols) (hl : cols.length ≤ 140737488351232) (hr' : DeepIs w ca cells) (hl' : cells.length ≤ 140737488351232) (hG : GlobsM w) (h16 : 8 ≤ w.heap.size) :
    Calls Tryz.prog 9 #[pv t a c pa pc, .slice ac cols.length cc, .slice ca cells.length cc'] w fun e w' => e = .returned (.tuple #[.bool (holdV cols cells t), .int .i64 (holdE cols cells t)]) ∧ Below w.heap.size w w' := by
  have hb0 : Below w.heap.size w (w.alloc (pbox t a c pa pc)) := by go_grown
  have HR := Lib.hid (row_any cols ac cc cells ca cc' _ (hr.below hb0) hl (hr'.below hb0) hl' (hG.below hb0) (by simp; omega))
  have hx := PBx.new w t a c pa pc
  by_cases h1 : rowE cols cells = 0
  · rw [h1] at HR
    by_cases h2 : predE cols t = 0
    · have HV := Lib.hid (show holdV cols cells t = trueP cells 8 t ∧ holdE cols cells t = 0 by simp [holdV, holdE, h1, h2])
      have hm := predE_may h2
      have hrow := RowOk.of (predE_cols (t := t) h1).2
      have HCK := Lib.hid h2
      clear h1 h2
      go_enter Tryz.func9, Tryz.ntmps9
      go_wp2_with fail
      refine HR.out.mono ?_
      rintro e w1 ⟨rfl, hb1⟩
      have hb01 := hb0.trans (hb1.mono (by simp))
      have hx1 := hx.below hb1
      obtain ⟨x0, x1, x2, x3, x4, x5, x6⟩ := hx1
      go_wp2_with fail
      refine (checkp_any cols m t a c pa pc ac cc w1 (hp.below hb01) (hr.below hb01) hl).mono ?_
      rintro e w2 ⟨rfl, hb2⟩
      rw [HCK.out]
      have hb02 := hb01.trans (hb2.mono hb01.size)
      have hx2 := (hx.below hb1).below hb2
      clear x0 x1 x2 x3 x4 x5 x6
      obtain ⟨x0, x1, x2, x3, x4, x5, x6⟩ := hx2
      go_wp2_with fail
      refine (holds_ok cols cells hrow 8 m t a c pa pc ca cc' w2 (hp.below hb02) hm (hr'.below hb02) (hG.below hb02) (by have := hb02.size; omega)).mono ?_
      rintro e w3 ⟨rfl, hb3⟩
      go_wp2
      go_ret2
      exact ⟨by rw [HV.out.1, HV.out.2]; rfl, hb02.trans (hb3.mono hb02.size)⟩
    · have HV := Lib.hid (show holdV cols cells t = false ∧ holdE cols cells t = predE cols t by simp [holdV, holdE, h1, h2])
      have hE0 := h2
      obtain ⟨E, hE⟩ : ∃ E, predE cols t = E := ⟨_, rfl⟩
      rw [hE] at HV hE0
      have HE := Lib.hid hE
      have e2 : (E != 0) = true := bneI_t hE0
      clear h1 h2 hE hE0
      go_enter Tryz.func9, Tryz.ntmps9
      go_wp2_with fail
      refine HR.out.mono ?_
      rintro e w1 ⟨rfl, hb1⟩
      have hb01 := hb0.trans (hb1.mono (by simp))
      have hx1 := hx.below hb1
      obtain ⟨x0, x1, x2, x3, x4, x5, x6⟩ := hx1
      go_wp2_with fail
      refine (checkp_any cols m t a c pa pc ac cc w1 (hp.below hb01) (hr.below hb01) hl).mono ?_
      rintro e w2 ⟨rfl, hb2⟩
      rw [HE.out]
      go_wp2
      go_ret2
      exact ⟨by rw [HV.out.1, HV.out.2]; rfl, hb01.trans (hb2.mono hb01.size)⟩
  · have HV := Lib.hid (show holdV cols cells t = false ∧ holdE cols cells t = rowE cols cells by simp [holdV, holdE, h1])
    generalize rowE cols cells = E at *
    have e1 : (E != 0) = true := bneI_t h1
    clear h1
    go_enter Tryz.func9, Tryz.ntmps9
    go_wp2_with fail
    refine HR.out.mono ?_
    rintro e w1 ⟨rfl, hb1⟩
    go_wp2
    go_ret2
    exact ⟨by rw [HV.out.1, HV.out.2]; rfl, hb0.trans (hb1.mono (by simp))⟩
end Go.Proofs.YtdjlbfepddcmeaaGreatDoor

namespace Go.Proofs.YtdjlbfepddcmeaaGreatDoor
open Go.RowKit

def RTrueOK (cols : List Co) (cells : List El) (n : Nat) : Prop :=
  ∀ (m : Nat) (t : PT) (a : Option Addr) (c : Nat) (pa : Option Addr) (pc : Nat) (ca : Option Addr) (cc : Nat) (w : World), PredIs m w t a pa → mayP cols n t = true → DeepIs w ca cells →
    Calls Tryz.prog 27 #[pv t a c pa pc, .slice ca cells.length cc] w fun e w' => e = .returned (.bool (trueP cells n t)) ∧ Below w.heap.size w w'

theorem ordD_eq {x y : Da} (hx : x.may = true) (hy : y.may = true) (kx : ¬ x.k = 3) (ky : ¬ y.k = 3) : cmpAns x y = .tuple #[.int .i64 (ordD x y), .int .i64 0] := by
  rw [cmpAns_eq, cE_of hx hy kx ky, cV, cE_of hx hy kx ky, if_pos rfl]; rfl

set_option maxRecDepth 100000 in
set_option maxHeartbeats 4000000 in
theorem rtrue_cmp (cols : List Co) (cells : List El) (n m : Nat) (t : PT) (a : Option Addr) (c : Nat) (pa : Option Addr) (pc : Nat) (ca : Option Addr) (cc : Nat) (w : World) (hrow : RowOk cols cells)
    (hp : PredIs m w t a pa) (hm : mayP cols (n + 1) t = true) (hr : DeepIs w ca cells) (ho : 2 ≤ t.op ∧ t.op ≤ 5) :
    Calls Tryz.prog 27 #[pv t a c pa pc, .slice ca cells.length cc] w fun e w' => e = .returned (.bool (trueP cells (n + 1) t)) ∧ Below w.heap.size w w' := by
  obtain ⟨k, hk⟩ := LeafOk.of hm (by omega)
  have hk' : k < cells.length := by rw [← hrow.len]; exact hk.lt
  have hcm := hrow.may k hk'
  have hb0 : Below w.heap.size w (w.alloc (pbox t a c pa pc)) := by go_grown
  have hx := PBx.new w t a c pa pc
  obtain ⟨b, off, rfl, g0, g1, g2, g3, hda⟩ := (hr.below hb0).at_ k hk'
  have hcol := hk.col
  have hs := hk.suits
  rw [suitsB, if_neg (by omega), if_neg (by omega), Bool.and_eq_true, decide_eq_true_eq] at hs
  have h3 : ¬ t.d.k = 3 := by simpa using hs.2
  have h3' : ¬ cells[k].d.k = 3 := by rw [← hrow.kind k hk.lt hk', ← hs.1]; exact h3
  have HT := Lib.hid (show trueP cells (n + 1) t = if t.op = 2 then decide (ordD cells[k].d t.d < 0) else if t.op = 3 then decide (0 < ordD cells[k].d t.d) else if t.op = 4 then decide (ordD cells[k].d t.d ≤ 0) else decide (0 ≤ ordD cells[k].d t.d) by
    rw [trueP, if_neg (by omega), if_neg (by omega), if_neg (by omega), if_neg (by omega), if_neg (by omega), if_neg (by omega), cellAt_eq cells t.col k hk.col hk'])
  have hb1 : Below w.heap.size w ((w.alloc (pbox t a c pa pc)).alloc (.cells #[.int .i64 cells[k].d.k, .int .i64 cells[k].d.n, .string cells[k].d.s, .slice cells[k].a cells[k].d.l.length cells[k].c] 24)) := by go_grown
  have hda1 := hda.below ((Below.refl _ _).alloc (Nat.le_refl _) (.cells #[.int .i64 cells[k].d.k, .int .i64 cells[k].d.n, .string cells[k].d.s, .slice cells[k].a cells[k].d.l.length cells[k].c] 24))
  have hdd := hp.da.below hb1
  have HC := Lib.hid (rcompare_any cells[k].d t.d cells[k].a cells[k].c a c _ hda1.row hda1.l hdd.row hdd.l hda1.s hdd.s)
  rw [ordD_eq hcm hk.may h3' h3] at HC
  have hlt : (k : Int) < (cells.length : Int) := by omega
  have hge : (0 : Int) ≤ (k : Int) := by omega
  have HX := Lib.hid (hx.below ((Below.refl _ _).alloc (Nat.le_refl _) (.cells #[.int .i64 cells[k].d.k, .int .i64 cells[k].d.n, .string cells[k].d.s, .slice cells[k].a cells[k].d.l.length cells[k].c] 24)))
  have HB1 := Lib.hid hb1
  clear hr hk hp hda hda1 hdd hs h3 h3' hcm hb1 hb0 hx
  obtain ⟨o2, o5⟩ := ho
  have e10 : (t.op == 10) = false := beqI_f (by omega)
  have e9 : (t.op == 9) = false := beqI_f (by omega)
  have e7 : (t.op == 7) = false := beqI_f (by omega)
  have e8 : (t.op == 8) = false := beqI_f (by omega)
  have e6 : (t.op == 6) = false := beqI_f (by omega)
  have e1 : (t.op == 1) = false := beqI_f (by omega)
  generalize cells[k].d = y at *
  generalize cells[k].a = la at *
  generalize cells[k].c = lc at *
  generalize trueP cells (n + 1) t = R at *
  generalize ordD y t.d = N at *
  unfold pbox at *
  unfold pv
  generalize hop : t.op = op at *
  generalize hcl : t.col = col at *
  subst hcol
  go_enter Tryz.func27, Tryz.ntmps27
  have HOP := Lib.hid hop
  have HCL := Lib.hid hcl
  clear hop hcl
  go_wp2_with fail
  refine HC.out.mono ?_
  rintro e w2 ⟨rfl, hb2⟩
  have hx2 := HX.out.below hb2
  have d0 := hx2.c0
  rw [HOP.out] at d0
  have hb02 := HB1.out.trans (hb2.mono (by simp; omega))
  by_cases h2 : op = 2
  · subst h2
    go_wp2
    go_ret
    exact ⟨ret_bool HT.out.symm, hb02⟩
  · by_cases h3 : op = 3
    · subst h3
      go_wp2
      go_ret
      exact ⟨ret_bool HT.out.symm, hb02⟩
    · by_cases h4 : op = 4
      · subst h4
        go_wp2
        go_ret
        exact ⟨ret_bool HT.out.symm, hb02⟩
      · obtain rfl : op = 5 := by omega
        go_wp2
        go_ret
        exact ⟨ret_bool HT.out.symm, hb02⟩
end Go.Proofs.YtdjlbfepddcmeaaGreatDoor
