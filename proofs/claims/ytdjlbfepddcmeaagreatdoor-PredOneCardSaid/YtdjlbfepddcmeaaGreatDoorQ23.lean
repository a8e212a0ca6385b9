/- Whether a predicate is true: the reference's: the same, has. -/
import Derived.Test.YtdjlbfepddcmeaaGreatDoorQ22
set_option linter.unusedVariables false
set_option linter.unusedSimpArgs false
namespace Go.Proofs.YtdjlbfepddcmeaaGreatDoor
open Go.RowKit

set_option maxRecDepth 100000 in
set_option maxHeartbeats 4000000 in
theorem rtrue_eq (cols : List Co) (cells : List El) (n m : Nat) (t : PT) (a : Option Addr) (c : Nat) (pa : Option Addr) (pc : Nat) (ca : Option Addr) (cc : Nat) (w : World) (hrow : RowOk cols cells)
    (hp : PredIs m w t a pa) (hm : mayP cols (n + 1) t = true) (hr : DeepIs w ca cells) (ho : t.op = 1) :
    Calls Tryz.prog 27 #[pv t a c pa pc, .slice ca cells.length cc] w fun e w' => e = .returned (.bool (trueP cells (n + 1) t)) ∧ Below w.heap.size w w' := by
  obtain ⟨k, hk⟩ := LeafOk.of hm (by omega)
  have hk' : k < cells.length := by rw [← hrow.len]; exact hk.lt
  have hb0 : Below w.heap.size w (w.alloc (pbox t a c pa pc)) := by go_grown
  obtain ⟨b, off, rfl, g0, g1, g2, g3, hda⟩ := (hr.below hb0).at_ k hk'
  have hcol := hk.col
  have HT := Lib.hid (show trueP cells (n + 1) t = cells[k].d.same t.d by
    rw [trueP, if_neg (by omega), if_neg (by omega), if_neg (by omega), if_neg (by omega), if_neg (by omega), if_pos ho, cellAt_eq cells t.col k hk.col hk'])
  have hb1 : Below w.heap.size w ((w.alloc (pbox t a c pa pc)).alloc (.cells #[.int .i64 cells[k].d.k, .int .i64 cells[k].d.n, .string cells[k].d.s, .slice cells[k].a cells[k].d.l.length cells[k].c] 24)) := by go_grown
  have hda1 := hda.below ((Below.refl _ _).alloc (Nat.le_refl _) (.cells #[.int .i64 cells[k].d.k, .int .i64 cells[k].d.n, .string cells[k].d.s, .slice cells[k].a cells[k].d.l.length cells[k].c] 24))
  have hdd := hp.da.below hb1
  have HC := Lib.hid (rsame_any cells[k].d t.d cells[k].a cells[k].c a c _ hda1.row hdd.row hda1.l hdd.l)
  have hlt : (k : Int) < (cells.length : Int) := by omega
  have hge : (0 : Int) ≤ (k : Int) := by omega
  have HB1 := Lib.hid hb1
  clear hr hk hp hda hda1 hdd hb1 hb0
  generalize cells[k].d = y at *
  generalize cells[k].a = la at *
  generalize cells[k].c = lc at *
  unfold pbox at *
  unfold pv
  generalize t.op = op at *
  generalize t.col = col at *
  generalize t.d = d at *
  generalize t.parts = ps at *
  subst ho hcol
  go_enter Tryz.func27, Tryz.ntmps27
  go_wp2_with fail
  refine HC.out.mono ?_
  rintro e w2 ⟨rfl, hb2⟩
  go_wp2
  go_ret
  exact ⟨ret_bool HT.out.symm, HB1.out.trans (hb2.mono (by simp; omega))⟩

theorem it_zero {x : It} (h : x.may = true) : x.ln = 0 := by
  simp only [It.may, simpleB, Bool.and_eq_true, decide_eq_true_eq] at h
  exact h.1

set_option maxRecDepth 100000 in
set_option maxHeartbeats 4000000 in
theorem rtrue_has (cols : List Co) (cells : List El) (n m : Nat) (t : PT) (a : Option Addr) (c : Nat) (pa : Option Addr) (pc : Nat) (ca : Option Addr) (cc : Nat) (w : World) (hrow : RowOk cols cells)
    (hp : PredIs m w t a pa) (hm : mayP cols (n + 1) t = true) (hr : DeepIs w ca cells) (ho : t.op = 6) :
    Calls Tryz.prog 27 #[pv t a c pa pc, .slice ca cells.length cc] w fun e w' => e = .returned (.bool (trueP cells (n + 1) t)) ∧ Below w.heap.size w w' := by
  obtain ⟨k, hk⟩ := LeafOk.of hm (by omega)
  have hk' : k < cells.length := by rw [← hrow.len]; exact hk.lt
  have hkind : cells[k].d.k = 3 := by
    rw [← hrow.kind k hk.lt hk']
    have := hk.suits
    rw [ho, suitsB, if_pos rfl, Bool.and_eq_true, decide_eq_true_eq] at this
    exact this.1
  obtain ⟨-, -, h8, hits⟩ := may_items (hrow.may k hk') hkind
  have hb0 : Below w.heap.size w (w.alloc (pbox t a c pa pc)) := by go_grown
  have hx := PBx.new w t a c pa pc
  obtain ⟨b, off, rfl, g0, g1, g2, g3, hda⟩ := (hr.below hb0).at_ k hk'
  have hcol := hk.col
  have HT := Lib.hid (show trueP cells (n + 1) t = cells[k].d.l.any fun x => x.da.same t.d by
    rw [trueP, if_neg (by omega), if_neg (by omega), if_neg (by omega), if_neg (by omega), if_pos ho, cellAt_eq cells t.col k hk.col hk'])
  have hb1 : Below w.heap.size w ((w.alloc (pbox t a c pa pc)).alloc (.cells #[.int .i64 cells[k].d.k, .int .i64 cells[k].d.n, .string cells[k].d.s, .slice cells[k].a cells[k].d.l.length cells[k].c] 24)) := by go_grown
  have hb01 := (Below.refl (w.alloc (pbox t a c pa pc)).heap.size (w.alloc (pbox t a c pa pc))).alloc (Nat.le_refl _) (.cells #[.int .i64 cells[k].d.k, .int .i64 cells[k].d.n, .string cells[k].d.s, .slice cells[k].a cells[k].d.l.length cells[k].c] 24)
  have hda1 := hda.below hb01
  have hdd := hp.da.below hb1
  have hlt : (k : Int) < (cells.length : Int) := by omega
  have hge : (0 : Int) ≤ (k : Int) := by omega
  have hx1 := hx.below hb01
  have HB1 := Lib.hid hb1
  clear hr hk hp hda hkind hb1 hb01 hx hb0
  have hlen : cells[k].d.l.length ≤ 8 := h8
  generalize hy : cells[k].d = y at *
  clear hy h8
  generalize cells[k].a = la at *
  generalize cells[k].c = lc at *
  have hy3 : ((w.alloc (pbox t a c pa pc)).alloc (.cells #[.int .i64 y.k, .int .i64 y.n, .string y.s, .slice la y.l.length lc] 24)).cell? ⟨w.heap.size + 1, 3, none⟩ = some (.slice la y.l.length lc) := by go_simp
  obtain ⟨x0, x1, x2, x3, x4, x5, x6⟩ := hx1
  have HX := Lib.hid (And.intro x2 (And.intro x3 (And.intro x4 (And.intro x5 hy3))))
  clear x0 x1 x2 x3 x4 x5 x6 hy3
  generalize trueP cells (n + 1) t = R at *
  unfold pbox at *
  unfold pv
  generalize t.op = op at *
  generalize t.col = col at *
  generalize t.d = d at *
  generalize t.parts = ps at *
  subst ho hcol
  go_enter Tryz.func27, Tryz.ntmps27
  go_wp2
  go_loopw [8] (fun i wr => ∃ j : Nat, j ≤ y.l.length ∧ i = .int .i64 j ∧ (y.l.take j).any (fun x => x.da.same d) = false ∧ Below ((w.alloc (.cells #[.int .i64 6, .int .i64 (k : Int), .int .i64 d.k, .int .i64 d.n, .string d.s, .slice a d.l.length c, .slice pa ps.length pc] 27)).alloc (.cells #[.int .i64 y.k, .int .i64 y.n, .string y.s, .slice la y.l.length lc] 24)).heap.size ((w.alloc (.cells #[.int .i64 6, .int .i64 (k : Int), .int .i64 d.k, .int .i64 d.n, .string d.s, .slice a d.l.length c, .slice pa ps.length pc] 27)).alloc (.cells #[.int .i64 y.k, .int .i64 y.n, .string y.s, .slice la y.l.length lc] 24)) wr)
    (fun i _ => y.l.length - (intOf i).toNat)
  case atStart => exact ⟨0, Nat.zero_le _, rfl, rfl, Below.refl _ _⟩
  case round =>
    obtain ⟨j, hj, rfl, hall, hb⟩ := hrel
    have HA := Lib.hid hall
    clear hall
    have hz := hb.size
    simp at hz
    have hbw := HB1.out.trans (hb.mono (by simp; omega))
    have c2 := (hb.cell (p := ⟨w.heap.size, 2, none⟩) (by simp; omega)).trans HX.out.1
    have c3 := (hb.cell (p := ⟨w.heap.size, 3, none⟩) (by simp; omega)).trans HX.out.2.1
    have c4 := (hb.cell (p := ⟨w.heap.size, 4, none⟩) (by simp; omega)).trans HX.out.2.2.1
    have c5 := (hb.cell (p := ⟨w.heap.size, 5, none⟩) (by simp; omega)).trans HX.out.2.2.2.1
    have c9 := (hb.cell (p := ⟨w.heap.size + 1, 3, none⟩) (by simp)).trans HX.out.2.2.2.2
    by_cases hlt2 : j < y.l.length
    · have hxm := hits j hlt2
      have hx0 := it_zero hxm
      obtain ⟨lb, lo, xa, xc, rfl, q0, q1, q2, q3, _, _, _⟩ := (hda1.row.below hb).at_ j hlt2
      have HTS := Lib.hid (any_take_succ y.l (fun x => x.da.same d) j hlt2)
      have HY := Lib.hid (any_true_of y.l (fun x => x.da.same d) j hlt2)
      rw [hx0] at q3
      clear hxm hx0
      generalize y.l[j] = x at *
      have HS : Hid (∀ W, DaIs W d a → Calls Tryz.prog 40 #[dv x.k x.n x.s xa 0 xc, dv d.k d.n d.s a d.l.length c] W fun e w' => e = .returned (.bool (x.da.same d)) ∧ Below W.heap.size W w') :=
        Lib.hid (fun W hd => rsame_any x.da d xa xc a c W (.inl rfl) hd.row (by simp [It.da]) hd.l)
      have hdq := (hdd.below hb).below ((Below.refl wr.heap.size wr).drew)
      have hge2 : (0 : Int) ≤ (j : Int) := by omega
      cases hq : x.da.same d with
      | true =>
        rw [hq] at HS
        go_wp2
        refine wp_region_noPanic ?_
        refine wp_region_held_drew (S := (fun w' => w'.cell? ⟨w.heap.size, 2, none⟩ = some (.int .i64 d.k) ∧ w'.cell? ⟨w.heap.size, 3, none⟩ = some (.int .i64 d.n) ∧ w'.cell? ⟨w.heap.size, 4, none⟩ = some (.string d.s) ∧ w'.cell? ⟨w.heap.size, 5, none⟩ = some (.slice a d.l.length c) ∧ w'.cell? ⟨w.heap.size + 1, 3, none⟩ = some (.slice (some ⟨lb, lo, none⟩) y.l.length lc) ∧ w'.cell? ⟨lb, lo + j * 4, none⟩ = some (.int .i64 x.k) ∧ w'.cell? ⟨lb, lo + j * 4 + 1, none⟩ = some (.int .i64 x.n) ∧ w'.cell? ⟨lb, lo + j * 4 + 2, none⟩ = some (.string x.s) ∧ w'.cell? ⟨lb, lo + j * 4 + 3, none⟩ = some (.slice xa 0 xc))) (by kernel_rfl) ⟨c2, c3, c4, c5, c9, q0, q1, q2, q3⟩ (fun hS => ?_)
        refine wpAnyH_take (i := 0) (v := ?_) rfl (by kernel_rfl) (by kernel_rfl) (by kernel_rfl) (fun _ _ _ h => h) (Or.inl ⟨by rfl, ?_⟩) hS ?_
        rotate_left
        · rintro w9 ⟨t0, t1, t2, t3, t4, t5, t6, t7, t8⟩
          go_simp
          try with_reducible rfl
        try simp only [Act.put, List.getElem_toArray, List.getElem_cons_succ, List.getElem_cons_zero, List.setIfInBounds_toArray, List.set_cons_zero, List.set_cons_succ]
        refine wpAnyH_take (i := 1) (v := ?_) rfl (by kernel_rfl) (by kernel_rfl) (by kernel_rfl) (fun _ _ _ h => h) (Or.inl ⟨by rfl, ?_⟩) hS ?_
        rotate_left
        · rintro w9 ⟨t0, t1, t2, t3, t4, t5, t6, t7, t8⟩
          go_simp
          try with_reducible rfl
        try simp only [Act.put, List.getElem_toArray, List.getElem_cons_succ, List.getElem_cons_zero, List.setIfInBounds_toArray, List.set_cons_zero, List.set_cons_succ]
        refine wpAnyH_take (i := 2) (v := ?_) rfl (by kernel_rfl) (by kernel_rfl) (by kernel_rfl) (fun _ _ _ h => h) (Or.inl ⟨by rfl, ?_⟩) hS ?_
        rotate_left
        · rintro w9 ⟨t0, t1, t2, t3, t4, t5, t6, t7, t8⟩
          go_simp
          try with_reducible rfl
        try simp only [Act.put, List.getElem_toArray, List.getElem_cons_succ, List.getElem_cons_zero, List.setIfInBounds_toArray, List.set_cons_zero, List.set_cons_succ]
        refine wpAnyH_take (i := 3) (v := ?_) rfl (by kernel_rfl) (by kernel_rfl) (by kernel_rfl) (fun _ _ _ h => h) (Or.inl ⟨by rfl, ?_⟩) hS ?_
        rotate_left
        · rintro w9 ⟨t0, t1, t2, t3, t4, t5, t6, t7, t8⟩
          go_simp
          try with_reducible rfl
        try simp only [Act.put, List.getElem_toArray, List.getElem_cons_succ, List.getElem_cons_zero, List.setIfInBounds_toArray, List.set_cons_zero, List.set_cons_succ]
        refine wpAnyH_take (i := 4) (v := ?_) rfl (by kernel_rfl) (by kernel_rfl) (by kernel_rfl) (fun _ _ _ h => h) (Or.inl ⟨by rfl, ?_⟩) hS ?_
        rotate_left
        · rintro w9 ⟨t0, t1, t2, t3, t4, t5, t6, t7, t8⟩
          go_simp
          try with_reducible rfl
        try simp only [Act.put, List.getElem_toArray, List.getElem_cons_succ, List.getElem_cons_zero, List.setIfInBounds_toArray, List.set_cons_zero, List.set_cons_succ]
        refine wpAnyH_take (i := 5) (v := ?_) rfl (by kernel_rfl) (by kernel_rfl) (by kernel_rfl) (fun _ _ _ h => h) (Or.inl ⟨by rfl, ?_⟩) hS ?_
        rotate_left
        · rintro w9 ⟨t0, t1, t2, t3, t4, t5, t6, t7, t8⟩
          go_simp
          try with_reducible rfl
        try simp only [Act.put, List.getElem_toArray, List.getElem_cons_succ, List.getElem_cons_zero, List.setIfInBounds_toArray, List.set_cons_zero, List.set_cons_succ]
        refine wpAnyH_take (i := 6) (v := ?_) rfl (by kernel_rfl) (by kernel_rfl) (by kernel_rfl) (fun _ _ _ h => h) (Or.inl ⟨by rfl, ?_⟩) hS ?_
        rotate_left
        · rintro w9 ⟨t0, t1, t2, t3, t4, t5, t6, t7, t8⟩
          go_simp
          try with_reducible rfl
        try simp only [Act.put, List.getElem_toArray, List.getElem_cons_succ, List.getElem_cons_zero, List.setIfInBounds_toArray, List.set_cons_zero, List.set_cons_succ]
        refine wpAnyH_ready (rs := [7]) (by kernel_rfl) (by simp) ?_
        refine AllReadyH.cons rfl (fun K hK => ?_) AllReadyH.nil
        go_simp
        refine (HS.out _ hdq).mono ?_
        rintro e w3 ⟨rfl, hb3⟩
        have hS3 : (fun w' => w'.cell? ⟨w.heap.size, 2, none⟩ = some (.int .i64 d.k) ∧ w'.cell? ⟨w.heap.size, 3, none⟩ = some (.int .i64 d.n) ∧ w'.cell? ⟨w.heap.size, 4, none⟩ = some (.string d.s) ∧ w'.cell? ⟨w.heap.size, 5, none⟩ = some (.slice a d.l.length c) ∧ w'.cell? ⟨w.heap.size + 1, 3, none⟩ = some (.slice (some ⟨lb, lo, none⟩) y.l.length lc) ∧ w'.cell? ⟨lb, lo + j * 4, none⟩ = some (.int .i64 x.k) ∧ w'.cell? ⟨lb, lo + j * 4 + 1, none⟩ = some (.int .i64 x.n) ∧ w'.cell? ⟨lb, lo + j * 4 + 2, none⟩ = some (.string x.s) ∧ w'.cell? ⟨lb, lo + j * 4 + 3, none⟩ = some (.slice xa 0 xc)) w3 := by
          obtain ⟨t0, t1, t2, t3, t4, t5, t6, t7, t8⟩ := hS
          exact ⟨(hb3.cell (World.block_lt_of_cell? _ _ t0)).trans t0, (hb3.cell (World.block_lt_of_cell? _ _ t1)).trans t1, (hb3.cell (World.block_lt_of_cell? _ _ t2)).trans t2, (hb3.cell (World.block_lt_of_cell? _ _ t3)).trans t3, (hb3.cell (World.block_lt_of_cell? _ _ t4)).trans t4, (hb3.cell (World.block_lt_of_cell? _ _ t5)).trans t5, (hb3.cell (World.block_lt_of_cell? _ _ t6)).trans t6, (hb3.cell (World.block_lt_of_cell? _ _ t7)).trans t7, (hb3.cell (World.block_lt_of_cell? _ _ t8)).trans t8⟩
        refine hK.out _ _ hS3 (fun _ => ?_)
        clear hK K
        try simp only [Act.put, List.getElem_toArray, List.getElem_cons_succ, List.getElem_cons_zero, List.setIfInBounds_toArray, List.set_cons_zero, List.set_cons_succ]
        refine wpAnyH_done (by kernel_rfl) ?_ _
        refine NoPanic.normal ?_
        go_wp2
        go_ret
        exact ⟨ret_bool (by rw [HT.out]; exact (HY.out hq).symm), hbw.drew.trans (hb3.mono (by simp; omega))⟩
      | false =>
        rw [hq] at HS
        go_wp2
        refine wp_region_noPanic ?_
        refine wp_region_held_drew (S := (fun w' => w'.cell? ⟨w.heap.size, 2, none⟩ = some (.int .i64 d.k) ∧ w'.cell? ⟨w.heap.size, 3, none⟩ = some (.int .i64 d.n) ∧ w'.cell? ⟨w.heap.size, 4, none⟩ = some (.string d.s) ∧ w'.cell? ⟨w.heap.size, 5, none⟩ = some (.slice a d.l.length c) ∧ w'.cell? ⟨w.heap.size + 1, 3, none⟩ = some (.slice (some ⟨lb, lo, none⟩) y.l.length lc) ∧ w'.cell? ⟨lb, lo + j * 4, none⟩ = some (.int .i64 x.k) ∧ w'.cell? ⟨lb, lo + j * 4 + 1, none⟩ = some (.int .i64 x.n) ∧ w'.cell? ⟨lb, lo + j * 4 + 2, none⟩ = some (.string x.s) ∧ w'.cell? ⟨lb, lo + j * 4 + 3, none⟩ = some (.slice xa 0 xc))) (by kernel_rfl) ⟨c2, c3, c4, c5, c9, q0, q1, q2, q3⟩ (fun hS => ?_)
        refine wpAnyH_take (i := 0) (v := ?_) rfl (by kernel_rfl) (by kernel_rfl) (by kernel_rfl) (fun _ _ _ h => h) (Or.inl ⟨by rfl, ?_⟩) hS ?_
        rotate_left
        · rintro w9 ⟨t0, t1, t2, t3, t4, t5, t6, t7, t8⟩
          go_simp
          try with_reducible rfl
        try simp only [Act.put, List.getElem_toArray, List.getElem_cons_succ, List.getElem_cons_zero, List.setIfInBounds_toArray, List.set_cons_zero, List.set_cons_succ]
        refine wpAnyH_take (i := 1) (v := ?_) rfl (by kernel_rfl) (by kernel_rfl) (by kernel_rfl) (fun _ _ _ h => h) (Or.inl ⟨by rfl, ?_⟩) hS ?_
        rotate_left
        · rintro w9 ⟨t0, t1, t2, t3, t4, t5, t6, t7, t8⟩
          go_simp
          try with_reducible rfl
        try simp only [Act.put, List.getElem_toArray, List.getElem_cons_succ, List.getElem_cons_zero, List.setIfInBounds_toArray, List.set_cons_zero, List.set_cons_succ]
        refine wpAnyH_take (i := 2) (v := ?_) rfl (by kernel_rfl) (by kernel_rfl) (by kernel_rfl) (fun _ _ _ h => h) (Or.inl ⟨by rfl, ?_⟩) hS ?_
        rotate_left
        · rintro w9 ⟨t0, t1, t2, t3, t4, t5, t6, t7, t8⟩
          go_simp
          try with_reducible rfl
        try simp only [Act.put, List.getElem_toArray, List.getElem_cons_succ, List.getElem_cons_zero, List.setIfInBounds_toArray, List.set_cons_zero, List.set_cons_succ]
        refine wpAnyH_take (i := 3) (v := ?_) rfl (by kernel_rfl) (by kernel_rfl) (by kernel_rfl) (fun _ _ _ h => h) (Or.inl ⟨by rfl, ?_⟩) hS ?_
        rotate_left
        · rintro w9 ⟨t0, t1, t2, t3, t4, t5, t6, t7, t8⟩
          go_simp
          try with_reducible rfl
        try simp only [Act.put, List.getElem_toArray, List.getElem_cons_succ, List.getElem_cons_zero, List.setIfInBounds_toArray, List.set_cons_zero, List.set_cons_succ]
        refine wpAnyH_take (i := 4) (v := ?_) rfl (by kernel_rfl) (by kernel_rfl) (by kernel_rfl) (fun _ _ _ h => h) (Or.inl ⟨by rfl, ?_⟩) hS ?_
        rotate_left
        · rintro w9 ⟨t0, t1, t2, t3, t4, t5, t6, t7, t8⟩
          go_simp
          try with_reducible rfl
        try simp only [Act.put, List.getElem_toArray, List.getElem_cons_succ, List.getElem_cons_zero, List.setIfInBounds_toArray, List.set_cons_zero, List.set_cons_succ]
        refine wpAnyH_take (i := 5) (v := ?_) rfl (by kernel_rfl) (by kernel_rfl) (by kernel_rfl) (fun _ _ _ h => h) (Or.inl ⟨by rfl, ?_⟩) hS ?_
        rotate_left
        · rintro w9 ⟨t0, t1, t2, t3, t4, t5, t6, t7, t8⟩
          go_simp
          try with_reducible rfl
        try simp only [Act.put, List.getElem_toArray, List.getElem_cons_succ, List.getElem_cons_zero, List.setIfInBounds_toArray, List.set_cons_zero, List.set_cons_succ]
        refine wpAnyH_take (i := 6) (v := ?_) rfl (by kernel_rfl) (by kernel_rfl) (by kernel_rfl) (fun _ _ _ h => h) (Or.inl ⟨by rfl, ?_⟩) hS ?_
        rotate_left
        · rintro w9 ⟨t0, t1, t2, t3, t4, t5, t6, t7, t8⟩
          go_simp
          try with_reducible rfl
        try simp only [Act.put, List.getElem_toArray, List.getElem_cons_succ, List.getElem_cons_zero, List.setIfInBounds_toArray, List.set_cons_zero, List.set_cons_succ]
        refine wpAnyH_ready (rs := [7]) (by kernel_rfl) (by simp) ?_
        refine AllReadyH.cons rfl (fun K hK => ?_) AllReadyH.nil
        go_simp
        refine (HS.out _ hdq).mono ?_
        rintro e w3 ⟨rfl, hb3⟩
        have hS3 : (fun w' => w'.cell? ⟨w.heap.size, 2, none⟩ = some (.int .i64 d.k) ∧ w'.cell? ⟨w.heap.size, 3, none⟩ = some (.int .i64 d.n) ∧ w'.cell? ⟨w.heap.size, 4, none⟩ = some (.string d.s) ∧ w'.cell? ⟨w.heap.size, 5, none⟩ = some (.slice a d.l.length c) ∧ w'.cell? ⟨w.heap.size + 1, 3, none⟩ = some (.slice (some ⟨lb, lo, none⟩) y.l.length lc) ∧ w'.cell? ⟨lb, lo + j * 4, none⟩ = some (.int .i64 x.k) ∧ w'.cell? ⟨lb, lo + j * 4 + 1, none⟩ = some (.int .i64 x.n) ∧ w'.cell? ⟨lb, lo + j * 4 + 2, none⟩ = some (.string x.s) ∧ w'.cell? ⟨lb, lo + j * 4 + 3, none⟩ = some (.slice xa 0 xc)) w3 := by
          obtain ⟨t0, t1, t2, t3, t4, t5, t6, t7, t8⟩ := hS
          exact ⟨(hb3.cell (World.block_lt_of_cell? _ _ t0)).trans t0, (hb3.cell (World.block_lt_of_cell? _ _ t1)).trans t1, (hb3.cell (World.block_lt_of_cell? _ _ t2)).trans t2, (hb3.cell (World.block_lt_of_cell? _ _ t3)).trans t3, (hb3.cell (World.block_lt_of_cell? _ _ t4)).trans t4, (hb3.cell (World.block_lt_of_cell? _ _ t5)).trans t5, (hb3.cell (World.block_lt_of_cell? _ _ t6)).trans t6, (hb3.cell (World.block_lt_of_cell? _ _ t7)).trans t7, (hb3.cell (World.block_lt_of_cell? _ _ t8)).trans t8⟩
        refine hK.out _ _ hS3 (fun _ => ?_)
        clear hK K
        try simp only [Act.put, List.getElem_toArray, List.getElem_cons_succ, List.getElem_cons_zero, List.setIfInBounds_toArray, List.set_cons_zero, List.set_cons_succ]
        refine wpAnyH_done (by kernel_rfl) ?_ _
        refine NoPanic.normal ?_
        go_wp2
        go_roundw
        case rel => exact ⟨j + 1, by omega, by go_num, by rw [HTS.out, HA.out, hq]; rfl, hb.drew.trans (hb3.mono (by simp; omega))⟩
        case measure => simp [intOf]; omega
    · go_wp2
      go_ret
      exact ⟨ret_bool (by rw [HT.out, ← HA.out, List.take_of_length_le (by omega)]), hbw⟩
end Go.Proofs.YtdjlbfepddcmeaaGreatDoor
