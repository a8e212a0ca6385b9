/- Whether a predicate is true: the program's, a part over a column. -/
import Derived.Test.YtdjlbfepddcmeaaGreatDoorQ19
set_option linter.unusedVariables false
set_option linter.unusedSimpArgs false
namespace Go.Proofs.YtdjlbfepddcmeaaGreatDoor
open Go.RowKit

/-- A closure over items: in every later world it answers 'p' of the item. -/
def PredIm (f : Nat) (lb : Array Value) (l : List It) (p : It → Bool) (w : World) : Prop :=
  ∀ (W : World) (x : It) (a : Option Addr) (c : Nat), x ∈ l → Below w.heap.size w W → w.heap.size ≤ W.heap.size → Calls Tryz.prog f (#[dv x.k x.n x.s a x.ln c] ++ lb) W fun e w' => e = .returned (.bool (p x)) ∧ Below W.heap.size W w'

set_option maxHeartbeats 1000000 in
theorem indexFunc_im (f : Nat) (lb : Array Value) (p : It → Bool) (l : List It) (a : Option Addr) (c : Nat) (w : World) (hr : RowIs w a l) (hl : l.length ≤ 140737488351232)
    (hp : PredIm f lb l p w) (eg : ∀ args w, (callFunc f args).run Tryz.prog w = .ok (.enter f args) w) :
    Calls Tryz.prog 67 #[.slice a l.length c, .func (.func f) #[] lb] w fun e w' => idxOr (l.any p) e ∧ Below w.heap.size w w' := by
  go_enter Tryz.func67, Tryz.ntmps67
  go_wp2
  go_loopw [5, 8] (fun _ i wr => ∃ j : Nat, j ≤ l.length ∧ i = .int .i64 j ∧ (l.take j).any p = false ∧ Below w.heap.size w wr) (fun _ i _ => l.length - (intOf i).toNat)
  case atStart => exact ⟨0, Nat.zero_le _, rfl, rfl, Below.refl _ _⟩
  case round =>
    obtain ⟨j, hj, rfl, hall, hb⟩ := hrel
    have HA := Lib.hid hall
    clear hall
    by_cases hlt : j < l.length
    · obtain ⟨b, off, a', c', rfl, g0, g1, g2, g3, _⟩ := (hr.below hb).at_ j hlt
      have HM := Lib.hid (List.getElem_mem hlt)
      have HT := Lib.hid (any_take_succ l p j hlt)
      have HY := Lib.hid (any_true_of l p j hlt)
      have HP := Lib.hid hp
      clear hp
      generalize l[j] = x at *
      have HC := Lib.hid (HP.out wr x a' c' HM.out hb hb.size)
      cases hx : p x with
      | false =>
        rw [hx] at HC
        go_wp2_with fail
        refine HC.out.mono ?_
        rintro e w' ⟨rfl, hb'⟩
        go_wp2
        go_roundw
        case rel => exact ⟨j + 1, by omega, by go_num, by rw [HT.out, HA.out, hx]; rfl, hb.trans (hb'.mono hb.size)⟩
        case measure => simp [intOf]; omega
      | true =>
        rw [hx] at HC
        go_wp2_with fail
        refine HC.out.mono ?_
        rintro e w' ⟨rfl, hb'⟩
        go_wp2
        go_ret
        refine ⟨?_, hb.trans (hb'.mono hb.size)⟩
        rw [HY.out hx]
        exact ⟨j, by omega, rfl⟩
    · go_wp2
      go_ret
      refine ⟨?_, hb⟩
      have : l.any p = false := by rw [← HA.out, List.take_of_length_le (by omega)]
      rw [this]; rfl

theorem containsFunc_im (f : Nat) (lb : Array Value) (p : It → Bool) (l : List It) (a : Option Addr) (c : Nat) (w : World) (hr : RowIs w a l) (hl : l.length ≤ 140737488351232)
    (hp : PredIm f lb l p w) (eg : ∀ args w, (callFunc f args).run Tryz.prog w = .ok (.enter f args) w) :
    Calls Tryz.prog 44 #[.slice a l.length c, .func (.func f) #[] lb] w fun e w' => e = .returned (.bool (l.any p)) ∧ Below w.heap.size w w' := by
  have HP := Lib.hid hp
  clear hp
  cases hq : l.any p with
  | true =>
    go_enter Tryz.func44, Tryz.ntmps44
    go_wp2_with fail
    refine (indexFunc_im f lb p l a c _ hr hl HP.out eg).mono ?_
    rintro e w' ⟨he, hb⟩
    rw [hq] at he
    obtain ⟨n, hn, rfl⟩ := he
    go_wp2
    go_ret
    exact ⟨ret_bool (by simp), hb⟩
  | false =>
    go_enter Tryz.func44, Tryz.ntmps44
    go_wp2_with fail
    refine (indexFunc_im f lb p l a c _ hr hl HP.out eg).mono ?_
    rintro e w' ⟨he, hb⟩
    rw [hq] at he
    obtain rfl : e = .returned (.int .i64 (-1)) := he
    go_wp2
    go_ret
    exact ⟨rfl, hb⟩

-- what a row and a part that may be say

structure RowOk (cols : List Co) (cells : List El) : Prop where
  len : cols.length = cells.length
  kind : ∀ k (h : k < cols.length) (h' : k < cells.length), cols[k].kind = cells[k].d.k
  may : ∀ k (h : k < cells.length), cells[k].d.may = true
  four : cells.length ≤ 4
theorem RowOk.of {cols : List Co} {cells : List El} (h : rowB cols cells = true) : RowOk cols cells := by
  rw [rowB, Bool.and_eq_true, kindsB_eq, Bool.and_eq_true, decide_eq_true_eq] at h
  obtain ⟨⟨hl, hk⟩, hm⟩ := h
  simp only [keepB, Bool.and_eq_true, decide_eq_true_eq, List.all_eq_true] at hm
  refine ⟨hl, fun k h h' => ?_, fun k h => hm.1.2 _ (List.getElem_mem h), hm.1.1⟩
  have := List.all_eq_true.1 hk k (List.mem_range.2 h)
  rw [kindOk_at cols cells k h h'] at this
  simpa using this

structure LeafOk (cols : List Co) (t : PT) (k : Nat) : Prop where
  col : t.col = (k : Int)
  lt : k < cols.length
  may : t.d.may = true
  suits : suitsB t.op t.d.k cols[k].kind = true
theorem LeafOk.of {cols : List Co} {n : Nat} {t : PT} (h : mayP cols (n + 1) t = true) (ho : 1 ≤ t.op ∧ t.op ≤ 6) : ∃ k, LeafOk cols t k := by
  rw [mayP_leaf cols n t ho] at h
  simp only [Bool.and_eq_true, decide_eq_true_eq] at h
  obtain ⟨⟨⟨_, h1, h2⟩, h3⟩, h4⟩ := h
  have hk : t.col = (t.col.toNat : Int) := by omega
  exact ⟨t.col.toNat, hk, by omega, h3, by rw [← kindAt_eq cols t.col t.col.toNat hk (by omega)]; exact h4⟩
theorem cellAt_eq (cells : List El) (i : Int) (k : Nat) (h : i = k) (hk : k < cells.length) : cellAt cells i = cells[k].d := by
  subst h; simp [cellAt, hk]

abbrev box3 (w : World) (t : PT) (a : Option Addr) (c : Nat) (pa : Option Addr) (pc : Nat) (ca : Option Addr) (cl cc : Nat) : World :=
  ((w.alloc (.cells #[.int .i64 t.op, .int .i64 t.col, .int .i64 t.d.k, .int .i64 t.d.n, .string t.d.s, .slice a t.d.l.length c, .slice pa t.parts.length pc] 27)).alloc (.cells #[.slice ca cl cc] 22)).alloc (.cells #[.func (.func 41) #[] #[.pointer (some ⟨w.heap.size + 1, 0, none⟩)]] 73)
theorem box3_below (w : World) (t : PT) (a : Option Addr) (c : Nat) (pa : Option Addr) (pc : Nat) (ca : Option Addr) (cl cc : Nat) : Below w.heap.size w (box3 w t a c pa pc ca cl cc) := by unfold box3; go_grown

set_option maxRecDepth 100000 in
set_option maxHeartbeats 4000000 in
theorem holds_has (cols : List Co) (cells : List El) (n m : Nat) (t : PT) (a : Option Addr) (c : Nat) (pa : Option Addr) (pc : Nat) (ca : Option Addr) (cc : Nat) (w : World) (hrow : RowOk cols cells)
    (hp : PredIs m w t a pa) (hm : mayP cols (n + 1) t = true) (hr : DeepIs w ca cells) (hG : GlobsM w) (h16 : 8 ≤ w.heap.size) (ho : t.op = 6) :
    Calls Tryz.prog 24 #[pv t a c pa pc, .slice ca cells.length cc] w fun e w' => e = .returned (.bool (trueP cells (n + 1) t)) ∧ Below w.heap.size w w' := by
  obtain ⟨k, hk⟩ := LeafOk.of hm (by omega)
  have hk' : k < cells.length := by rw [← hrow.len]; exact hk.lt
  have HT := Lib.hid (show trueP cells (n + 1) t = (cells[k].d.l.any fun x => x.da.same t.d) by
    rw [trueP, if_neg (by omega), if_neg (by omega), if_neg (by omega), if_neg (by omega), if_pos ho, cellAt_eq cells t.col k hk.col hk'])
  have hkind : cells[k].d.k = 3 := by
    rw [← hrow.kind k hk.lt hk']
    have := hk.suits
    rw [ho, suitsB, if_pos rfl, Bool.and_eq_true, decide_eq_true_eq] at this
    exact this.1
  have hcm := hrow.may k hk'
  obtain ⟨_, _, _, hits⟩ := may_items hcm hkind
  have hb3 := box3_below w t a c pa pc ca cells.length cc
  obtain ⟨b, off, rfl, g0, g1, g2, g3, hda⟩ := (hr.below hb3).at_ k hk'
  have hdd := hp.da.below hb3
  have hcol := hk.col
  have HP : Hid (PredIm 45 #[.pointer (some ⟨w.heap.size, 0, none⟩)] cells[k].d.l (fun x => x.da.same t.d) (box3 w t a c pa pc (some ⟨b, off, none⟩) cells.length cc)) := by
    refine Lib.hid ?_
    intro W x xa xc hx hb hz
    obtain ⟨j, hj, rfl⟩ := List.getElem_of_mem hx
    have hxm := hits j hj
    have hn := hda.items j hj
    have hx0 : cells[k].d.l[j].ln = 0 := by
      simp only [It.may, simpleB, Bool.and_eq_true, decide_eq_true_eq] at hxm
      exact hxm.1
    obtain ⟨_, _, _, _, _, _, _, _, _, _, hss, _⟩ := hda.row.at_ j hj
    have hym : (cells[k].d.l[j]).da.may = true := by
      have h3 : ¬ cells[k].d.l[j].k = 3 := by
        simp only [It.may, simpleB, Bool.and_eq_true, decide_eq_true_eq, Bool.or_eq_true] at hxm
        rcases hxm.2 with h | h <;> omega
      rw [It.may, hx0] at hxm
      simpa [It.da, Da.may, h3] using hxm
    have := has_da (cells[k].d.l[j]).da xa xc t.d a c W w.heap.size ⟨.inl rfl, hn, by simp [It.da], hss⟩ hym (hdd.below hb) hk.may ((hG.below hb3).below hb) (by have := hb3.size; omega)
      ((hb.cell (p := ⟨w.heap.size, 2, none⟩) (by simp; omega)).trans (by go_simp)) ((hb.cell (p := ⟨w.heap.size, 3, none⟩) (by simp; omega)).trans (by go_simp)) ((hb.cell (p := ⟨w.heap.size, 4, none⟩) (by simp; omega)).trans (by go_simp)) ((hb.cell (p := ⟨w.heap.size, 5, none⟩) (by simp; omega)).trans (by go_simp))
    rw [hx0]
    exact this
  have HCF := Lib.hid (containsFunc_im 45 _ _ cells[k].d.l cells[k].a cells[k].c _ hda.row hda.l HP.out (fun _ _ => by kernel_rfl))
  have hlt : (k : Int) < (cells.length : Int) := by omega
  have hge : (0 : Int) ≤ (k : Int) := by omega
  have HB3 := Lib.hid hb3
  clear HP hr hits hcm hkind hk hda hdd hp hb3
  unfold box3 at *
  unfold pv
  generalize cells[k].d.l = L at *
  generalize cells[k].a = la at *
  generalize cells[k].c = lc at *
  generalize t.op = op at *
  generalize t.col = col at *
  generalize t.d = d at *
  generalize t.parts = ps at *
  subst ho hcol
  go_enter Tryz.func24, Tryz.ntmps24
  go_wp2_with fail
  refine HCF.out.mono ?_
  rintro e w' ⟨rfl, hb'⟩
  go_wp2
  go_ret
  exact ⟨ret_bool HT.out.symm, HB3.out.trans (hb'.mono (by simp; omega))⟩

/-- What a comparison answers. -/
def opB (op n : Int) : Bool := if op = 1 then (n == 0) else if op = 2 then decide (n < 0) else if op = 3 then decide (0 < n) else if op = 4 then decide (n ≤ 0) else decide (0 ≤ n)
theorem trueP_cmp {cells : List El} {n k : Nat} {t : PT} {cols : List Co} (hrow : RowOk cols cells) (hk : LeafOk cols t k) (ho : 1 ≤ t.op ∧ t.op ≤ 5) (hk' : k < cells.length) (hy : Good cells[k].d) (hd : Good t.d) :
    trueP cells (n + 1) t = opB t.op (cmpB cells[k].d t.d) := by
  rw [trueP, if_neg (by omega), if_neg (by omega), if_neg (by omega), if_neg (by omega), if_neg (by omega), cellAt_eq cells t.col k hk.col hk', opB]
  have hs := hk.suits
  rw [suitsB, if_neg (by omega)] at hs
  by_cases h1 : t.op = 1
  · rw [if_pos h1, if_pos h1, cmpB_zero hy hd]
  · rw [if_neg h1, if_neg h1]
    rw [if_neg h1, Bool.and_eq_true, decide_eq_true_eq] at hs
    have h3 : ¬ t.d.k = 3 := by simpa using hs.2
    have h3' : ¬ cells[k].d.k = 3 := by rw [← hrow.kind k hk.lt hk', ← hs.1]; exact h3
    rw [cmpB_ord hy hd h3' h3]

set_option maxRecDepth 100000 in
set_option maxHeartbeats 4000000 in
theorem holds_cmp (cols : List Co) (cells : List El) (n m : Nat) (t : PT) (a : Option Addr) (c : Nat) (pa : Option Addr) (pc : Nat) (ca : Option Addr) (cc : Nat) (w : World) (hrow : RowOk cols cells)
    (hp : PredIs m w t a pa) (hm : mayP cols (n + 1) t = true) (hr : DeepIs w ca cells) (hG : GlobsM w) (h16 : 8 ≤ w.heap.size) (ho : 1 ≤ t.op ∧ t.op ≤ 5) :
    Calls Tryz.prog 24 #[pv t a c pa pc, .slice ca cells.length cc] w fun e w' => e = .returned (.bool (trueP cells (n + 1) t)) ∧ Below w.heap.size w w' := by
  obtain ⟨k, hk⟩ := LeafOk.of hm (by omega)
  have hk' : k < cells.length := by rw [← hrow.len]; exact hk.lt
  have hcm := hrow.may k hk'
  have hb3 := (box3_below w t a c pa pc ca cells.length cc).drew
  have hr3 := hr.below (box3_below w t a c pa pc ca cells.length cc)
  obtain ⟨b, off, rfl, g0, g1, g2, g3, hda⟩ := hr3.at_ k hk'
  have hdd := hp.da.below hb3
  have hcol := hk.col
  have hda := hda.below (Below.refl (box3 w t a c pa pc (some ⟨b, off, none⟩) cells.length cc).heap.size _).drew
  have HT := Lib.hid (trueP_cmp (n := n) hrow hk ho hk' (hda.good hcm) (hdd.good hk.may))
  have hlt : (k : Int) < (cells.length : Int) := by omega
  have hge : (0 : Int) ≤ (k : Int) := by omega
  have hG3 := hG.below hb3
  have HB3 := Lib.hid hb3
  clear hr hr3 hk hp
  unfold box3 at *
  unfold pv
  generalize cells[k].d = y at *
  generalize cells[k].a = la at *
  generalize cells[k].c = lc at *
  generalize trueP cells (n + 1) t = R at *
  generalize t.op = op at *
  generalize t.col = col at *
  generalize t.d = d at *
  generalize t.parts = ps at *
  subst hcol
  have HY := Lib.hid (pbytes_any y la lc _ hda hG3 (by simp; omega))
  obtain ⟨o1, o5⟩ := ho
  have e10 : (op == 10) = false := beqI_f (by omega)
  have e9 : (op == 9) = false := beqI_f (by omega)
  have e7 : (op == 7) = false := beqI_f (by omega)
  have e8 : (op == 8) = false := beqI_f (by omega)
  have e6 : (op == 6) = false := beqI_f (by omega)
  go_enter Tryz.func24, Tryz.ntmps24
  go_wp2
  refine wp_region_noPanic ?_
  refine wp_region_held_drew (S := (fun w' => w'.cell? ⟨w.heap.size, 0, none⟩ = some (.int .i64 op) ∧ w'.cell? ⟨w.heap.size, 1, none⟩ = some (.int .i64 (k : Int)) ∧ w'.cell? ⟨w.heap.size, 2, none⟩ = some (.int .i64 d.k) ∧ w'.cell? ⟨w.heap.size, 3, none⟩ = some (.int .i64 d.n) ∧ w'.cell? ⟨w.heap.size, 4, none⟩ = some (.string d.s) ∧ w'.cell? ⟨w.heap.size, 5, none⟩ = some (.slice a d.l.length c) ∧ w'.cell? ⟨w.heap.size + 1, 0, none⟩ = some (.slice (some ⟨b, off, none⟩) cells.length cc) ∧ w'.cell? ⟨b, off + k * 4, none⟩ = some (.int .i64 y.k) ∧ w'.cell? ⟨b, off + k * 4 + 1, none⟩ = some (.int .i64 y.n) ∧ w'.cell? ⟨b, off + k * 4 + 2, none⟩ = some (.string y.s) ∧ w'.cell? ⟨b, off + k * 4 + 3, none⟩ = some (.slice la y.l.length lc))) (by kernel_rfl) ⟨by go_simp, by go_simp, by go_simp, by go_simp, by go_simp, by go_simp, by go_simp, g0, g1, g2, g3⟩ (fun hS => ?_)
  refine wpAnyH_take (i := 0) (v := ?_) rfl (by kernel_rfl) (by kernel_rfl) (by kernel_rfl) (fun _ _ _ h => h) (Or.inl ⟨by rfl, ?_⟩) hS ?_
  rotate_left
  · rintro w9 ⟨t0, t1, t2, t3, t4, t5, t6, t7, t8, t9, t10⟩
    go_simp
    try with_reducible rfl
  try simp only [Act.put, List.getElem_toArray, List.getElem_cons_succ, List.getElem_cons_zero, List.setIfInBounds_toArray, List.set_cons_zero, List.set_cons_succ]
  refine wpAnyH_take (i := 1) (v := ?_) rfl (by kernel_rfl) (by kernel_rfl) (by kernel_rfl) (fun _ _ _ h => h) (Or.inl ⟨by rfl, ?_⟩) hS ?_
  rotate_left
  · rintro w9 ⟨t0, t1, t2, t3, t4, t5, t6, t7, t8, t9, t10⟩
    go_simp
    try with_reducible rfl
  try simp only [Act.put, List.getElem_toArray, List.getElem_cons_succ, List.getElem_cons_zero, List.setIfInBounds_toArray, List.set_cons_zero, List.set_cons_succ]
  refine wpAnyH_take (i := 2) (v := ?_) rfl (by kernel_rfl) (by kernel_rfl) (by kernel_rfl) (fun _ _ _ h => h) (Or.inl ⟨by rfl, ?_⟩) hS ?_
  rotate_left
  · rintro w9 ⟨t0, t1, t2, t3, t4, t5, t6, t7, t8, t9, t10⟩
    go_simp
    try with_reducible rfl
  try simp only [Act.put, List.getElem_toArray, List.getElem_cons_succ, List.getElem_cons_zero, List.setIfInBounds_toArray, List.set_cons_zero, List.set_cons_succ]
  refine wpAnyH_take (i := 3) (v := ?_) rfl (by kernel_rfl) (by kernel_rfl) (by kernel_rfl) (fun _ _ _ h => h) (Or.inl ⟨by rfl, ?_⟩) hS ?_
  rotate_left
  · rintro w9 ⟨t0, t1, t2, t3, t4, t5, t6, t7, t8, t9, t10⟩
    go_simp
    try with_reducible rfl
  try simp only [Act.put, List.getElem_toArray, List.getElem_cons_succ, List.getElem_cons_zero, List.setIfInBounds_toArray, List.set_cons_zero, List.set_cons_succ]
  refine wpAnyH_take (i := 4) (v := ?_) rfl (by kernel_rfl) (by kernel_rfl) (by kernel_rfl) (fun _ _ _ h => h) (Or.inl ⟨by rfl, ?_⟩) hS ?_
  rotate_left
  · rintro w9 ⟨t0, t1, t2, t3, t4, t5, t6, t7, t8, t9, t10⟩
    go_simp
    try with_reducible rfl
  try simp only [Act.put, List.getElem_toArray, List.getElem_cons_succ, List.getElem_cons_zero, List.setIfInBounds_toArray, List.set_cons_zero, List.set_cons_succ]
  refine wpAnyH_take (i := 6) (v := ?_) rfl (by kernel_rfl) (by kernel_rfl) (by kernel_rfl) (fun _ _ _ h => h) (Or.inl ⟨by rfl, ?_⟩) hS ?_
  rotate_left
  · rintro w9 ⟨t0, t1, t2, t3, t4, t5, t6, t7, t8, t9, t10⟩
    go_simp
    try with_reducible rfl
  try simp only [Act.put, List.getElem_toArray, List.getElem_cons_succ, List.getElem_cons_zero, List.setIfInBounds_toArray, List.set_cons_zero, List.set_cons_succ]
  refine wpAnyH_take (i := 7) (v := ?_) rfl (by kernel_rfl) (by kernel_rfl) (by kernel_rfl) (fun _ _ _ h => h) (Or.inl ⟨by rfl, ?_⟩) hS ?_
  rotate_left
  · rintro w9 ⟨t0, t1, t2, t3, t4, t5, t6, t7, t8, t9, t10⟩
    go_simp
    try with_reducible rfl
  try simp only [Act.put, List.getElem_toArray, List.getElem_cons_succ, List.getElem_cons_zero, List.setIfInBounds_toArray, List.set_cons_zero, List.set_cons_succ]
  refine wpAnyH_ready (rs := [5]) (by kernel_rfl) (by simp) ?_
  refine AllReadyH.cons rfl (fun K hK => ?_) AllReadyH.nil
  go_simp
  refine HY.out.mono ?_
  rintro e w1 ⟨rfl, hb1⟩
  have hz1 := hb1.size
  simp at hz1
  have hb01 := HB3.out.trans (hb1.mono (by simp; omega))
  have HD := Lib.hid (pbytes_any d a c w1 (hdd.below hb1) (hG3.below hb1) (by omega))
  have hS1 : (fun w' => w'.cell? ⟨w.heap.size, 0, none⟩ = some (.int .i64 op) ∧ w'.cell? ⟨w.heap.size, 1, none⟩ = some (.int .i64 (k : Int)) ∧ w'.cell? ⟨w.heap.size, 2, none⟩ = some (.int .i64 d.k) ∧ w'.cell? ⟨w.heap.size, 3, none⟩ = some (.int .i64 d.n) ∧ w'.cell? ⟨w.heap.size, 4, none⟩ = some (.string d.s) ∧ w'.cell? ⟨w.heap.size, 5, none⟩ = some (.slice a d.l.length c) ∧ w'.cell? ⟨w.heap.size + 1, 0, none⟩ = some (.slice (some ⟨b, off, none⟩) cells.length cc) ∧ w'.cell? ⟨b, off + k * 4, none⟩ = some (.int .i64 y.k) ∧ w'.cell? ⟨b, off + k * 4 + 1, none⟩ = some (.int .i64 y.n) ∧ w'.cell? ⟨b, off + k * 4 + 2, none⟩ = some (.string y.s) ∧ w'.cell? ⟨b, off + k * 4 + 3, none⟩ = some (.slice la y.l.length lc)) w1 := by
    obtain ⟨t0, t1, t2, t3, t4, t5, t6, t7, t8, t9, t10⟩ := hS
    exact ⟨(hb1.cell (World.block_lt_of_cell? _ _ t0)).trans t0, (hb1.cell (World.block_lt_of_cell? _ _ t1)).trans t1, (hb1.cell (World.block_lt_of_cell? _ _ t2)).trans t2, (hb1.cell (World.block_lt_of_cell? _ _ t3)).trans t3, (hb1.cell (World.block_lt_of_cell? _ _ t4)).trans t4, (hb1.cell (World.block_lt_of_cell? _ _ t5)).trans t5, (hb1.cell (World.block_lt_of_cell? _ _ t6)).trans t6, (hb1.cell (World.block_lt_of_cell? _ _ t7)).trans t7, (hb1.cell (World.block_lt_of_cell? _ _ t8)).trans t8, (hb1.cell (World.block_lt_of_cell? _ _ t9)).trans t9, (hb1.cell (World.block_lt_of_cell? _ _ t10)).trans t10⟩
  refine hK.out _ _ hS1 (fun _ => ?_)
  clear hK K
  try simp only [Act.put, List.getElem_toArray, List.getElem_cons_succ, List.getElem_cons_zero, List.setIfInBounds_toArray, List.set_cons_zero, List.set_cons_succ]
  refine wpAnyH_ready (rs := [8]) (by kernel_rfl) (by simp) ?_
  refine AllReadyH.cons rfl (fun K hK => ?_) AllReadyH.nil
  go_simp
  refine HD.out.mono ?_
  rintro e w2 ⟨rfl, hb2⟩
  have hb02 := hb01.trans (hb2.mono (by omega))
  have hS2 : (fun w' => w'.cell? ⟨w.heap.size, 0, none⟩ = some (.int .i64 op) ∧ w'.cell? ⟨w.heap.size, 1, none⟩ = some (.int .i64 (k : Int)) ∧ w'.cell? ⟨w.heap.size, 2, none⟩ = some (.int .i64 d.k) ∧ w'.cell? ⟨w.heap.size, 3, none⟩ = some (.int .i64 d.n) ∧ w'.cell? ⟨w.heap.size, 4, none⟩ = some (.string d.s) ∧ w'.cell? ⟨w.heap.size, 5, none⟩ = some (.slice a d.l.length c) ∧ w'.cell? ⟨w.heap.size + 1, 0, none⟩ = some (.slice (some ⟨b, off, none⟩) cells.length cc) ∧ w'.cell? ⟨b, off + k * 4, none⟩ = some (.int .i64 y.k) ∧ w'.cell? ⟨b, off + k * 4 + 1, none⟩ = some (.int .i64 y.n) ∧ w'.cell? ⟨b, off + k * 4 + 2, none⟩ = some (.string y.s) ∧ w'.cell? ⟨b, off + k * 4 + 3, none⟩ = some (.slice la y.l.length lc)) w2 := by
    obtain ⟨t0, t1, t2, t3, t4, t5, t6, t7, t8, t9, t10⟩ := hS1
    exact ⟨(hb2.cell (World.block_lt_of_cell? _ _ t0)).trans t0, (hb2.cell (World.block_lt_of_cell? _ _ t1)).trans t1, (hb2.cell (World.block_lt_of_cell? _ _ t2)).trans t2, (hb2.cell (World.block_lt_of_cell? _ _ t3)).trans t3, (hb2.cell (World.block_lt_of_cell? _ _ t4)).trans t4, (hb2.cell (World.block_lt_of_cell? _ _ t5)).trans t5, (hb2.cell (World.block_lt_of_cell? _ _ t6)).trans t6, (hb2.cell (World.block_lt_of_cell? _ _ t7)).trans t7, (hb2.cell (World.block_lt_of_cell? _ _ t8)).trans t8, (hb2.cell (World.block_lt_of_cell? _ _ t9)).trans t9, (hb2.cell (World.block_lt_of_cell? _ _ t10)).trans t10⟩
  refine hK.out _ _ hS2 (fun _ => ?_)
  clear hK K
  try simp only [Act.put, List.getElem_toArray, List.getElem_cons_succ, List.getElem_cons_zero, List.setIfInBounds_toArray, List.set_cons_zero, List.set_cons_succ]
  refine wpAnyH_ready (rs := [9]) (by kernel_rfl) (by simp) ?_
  refine AllReadyH.cons rfl (fun K hK => ?_) AllReadyH.nil
  go_simp
  refine (Tryz.strings_Compare (bS y) (bS d) w2).mono ?_
  rintro e w3 ⟨rfl, rfl⟩
  rw [show Lib.compareBytes (bS y).data.toList (bS d).data.toList = cmpB y d from rfl]
  refine hK.out _ _ hS2 (fun _ => ?_)
  clear hK K
  try simp only [Act.put, List.getElem_toArray, List.getElem_cons_succ, List.getElem_cons_zero, List.setIfInBounds_toArray, List.set_cons_zero, List.set_cons_succ]
  refine wpAnyH_take (i := 10) (v := ?_) rfl (by kernel_rfl) (by kernel_rfl) (by kernel_rfl) (fun _ _ _ h => h) (Or.inl ⟨by rfl, ?_⟩) hS2 ?_
  rotate_left
  · rintro w9 ⟨t0, t1, t2, t3, t4, t5, t6, t7, t8, t9, t10⟩
    go_simp
    try with_reducible rfl
  try simp only [Act.put, List.getElem_toArray, List.getElem_cons_succ, List.getElem_cons_zero, List.setIfInBounds_toArray, List.set_cons_zero, List.set_cons_succ]
  refine wpAnyH_done (by kernel_rfl) ?_ _
  refine NoPanic.normal ?_
  obtain ⟨d0, -⟩ := hS2
  generalize cmpB y d = N at *
  by_cases h1 : op = 1
  · subst h1
    go_wp2
    go_ret
    exact ⟨ret_bool HT.out.symm, hb02⟩
  · by_cases h2 : op = 2
    · subst h2
      go_wp2
      go_ret
      exact ⟨ret_bool HT.out.symm, hb02⟩
    · by_cases h3 : op = 3
      · subst h3
        go_wp2
        go_ret
        exact ⟨ret_bool HT.out.symm, hb02⟩
      · by_cases h4 : op = 4
        · subst h4
          go_wp2
          go_ret
          exact ⟨ret_bool HT.out.symm, hb02⟩
        · obtain rfl : op = 5 := by omega
          go_wp2
          go_ret
          exact ⟨ret_bool HT.out.symm, hb02⟩
end Go.Proofs.YtdjlbfepddcmeaaGreatDoor
