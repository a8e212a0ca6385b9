/- A predicate's text: the reference's; its Print. -/
import Derived.Test.YtdjlbfepddcmeaaGreatDoorQ28
set_option linter.unusedVariables false
set_option linter.unusedSimpArgs false
namespace Go.Proofs.YtdjlbfepddcmeaaGreatDoor
open Go.RowKit

/-- The reference's text, so deep: whole, or cut off where it is too long. -/
def RTextOK (cols : List Co) (n : Nat) : Prop :=
  ∀ (m : Nat) (t : PT) (a : Option Addr) (c : Nat) (pa : Option Addr) (pc : Nat) (ac : Option Addr) (cc : Nat) (w : World), PredIs m w t a pa → mayP cols n t = true → ColIs w ac cols → Globs w →
    Calls Tryz.prog 37 #[pv t a c pa pc, .slice ac cols.length cc] w fun e w' => ∃ r : ByteArray, e = .returned (.string r) ∧ WR [] (textP cols n t) r.data.toList ∧ r.size ≤ 1000 + 1100 * n ∧ Below w.heap.size w w'

def RT (w : World) (T : List UInt8) (N : Nat) (e : Ending) (w' : World) : Prop := ∃ r : ByteArray, e = .returned (.string r) ∧ WR [] T r.data.toList ∧ r.size ≤ N ∧ Below w.heap.size w w'

def preR (cols : List Co) (n : Nat) (W : ByteArray) (ps : List PT) (k : Nat) : List UInt8 := [40] ++ Lib.join ((ps.take k).map (textP cols n)) W.data.toList
theorem preR_succ (cols : List Co) (n : Nat) (W : ByteArray) (ps : List PT) (k : Nat) (h : k < ps.length) : preR cols n W ps (k + 1) = preR cols n W ps k ++ ((if k = 0 then [] else W.data.toList) ++ textP cols n ps[k]) := by
  unfold preR
  rw [List.take_succ_eq_append_getElem h, List.map_append, List.map_cons, List.map_nil, join_snoc]
  by_cases h0 : k = 0
  · subst h0; simp [Lib.join_nil]
  · rw [if_neg h0, if_neg]
    · simp
    · intro e
      have e2 : ps.take k = [] := by simpa using e
      have := congrArg List.length e2
      rw [List.length_take, List.length_nil] at this
      omega
theorem preR_le (cols : List Co) (n : Nat) (W : ByteArray) (ps : List PT) (k : Nat) : ∀ j, k + j ≤ ps.length → (preR cols n W ps k).length ≤ (preR cols n W ps (k + j)).length
  | 0, _ => Nat.le_refl _
  | j + 1, h => by
    have := preR_le cols n W ps k j (by omega)
    rw [← Nat.add_assoc, preR_succ cols n W ps (k + j) (by omega)]
    simp only [List.length_append]
    omega
theorem preR_all (cols : List Co) (n : Nat) (W : ByteArray) (ps : List PT) : preR cols n W ps ps.length = [40] ++ Lib.join (ps.map (textP cols n)) W.data.toList := by
  unfold preR; rw [List.take_length]
theorem WR.behind {l t r : List UInt8} (h : WR [] t r) : WR l t (l ++ r) := by
  rcases h with h | ⟨h1, h2⟩
  · exact .inl (by rw [h]; simp)
  · exact .inr ⟨by simp; omega, by simp at h2; simp; omega⟩
theorem WR.cut {cols : List Co} {n : Nat} {W : ByteArray} {ps : List PT} {k : Nat} {r : List UInt8} (h : WR [] (preR cols n W ps k) r) (hl : 1024 < r.length) (hk : k ≤ ps.length) : WR [] (preR cols n W ps ps.length ++ [41]) (r ++ [41]) := by
  refine .inr ⟨by simp; omega, ?_⟩
  have := preR_le cols n W ps k (ps.length - k) (by omega)
  rw [show k + (ps.length - k) = ps.length by omega] at this
  rcases h with rfl | ⟨_, h2⟩
  · simp at hl ⊢; omega
  · simp at h2 ⊢; omega

theorem rtext_true (cols : List Co) (n : Nat) (t : PT) (a : Option Addr) (c : Nat) (pa : Option Addr) (pc : Nat) (ac : Option Addr) (cc : Nat) (w : World) (ho : t.op = 10) :
    Calls Tryz.prog 37 #[pv t a c pa pc, .slice ac cols.length cc] w (RT w (textP cols (n + 1) t) (1000 + 1100 * (n + 1))) := by
  have HTX := Lib.hid (show textP cols (n + 1) t = [116, 114, 117, 101] by rw [textP, if_pos ho])
  have hb0 : Below w.heap.size w (w.alloc (pbox t a c pa pc)) := by go_grown
  generalize textP cols (n + 1) t = TX at *
  unfold pbox at hb0
  unfold pv
  generalize t.op = op at *
  generalize t.col = col at *
  generalize t.d = d at *
  generalize t.parts = ps at *
  subst ho
  go_enter Tryz.func37, Tryz.ntmps37
  go_wp2
  go_ret
  exact ⟨⟨#[116, 114, 117, 101]⟩, rfl, .inl (by rw [HTX.out]; rfl), by have : (⟨#[116, 114, 117, 101]⟩ : ByteArray).size = 4 := rfl; omega, hb0⟩

set_option maxRecDepth 100000 in
set_option maxHeartbeats 4000000 in
theorem rtext_leaf (cols : List Co) (n m : Nat) (t : PT) (a : Option Addr) (c : Nat) (pa : Option Addr) (pc : Nat) (ac : Option Addr) (cc : Nat) (w : World) (hcols : colsB cols = true)
    (hp : PredIs m w t a pa) (hm : mayP cols (n + 1) t = true) (hr : ColIs w ac cols) (hG : Globs w) (hop : 1 ≤ t.op ∧ t.op ≤ 6) :
    Calls Tryz.prog 37 #[pv t a c pa pc, .slice ac cols.length cc] w (RT w (textP cols (n + 1) t) (1000 + 1100 * (n + 1))) := by
  obtain ⟨k, hcol, hklt, hdm, -⟩ := LeafOk.of hm hop
  have hb1 : Below w.heap.size w (w.alloc (pbox t a c pa pc)).drew := (by go_grown : Below w.heap.size w (w.alloc (pbox t a c pa pc))).drew
  have hgood := hp.da.good hdm
  have hts : (⟨t.d.text.toArray⟩ : ByteArray).size ≤ 800 := by rw [ba_size]; exact text_len hgood
  have htd : (⟨t.d.text.toArray⟩ : ByteArray).data.toList = t.d.text := by simp
  have HP := Lib.hid (fun W (hW : Below w.heap.size w W) => rText_any t.d a c W hdm (hp.da.below hW) (hG.below hW))
  generalize hT : (⟨t.d.text.toArray⟩ : ByteArray) = T at *
  obtain ⟨hnm, hns⟩ := name_len hcols k hklt
  have HTX := Lib.hid ((textP_leaf (cols := cols) (n := n) hop).trans (by rw [nameAt_eq cols t.col k hcol hklt]))
  obtain ⟨cb, co, rfl, g0, _, _, _⟩ := hr.at_ k hklt
  have hgc := (hb1.cell (World.block_lt_of_cell? _ _ g0)).trans g0
  have hkl : (k : Int) < (cols.length : Int) := by omega
  have hkg : (0 : Int) ≤ (k : Int) := by omega
  have hss := signB_size t.op
  have hsd : (signB t.op).data.toList = signL t.op := by simp [signB]
  have HSG := Lib.hid (rsign_any t.op hop)
  have hx := PBx.new w t a c pa pc
  have hx' : PBx (w.alloc (pbox t a c pa pc)).drew w.heap.size t a c pa pc := ⟨hx.c0, hx.c1, hx.c2, hx.c3, hx.c4, hx.c5, hx.c6⟩
  obtain ⟨x0, x1, x2, x3, x4, x5, x6⟩ := hx'
  have HB1 := Lib.hid hb1
  clear hp hm hb1 hr hgood hnm hx g0
  generalize cols[k].name = nm at *
  have HTD := Lib.hid (And.intro htd hsd)
  clear htd hsd hT
  generalize hsg : signB t.op = sg at *
  have HSGE := Lib.hid hsg
  clear hsg
  unfold pbox at *
  unfold pv
  generalize textP cols (n + 1) t = TX at *
  generalize t.d.text = TXT at *
  have e10 : (t.op == 10) = false := beqI_f (by omega)
  have e9 : (t.op == 9) = false := beqI_f (by omega)
  have e7 : (t.op == 7) = false := beqI_f (by omega)
  have e8 : (t.op == 8) = false := beqI_f (by omega)
  generalize t.op = op at *
  generalize t.col = col at *
  generalize t.d = d at *
  generalize t.parts = ps at *
  subst hcol
  have c1 : ¬ 9223372036854775807 < nm.size + 1 := by omega
  have c2 : ¬ 9223372036854775807 < nm.size + 1 + sg.size := by omega
  have c3 : ¬ 9223372036854775807 < nm.size + 1 + sg.size + 1 := by omega
  have c4 : ¬ 9223372036854775807 < nm.size + 1 + sg.size + 1 + T.size := by omega
  go_enter Tryz.func37, Tryz.ntmps37
  go_wp2
  refine wp_region_noPanic ?_
  refine wp_region_held_drew (S := (fun w' => w'.cell? ⟨w.heap.size, 0, none⟩ = some (.int .i64 op) ∧ w'.cell? ⟨w.heap.size, 1, none⟩ = some (.int .i64 (k : Int)) ∧ w'.cell? ⟨w.heap.size, 2, none⟩ = some (.int .i64 d.k) ∧ w'.cell? ⟨w.heap.size, 3, none⟩ = some (.int .i64 d.n) ∧ w'.cell? ⟨w.heap.size, 4, none⟩ = some (.string d.s) ∧ w'.cell? ⟨w.heap.size, 5, none⟩ = some (.slice a d.l.length c) ∧ w'.cell? ⟨cb, co + k * 2, none⟩ = some (.string nm))) (by kernel_rfl) ⟨x0, x1, x2, x3, x4, x5, hgc⟩ (fun hS => ?_)
  refine wpAnyH_take (i := 0) (v := ?_) rfl (by kernel_rfl) (by kernel_rfl) (by kernel_rfl) (fun _ _ _ h => h) (Or.inl ⟨by rfl, ?_⟩) hS ?_
  rotate_left
  · rintro w9 ⟨t0, t1, t2, t3, t4, t5, t6⟩
    go_simp
    try with_reducible rfl
  try simp only [Act.put, List.getElem_toArray, List.getElem_cons_succ, List.getElem_cons_zero, List.setIfInBounds_toArray, List.set_cons_zero, List.set_cons_succ]
  refine wpAnyH_take (i := 1) (v := ?_) rfl (by kernel_rfl) (by kernel_rfl) (by kernel_rfl) (fun _ _ _ h => h) (Or.inl ⟨by rfl, ?_⟩) hS ?_
  rotate_left
  · rintro w9 ⟨t0, t1, t2, t3, t4, t5, t6⟩
    go_simp
    try with_reducible rfl
  try simp only [Act.put, List.getElem_toArray, List.getElem_cons_succ, List.getElem_cons_zero, List.setIfInBounds_toArray, List.set_cons_zero, List.set_cons_succ]
  refine wpAnyH_take (i := 2) (v := ?_) rfl (by kernel_rfl) (by kernel_rfl) (by kernel_rfl) (fun _ _ _ h => h) (Or.inl ⟨by rfl, ?_⟩) hS ?_
  rotate_left
  · rintro w9 ⟨t0, t1, t2, t3, t4, t5, t6⟩
    go_simp
    try with_reducible rfl
  try simp only [Act.put, List.getElem_toArray, List.getElem_cons_succ, List.getElem_cons_zero, List.setIfInBounds_toArray, List.set_cons_zero, List.set_cons_succ]
  refine wpAnyH_take (i := 3) (v := ?_) rfl (by kernel_rfl) (by kernel_rfl) (by kernel_rfl) (fun _ _ _ h => h) (Or.inl ⟨by rfl, ?_⟩) hS ?_
  rotate_left
  · rintro w9 ⟨t0, t1, t2, t3, t4, t5, t6⟩
    go_simp
    try with_reducible rfl
  try simp only [Act.put, List.getElem_toArray, List.getElem_cons_succ, List.getElem_cons_zero, List.setIfInBounds_toArray, List.set_cons_zero, List.set_cons_succ]
  refine wpAnyH_take (i := 4) (v := ?_) rfl (by kernel_rfl) (by kernel_rfl) (by kernel_rfl) (fun _ _ _ h => h) (Or.inl ⟨by rfl, ?_⟩) hS ?_
  rotate_left
  · rintro w9 ⟨t0, t1, t2, t3, t4, t5, t6⟩
    go_simp
    try with_reducible rfl
  try simp only [Act.put, List.getElem_toArray, List.getElem_cons_succ, List.getElem_cons_zero, List.setIfInBounds_toArray, List.set_cons_zero, List.set_cons_succ]
  refine wpAnyH_take (i := 5) (v := ?_) rfl (by kernel_rfl) (by kernel_rfl) (by kernel_rfl) (fun _ _ _ h => h) (Or.inl ⟨by rfl, ?_⟩) hS ?_
  rotate_left
  · rintro w9 ⟨t0, t1, t2, t3, t4, t5, t6⟩
    go_simp
    try with_reducible rfl
  try simp only [Act.put, List.getElem_toArray, List.getElem_cons_succ, List.getElem_cons_zero, List.setIfInBounds_toArray, List.set_cons_zero, List.set_cons_succ]
  refine wpAnyH_take (i := 6) (v := ?_) rfl (by kernel_rfl) (by kernel_rfl) (by kernel_rfl) (fun _ _ _ h => h) (Or.inl ⟨by rfl, ?_⟩) hS ?_
  rotate_left
  · rintro w9 ⟨t0, t1, t2, t3, t4, t5, t6⟩
    go_simp
    try with_reducible rfl
  try simp only [Act.put, List.getElem_toArray, List.getElem_cons_succ, List.getElem_cons_zero, List.setIfInBounds_toArray, List.set_cons_zero, List.set_cons_succ]
  refine wpAnyH_take (i := 7) (v := ?_) rfl (by kernel_rfl) (by kernel_rfl) (by kernel_rfl) (fun _ _ _ h => h) (Or.inl ⟨by rfl, ?_⟩) hS ?_
  rotate_left
  · rintro w9 ⟨t0, t1, t2, t3, t4, t5, t6⟩
    go_simp
    try with_reducible rfl
  try simp only [Act.put, List.getElem_toArray, List.getElem_cons_succ, List.getElem_cons_zero, List.setIfInBounds_toArray, List.set_cons_zero, List.set_cons_succ]
  refine wpAnyH_take (i := 8) (v := ?_) rfl (by kernel_rfl) (by kernel_rfl) (by kernel_rfl) (fun _ _ _ h => h) (Or.inl ⟨by rfl, ?_⟩) hS ?_
  rotate_left
  · rintro w9 ⟨t0, t1, t2, t3, t4, t5, t6⟩
    go_simp
    try with_reducible rfl
  try simp only [Act.put, List.getElem_toArray, List.getElem_cons_succ, List.getElem_cons_zero, List.setIfInBounds_toArray, List.set_cons_zero, List.set_cons_succ]
  refine wpAnyH_take (i := 12) (v := ?_) rfl (by kernel_rfl) (by kernel_rfl) (by kernel_rfl) (fun _ _ _ h => h) (Or.inl ⟨by rfl, ?_⟩) hS ?_
  rotate_left
  · rintro w9 ⟨t0, t1, t2, t3, t4, t5, t6⟩
    go_simp
    try with_reducible rfl
  try simp only [Act.put, List.getElem_toArray, List.getElem_cons_succ, List.getElem_cons_zero, List.setIfInBounds_toArray, List.set_cons_zero, List.set_cons_succ]
  refine wpAnyH_take (i := 13) (v := ?_) rfl (by kernel_rfl) (by kernel_rfl) (by kernel_rfl) (fun _ _ _ h => h) (Or.inl ⟨by rfl, ?_⟩) hS ?_
  rotate_left
  · rintro w9 ⟨t0, t1, t2, t3, t4, t5, t6⟩
    go_simp
    try with_reducible rfl
  try simp only [Act.put, List.getElem_toArray, List.getElem_cons_succ, List.getElem_cons_zero, List.setIfInBounds_toArray, List.set_cons_zero, List.set_cons_succ]
  refine wpAnyH_ready (rs := [9]) (by kernel_rfl) (by simp) ?_
  refine AllReadyH.cons rfl (fun K hK => ?_) AllReadyH.nil
  go_simp
  refine (HSG.out _).mono ?_
  rintro e w2 ⟨rfl, hb2⟩
  have hb02 := HB1.out.trans (hb2.mono (by simp))
  have hS2 : (fun w' => w'.cell? ⟨w.heap.size, 0, none⟩ = some (.int .i64 op) ∧ w'.cell? ⟨w.heap.size, 1, none⟩ = some (.int .i64 (k : Int)) ∧ w'.cell? ⟨w.heap.size, 2, none⟩ = some (.int .i64 d.k) ∧ w'.cell? ⟨w.heap.size, 3, none⟩ = some (.int .i64 d.n) ∧ w'.cell? ⟨w.heap.size, 4, none⟩ = some (.string d.s) ∧ w'.cell? ⟨w.heap.size, 5, none⟩ = some (.slice a d.l.length c) ∧ w'.cell? ⟨cb, co + k * 2, none⟩ = some (.string nm)) w2 := by
    obtain ⟨t0, t1, t2, t3, t4, t5, t6⟩ := hS
    exact ⟨(hb2.cell (World.block_lt_of_cell? _ _ t0)).trans t0, (hb2.cell (World.block_lt_of_cell? _ _ t1)).trans t1, (hb2.cell (World.block_lt_of_cell? _ _ t2)).trans t2, (hb2.cell (World.block_lt_of_cell? _ _ t3)).trans t3, (hb2.cell (World.block_lt_of_cell? _ _ t4)).trans t4, (hb2.cell (World.block_lt_of_cell? _ _ t5)).trans t5, (hb2.cell (World.block_lt_of_cell? _ _ t6)).trans t6⟩
  refine hK.out _ _ hS2 (fun _ => ?_)
  clear hK K
  try simp only [Act.put, List.getElem_toArray, List.getElem_cons_succ, List.getElem_cons_zero, List.setIfInBounds_toArray, List.set_cons_zero, List.set_cons_succ]
  refine wpAnyH_take (i := 10) (v := ?_) rfl (by kernel_rfl) (by kernel_rfl) (by kernel_rfl) (fun _ _ _ h => h) (Or.inl ⟨by rfl, ?_⟩) hS2 ?_
  rotate_left
  · rintro w9 ⟨t0, t1, t2, t3, t4, t5, t6⟩
    go_simp
    try with_reducible rfl
  try simp only [Act.put, List.getElem_toArray, List.getElem_cons_succ, List.getElem_cons_zero, List.setIfInBounds_toArray, List.set_cons_zero, List.set_cons_succ]
  refine wpAnyH_take (i := 11) (v := ?_) rfl (by kernel_rfl) (by kernel_rfl) (by kernel_rfl) (fun _ _ _ h => h) (Or.inl ⟨by rfl, ?_⟩) hS2 ?_
  rotate_left
  · rintro w9 ⟨t0, t1, t2, t3, t4, t5, t6⟩
    go_simp
    try with_reducible rfl
  try simp only [Act.put, List.getElem_toArray, List.getElem_cons_succ, List.getElem_cons_zero, List.setIfInBounds_toArray, List.set_cons_zero, List.set_cons_succ]
  refine wpAnyH_ready (rs := [14]) (by kernel_rfl) (by simp) ?_
  refine AllReadyH.cons rfl (fun K hK => ?_) AllReadyH.nil
  go_simp
  refine (HP.out w2 hb02).mono ?_
  rintro e w3 ⟨rfl, hb3⟩
  have hS3 : (fun w' => w'.cell? ⟨w.heap.size, 0, none⟩ = some (.int .i64 op) ∧ w'.cell? ⟨w.heap.size, 1, none⟩ = some (.int .i64 (k : Int)) ∧ w'.cell? ⟨w.heap.size, 2, none⟩ = some (.int .i64 d.k) ∧ w'.cell? ⟨w.heap.size, 3, none⟩ = some (.int .i64 d.n) ∧ w'.cell? ⟨w.heap.size, 4, none⟩ = some (.string d.s) ∧ w'.cell? ⟨w.heap.size, 5, none⟩ = some (.slice a d.l.length c) ∧ w'.cell? ⟨cb, co + k * 2, none⟩ = some (.string nm)) w3 := by
    obtain ⟨t0, t1, t2, t3, t4, t5, t6⟩ := hS2
    exact ⟨(hb3.cell (World.block_lt_of_cell? _ _ t0)).trans t0, (hb3.cell (World.block_lt_of_cell? _ _ t1)).trans t1, (hb3.cell (World.block_lt_of_cell? _ _ t2)).trans t2, (hb3.cell (World.block_lt_of_cell? _ _ t3)).trans t3, (hb3.cell (World.block_lt_of_cell? _ _ t4)).trans t4, (hb3.cell (World.block_lt_of_cell? _ _ t5)).trans t5, (hb3.cell (World.block_lt_of_cell? _ _ t6)).trans t6⟩
  refine hK.out _ _ hS3 (fun _ => ?_)
  clear hK K
  try simp only [Act.put, List.getElem_toArray, List.getElem_cons_succ, List.getElem_cons_zero, List.setIfInBounds_toArray, List.set_cons_zero, List.set_cons_succ]
  refine wpAnyH_take (i := 15) (v := ?_) rfl (by kernel_rfl) (by kernel_rfl) (by kernel_rfl) (fun _ _ _ h => h) (Or.inl ⟨by rfl, ?_⟩) hS3 ?_
  rotate_left
  · rintro w9 ⟨t0, t1, t2, t3, t4, t5, t6⟩
    go_simp
    try with_reducible rfl
  try simp only [Act.put, List.getElem_toArray, List.getElem_cons_succ, List.getElem_cons_zero, List.setIfInBounds_toArray, List.set_cons_zero, List.set_cons_succ]
  refine wpAnyH_take (i := 16) (v := ?_) rfl (by kernel_rfl) (by kernel_rfl) (by kernel_rfl) (fun _ _ _ h => h) (Or.inl ⟨by rfl, ?_⟩) hS3 ?_
  rotate_left
  · rintro w9 ⟨t0, t1, t2, t3, t4, t5, t6⟩
    go_simp
    try with_reducible rfl
  try simp only [Act.put, List.getElem_toArray, List.getElem_cons_succ, List.getElem_cons_zero, List.setIfInBounds_toArray, List.set_cons_zero, List.set_cons_succ]
  refine wpAnyH_done (by kernel_rfl) ?_ _
  refine NoPanic.normal ?_
  go_wp2
  go_ret
  refine ⟨nm ++ ⟨#[32]⟩ ++ sg ++ ⟨#[32]⟩ ++ T, rfl, .inl ?_, ?_, hb02.trans (hb3.mono hb02.size)⟩
  · rw [HTX.out, ← HTD.out.1, ← HTD.out.2]
    simp
  · have z1 : (⟨#[32]⟩ : ByteArray).size = 1 := rfl
    simp
    omega

set_option maxRecDepth 100000 in
set_option maxHeartbeats 4000000 in
theorem rtext_not (cols : List Co) (n m : Nat) (t : PT) (a : Option Addr) (c : Nat) (pa : Option Addr) (pc : Nat) (ac : Option Addr) (cc : Nat) (w : World) (hok : RTextOK cols n)
    (hp : PredIs m w t a pa) (hall : t.parts.all (mayP cols n) = true) (hr : ColIs w ac cols) (hG : Globs w) (hn : n < 8) (ho : t.op = 9) (h1 : t.parts.length = 1) :
    Calls Tryz.prog 37 #[pv t a c pa pc, .slice ac cols.length cc] w (RT w (textP cols (n + 1) t) (1000 + 1100 * (n + 1))) := by
  obtain ⟨m, rfl⟩ : ∃ k, m = k + 1 := by
    cases m with
    | zero => exact hp.elim
    | succ k => exact ⟨k, rfl⟩
  have hb0 : Below w.heap.size w (w.alloc (pbox t a c pa pc)) := by go_grown
  obtain ⟨x, hx⟩ : ∃ x, t.parts = [x] := List.length_eq_one_iff.1 h1
  have HTX := Lib.hid (show textP cols (n + 1) t = [110, 111, 116, 32] ++ textP cols n x by rw [textP, if_neg (by omega), if_pos ho, hx])
  have hps := hp.parts.below hb0
  rw [hx] at hps hall
  have hmx : mayP cols n x = true := by simpa using hall
  obtain ⟨rb, ro, rfl, a', c', pa', pc', hcell, hpi⟩ := hps.at_ 0 (by simp)
  simp only [List.getElem_cons_zero, Nat.zero_mul, Nat.add_zero] at hcell hpi
  have HK := Lib.hid (hok m x a' c' pa' pc' ac cc _ hpi hmx (hr.below hb0) (hG.below hb0))
  obtain ⟨g0, g1, g2, g3, g4, g5, g6⟩ := hcell
  clear hp hps hall hok hpi hmx
  generalize textP cols (n + 1) t = TX at *
  unfold pbox at *
  unfold pv at *
  rw [h1] at *
  generalize t.op = op at *
  generalize t.col = col at *
  generalize t.d = d at *
  subst ho
  go_enter Tryz.func37, Tryz.ntmps37
  go_wp2_with fail
  refine HK.out.mono ?_
  rintro e w3 ⟨r, rfl, hr3, hs3, hb3⟩
  have c1 : ¬ 9223372036854775807 < 4 + r.size := by omega
  have HR3 := Lib.hid hr3
  clear hr3
  go_wp2
  go_ret
  refine ⟨⟨#[110, 111, 116, 32]⟩ ++ r, rfl, ?_, ?_, hb0.trans (hb3.mono (by simp))⟩
  · rw [HTX.out, ByteArray.data_append, Array.toList_append]
    exact (WR.whole [] [110, 111, 116, 32]).trans (WR.behind HR3.out)
  · have z1 : (⟨#[110, 111, 116, 32]⟩ : ByteArray).size = 4 := rfl
    simp
    omega

set_option maxRecDepth 100000 in
set_option maxHeartbeats 4000000 in
theorem rtext_and (cols : List Co) (n m : Nat) (t : PT) (a : Option Addr) (c : Nat) (pa : Option Addr) (pc : Nat) (ac : Option Addr) (cc : Nat) (w : World) (hok : RTextOK cols n)
    (hp : PredIs m w t a pa) (hall : t.parts.all (mayP cols n) = true) (hr : ColIs w ac cols) (hG : Globs w) (hn : n < 8) (ho : t.op = 7) :
    Calls Tryz.prog 37 #[pv t a c pa pc, .slice ac cols.length cc] w (RT w (textP cols (n + 1) t) (1000 + 1100 * (n + 1))) := by
  obtain ⟨m, rfl⟩ : ∃ k, m = k + 1 := by
    cases m with
    | zero => exact hp.elim
    | succ k => exact ⟨k, rfl⟩
  have hb0 : Below w.heap.size w (w.alloc (pbox t a c pa pc)) := by go_grown
  have HTX := Lib.hid (show textP cols (n + 1) t = preR cols n ⟨#[32, 97, 110, 100, 32]⟩ t.parts t.parts.length ++ [41] by rw [preR_all, textP, if_neg (by omega), if_neg (by omega), if_pos ho])
  have hps := hp.parts
  have hplen := hp.len
  have x6 := (PBx.new w t a c pa pc).c6
  clear hp
  generalize textP cols (n + 1) t = TX at *
  unfold pbox at *
  unfold pv at *
  generalize t.op = op at *
  generalize t.col = col at *
  generalize t.d = d at *
  generalize t.parts = ps at *
  subst ho
  have z40 : (⟨#[40]⟩ : ByteArray).size = 1 := rfl
  have z41 : (⟨#[41]⟩ : ByteArray).size = 1 := rfl
  have zw : (⟨#[32, 97, 110, 100, 32]⟩ : ByteArray).size = 5 := rfl
  have Z := Lib.hid (And.intro z40 (And.intro z41 zw))
  clear z40 z41 zw
  go_enter Tryz.func37, Tryz.ntmps37
  go_wp2
  go_loopw [6, 7] (fun u i wr => ∃ (k : Nat) (s : ByteArray), k ≤ ps.length ∧ i = .int .i64 k ∧ u = .string s ∧ WR [] (preR cols n ⟨#[32, 97, 110, 100, 32]⟩ ps k) s.data.toList ∧ s.size ≤ 2050 + 1100 * n ∧ Below w.heap.size w wr ∧ wr.cell? ⟨w.heap.size, 6, none⟩ = some (.slice pa ps.length pc) ∧ w.heap.size < wr.heap.size) (fun _ i _ => ps.length - (intOf i).toNat)
  case atStart => exact ⟨0, ⟨#[40]⟩, Nat.zero_le _, rfl, rfl, .inl (by simp [preR, Lib.join_nil]), by have := Z.out.1; omega, hb0, x6, by simp⟩
  case round =>
    clear x6 hb0
    obtain ⟨k, s, hk, rfl, rfl, hwr, hs, hb, hc6, hz⟩ := hrel
    have HWR := Lib.hid hwr
    clear hwr
    have hsd : s.data.toList.length = s.size := by simp
    have HSD := Lib.hid hsd
    clear hsd
    have c9 : ¬ 9223372036854775807 < s.size + 1 := by omega
    by_cases hlt : k < ps.length
    · by_cases h1024 : s.size ≤ 1024
      · have e1 : decide ((s.size : Int) ≤ 1024) = true := by rw [decide_eq_true_iff]; omega
        obtain ⟨rb, ro, rfl, a', c', pa', pc', hcell, hpi⟩ := (hps.below hb).at_ k hlt
        have hmx := List.all_eq_true.1 hall ps[k] (List.getElem_mem hlt)
        have HPS := Lib.hid (preR_succ cols n ⟨#[32, 97, 110, 100, 32]⟩ ps k hlt)
        have HK := Lib.hid (hok m ps[k] a' c' pa' pc' ac cc wr hpi hmx (hr.below hb) (hG.below hb))
        clear hpi hmx
        generalize ps[k] = x at *
        obtain ⟨g0, g1, g2, g3, g4, g5, g6⟩ := hcell
        by_cases hk0 : k = 0
        · have HK0 := Lib.hid hk0
          have e0 : decide ((0 : Int) < (k : Int)) = false := by rw [decide_eq_false_iff_not]; omega
          have e0' : ¬ (0 < k) := by omega
          clear hk0
          go_wp2_with fail
          refine HK.out.mono ?_
          rintro e w3 ⟨r, rfl, hr3, hs3, hb3⟩
          have HR3 := Lib.hid hr3
          have HB3 := Lib.hid hb3
          have hc63 := (hb3.cell (p := ⟨w.heap.size, 6, none⟩) hz).trans hc6
          have hz3 := hb3.size
          have c1 : ¬ 9223372036854775807 < s.size + r.size := by omega
          clear hr3 hb3 g0 g1 g2 g3 g4 g5 g6
          go_wp2
          go_roundw
          case rel => exact ⟨k + 1, s ++ r, by omega, by go_num, rfl, by
            rw [HPS.out, if_pos HK0.out, ByteArray.data_append, Array.toList_append]
            exact HWR.out.trans (WR.behind HR3.out), by simp; omega, hb.trans (HB3.out.mono hb.size), hc63, by omega⟩
          case measure => simp [intOf]; omega
        · have HK0 := Lib.hid hk0
          have e0 : decide ((0 : Int) < (k : Int)) = true := by rw [decide_eq_true_iff]; omega
          have e0' : 0 < k := by omega
          have cw : ¬ 9223372036854775807 < s.size + 5 := by omega
          clear hk0
          go_wp2_with fail
          refine HK.out.mono ?_
          rintro e w3 ⟨r, rfl, hr3, hs3, hb3⟩
          have HR3 := Lib.hid hr3
          have HB3 := Lib.hid hb3
          have hc63 := (hb3.cell (p := ⟨w.heap.size, 6, none⟩) hz).trans hc6
          have hz3 := hb3.size
          have c1 : ¬ 9223372036854775807 < s.size + 5 + r.size := by omega
          clear hr3 hb3 g0 g1 g2 g3 g4 g5 g6
          go_wp2
          go_roundw
          case rel => exact ⟨k + 1, s ++ ⟨#[32, 97, 110, 100, 32]⟩ ++ r, by omega, by go_num, rfl, by
            rw [HPS.out, if_neg HK0.out, ByteArray.data_append, Array.toList_append, ByteArray.data_append, Array.toList_append]
            exact HWR.out.trans ((WR.whole _ _).trans (WR.behind HR3.out)), by have := Z.out.2.2; simp; omega, hb.trans (HB3.out.mono hb.size), hc63, by omega⟩
          case measure => simp [intOf]; omega
      · have e1 : decide ((s.size : Int) ≤ 1024) = false := by rw [decide_eq_false_iff_not]; omega
        go_wp2
        go_ret
        refine ⟨s ++ ⟨#[41]⟩, rfl, ?_, ?_, hb⟩
        · rw [HTX.out, ByteArray.data_append, Array.toList_append]
          exact HWR.out.cut (by rw [HSD.out]; omega) hk
        · have := Z.out.2.1
          simp
          omega
    · obtain rfl : k = ps.length := by omega
      go_wp2
      go_ret
      refine ⟨s ++ ⟨#[41]⟩, rfl, ?_, ?_, hb⟩
      · rw [HTX.out, ByteArray.data_append, Array.toList_append]
        exact HWR.out.trans (WR.whole _ [41])
      · have := Z.out.2.1
        simp
        omega

set_option maxRecDepth 100000 in
set_option maxHeartbeats 4000000 in
theorem rtext_or (cols : List Co) (n m : Nat) (t : PT) (a : Option Addr) (c : Nat) (pa : Option Addr) (pc : Nat) (ac : Option Addr) (cc : Nat) (w : World) (hok : RTextOK cols n)
    (hp : PredIs m w t a pa) (hall : t.parts.all (mayP cols n) = true) (hr : ColIs w ac cols) (hG : Globs w) (hn : n < 8) (ho : t.op = 8) :
    Calls Tryz.prog 37 #[pv t a c pa pc, .slice ac cols.length cc] w (RT w (textP cols (n + 1) t) (1000 + 1100 * (n + 1))) := by
  obtain ⟨m, rfl⟩ : ∃ k, m = k + 1 := by
    cases m with
    | zero => exact hp.elim
    | succ k => exact ⟨k, rfl⟩
  have hb0 : Below w.heap.size w (w.alloc (pbox t a c pa pc)) := by go_grown
  have HTX := Lib.hid (show textP cols (n + 1) t = preR cols n ⟨#[32, 111, 114, 32]⟩ t.parts t.parts.length ++ [41] by rw [preR_all, textP, if_neg (by omega), if_neg (by omega), if_neg (by omega), if_pos ho])
  have hps := hp.parts
  have hplen := hp.len
  have x6 := (PBx.new w t a c pa pc).c6
  clear hp
  generalize textP cols (n + 1) t = TX at *
  unfold pbox at *
  unfold pv at *
  generalize t.op = op at *
  generalize t.col = col at *
  generalize t.d = d at *
  generalize t.parts = ps at *
  subst ho
  have z40 : (⟨#[40]⟩ : ByteArray).size = 1 := rfl
  have z41 : (⟨#[41]⟩ : ByteArray).size = 1 := rfl
  have zw : (⟨#[32, 111, 114, 32]⟩ : ByteArray).size = 4 := rfl
  have Z := Lib.hid (And.intro z40 (And.intro z41 zw))
  clear z40 z41 zw
  go_enter Tryz.func37, Tryz.ntmps37
  go_wp2
  go_loopw [6, 7] (fun u i wr => ∃ (k : Nat) (s : ByteArray), k ≤ ps.length ∧ i = .int .i64 k ∧ u = .string s ∧ WR [] (preR cols n ⟨#[32, 111, 114, 32]⟩ ps k) s.data.toList ∧ s.size ≤ 2050 + 1100 * n ∧ Below w.heap.size w wr ∧ wr.cell? ⟨w.heap.size, 6, none⟩ = some (.slice pa ps.length pc) ∧ w.heap.size < wr.heap.size) (fun _ i _ => ps.length - (intOf i).toNat)
  case atStart => exact ⟨0, ⟨#[40]⟩, Nat.zero_le _, rfl, rfl, .inl (by simp [preR, Lib.join_nil]), by have := Z.out.1; omega, hb0, x6, by simp⟩
  case round =>
    clear x6 hb0
    obtain ⟨k, s, hk, rfl, rfl, hwr, hs, hb, hc6, hz⟩ := hrel
    have HWR := Lib.hid hwr
    clear hwr
    have hsd : s.data.toList.length = s.size := by simp
    have HSD := Lib.hid hsd
    clear hsd
    have c9 : ¬ 9223372036854775807 < s.size + 1 := by omega
    by_cases hlt : k < ps.length
    · by_cases h1024 : s.size ≤ 1024
      · have e1 : decide ((s.size : Int) ≤ 1024) = true := by rw [decide_eq_true_iff]; omega
        obtain ⟨rb, ro, rfl, a', c', pa', pc', hcell, hpi⟩ := (hps.below hb).at_ k hlt
        have hmx := List.all_eq_true.1 hall ps[k] (List.getElem_mem hlt)
        have HPS := Lib.hid (preR_succ cols n ⟨#[32, 111, 114, 32]⟩ ps k hlt)
        have HK := Lib.hid (hok m ps[k] a' c' pa' pc' ac cc wr hpi hmx (hr.below hb) (hG.below hb))
        clear hpi hmx
        generalize ps[k] = x at *
        obtain ⟨g0, g1, g2, g3, g4, g5, g6⟩ := hcell
        by_cases hk0 : k = 0
        · have HK0 := Lib.hid hk0
          have e0 : decide ((0 : Int) < (k : Int)) = false := by rw [decide_eq_false_iff_not]; omega
          have e0' : ¬ (0 < k) := by omega
          clear hk0
          go_wp2_with fail
          refine HK.out.mono ?_
          rintro e w3 ⟨r, rfl, hr3, hs3, hb3⟩
          have HR3 := Lib.hid hr3
          have HB3 := Lib.hid hb3
          have hc63 := (hb3.cell (p := ⟨w.heap.size, 6, none⟩) hz).trans hc6
          have hz3 := hb3.size
          have c1 : ¬ 9223372036854775807 < s.size + r.size := by omega
          clear hr3 hb3 g0 g1 g2 g3 g4 g5 g6
          go_wp2
          go_roundw
          case rel => exact ⟨k + 1, s ++ r, by omega, by go_num, rfl, by
            rw [HPS.out, if_pos HK0.out, ByteArray.data_append, Array.toList_append]
            exact HWR.out.trans (WR.behind HR3.out), by simp; omega, hb.trans (HB3.out.mono hb.size), hc63, by omega⟩
          case measure => simp [intOf]; omega
        · have HK0 := Lib.hid hk0
          have e0 : decide ((0 : Int) < (k : Int)) = true := by rw [decide_eq_true_iff]; omega
          have e0' : 0 < k := by omega
          have cw : ¬ 9223372036854775807 < s.size + 4 := by omega
          clear hk0
          go_wp2_with fail
          refine HK.out.mono ?_
          rintro e w3 ⟨r, rfl, hr3, hs3, hb3⟩
          have HR3 := Lib.hid hr3
          have HB3 := Lib.hid hb3
          have hc63 := (hb3.cell (p := ⟨w.heap.size, 6, none⟩) hz).trans hc6
          have hz3 := hb3.size
          have c1 : ¬ 9223372036854775807 < s.size + 4 + r.size := by omega
          clear hr3 hb3 g0 g1 g2 g3 g4 g5 g6
          go_wp2
          go_roundw
          case rel => exact ⟨k + 1, s ++ ⟨#[32, 111, 114, 32]⟩ ++ r, by omega, by go_num, rfl, by
            rw [HPS.out, if_neg HK0.out, ByteArray.data_append, Array.toList_append, ByteArray.data_append, Array.toList_append]
            exact HWR.out.trans ((WR.whole _ _).trans (WR.behind HR3.out)), by have := Z.out.2.2; simp; omega, hb.trans (HB3.out.mono hb.size), hc63, by omega⟩
          case measure => simp [intOf]; omega
      · have e1 : decide ((s.size : Int) ≤ 1024) = false := by rw [decide_eq_false_iff_not]; omega
        go_wp2
        go_ret
        refine ⟨s ++ ⟨#[41]⟩, rfl, ?_, ?_, hb⟩
        · rw [HTX.out, ByteArray.data_append, Array.toList_append]
          exact HWR.out.cut (by rw [HSD.out]; omega) hk
        · have := Z.out.2.1
          simp
          omega
    · obtain rfl : k = ps.length := by omega
      go_wp2
      go_ret
      refine ⟨s ++ ⟨#[41]⟩, rfl, ?_, ?_, hb⟩
      · rw [HTX.out, ByteArray.data_append, Array.toList_append]
        exact HWR.out.trans (WR.whole _ [41])
      · have := Z.out.2.1
        simp
        omega

theorem rtextp_ok (cols : List Co) (hcols : colsB cols = true) : ∀ n, n ≤ 8 → RTextOK cols n
  | 0, _ => fun _ _ _ _ _ _ _ _ _ _ hm => by cases hm
  | n + 1, hn => by
    have ih := rtextp_ok cols hcols n (by omega)
    intro m t a c pa pc ac cc w hp hm hr hG
    by_cases ho : 1 ≤ t.op ∧ t.op ≤ 6
    · exact rtext_leaf cols n m t a c pa pc ac cc w hcols hp hm hr hG ho
    · obtain ⟨hall, h8, h | h | h | h, hc0, hz0⟩ := mayP_parts hm ho
      · exact rtext_and cols n m t a c pa pc ac cc w ih hp hall hr hG (by omega) h
      · exact rtext_or cols n m t a c pa pc ac cc w ih hp hall hr hG (by omega) h
      · exact rtext_not cols n m t a c pa pc ac cc w ih hp hall hr hG (by omega) h.1 h.2
      · exact rtext_true cols n t a c pa pc ac cc w h.1

set_option maxRecDepth 100000 in
set_option maxHeartbeats 4000000 in
theorem rPrint_any (cols : List Co) (m : Nat) (t : PT) (a : Option Addr) (c : Nat) (pa : Option Addr) (pc : Nat) (ac : Option Addr) (cc : Nat) (w : World)
    (hp : PredIs m w t a pa) (hr : ColIs w ac cols) (hl : cols.length ≤ 140737488351232) (hG : Globs w) :
    Calls Tryz.prog 19 #[pv t a c pa pc, .slice ac cols.length cc] w fun e w' => e = .returned (.tuple #[.string (printV cols t), .int .i64 (printE cols t)]) ∧ Below w.heap.size w w' := by
  have hb0 : Below w.heap.size w (w.alloc (pbox t a c pa pc)) := by go_grown
  have hx := PBx.new w t a c pa pc
  have HC := Lib.hid (rcheckp_any cols m t a c pa pc ac cc _ (hp.below hb0) (hr.below hb0) hl)
  by_cases h2 : predE cols t = 0
  · rw [h2] at HC
    have hm := predE_may h2
    have hcols : colsB cols = true := by
      unfold predE at h2
      cases h : colsB cols
      · rw [h] at h2; cases h2
      · rfl
    have HE := Lib.hid h2
    clear h2
    go_enter Tryz.func19, Tryz.ntmps19
    go_wp2_with fail
    refine HC.out.mono ?_
    rintro e w1 ⟨rfl, hb1⟩
    have hb01 := hb0.trans (hb1.mono (by simp))
    have hx1 := hx.below hb1
    obtain ⟨x0, x1, x2, x3, x4, x5, x6⟩ := hx1
    go_wp2_with fail
    refine (rtextp_ok cols hcols 8 (by omega) m t a c pa pc ac cc w1 (hp.below hb01) hm (hr.below hb01) (hG.below hb01)).mono ?_
    rintro e w2 ⟨r, rfl, hr2, hs2, hb2⟩
    have hrl : r.data.toList.length = r.size := by simp
    have HR := Lib.hid hr2
    have HRL := Lib.hid hrl
    have HB := Lib.hid (hb01.trans (hb2.mono hb01.size))
    clear hr2 hrl hb2
    by_cases h1024 : r.size ≤ 1024
    · have e1 : decide ((1024 : Int) < (r.size : Int)) = false := by rw [decide_eq_false_iff_not]; omega
      have HV := Lib.hid (show printE cols t = 0 ∧ printV cols t = r by
        have hT : r.data.toList = textP cols 8 t := by
          rcases HR.out with h | ⟨h, _⟩
          · simpa using h
          · have := HRL.out; omega
        have hE : printE cols t = 0 := by rw [printE, if_pos HE.out, if_pos (by rw [← hT, HRL.out]; exact h1024)]
        exact ⟨hE, by rw [printV, if_pos hE, ← hT]⟩)
      go_wp2
      go_ret2
      exact ⟨by rw [HV.out.1, HV.out.2]; rfl, HB.out⟩
    · have e1 : decide ((1024 : Int) < (r.size : Int)) = true := by rw [decide_eq_true_iff]; omega
      have HV := Lib.hid (show printE cols t = 4 ∧ printV cols t = ⟨#[]⟩ by
        have ht : ¬ (textP cols 8 t).length ≤ 1024 := by
          rcases HR.out with h | ⟨_, h⟩
          · have h' : r.data.toList = textP cols 8 t := by simpa using h
            rw [← h', HRL.out]; exact h1024
          · simp at h; omega
        have hE : printE cols t = 4 := by rw [printE, if_pos HE.out, if_neg ht]
        exact ⟨hE, by rw [printV, if_neg (by rw [hE]; decide)]⟩)
      go_wp2
      go_ret2
      exact ⟨by rw [HV.out.1, HV.out.2]; rfl, HB.out⟩
  · obtain ⟨E, hE⟩ : ∃ E, predE cols t = E := ⟨_, rfl⟩
    have HV := Lib.hid (show printE cols t = E ∧ printV cols t = ⟨#[]⟩ by
      have h : printE cols t = E := by rw [printE, if_neg h2, hE]
      exact ⟨h, by rw [printV, if_neg (by rw [h, ← hE]; exact h2)]⟩)
    rw [hE] at HC h2
    have e2 : (E != 0) = true := bneI_t h2
    clear hE h2
    go_enter Tryz.func19, Tryz.ntmps19
    go_wp2_with fail
    refine HC.out.mono ?_
    rintro e w1 ⟨rfl, hb1⟩
    go_wp2
    go_ret2
    exact ⟨by rw [HV.out.1, HV.out.2]; rfl, hb0.trans (hb1.mono (by simp))⟩
end Go.Proofs.YtdjlbfepddcmeaaGreatDoor
