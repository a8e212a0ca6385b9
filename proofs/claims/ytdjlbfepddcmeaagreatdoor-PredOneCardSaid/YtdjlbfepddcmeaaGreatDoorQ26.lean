/- A predicate's text: a part over a column is written. -/
import Derived.Test.YtdjlbfepddcmeaaGreatDoorQ25
set_option linter.unusedVariables false
set_option linter.unusedSimpArgs false
namespace Go.Proofs.YtdjlbfepddcmeaaGreatDoor
open Go.RowKit

/-- pred.write writes as it must, so deep: into a Builder in block b, all of it above the world w0. -/
def WriteOK (cols : List Co) (ac : Option Addr) (cc : Nat) (w0 : World) (b n : Nat) : Prop :=
  ∀ (m : Nat) (t : PT) (a : Option Addr) (c : Nat) (pa : Option Addr) (pc : Nat) (l : List UInt8) (w : World), PredIs m w0 t a pa → mayP cols n t = true → Below w0.heap.size w0 w → BD w0.heap.size b l w → l.length ≤ 5000 →
    Calls Tryz.prog 34 #[.pointer (some ⟨b, 0, none⟩), pv t a c pa pc, .slice ac cols.length cc] w fun e w' => e = .returned (.tuple #[]) ∧ ∃ l', Wrote w0.heap.size b w w' l' ∧ WR l (textP cols n t) l' ∧ l'.length ≤ max l.length (3000 + 50 * n)

theorem write_long (cols : List Co) (ac : Option Addr) (cc : Nat) (w0 : World) (b n : Nat) (t : PT) (a : Option Addr) (c : Nat) (pa : Option Addr) (pc : Nat) (l : List UInt8) (w : World)
    (hb0 : Below w0.heap.size w0 w) (hbd : BD w0.heap.size b l w) (hl : 1024 < l.length) (hl5 : l.length ≤ 5000) :
    Calls Tryz.prog 34 #[.pointer (some ⟨b, 0, none⟩), pv t a c pa pc, .slice ac cols.length cc] w fun e w' => e = .returned (.tuple #[]) ∧ ∃ l', Wrote w0.heap.size b w w' l' ∧ WR l (textP cols n t) l' ∧ l'.length ≤ max l.length (3000 + 50 * n) := by
  have hb1 : Below w.heap.size w (w.alloc (pbox t a c pa pc)) := by go_grown
  have HL := Lib.hid (blen_any _ b l _ (bkeepI hbd hb1))
  have e1 : decide ((1024 : Int) < (l.length : Int)) = true := by rw [decide_eq_true_iff]; omega
  have HW := Lib.hid (Wrote.of_below hbd hb1 hb0.size)
  have HR := Lib.hid (WR.long (textP cols n t) hl)
  clear hbd
  generalize hll : l.length = ll at *
  have HLL := Lib.hid hll
  clear hll
  unfold pbox at *
  unfold pv
  go_enter Tryz.func34, Tryz.ntmps34
  go_wp2_with fail
  refine HL.out.mono ?_
  rintro e w' ⟨rfl, rfl⟩
  go_wp2
  refine bodyPost_ret (results_none rfl _ _ _) rfl ?_
  exact ⟨rfl, l, HW.out, HR.out, by rw [HLL.out]; omega⟩

theorem textP_leaf {cols : List Co} {n : Nat} {t : PT} (h : 1 ≤ t.op ∧ t.op ≤ 6) : textP cols (n + 1) t = nameAt cols t.col ++ [32] ++ signL t.op ++ [32] ++ t.d.text := by
  rw [textP, if_neg (by omega), if_neg (by omega), if_neg (by omega), if_neg (by omega)]
theorem nameAt_eq (cols : List Co) (i : Int) (k : Nat) (h : i = k) (hk : k < cols.length) : nameAt cols i = cols[k].name.data.toList := by
  subst h; simp [nameAt, hk]

set_option maxRecDepth 100000 in
set_option maxHeartbeats 4000000 in
theorem write_leaf1 (cols : List Co) (ac : Option Addr) (cc : Nat) (w0 : World) (b n m : Nat) (t : PT) (a : Option Addr) (c : Nat) (pa : Option Addr) (pc : Nat) (l : List UInt8) (w : World)
    (hcols : colsB cols = true) (hr0 : ColIs w0 ac cols) (hG : Globs w0) (hp : PredIs m w0 t a pa) (hm : mayP cols (n + 1) t = true) (ho : t.op = 1)
    (hb0 : Below w0.heap.size w0 w) (hbd : BD w0.heap.size b l w) (hl : l.length ≤ 1024) :
    Calls Tryz.prog 34 #[.pointer (some ⟨b, 0, none⟩), pv t a c pa pc, .slice ac cols.length cc] w fun e w' => e = .returned (.tuple #[]) ∧ ∃ l', Wrote w0.heap.size b w w' l' ∧ WR l (textP cols (n + 1) t) l' ∧ l'.length ≤ max l.length (3000 + 50 * (n + 1)) := by
  have hop : 1 ≤ t.op ∧ t.op ≤ 6 := by omega
  obtain ⟨k, hcol, hklt, hdm, -⟩ := LeafOk.of hm hop
  have hb1 : Below w.heap.size w (w.alloc (pbox t a c pa pc)) := by go_grown
  have hb01 := hb0.trans (hb1.mono hb0.size)
  have hbd1 := bkeepI hbd hb1
  have hw1 := Wrote.of_below hbd hb1 hb0.size
  have hgb : w.heap.size ≠ b := by have := BD.lt hbd; omega
  have hbox : (w.alloc (pbox t a c pa pc)).heap[w.heap.size]? = some (pbox t a c pa pc) := heap_alloc_new w _
  have HL := Lib.hid (blen_any _ b l _ hbd1)
  have HP := Lib.hid (print_call t.d a c _ (hp.da.below hb01) (hG.below hb01))
  have hgood := hp.da.good hdm
  rw [show tS t.d = ⟨t.d.text.toArray⟩ by simp [tS, hdm], show dE t.d = 0 by simp [dE, hdm]] at HP
  have hts : (⟨t.d.text.toArray⟩ : ByteArray).size ≤ 800 := by rw [ba_size]; exact text_len hgood
  have htd : (⟨t.d.text.toArray⟩ : ByteArray).data.toList = t.d.text := by simp
  generalize hT : (⟨t.d.text.toArray⟩ : ByteArray) = T at *
  obtain ⟨hnm, hns⟩ := name_len hcols k hklt
  have HTX := Lib.hid ((textP_leaf (cols := cols) (n := n) hop).trans (by rw [nameAt_eq cols t.col k hcol hklt]))
  obtain ⟨cb, co, rfl, g0, _, _, _⟩ := hr0.at_ k hklt
  have hgc := (hb01.cell (World.block_lt_of_cell? _ _ g0)).trans g0
  have hkl : (k : Int) < (cols.length : Int) := by have := hklt; omega
  have hkg : (0 : Int) ≤ (k : Int) := by omega
  have hss := signB_size t.op
  have hsd : (signB t.op).data.toList = signL t.op := by simp [signB]
  have e1 : decide ((1024 : Int) < (l.length : Int)) = false := by rw [decide_eq_false_iff_not]; omega
  have HH := Lib.hid (And.intro hw1 (And.intro hb01 (And.intro hb0 hgood)))
  have HB := Lib.hid (And.intro hbox hgc)
  have HG0 := Lib.hid g0
  clear hp hm hbd hbd1 hw1 hb1 hbox hgc g0 hr0 hgood hnm
  generalize cols[k].name = nm at *
  have HTD := Lib.hid (And.intro htd hsd)
  clear htd hsd hT
  generalize hll : l.length = ll at *
  have HLL := Lib.hid hll
  clear hll
  unfold pbox at *
  unfold pv
  generalize textP cols (n + 1) t = TX at *
  generalize t.d.text = TXT at *
  generalize t.op = op at *
  generalize t.col = col at *
  generalize t.d = d at *
  generalize t.parts = ps at *
  subst hcol
  subst ho
  have c1 : ¬ 9223372036854775807 < nm.size + 1 := by omega
  have c2 : ¬ 9223372036854775807 < nm.size + 1 + 1 := by omega
  have c3 : ¬ 9223372036854775807 < nm.size + 1 + 1 + 1 := by omega
  have c4 : ¬ 9223372036854775807 < nm.size + 1 + 1 + 1 + T.size := by omega
  have cw : IntKind.i64.wrap 0 = 0 := by decide
  go_enter Tryz.func34, Tryz.ntmps34
  go_wp2_with fail
  refine HL.out.mono ?_
  rintro e w' ⟨rfl, rfl⟩
  go_wp2_with fail
  refine HP.out.mono ?_
  rintro e w2 ⟨rfl, hb2⟩
  have hz2 := hb2.size
  simp at hz2
  have hbox2 := (hb2.block w.heap.size (by simp)).trans HB.out.1
  have hgc2 := (hb2.cell (World.block_lt_of_cell? _ _ HB.out.2)).trans HB.out.2
  have d0 : w2.drew.cell? ⟨w.heap.size, 0, none⟩ = some (.int .i64 1) := by show w2.cell? _ = _; unfold World.cell?; rw [hbox2]; rfl
  have d1 : w2.drew.cell? ⟨w.heap.size, 1, none⟩ = some (.int .i64 (k : Int)) := by show w2.cell? _ = _; unfold World.cell?; rw [hbox2]; rfl
  have HBX : Hid ((w2.drew.alloc signsObj).heap[w.heap.size]? = some _) := Lib.hid ((Below.heap_alloc w2.drew signsObj w.heap.size (by simp; omega)).trans hbox2)
  have hW2 := HH.out.1.after hb2 (by have := HH.out.2.1.size; exact this)
  have HW3 := Lib.hid (hW2.after (((Below.refl w2.heap.size w2).drew).alloc (by simp) signsObj) (by have := HH.out.2.1.size; simp at this; omega))
  clear hb2 hW2
  go_wp2
  refine wp_region_noPanic ?_
  refine wp_region_held_drew (S := (fun w' => w'.cell? ⟨w.heap.size, 0, none⟩ = some (.int .i64 1) ∧ w'.cell? ⟨w.heap.size, 1, none⟩ = some (.int .i64 (k : Int)) ∧ w'.cell? ⟨cb, co + k * 2, none⟩ = some (.string nm))) (by kernel_rfl) ⟨d0, d1, hgc2⟩ (fun hS => ?_)
  refine wpAnyH_take (i := 0) (v := ?_) rfl (by kernel_rfl) (by kernel_rfl) (by kernel_rfl) (fun _ _ _ h => h) (Or.inl ⟨by rfl, ?_⟩) hS ?_
  rotate_left
  · rintro w9 ⟨t0, t1, t2⟩
    go_simp
    try with_reducible rfl
  try simp only [Act.put, List.getElem_toArray, List.getElem_cons_succ, List.getElem_cons_zero, List.setIfInBounds_toArray, List.set_cons_zero, List.set_cons_succ]
  refine wpAnyH_take (i := 1) (v := ?_) rfl (by kernel_rfl) (by kernel_rfl) (by kernel_rfl) (fun _ _ _ h => h) (Or.inl ⟨by rfl, ?_⟩) hS ?_
  rotate_left
  · rintro w9 ⟨t0, t1, t2⟩
    go_simp
    try with_reducible rfl
  try simp only [Act.put, List.getElem_toArray, List.getElem_cons_succ, List.getElem_cons_zero, List.setIfInBounds_toArray, List.set_cons_zero, List.set_cons_succ]
  refine wpAnyH_take (i := 2) (v := ?_) rfl (by kernel_rfl) (by kernel_rfl) (by kernel_rfl) (fun _ _ _ h => h) (Or.inl ⟨by rfl, ?_⟩) hS ?_
  rotate_left
  · rintro w9 ⟨t0, t1, t2⟩
    go_simp
    try with_reducible rfl
  try simp only [Act.put, List.getElem_toArray, List.getElem_cons_succ, List.getElem_cons_zero, List.setIfInBounds_toArray, List.set_cons_zero, List.set_cons_succ]
  refine wpAnyH_take (i := 3) (v := ?_) rfl (by kernel_rfl) (by kernel_rfl) (by kernel_rfl) (fun _ _ _ h => h) (Or.inl ⟨by rfl, ?_⟩) hS ?_
  rotate_left
  · rintro w9 ⟨t0, t1, t2⟩
    go_simp
    try with_reducible rfl
  try simp only [Act.put, List.getElem_toArray, List.getElem_cons_succ, List.getElem_cons_zero, List.setIfInBounds_toArray, List.set_cons_zero, List.set_cons_succ]
  refine wpAnyH_take (i := 4) (v := ?_) rfl (by kernel_rfl) (by kernel_rfl) (by kernel_rfl) (fun _ _ _ h => h) (Or.inl ⟨by rfl, ?_⟩) hS ?_
  rotate_left
  · rintro w9 ⟨t0, t1, t2⟩
    go_simp
    try with_reducible rfl
  try simp only [Act.put, List.getElem_toArray, List.getElem_cons_succ, List.getElem_cons_zero, List.setIfInBounds_toArray, List.set_cons_zero, List.set_cons_succ]
  refine wpAnyH_take (i := 5) (v := ?_) rfl (by kernel_rfl) (by kernel_rfl) (by kernel_rfl) (fun _ _ _ h => h) (Or.inl ⟨by rfl, ?_⟩) hS ?_
  rotate_left
  · rintro w9 ⟨t0, t1, t2⟩
    go_simp
    try with_reducible rfl
  try simp only [Act.put, List.getElem_toArray, List.getElem_cons_succ, List.getElem_cons_zero, List.setIfInBounds_toArray, List.set_cons_zero, List.set_cons_succ]
  refine wpAnyH_take (i := 6) (v := ?_) rfl (by kernel_rfl) (by kernel_rfl) (by kernel_rfl) (fun _ _ _ h => h) (Or.inl ⟨by rfl, ?_⟩) hS ?_
  rotate_left
  · rintro w9 ⟨t0, t1, t2⟩
    go_simp
    try with_reducible rfl
  try simp only [Act.put, List.getElem_toArray, List.getElem_cons_succ, List.getElem_cons_zero, List.setIfInBounds_toArray, List.set_cons_zero, List.set_cons_succ]
  refine wpAnyH_take (i := 7) (v := ?_) rfl (by kernel_rfl) (by kernel_rfl) (by kernel_rfl) (fun _ _ _ h => h) (Or.inl ⟨by rfl, ?_⟩) hS ?_
  rotate_left
  · rintro w9 ⟨t0, t1, t2⟩
    go_simp
    try with_reducible rfl
  try simp only [Act.put, List.getElem_toArray, List.getElem_cons_succ, List.getElem_cons_zero, List.setIfInBounds_toArray, List.set_cons_zero, List.set_cons_succ]
  refine wpAnyH_take (i := 9) (v := ?_) rfl (by kernel_rfl) (by kernel_rfl) (by kernel_rfl) (fun _ _ _ h => h) (Or.inl ⟨by rfl, ?_⟩) hS ?_
  rotate_left
  · rintro w9 ⟨t0, t1, t2⟩
    go_simp
    try with_reducible rfl
  try simp only [Act.put, List.getElem_toArray, List.getElem_cons_succ, List.getElem_cons_zero, List.setIfInBounds_toArray, List.set_cons_zero, List.set_cons_succ]
  refine wpAnyH_take (i := 10) (v := ?_) rfl (by kernel_rfl) (by kernel_rfl) (by kernel_rfl) (fun _ _ _ h => h) (Or.inl ⟨by rfl, ?_⟩) hS ?_
  rotate_left
  · rintro w9 ⟨t0, t1, t2⟩
    go_simp
    try with_reducible rfl
  try simp only [Act.put, List.getElem_toArray, List.getElem_cons_succ, List.getElem_cons_zero, List.setIfInBounds_toArray, List.set_cons_zero, List.set_cons_succ]
  refine wpAnyH_take (i := 11) (v := ?_) rfl (by kernel_rfl) (by kernel_rfl) (by kernel_rfl) (fun _ _ _ h => h) (Or.inl ⟨by rfl, ?_⟩) hS ?_
  rotate_left
  · rintro w9 ⟨t0, t1, t2⟩
    go_simp
    try with_reducible rfl
  try simp only [Act.put, List.getElem_toArray, List.getElem_cons_succ, List.getElem_cons_zero, List.setIfInBounds_toArray, List.set_cons_zero, List.set_cons_succ]
  refine wpAnyH_take (i := 16) (v := ?_) rfl (by kernel_rfl) (by kernel_rfl) (by kernel_rfl) (fun _ _ _ h => h) (Or.inl ⟨by rfl, ?_⟩) hS ?_
  rotate_left
  · rintro w9 ⟨t0, t1, t2⟩
    go_simp
    try with_reducible rfl
  try simp only [Act.put, List.getElem_toArray, List.getElem_cons_succ, List.getElem_cons_zero, List.setIfInBounds_toArray, List.set_cons_zero, List.set_cons_succ]
  refine wpAnyH_ready (rs := [8]) (by kernel_rfl) (by simp) ?_
  refine AllReadyH.cons rfl (fun K hK => ?_) AllReadyH.nil
  go_simp
  refine (signs_any _).mono ?_
  rintro e w3 ⟨rfl, rfl⟩
  have hS3 : (fun w' => w'.cell? ⟨w.heap.size, 0, none⟩ = some (.int .i64 1) ∧ w'.cell? ⟨w.heap.size, 1, none⟩ = some (.int .i64 (k : Int)) ∧ w'.cell? ⟨cb, co + k * 2, none⟩ = some (.string nm)) (w2.drew.alloc signsObj) := ⟨cellA hS.1 _, cellA hS.2.1 _, cellA hS.2.2 _⟩
  refine hK.out _ _ hS3 (fun _ => ?_)
  clear hK K
  try simp only [Act.put, List.getElem_toArray, List.getElem_cons_succ, List.getElem_cons_zero, List.setIfInBounds_toArray, List.set_cons_zero, List.set_cons_succ]
  refine wpAnyH_take (i := 12) (v := ?_) rfl (by kernel_rfl) (by kernel_rfl) (by kernel_rfl) (fun _ _ _ h => h) (Or.inl ⟨by rfl, ?_⟩) hS3 ?_
  rotate_left
  · rintro w9 ⟨t0, t1, t2⟩
    go_simp
    try with_reducible rfl
  try simp only [Act.put, List.getElem_toArray, List.getElem_cons_succ, List.getElem_cons_zero, List.setIfInBounds_toArray, List.set_cons_zero, List.set_cons_succ]
  refine wpAnyH_ready (rs := [13]) (by kernel_rfl) (by simp) ?_
  refine AllReadyH.cons rfl (fun K hK => ?_) AllReadyH.nil
  go_simp
  refine hK.out _ _ hS3 (fun _ => ?_)
  clear hK K
  try simp only [Act.put, List.getElem_toArray, List.getElem_cons_succ, List.getElem_cons_zero, List.setIfInBounds_toArray, List.set_cons_zero, List.set_cons_succ]
  refine wpAnyH_take (i := 14) (v := ?_) rfl (by kernel_rfl) (by kernel_rfl) (by kernel_rfl) (fun _ _ _ h => h) (Or.inl ⟨by rfl, ?_⟩) hS3 ?_
  rotate_left
  · rintro w9 ⟨t0, t1, t2⟩
    go_simp
    try with_reducible rfl
  try simp only [Act.put, List.getElem_toArray, List.getElem_cons_succ, List.getElem_cons_zero, List.setIfInBounds_toArray, List.set_cons_zero, List.set_cons_succ]
  refine wpAnyH_take (i := 15) (v := ?_) rfl (by kernel_rfl) (by kernel_rfl) (by kernel_rfl) (fun _ _ _ h => h) (Or.inl ⟨by rfl, ?_⟩) hS3 ?_
  rotate_left
  · rintro w9 ⟨t0, t1, t2⟩
    go_simp
    try with_reducible rfl
  try simp only [Act.put, List.getElem_toArray, List.getElem_cons_succ, List.getElem_cons_zero, List.setIfInBounds_toArray, List.set_cons_zero, List.set_cons_succ]
  refine wpAnyH_take (i := 17) (v := ?_) rfl (by kernel_rfl) (by kernel_rfl) (by kernel_rfl) (fun _ _ _ h => h) (Or.inl ⟨by rfl, ?_⟩) hS3 ?_
  rotate_left
  · rintro w9 ⟨t0, t1, t2⟩
    go_simp
    try with_reducible rfl
  try simp only [Act.put, List.getElem_toArray, List.getElem_cons_succ, List.getElem_cons_zero, List.setIfInBounds_toArray, List.set_cons_zero, List.set_cons_succ]
  refine wpAnyH_ready (rs := [18]) (by kernel_rfl) (by simp) ?_
  refine AllReadyH.cons rfl (fun K hK => ?_) AllReadyH.nil
  go_simp
  refine (wstr_any _ _ _ _ _ HW3.out.bd (by have := HLL.out; omega) (by have z1 : (⟨#[32]⟩ : ByteArray).size = 1 := rfl; have z2 : (⟨#[61]⟩ : ByteArray).size = 1 := rfl; simp; omega) (by have := HH.out.2.1.size; simp at this ⊢; omega)).mono ?_
  rintro e w4 ⟨rfl, hw4⟩
  have hS4 : (fun w' => w'.cell? ⟨w.heap.size, 0, none⟩ = some (.int .i64 1) ∧ w'.cell? ⟨w.heap.size, 1, none⟩ = some (.int .i64 (k : Int)) ∧ w'.cell? ⟨cb, co + k * 2, none⟩ = some (.string nm)) w4 := by
    have hbx := hw4.kept w.heap.size _ (HBX.out) (by simpa using hgb) (fun c fz e => by injection e with _ h2; cases h2)
    refine ⟨?_, ?_, ?_⟩
    · unfold World.cell?; rw [hbx]; rfl
    · unfold World.cell?; rw [hbx]; rfl
    · exact (hw4.below.cell (World.block_lt_of_cell? _ _ HG0.out)).trans hS3.2.2
  refine hK.out _ _ hS4 (fun _ => ?_)
  clear hK K
  try simp only [Act.put, List.getElem_toArray, List.getElem_cons_succ, List.getElem_cons_zero, List.setIfInBounds_toArray, List.set_cons_zero, List.set_cons_succ]
  refine wpAnyH_done (by kernel_rfl) ?_ _
  refine NoPanic.normal ?_
  go_wp2
  (try simp only [Exit.inBlock, Exit.then])
  go_end0
  refine ⟨rfl, _, HW3.out.trans hw4, .inl ?_, ?_⟩
  · rw [HTX.out, ← HTD.out.1, show (signL 1) = [61] from rfl]
    simp
  · have z1 : (⟨#[32]⟩ : ByteArray).size = 1 := rfl
    have z2 : (⟨#[61]⟩ : ByteArray).size = 1 := rfl
    have := HLL.out
    simp
    omega

set_option maxRecDepth 100000 in
set_option maxHeartbeats 4000000 in
theorem write_leaf2 (cols : List Co) (ac : Option Addr) (cc : Nat) (w0 : World) (b n m : Nat) (t : PT) (a : Option Addr) (c : Nat) (pa : Option Addr) (pc : Nat) (l : List UInt8) (w : World)
    (hcols : colsB cols = true) (hr0 : ColIs w0 ac cols) (hG : Globs w0) (hp : PredIs m w0 t a pa) (hm : mayP cols (n + 1) t = true) (ho : t.op = 2)
    (hb0 : Below w0.heap.size w0 w) (hbd : BD w0.heap.size b l w) (hl : l.length ≤ 1024) :
    Calls Tryz.prog 34 #[.pointer (some ⟨b, 0, none⟩), pv t a c pa pc, .slice ac cols.length cc] w fun e w' => e = .returned (.tuple #[]) ∧ ∃ l', Wrote w0.heap.size b w w' l' ∧ WR l (textP cols (n + 1) t) l' ∧ l'.length ≤ max l.length (3000 + 50 * (n + 1)) := by
  have hop : 1 ≤ t.op ∧ t.op ≤ 6 := by omega
  obtain ⟨k, hcol, hklt, hdm, -⟩ := LeafOk.of hm hop
  have hb1 : Below w.heap.size w (w.alloc (pbox t a c pa pc)) := by go_grown
  have hb01 := hb0.trans (hb1.mono hb0.size)
  have hbd1 := bkeepI hbd hb1
  have hw1 := Wrote.of_below hbd hb1 hb0.size
  have hgb : w.heap.size ≠ b := by have := BD.lt hbd; omega
  have hbox : (w.alloc (pbox t a c pa pc)).heap[w.heap.size]? = some (pbox t a c pa pc) := heap_alloc_new w _
  have HL := Lib.hid (blen_any _ b l _ hbd1)
  have HP := Lib.hid (print_call t.d a c _ (hp.da.below hb01) (hG.below hb01))
  have hgood := hp.da.good hdm
  rw [show tS t.d = ⟨t.d.text.toArray⟩ by simp [tS, hdm], show dE t.d = 0 by simp [dE, hdm]] at HP
  have hts : (⟨t.d.text.toArray⟩ : ByteArray).size ≤ 800 := by rw [ba_size]; exact text_len hgood
  have htd : (⟨t.d.text.toArray⟩ : ByteArray).data.toList = t.d.text := by simp
  generalize hT : (⟨t.d.text.toArray⟩ : ByteArray) = T at *
  obtain ⟨hnm, hns⟩ := name_len hcols k hklt
  have HTX := Lib.hid ((textP_leaf (cols := cols) (n := n) hop).trans (by rw [nameAt_eq cols t.col k hcol hklt]))
  obtain ⟨cb, co, rfl, g0, _, _, _⟩ := hr0.at_ k hklt
  have hgc := (hb01.cell (World.block_lt_of_cell? _ _ g0)).trans g0
  have hkl : (k : Int) < (cols.length : Int) := by have := hklt; omega
  have hkg : (0 : Int) ≤ (k : Int) := by omega
  have hss := signB_size t.op
  have hsd : (signB t.op).data.toList = signL t.op := by simp [signB]
  have e1 : decide ((1024 : Int) < (l.length : Int)) = false := by rw [decide_eq_false_iff_not]; omega
  have HH := Lib.hid (And.intro hw1 (And.intro hb01 (And.intro hb0 hgood)))
  have HB := Lib.hid (And.intro hbox hgc)
  have HG0 := Lib.hid g0
  clear hp hm hbd hbd1 hw1 hb1 hbox hgc g0 hr0 hgood hnm
  generalize cols[k].name = nm at *
  have HTD := Lib.hid (And.intro htd hsd)
  clear htd hsd hT
  generalize hll : l.length = ll at *
  have HLL := Lib.hid hll
  clear hll
  unfold pbox at *
  unfold pv
  generalize textP cols (n + 1) t = TX at *
  generalize t.d.text = TXT at *
  generalize t.op = op at *
  generalize t.col = col at *
  generalize t.d = d at *
  generalize t.parts = ps at *
  subst hcol
  subst ho
  have c1 : ¬ 9223372036854775807 < nm.size + 1 := by omega
  have c2 : ¬ 9223372036854775807 < nm.size + 1 + 1 := by omega
  have c3 : ¬ 9223372036854775807 < nm.size + 1 + 1 + 1 := by omega
  have c4 : ¬ 9223372036854775807 < nm.size + 1 + 1 + 1 + T.size := by omega
  have cw : IntKind.i64.wrap 1 = 1 := by decide
  go_enter Tryz.func34, Tryz.ntmps34
  go_wp2_with fail
  refine HL.out.mono ?_
  rintro e w' ⟨rfl, rfl⟩
  go_wp2_with fail
  refine HP.out.mono ?_
  rintro e w2 ⟨rfl, hb2⟩
  have hz2 := hb2.size
  simp at hz2
  have hbox2 := (hb2.block w.heap.size (by simp)).trans HB.out.1
  have hgc2 := (hb2.cell (World.block_lt_of_cell? _ _ HB.out.2)).trans HB.out.2
  have d0 : w2.drew.cell? ⟨w.heap.size, 0, none⟩ = some (.int .i64 2) := by show w2.cell? _ = _; unfold World.cell?; rw [hbox2]; rfl
  have d1 : w2.drew.cell? ⟨w.heap.size, 1, none⟩ = some (.int .i64 (k : Int)) := by show w2.cell? _ = _; unfold World.cell?; rw [hbox2]; rfl
  have HBX : Hid ((w2.drew.alloc signsObj).heap[w.heap.size]? = some _) := Lib.hid ((Below.heap_alloc w2.drew signsObj w.heap.size (by simp; omega)).trans hbox2)
  have hW2 := HH.out.1.after hb2 (by have := HH.out.2.1.size; exact this)
  have HW3 := Lib.hid (hW2.after (((Below.refl w2.heap.size w2).drew).alloc (by simp) signsObj) (by have := HH.out.2.1.size; simp at this; omega))
  clear hb2 hW2
  go_wp2
  refine wp_region_noPanic ?_
  refine wp_region_held_drew (S := (fun w' => w'.cell? ⟨w.heap.size, 0, none⟩ = some (.int .i64 2) ∧ w'.cell? ⟨w.heap.size, 1, none⟩ = some (.int .i64 (k : Int)) ∧ w'.cell? ⟨cb, co + k * 2, none⟩ = some (.string nm))) (by kernel_rfl) ⟨d0, d1, hgc2⟩ (fun hS => ?_)
  refine wpAnyH_take (i := 0) (v := ?_) rfl (by kernel_rfl) (by kernel_rfl) (by kernel_rfl) (fun _ _ _ h => h) (Or.inl ⟨by rfl, ?_⟩) hS ?_
  rotate_left
  · rintro w9 ⟨t0, t1, t2⟩
    go_simp
    try with_reducible rfl
  try simp only [Act.put, List.getElem_toArray, List.getElem_cons_succ, List.getElem_cons_zero, List.setIfInBounds_toArray, List.set_cons_zero, List.set_cons_succ]
  refine wpAnyH_take (i := 1) (v := ?_) rfl (by kernel_rfl) (by kernel_rfl) (by kernel_rfl) (fun _ _ _ h => h) (Or.inl ⟨by rfl, ?_⟩) hS ?_
  rotate_left
  · rintro w9 ⟨t0, t1, t2⟩
    go_simp
    try with_reducible rfl
  try simp only [Act.put, List.getElem_toArray, List.getElem_cons_succ, List.getElem_cons_zero, List.setIfInBounds_toArray, List.set_cons_zero, List.set_cons_succ]
  refine wpAnyH_take (i := 2) (v := ?_) rfl (by kernel_rfl) (by kernel_rfl) (by kernel_rfl) (fun _ _ _ h => h) (Or.inl ⟨by rfl, ?_⟩) hS ?_
  rotate_left
  · rintro w9 ⟨t0, t1, t2⟩
    go_simp
    try with_reducible rfl
  try simp only [Act.put, List.getElem_toArray, List.getElem_cons_succ, List.getElem_cons_zero, List.setIfInBounds_toArray, List.set_cons_zero, List.set_cons_succ]
  refine wpAnyH_take (i := 3) (v := ?_) rfl (by kernel_rfl) (by kernel_rfl) (by kernel_rfl) (fun _ _ _ h => h) (Or.inl ⟨by rfl, ?_⟩) hS ?_
  rotate_left
  · rintro w9 ⟨t0, t1, t2⟩
    go_simp
    try with_reducible rfl
  try simp only [Act.put, List.getElem_toArray, List.getElem_cons_succ, List.getElem_cons_zero, List.setIfInBounds_toArray, List.set_cons_zero, List.set_cons_succ]
  refine wpAnyH_take (i := 4) (v := ?_) rfl (by kernel_rfl) (by kernel_rfl) (by kernel_rfl) (fun _ _ _ h => h) (Or.inl ⟨by rfl, ?_⟩) hS ?_
  rotate_left
  · rintro w9 ⟨t0, t1, t2⟩
    go_simp
    try with_reducible rfl
  try simp only [Act.put, List.getElem_toArray, List.getElem_cons_succ, List.getElem_cons_zero, List.setIfInBounds_toArray, List.set_cons_zero, List.set_cons_succ]
  refine wpAnyH_take (i := 5) (v := ?_) rfl (by kernel_rfl) (by kernel_rfl) (by kernel_rfl) (fun _ _ _ h => h) (Or.inl ⟨by rfl, ?_⟩) hS ?_
  rotate_left
  · rintro w9 ⟨t0, t1, t2⟩
    go_simp
    try with_reducible rfl
  try simp only [Act.put, List.getElem_toArray, List.getElem_cons_succ, List.getElem_cons_zero, List.setIfInBounds_toArray, List.set_cons_zero, List.set_cons_succ]
  refine wpAnyH_take (i := 6) (v := ?_) rfl (by kernel_rfl) (by kernel_rfl) (by kernel_rfl) (fun _ _ _ h => h) (Or.inl ⟨by rfl, ?_⟩) hS ?_
  rotate_left
  · rintro w9 ⟨t0, t1, t2⟩
    go_simp
    try with_reducible rfl
  try simp only [Act.put, List.getElem_toArray, List.getElem_cons_succ, List.getElem_cons_zero, List.setIfInBounds_toArray, List.set_cons_zero, List.set_cons_succ]
  refine wpAnyH_take (i := 7) (v := ?_) rfl (by kernel_rfl) (by kernel_rfl) (by kernel_rfl) (fun _ _ _ h => h) (Or.inl ⟨by rfl, ?_⟩) hS ?_
  rotate_left
  · rintro w9 ⟨t0, t1, t2⟩
    go_simp
    try with_reducible rfl
  try simp only [Act.put, List.getElem_toArray, List.getElem_cons_succ, List.getElem_cons_zero, List.setIfInBounds_toArray, List.set_cons_zero, List.set_cons_succ]
  refine wpAnyH_take (i := 9) (v := ?_) rfl (by kernel_rfl) (by kernel_rfl) (by kernel_rfl) (fun _ _ _ h => h) (Or.inl ⟨by rfl, ?_⟩) hS ?_
  rotate_left
  · rintro w9 ⟨t0, t1, t2⟩
    go_simp
    try with_reducible rfl
  try simp only [Act.put, List.getElem_toArray, List.getElem_cons_succ, List.getElem_cons_zero, List.setIfInBounds_toArray, List.set_cons_zero, List.set_cons_succ]
  refine wpAnyH_take (i := 10) (v := ?_) rfl (by kernel_rfl) (by kernel_rfl) (by kernel_rfl) (fun _ _ _ h => h) (Or.inl ⟨by rfl, ?_⟩) hS ?_
  rotate_left
  · rintro w9 ⟨t0, t1, t2⟩
    go_simp
    try with_reducible rfl
  try simp only [Act.put, List.getElem_toArray, List.getElem_cons_succ, List.getElem_cons_zero, List.setIfInBounds_toArray, List.set_cons_zero, List.set_cons_succ]
  refine wpAnyH_take (i := 11) (v := ?_) rfl (by kernel_rfl) (by kernel_rfl) (by kernel_rfl) (fun _ _ _ h => h) (Or.inl ⟨by rfl, ?_⟩) hS ?_
  rotate_left
  · rintro w9 ⟨t0, t1, t2⟩
    go_simp
    try with_reducible rfl
  try simp only [Act.put, List.getElem_toArray, List.getElem_cons_succ, List.getElem_cons_zero, List.setIfInBounds_toArray, List.set_cons_zero, List.set_cons_succ]
  refine wpAnyH_take (i := 16) (v := ?_) rfl (by kernel_rfl) (by kernel_rfl) (by kernel_rfl) (fun _ _ _ h => h) (Or.inl ⟨by rfl, ?_⟩) hS ?_
  rotate_left
  · rintro w9 ⟨t0, t1, t2⟩
    go_simp
    try with_reducible rfl
  try simp only [Act.put, List.getElem_toArray, List.getElem_cons_succ, List.getElem_cons_zero, List.setIfInBounds_toArray, List.set_cons_zero, List.set_cons_succ]
  refine wpAnyH_ready (rs := [8]) (by kernel_rfl) (by simp) ?_
  refine AllReadyH.cons rfl (fun K hK => ?_) AllReadyH.nil
  go_simp
  refine (signs_any _).mono ?_
  rintro e w3 ⟨rfl, rfl⟩
  have hS3 : (fun w' => w'.cell? ⟨w.heap.size, 0, none⟩ = some (.int .i64 2) ∧ w'.cell? ⟨w.heap.size, 1, none⟩ = some (.int .i64 (k : Int)) ∧ w'.cell? ⟨cb, co + k * 2, none⟩ = some (.string nm)) (w2.drew.alloc signsObj) := ⟨cellA hS.1 _, cellA hS.2.1 _, cellA hS.2.2 _⟩
  refine hK.out _ _ hS3 (fun _ => ?_)
  clear hK K
  try simp only [Act.put, List.getElem_toArray, List.getElem_cons_succ, List.getElem_cons_zero, List.setIfInBounds_toArray, List.set_cons_zero, List.set_cons_succ]
  refine wpAnyH_take (i := 12) (v := ?_) rfl (by kernel_rfl) (by kernel_rfl) (by kernel_rfl) (fun _ _ _ h => h) (Or.inl ⟨by rfl, ?_⟩) hS3 ?_
  rotate_left
  · rintro w9 ⟨t0, t1, t2⟩
    go_simp
    try with_reducible rfl
  try simp only [Act.put, List.getElem_toArray, List.getElem_cons_succ, List.getElem_cons_zero, List.setIfInBounds_toArray, List.set_cons_zero, List.set_cons_succ]
  refine wpAnyH_ready (rs := [13]) (by kernel_rfl) (by simp) ?_
  refine AllReadyH.cons rfl (fun K hK => ?_) AllReadyH.nil
  go_simp
  refine hK.out _ _ hS3 (fun _ => ?_)
  clear hK K
  try simp only [Act.put, List.getElem_toArray, List.getElem_cons_succ, List.getElem_cons_zero, List.setIfInBounds_toArray, List.set_cons_zero, List.set_cons_succ]
  refine wpAnyH_take (i := 14) (v := ?_) rfl (by kernel_rfl) (by kernel_rfl) (by kernel_rfl) (fun _ _ _ h => h) (Or.inl ⟨by rfl, ?_⟩) hS3 ?_
  rotate_left
  · rintro w9 ⟨t0, t1, t2⟩
    go_simp
    try with_reducible rfl
  try simp only [Act.put, List.getElem_toArray, List.getElem_cons_succ, List.getElem_cons_zero, List.setIfInBounds_toArray, List.set_cons_zero, List.set_cons_succ]
  refine wpAnyH_take (i := 15) (v := ?_) rfl (by kernel_rfl) (by kernel_rfl) (by kernel_rfl) (fun _ _ _ h => h) (Or.inl ⟨by rfl, ?_⟩) hS3 ?_
  rotate_left
  · rintro w9 ⟨t0, t1, t2⟩
    go_simp
    try with_reducible rfl
  try simp only [Act.put, List.getElem_toArray, List.getElem_cons_succ, List.getElem_cons_zero, List.setIfInBounds_toArray, List.set_cons_zero, List.set_cons_succ]
  refine wpAnyH_take (i := 17) (v := ?_) rfl (by kernel_rfl) (by kernel_rfl) (by kernel_rfl) (fun _ _ _ h => h) (Or.inl ⟨by rfl, ?_⟩) hS3 ?_
  rotate_left
  · rintro w9 ⟨t0, t1, t2⟩
    go_simp
    try with_reducible rfl
  try simp only [Act.put, List.getElem_toArray, List.getElem_cons_succ, List.getElem_cons_zero, List.setIfInBounds_toArray, List.set_cons_zero, List.set_cons_succ]
  refine wpAnyH_ready (rs := [18]) (by kernel_rfl) (by simp) ?_
  refine AllReadyH.cons rfl (fun K hK => ?_) AllReadyH.nil
  go_simp
  refine (wstr_any _ _ _ _ _ HW3.out.bd (by have := HLL.out; omega) (by have z1 : (⟨#[32]⟩ : ByteArray).size = 1 := rfl; have z2 : (⟨#[60]⟩ : ByteArray).size = 1 := rfl; simp; omega) (by have := HH.out.2.1.size; simp at this ⊢; omega)).mono ?_
  rintro e w4 ⟨rfl, hw4⟩
  have hS4 : (fun w' => w'.cell? ⟨w.heap.size, 0, none⟩ = some (.int .i64 2) ∧ w'.cell? ⟨w.heap.size, 1, none⟩ = some (.int .i64 (k : Int)) ∧ w'.cell? ⟨cb, co + k * 2, none⟩ = some (.string nm)) w4 := by
    have hbx := hw4.kept w.heap.size _ (HBX.out) (by simpa using hgb) (fun c fz e => by injection e with _ h2; cases h2)
    refine ⟨?_, ?_, ?_⟩
    · unfold World.cell?; rw [hbx]; rfl
    · unfold World.cell?; rw [hbx]; rfl
    · exact (hw4.below.cell (World.block_lt_of_cell? _ _ HG0.out)).trans hS3.2.2
  refine hK.out _ _ hS4 (fun _ => ?_)
  clear hK K
  try simp only [Act.put, List.getElem_toArray, List.getElem_cons_succ, List.getElem_cons_zero, List.setIfInBounds_toArray, List.set_cons_zero, List.set_cons_succ]
  refine wpAnyH_done (by kernel_rfl) ?_ _
  refine NoPanic.normal ?_
  go_wp2
  (try simp only [Exit.inBlock, Exit.then])
  go_end0
  refine ⟨rfl, _, HW3.out.trans hw4, .inl ?_, ?_⟩
  · rw [HTX.out, ← HTD.out.1, show (signL 2) = [60] from rfl]
    simp
  · have z1 : (⟨#[32]⟩ : ByteArray).size = 1 := rfl
    have z2 : (⟨#[60]⟩ : ByteArray).size = 1 := rfl
    have := HLL.out
    simp
    omega

set_option maxRecDepth 100000 in
set_option maxHeartbeats 4000000 in
theorem write_leaf3 (cols : List Co) (ac : Option Addr) (cc : Nat) (w0 : World) (b n m : Nat) (t : PT) (a : Option Addr) (c : Nat) (pa : Option Addr) (pc : Nat) (l : List UInt8) (w : World)
    (hcols : colsB cols = true) (hr0 : ColIs w0 ac cols) (hG : Globs w0) (hp : PredIs m w0 t a pa) (hm : mayP cols (n + 1) t = true) (ho : t.op = 3)
    (hb0 : Below w0.heap.size w0 w) (hbd : BD w0.heap.size b l w) (hl : l.length ≤ 1024) :
    Calls Tryz.prog 34 #[.pointer (some ⟨b, 0, none⟩), pv t a c pa pc, .slice ac cols.length cc] w fun e w' => e = .returned (.tuple #[]) ∧ ∃ l', Wrote w0.heap.size b w w' l' ∧ WR l (textP cols (n + 1) t) l' ∧ l'.length ≤ max l.length (3000 + 50 * (n + 1)) := by
  have hop : 1 ≤ t.op ∧ t.op ≤ 6 := by omega
  obtain ⟨k, hcol, hklt, hdm, -⟩ := LeafOk.of hm hop
  have hb1 : Below w.heap.size w (w.alloc (pbox t a c pa pc)) := by go_grown
  have hb01 := hb0.trans (hb1.mono hb0.size)
  have hbd1 := bkeepI hbd hb1
  have hw1 := Wrote.of_below hbd hb1 hb0.size
  have hgb : w.heap.size ≠ b := by have := BD.lt hbd; omega
  have hbox : (w.alloc (pbox t a c pa pc)).heap[w.heap.size]? = some (pbox t a c pa pc) := heap_alloc_new w _
  have HL := Lib.hid (blen_any _ b l _ hbd1)
  have HP := Lib.hid (print_call t.d a c _ (hp.da.below hb01) (hG.below hb01))
  have hgood := hp.da.good hdm
  rw [show tS t.d = ⟨t.d.text.toArray⟩ by simp [tS, hdm], show dE t.d = 0 by simp [dE, hdm]] at HP
  have hts : (⟨t.d.text.toArray⟩ : ByteArray).size ≤ 800 := by rw [ba_size]; exact text_len hgood
  have htd : (⟨t.d.text.toArray⟩ : ByteArray).data.toList = t.d.text := by simp
  generalize hT : (⟨t.d.text.toArray⟩ : ByteArray) = T at *
  obtain ⟨hnm, hns⟩ := name_len hcols k hklt
  have HTX := Lib.hid ((textP_leaf (cols := cols) (n := n) hop).trans (by rw [nameAt_eq cols t.col k hcol hklt]))
  obtain ⟨cb, co, rfl, g0, _, _, _⟩ := hr0.at_ k hklt
  have hgc := (hb01.cell (World.block_lt_of_cell? _ _ g0)).trans g0
  have hkl : (k : Int) < (cols.length : Int) := by have := hklt; omega
  have hkg : (0 : Int) ≤ (k : Int) := by omega
  have hss := signB_size t.op
  have hsd : (signB t.op).data.toList = signL t.op := by simp [signB]
  have e1 : decide ((1024 : Int) < (l.length : Int)) = false := by rw [decide_eq_false_iff_not]; omega
  have HH := Lib.hid (And.intro hw1 (And.intro hb01 (And.intro hb0 hgood)))
  have HB := Lib.hid (And.intro hbox hgc)
  have HG0 := Lib.hid g0
  clear hp hm hbd hbd1 hw1 hb1 hbox hgc g0 hr0 hgood hnm
  generalize cols[k].name = nm at *
  have HTD := Lib.hid (And.intro htd hsd)
  clear htd hsd hT
  generalize hll : l.length = ll at *
  have HLL := Lib.hid hll
  clear hll
  unfold pbox at *
  unfold pv
  generalize textP cols (n + 1) t = TX at *
  generalize t.d.text = TXT at *
  generalize t.op = op at *
  generalize t.col = col at *
  generalize t.d = d at *
  generalize t.parts = ps at *
  subst hcol
  subst ho
  have c1 : ¬ 9223372036854775807 < nm.size + 1 := by omega
  have c2 : ¬ 9223372036854775807 < nm.size + 1 + 1 := by omega
  have c3 : ¬ 9223372036854775807 < nm.size + 1 + 1 + 1 := by omega
  have c4 : ¬ 9223372036854775807 < nm.size + 1 + 1 + 1 + T.size := by omega
  have cw : IntKind.i64.wrap 2 = 2 := by decide
  go_enter Tryz.func34, Tryz.ntmps34
  go_wp2_with fail
  refine HL.out.mono ?_
  rintro e w' ⟨rfl, rfl⟩
  go_wp2_with fail
  refine HP.out.mono ?_
  rintro e w2 ⟨rfl, hb2⟩
  have hz2 := hb2.size
  simp at hz2
  have hbox2 := (hb2.block w.heap.size (by simp)).trans HB.out.1
  have hgc2 := (hb2.cell (World.block_lt_of_cell? _ _ HB.out.2)).trans HB.out.2
  have d0 : w2.drew.cell? ⟨w.heap.size, 0, none⟩ = some (.int .i64 3) := by show w2.cell? _ = _; unfold World.cell?; rw [hbox2]; rfl
  have d1 : w2.drew.cell? ⟨w.heap.size, 1, none⟩ = some (.int .i64 (k : Int)) := by show w2.cell? _ = _; unfold World.cell?; rw [hbox2]; rfl
  have HBX : Hid ((w2.drew.alloc signsObj).heap[w.heap.size]? = some _) := Lib.hid ((Below.heap_alloc w2.drew signsObj w.heap.size (by simp; omega)).trans hbox2)
  have hW2 := HH.out.1.after hb2 (by have := HH.out.2.1.size; exact this)
  have HW3 := Lib.hid (hW2.after (((Below.refl w2.heap.size w2).drew).alloc (by simp) signsObj) (by have := HH.out.2.1.size; simp at this; omega))
  clear hb2 hW2
  go_wp2
  refine wp_region_noPanic ?_
  refine wp_region_held_drew (S := (fun w' => w'.cell? ⟨w.heap.size, 0, none⟩ = some (.int .i64 3) ∧ w'.cell? ⟨w.heap.size, 1, none⟩ = some (.int .i64 (k : Int)) ∧ w'.cell? ⟨cb, co + k * 2, none⟩ = some (.string nm))) (by kernel_rfl) ⟨d0, d1, hgc2⟩ (fun hS => ?_)
  refine wpAnyH_take (i := 0) (v := ?_) rfl (by kernel_rfl) (by kernel_rfl) (by kernel_rfl) (fun _ _ _ h => h) (Or.inl ⟨by rfl, ?_⟩) hS ?_
  rotate_left
  · rintro w9 ⟨t0, t1, t2⟩
    go_simp
    try with_reducible rfl
  try simp only [Act.put, List.getElem_toArray, List.getElem_cons_succ, List.getElem_cons_zero, List.setIfInBounds_toArray, List.set_cons_zero, List.set_cons_succ]
  refine wpAnyH_take (i := 1) (v := ?_) rfl (by kernel_rfl) (by kernel_rfl) (by kernel_rfl) (fun _ _ _ h => h) (Or.inl ⟨by rfl, ?_⟩) hS ?_
  rotate_left
  · rintro w9 ⟨t0, t1, t2⟩
    go_simp
    try with_reducible rfl
  try simp only [Act.put, List.getElem_toArray, List.getElem_cons_succ, List.getElem_cons_zero, List.setIfInBounds_toArray, List.set_cons_zero, List.set_cons_succ]
  refine wpAnyH_take (i := 2) (v := ?_) rfl (by kernel_rfl) (by kernel_rfl) (by kernel_rfl) (fun _ _ _ h => h) (Or.inl ⟨by rfl, ?_⟩) hS ?_
  rotate_left
  · rintro w9 ⟨t0, t1, t2⟩
    go_simp
    try with_reducible rfl
  try simp only [Act.put, List.getElem_toArray, List.getElem_cons_succ, List.getElem_cons_zero, List.setIfInBounds_toArray, List.set_cons_zero, List.set_cons_succ]
  refine wpAnyH_take (i := 3) (v := ?_) rfl (by kernel_rfl) (by kernel_rfl) (by kernel_rfl) (fun _ _ _ h => h) (Or.inl ⟨by rfl, ?_⟩) hS ?_
  rotate_left
  · rintro w9 ⟨t0, t1, t2⟩
    go_simp
    try with_reducible rfl
  try simp only [Act.put, List.getElem_toArray, List.getElem_cons_succ, List.getElem_cons_zero, List.setIfInBounds_toArray, List.set_cons_zero, List.set_cons_succ]
  refine wpAnyH_take (i := 4) (v := ?_) rfl (by kernel_rfl) (by kernel_rfl) (by kernel_rfl) (fun _ _ _ h => h) (Or.inl ⟨by rfl, ?_⟩) hS ?_
  rotate_left
  · rintro w9 ⟨t0, t1, t2⟩
    go_simp
    try with_reducible rfl
  try simp only [Act.put, List.getElem_toArray, List.getElem_cons_succ, List.getElem_cons_zero, List.setIfInBounds_toArray, List.set_cons_zero, List.set_cons_succ]
  refine wpAnyH_take (i := 5) (v := ?_) rfl (by kernel_rfl) (by kernel_rfl) (by kernel_rfl) (fun _ _ _ h => h) (Or.inl ⟨by rfl, ?_⟩) hS ?_
  rotate_left
  · rintro w9 ⟨t0, t1, t2⟩
    go_simp
    try with_reducible rfl
  try simp only [Act.put, List.getElem_toArray, List.getElem_cons_succ, List.getElem_cons_zero, List.setIfInBounds_toArray, List.set_cons_zero, List.set_cons_succ]
  refine wpAnyH_take (i := 6) (v := ?_) rfl (by kernel_rfl) (by kernel_rfl) (by kernel_rfl) (fun _ _ _ h => h) (Or.inl ⟨by rfl, ?_⟩) hS ?_
  rotate_left
  · rintro w9 ⟨t0, t1, t2⟩
    go_simp
    try with_reducible rfl
  try simp only [Act.put, List.getElem_toArray, List.getElem_cons_succ, List.getElem_cons_zero, List.setIfInBounds_toArray, List.set_cons_zero, List.set_cons_succ]
  refine wpAnyH_take (i := 7) (v := ?_) rfl (by kernel_rfl) (by kernel_rfl) (by kernel_rfl) (fun _ _ _ h => h) (Or.inl ⟨by rfl, ?_⟩) hS ?_
  rotate_left
  · rintro w9 ⟨t0, t1, t2⟩
    go_simp
    try with_reducible rfl
  try simp only [Act.put, List.getElem_toArray, List.getElem_cons_succ, List.getElem_cons_zero, List.setIfInBounds_toArray, List.set_cons_zero, List.set_cons_succ]
  refine wpAnyH_take (i := 9) (v := ?_) rfl (by kernel_rfl) (by kernel_rfl) (by kernel_rfl) (fun _ _ _ h => h) (Or.inl ⟨by rfl, ?_⟩) hS ?_
  rotate_left
  · rintro w9 ⟨t0, t1, t2⟩
    go_simp
    try with_reducible rfl
  try simp only [Act.put, List.getElem_toArray, List.getElem_cons_succ, List.getElem_cons_zero, List.setIfInBounds_toArray, List.set_cons_zero, List.set_cons_succ]
  refine wpAnyH_take (i := 10) (v := ?_) rfl (by kernel_rfl) (by kernel_rfl) (by kernel_rfl) (fun _ _ _ h => h) (Or.inl ⟨by rfl, ?_⟩) hS ?_
  rotate_left
  · rintro w9 ⟨t0, t1, t2⟩
    go_simp
    try with_reducible rfl
  try simp only [Act.put, List.getElem_toArray, List.getElem_cons_succ, List.getElem_cons_zero, List.setIfInBounds_toArray, List.set_cons_zero, List.set_cons_succ]
  refine wpAnyH_take (i := 11) (v := ?_) rfl (by kernel_rfl) (by kernel_rfl) (by kernel_rfl) (fun _ _ _ h => h) (Or.inl ⟨by rfl, ?_⟩) hS ?_
  rotate_left
  · rintro w9 ⟨t0, t1, t2⟩
    go_simp
    try with_reducible rfl
  try simp only [Act.put, List.getElem_toArray, List.getElem_cons_succ, List.getElem_cons_zero, List.setIfInBounds_toArray, List.set_cons_zero, List.set_cons_succ]
  refine wpAnyH_take (i := 16) (v := ?_) rfl (by kernel_rfl) (by kernel_rfl) (by kernel_rfl) (fun _ _ _ h => h) (Or.inl ⟨by rfl, ?_⟩) hS ?_
  rotate_left
  · rintro w9 ⟨t0, t1, t2⟩
    go_simp
    try with_reducible rfl
  try simp only [Act.put, List.getElem_toArray, List.getElem_cons_succ, List.getElem_cons_zero, List.setIfInBounds_toArray, List.set_cons_zero, List.set_cons_succ]
  refine wpAnyH_ready (rs := [8]) (by kernel_rfl) (by simp) ?_
  refine AllReadyH.cons rfl (fun K hK => ?_) AllReadyH.nil
  go_simp
  refine (signs_any _).mono ?_
  rintro e w3 ⟨rfl, rfl⟩
  have hS3 : (fun w' => w'.cell? ⟨w.heap.size, 0, none⟩ = some (.int .i64 3) ∧ w'.cell? ⟨w.heap.size, 1, none⟩ = some (.int .i64 (k : Int)) ∧ w'.cell? ⟨cb, co + k * 2, none⟩ = some (.string nm)) (w2.drew.alloc signsObj) := ⟨cellA hS.1 _, cellA hS.2.1 _, cellA hS.2.2 _⟩
  refine hK.out _ _ hS3 (fun _ => ?_)
  clear hK K
  try simp only [Act.put, List.getElem_toArray, List.getElem_cons_succ, List.getElem_cons_zero, List.setIfInBounds_toArray, List.set_cons_zero, List.set_cons_succ]
  refine wpAnyH_take (i := 12) (v := ?_) rfl (by kernel_rfl) (by kernel_rfl) (by kernel_rfl) (fun _ _ _ h => h) (Or.inl ⟨by rfl, ?_⟩) hS3 ?_
  rotate_left
  · rintro w9 ⟨t0, t1, t2⟩
    go_simp
    try with_reducible rfl
  try simp only [Act.put, List.getElem_toArray, List.getElem_cons_succ, List.getElem_cons_zero, List.setIfInBounds_toArray, List.set_cons_zero, List.set_cons_succ]
  refine wpAnyH_ready (rs := [13]) (by kernel_rfl) (by simp) ?_
  refine AllReadyH.cons rfl (fun K hK => ?_) AllReadyH.nil
  go_simp
  refine hK.out _ _ hS3 (fun _ => ?_)
  clear hK K
  try simp only [Act.put, List.getElem_toArray, List.getElem_cons_succ, List.getElem_cons_zero, List.setIfInBounds_toArray, List.set_cons_zero, List.set_cons_succ]
  refine wpAnyH_take (i := 14) (v := ?_) rfl (by kernel_rfl) (by kernel_rfl) (by kernel_rfl) (fun _ _ _ h => h) (Or.inl ⟨by rfl, ?_⟩) hS3 ?_
  rotate_left
  · rintro w9 ⟨t0, t1, t2⟩
    go_simp
    try with_reducible rfl
  try simp only [Act.put, List.getElem_toArray, List.getElem_cons_succ, List.getElem_cons_zero, List.setIfInBounds_toArray, List.set_cons_zero, List.set_cons_succ]
  refine wpAnyH_take (i := 15) (v := ?_) rfl (by kernel_rfl) (by kernel_rfl) (by kernel_rfl) (fun _ _ _ h => h) (Or.inl ⟨by rfl, ?_⟩) hS3 ?_
  rotate_left
  · rintro w9 ⟨t0, t1, t2⟩
    go_simp
    try with_reducible rfl
  try simp only [Act.put, List.getElem_toArray, List.getElem_cons_succ, List.getElem_cons_zero, List.setIfInBounds_toArray, List.set_cons_zero, List.set_cons_succ]
  refine wpAnyH_take (i := 17) (v := ?_) rfl (by kernel_rfl) (by kernel_rfl) (by kernel_rfl) (fun _ _ _ h => h) (Or.inl ⟨by rfl, ?_⟩) hS3 ?_
  rotate_left
  · rintro w9 ⟨t0, t1, t2⟩
    go_simp
    try with_reducible rfl
  try simp only [Act.put, List.getElem_toArray, List.getElem_cons_succ, List.getElem_cons_zero, List.setIfInBounds_toArray, List.set_cons_zero, List.set_cons_succ]
  refine wpAnyH_ready (rs := [18]) (by kernel_rfl) (by simp) ?_
  refine AllReadyH.cons rfl (fun K hK => ?_) AllReadyH.nil
  go_simp
  refine (wstr_any _ _ _ _ _ HW3.out.bd (by have := HLL.out; omega) (by have z1 : (⟨#[32]⟩ : ByteArray).size = 1 := rfl; have z2 : (⟨#[62]⟩ : ByteArray).size = 1 := rfl; simp; omega) (by have := HH.out.2.1.size; simp at this ⊢; omega)).mono ?_
  rintro e w4 ⟨rfl, hw4⟩
  have hS4 : (fun w' => w'.cell? ⟨w.heap.size, 0, none⟩ = some (.int .i64 3) ∧ w'.cell? ⟨w.heap.size, 1, none⟩ = some (.int .i64 (k : Int)) ∧ w'.cell? ⟨cb, co + k * 2, none⟩ = some (.string nm)) w4 := by
    have hbx := hw4.kept w.heap.size _ (HBX.out) (by simpa using hgb) (fun c fz e => by injection e with _ h2; cases h2)
    refine ⟨?_, ?_, ?_⟩
    · unfold World.cell?; rw [hbx]; rfl
    · unfold World.cell?; rw [hbx]; rfl
    · exact (hw4.below.cell (World.block_lt_of_cell? _ _ HG0.out)).trans hS3.2.2
  refine hK.out _ _ hS4 (fun _ => ?_)
  clear hK K
  try simp only [Act.put, List.getElem_toArray, List.getElem_cons_succ, List.getElem_cons_zero, List.setIfInBounds_toArray, List.set_cons_zero, List.set_cons_succ]
  refine wpAnyH_done (by kernel_rfl) ?_ _
  refine NoPanic.normal ?_
  go_wp2
  (try simp only [Exit.inBlock, Exit.then])
  go_end0
  refine ⟨rfl, _, HW3.out.trans hw4, .inl ?_, ?_⟩
  · rw [HTX.out, ← HTD.out.1, show (signL 3) = [62] from rfl]
    simp
  · have z1 : (⟨#[32]⟩ : ByteArray).size = 1 := rfl
    have z2 : (⟨#[62]⟩ : ByteArray).size = 1 := rfl
    have := HLL.out
    simp
    omega

set_option maxRecDepth 100000 in
set_option maxHeartbeats 4000000 in
theorem write_leaf4 (cols : List Co) (ac : Option Addr) (cc : Nat) (w0 : World) (b n m : Nat) (t : PT) (a : Option Addr) (c : Nat) (pa : Option Addr) (pc : Nat) (l : List UInt8) (w : World)
    (hcols : colsB cols = true) (hr0 : ColIs w0 ac cols) (hG : Globs w0) (hp : PredIs m w0 t a pa) (hm : mayP cols (n + 1) t = true) (ho : t.op = 4)
    (hb0 : Below w0.heap.size w0 w) (hbd : BD w0.heap.size b l w) (hl : l.length ≤ 1024) :
    Calls Tryz.prog 34 #[.pointer (some ⟨b, 0, none⟩), pv t a c pa pc, .slice ac cols.length cc] w fun e w' => e = .returned (.tuple #[]) ∧ ∃ l', Wrote w0.heap.size b w w' l' ∧ WR l (textP cols (n + 1) t) l' ∧ l'.length ≤ max l.length (3000 + 50 * (n + 1)) := by
  have hop : 1 ≤ t.op ∧ t.op ≤ 6 := by omega
  obtain ⟨k, hcol, hklt, hdm, -⟩ := LeafOk.of hm hop
  have hb1 : Below w.heap.size w (w.alloc (pbox t a c pa pc)) := by go_grown
  have hb01 := hb0.trans (hb1.mono hb0.size)
  have hbd1 := bkeepI hbd hb1
  have hw1 := Wrote.of_below hbd hb1 hb0.size
  have hgb : w.heap.size ≠ b := by have := BD.lt hbd; omega
  have hbox : (w.alloc (pbox t a c pa pc)).heap[w.heap.size]? = some (pbox t a c pa pc) := heap_alloc_new w _
  have HL := Lib.hid (blen_any _ b l _ hbd1)
  have HP := Lib.hid (print_call t.d a c _ (hp.da.below hb01) (hG.below hb01))
  have hgood := hp.da.good hdm
  rw [show tS t.d = ⟨t.d.text.toArray⟩ by simp [tS, hdm], show dE t.d = 0 by simp [dE, hdm]] at HP
  have hts : (⟨t.d.text.toArray⟩ : ByteArray).size ≤ 800 := by rw [ba_size]; exact text_len hgood
  have htd : (⟨t.d.text.toArray⟩ : ByteArray).data.toList = t.d.text := by simp
  generalize hT : (⟨t.d.text.toArray⟩ : ByteArray) = T at *
  obtain ⟨hnm, hns⟩ := name_len hcols k hklt
  have HTX := Lib.hid ((textP_leaf (cols := cols) (n := n) hop).trans (by rw [nameAt_eq cols t.col k hcol hklt]))
  obtain ⟨cb, co, rfl, g0, _, _, _⟩ := hr0.at_ k hklt
  have hgc := (hb01.cell (World.block_lt_of_cell? _ _ g0)).trans g0
  have hkl : (k : Int) < (cols.length : Int) := by have := hklt; omega
  have hkg : (0 : Int) ≤ (k : Int) := by omega
  have hss := signB_size t.op
  have hsd : (signB t.op).data.toList = signL t.op := by simp [signB]
  have e1 : decide ((1024 : Int) < (l.length : Int)) = false := by rw [decide_eq_false_iff_not]; omega
  have HH := Lib.hid (And.intro hw1 (And.intro hb01 (And.intro hb0 hgood)))
  have HB := Lib.hid (And.intro hbox hgc)
  have HG0 := Lib.hid g0
  clear hp hm hbd hbd1 hw1 hb1 hbox hgc g0 hr0 hgood hnm
  generalize cols[k].name = nm at *
  have HTD := Lib.hid (And.intro htd hsd)
  clear htd hsd hT
  generalize hll : l.length = ll at *
  have HLL := Lib.hid hll
  clear hll
  unfold pbox at *
  unfold pv
  generalize textP cols (n + 1) t = TX at *
  generalize t.d.text = TXT at *
  generalize t.op = op at *
  generalize t.col = col at *
  generalize t.d = d at *
  generalize t.parts = ps at *
  subst hcol
  subst ho
  have c1 : ¬ 9223372036854775807 < nm.size + 1 := by omega
  have c2 : ¬ 9223372036854775807 < nm.size + 1 + 2 := by omega
  have c3 : ¬ 9223372036854775807 < nm.size + 1 + 2 + 1 := by omega
  have c4 : ¬ 9223372036854775807 < nm.size + 1 + 2 + 1 + T.size := by omega
  have cw : IntKind.i64.wrap 3 = 3 := by decide
  go_enter Tryz.func34, Tryz.ntmps34
  go_wp2_with fail
  refine HL.out.mono ?_
  rintro e w' ⟨rfl, rfl⟩
  go_wp2_with fail
  refine HP.out.mono ?_
  rintro e w2 ⟨rfl, hb2⟩
  have hz2 := hb2.size
  simp at hz2
  have hbox2 := (hb2.block w.heap.size (by simp)).trans HB.out.1
  have hgc2 := (hb2.cell (World.block_lt_of_cell? _ _ HB.out.2)).trans HB.out.2
  have d0 : w2.drew.cell? ⟨w.heap.size, 0, none⟩ = some (.int .i64 4) := by show w2.cell? _ = _; unfold World.cell?; rw [hbox2]; rfl
  have d1 : w2.drew.cell? ⟨w.heap.size, 1, none⟩ = some (.int .i64 (k : Int)) := by show w2.cell? _ = _; unfold World.cell?; rw [hbox2]; rfl
  have HBX : Hid ((w2.drew.alloc signsObj).heap[w.heap.size]? = some _) := Lib.hid ((Below.heap_alloc w2.drew signsObj w.heap.size (by simp; omega)).trans hbox2)
  have hW2 := HH.out.1.after hb2 (by have := HH.out.2.1.size; exact this)
  have HW3 := Lib.hid (hW2.after (((Below.refl w2.heap.size w2).drew).alloc (by simp) signsObj) (by have := HH.out.2.1.size; simp at this; omega))
  clear hb2 hW2
  go_wp2
  refine wp_region_noPanic ?_
  refine wp_region_held_drew (S := (fun w' => w'.cell? ⟨w.heap.size, 0, none⟩ = some (.int .i64 4) ∧ w'.cell? ⟨w.heap.size, 1, none⟩ = some (.int .i64 (k : Int)) ∧ w'.cell? ⟨cb, co + k * 2, none⟩ = some (.string nm))) (by kernel_rfl) ⟨d0, d1, hgc2⟩ (fun hS => ?_)
  refine wpAnyH_take (i := 0) (v := ?_) rfl (by kernel_rfl) (by kernel_rfl) (by kernel_rfl) (fun _ _ _ h => h) (Or.inl ⟨by rfl, ?_⟩) hS ?_
  rotate_left
  · rintro w9 ⟨t0, t1, t2⟩
    go_simp
    try with_reducible rfl
  try simp only [Act.put, List.getElem_toArray, List.getElem_cons_succ, List.getElem_cons_zero, List.setIfInBounds_toArray, List.set_cons_zero, List.set_cons_succ]
  refine wpAnyH_take (i := 1) (v := ?_) rfl (by kernel_rfl) (by kernel_rfl) (by kernel_rfl) (fun _ _ _ h => h) (Or.inl ⟨by rfl, ?_⟩) hS ?_
  rotate_left
  · rintro w9 ⟨t0, t1, t2⟩
    go_simp
    try with_reducible rfl
  try simp only [Act.put, List.getElem_toArray, List.getElem_cons_succ, List.getElem_cons_zero, List.setIfInBounds_toArray, List.set_cons_zero, List.set_cons_succ]
  refine wpAnyH_take (i := 2) (v := ?_) rfl (by kernel_rfl) (by kernel_rfl) (by kernel_rfl) (fun _ _ _ h => h) (Or.inl ⟨by rfl, ?_⟩) hS ?_
  rotate_left
  · rintro w9 ⟨t0, t1, t2⟩
    go_simp
    try with_reducible rfl
  try simp only [Act.put, List.getElem_toArray, List.getElem_cons_succ, List.getElem_cons_zero, List.setIfInBounds_toArray, List.set_cons_zero, List.set_cons_succ]
  refine wpAnyH_take (i := 3) (v := ?_) rfl (by kernel_rfl) (by kernel_rfl) (by kernel_rfl) (fun _ _ _ h => h) (Or.inl ⟨by rfl, ?_⟩) hS ?_
  rotate_left
  · rintro w9 ⟨t0, t1, t2⟩
    go_simp
    try with_reducible rfl
  try simp only [Act.put, List.getElem_toArray, List.getElem_cons_succ, List.getElem_cons_zero, List.setIfInBounds_toArray, List.set_cons_zero, List.set_cons_succ]
  refine wpAnyH_take (i := 4) (v := ?_) rfl (by kernel_rfl) (by kernel_rfl) (by kernel_rfl) (fun _ _ _ h => h) (Or.inl ⟨by rfl, ?_⟩) hS ?_
  rotate_left
  · rintro w9 ⟨t0, t1, t2⟩
    go_simp
    try with_reducible rfl
  try simp only [Act.put, List.getElem_toArray, List.getElem_cons_succ, List.getElem_cons_zero, List.setIfInBounds_toArray, List.set_cons_zero, List.set_cons_succ]
  refine wpAnyH_take (i := 5) (v := ?_) rfl (by kernel_rfl) (by kernel_rfl) (by kernel_rfl) (fun _ _ _ h => h) (Or.inl ⟨by rfl, ?_⟩) hS ?_
  rotate_left
  · rintro w9 ⟨t0, t1, t2⟩
    go_simp
    try with_reducible rfl
  try simp only [Act.put, List.getElem_toArray, List.getElem_cons_succ, List.getElem_cons_zero, List.setIfInBounds_toArray, List.set_cons_zero, List.set_cons_succ]
  refine wpAnyH_take (i := 6) (v := ?_) rfl (by kernel_rfl) (by kernel_rfl) (by kernel_rfl) (fun _ _ _ h => h) (Or.inl ⟨by rfl, ?_⟩) hS ?_
  rotate_left
  · rintro w9 ⟨t0, t1, t2⟩
    go_simp
    try with_reducible rfl
  try simp only [Act.put, List.getElem_toArray, List.getElem_cons_succ, List.getElem_cons_zero, List.setIfInBounds_toArray, List.set_cons_zero, List.set_cons_succ]
  refine wpAnyH_take (i := 7) (v := ?_) rfl (by kernel_rfl) (by kernel_rfl) (by kernel_rfl) (fun _ _ _ h => h) (Or.inl ⟨by rfl, ?_⟩) hS ?_
  rotate_left
  · rintro w9 ⟨t0, t1, t2⟩
    go_simp
    try with_reducible rfl
  try simp only [Act.put, List.getElem_toArray, List.getElem_cons_succ, List.getElem_cons_zero, List.setIfInBounds_toArray, List.set_cons_zero, List.set_cons_succ]
  refine wpAnyH_take (i := 9) (v := ?_) rfl (by kernel_rfl) (by kernel_rfl) (by kernel_rfl) (fun _ _ _ h => h) (Or.inl ⟨by rfl, ?_⟩) hS ?_
  rotate_left
  · rintro w9 ⟨t0, t1, t2⟩
    go_simp
    try with_reducible rfl
  try simp only [Act.put, List.getElem_toArray, List.getElem_cons_succ, List.getElem_cons_zero, List.setIfInBounds_toArray, List.set_cons_zero, List.set_cons_succ]
  refine wpAnyH_take (i := 10) (v := ?_) rfl (by kernel_rfl) (by kernel_rfl) (by kernel_rfl) (fun _ _ _ h => h) (Or.inl ⟨by rfl, ?_⟩) hS ?_
  rotate_left
  · rintro w9 ⟨t0, t1, t2⟩
    go_simp
    try with_reducible rfl
  try simp only [Act.put, List.getElem_toArray, List.getElem_cons_succ, List.getElem_cons_zero, List.setIfInBounds_toArray, List.set_cons_zero, List.set_cons_succ]
  refine wpAnyH_take (i := 11) (v := ?_) rfl (by kernel_rfl) (by kernel_rfl) (by kernel_rfl) (fun _ _ _ h => h) (Or.inl ⟨by rfl, ?_⟩) hS ?_
  rotate_left
  · rintro w9 ⟨t0, t1, t2⟩
    go_simp
    try with_reducible rfl
  try simp only [Act.put, List.getElem_toArray, List.getElem_cons_succ, List.getElem_cons_zero, List.setIfInBounds_toArray, List.set_cons_zero, List.set_cons_succ]
  refine wpAnyH_take (i := 16) (v := ?_) rfl (by kernel_rfl) (by kernel_rfl) (by kernel_rfl) (fun _ _ _ h => h) (Or.inl ⟨by rfl, ?_⟩) hS ?_
  rotate_left
  · rintro w9 ⟨t0, t1, t2⟩
    go_simp
    try with_reducible rfl
  try simp only [Act.put, List.getElem_toArray, List.getElem_cons_succ, List.getElem_cons_zero, List.setIfInBounds_toArray, List.set_cons_zero, List.set_cons_succ]
  refine wpAnyH_ready (rs := [8]) (by kernel_rfl) (by simp) ?_
  refine AllReadyH.cons rfl (fun K hK => ?_) AllReadyH.nil
  go_simp
  refine (signs_any _).mono ?_
  rintro e w3 ⟨rfl, rfl⟩
  have hS3 : (fun w' => w'.cell? ⟨w.heap.size, 0, none⟩ = some (.int .i64 4) ∧ w'.cell? ⟨w.heap.size, 1, none⟩ = some (.int .i64 (k : Int)) ∧ w'.cell? ⟨cb, co + k * 2, none⟩ = some (.string nm)) (w2.drew.alloc signsObj) := ⟨cellA hS.1 _, cellA hS.2.1 _, cellA hS.2.2 _⟩
  refine hK.out _ _ hS3 (fun _ => ?_)
  clear hK K
  try simp only [Act.put, List.getElem_toArray, List.getElem_cons_succ, List.getElem_cons_zero, List.setIfInBounds_toArray, List.set_cons_zero, List.set_cons_succ]
  refine wpAnyH_take (i := 12) (v := ?_) rfl (by kernel_rfl) (by kernel_rfl) (by kernel_rfl) (fun _ _ _ h => h) (Or.inl ⟨by rfl, ?_⟩) hS3 ?_
  rotate_left
  · rintro w9 ⟨t0, t1, t2⟩
    go_simp
    try with_reducible rfl
  try simp only [Act.put, List.getElem_toArray, List.getElem_cons_succ, List.getElem_cons_zero, List.setIfInBounds_toArray, List.set_cons_zero, List.set_cons_succ]
  refine wpAnyH_ready (rs := [13]) (by kernel_rfl) (by simp) ?_
  refine AllReadyH.cons rfl (fun K hK => ?_) AllReadyH.nil
  go_simp
  refine hK.out _ _ hS3 (fun _ => ?_)
  clear hK K
  try simp only [Act.put, List.getElem_toArray, List.getElem_cons_succ, List.getElem_cons_zero, List.setIfInBounds_toArray, List.set_cons_zero, List.set_cons_succ]
  refine wpAnyH_take (i := 14) (v := ?_) rfl (by kernel_rfl) (by kernel_rfl) (by kernel_rfl) (fun _ _ _ h => h) (Or.inl ⟨by rfl, ?_⟩) hS3 ?_
  rotate_left
  · rintro w9 ⟨t0, t1, t2⟩
    go_simp
    try with_reducible rfl
  try simp only [Act.put, List.getElem_toArray, List.getElem_cons_succ, List.getElem_cons_zero, List.setIfInBounds_toArray, List.set_cons_zero, List.set_cons_succ]
  refine wpAnyH_take (i := 15) (v := ?_) rfl (by kernel_rfl) (by kernel_rfl) (by kernel_rfl) (fun _ _ _ h => h) (Or.inl ⟨by rfl, ?_⟩) hS3 ?_
  rotate_left
  · rintro w9 ⟨t0, t1, t2⟩
    go_simp
    try with_reducible rfl
  try simp only [Act.put, List.getElem_toArray, List.getElem_cons_succ, List.getElem_cons_zero, List.setIfInBounds_toArray, List.set_cons_zero, List.set_cons_succ]
  refine wpAnyH_take (i := 17) (v := ?_) rfl (by kernel_rfl) (by kernel_rfl) (by kernel_rfl) (fun _ _ _ h => h) (Or.inl ⟨by rfl, ?_⟩) hS3 ?_
  rotate_left
  · rintro w9 ⟨t0, t1, t2⟩
    go_simp
    try with_reducible rfl
  try simp only [Act.put, List.getElem_toArray, List.getElem_cons_succ, List.getElem_cons_zero, List.setIfInBounds_toArray, List.set_cons_zero, List.set_cons_succ]
  refine wpAnyH_ready (rs := [18]) (by kernel_rfl) (by simp) ?_
  refine AllReadyH.cons rfl (fun K hK => ?_) AllReadyH.nil
  go_simp
  refine (wstr_any _ _ _ _ _ HW3.out.bd (by have := HLL.out; omega) (by have z1 : (⟨#[32]⟩ : ByteArray).size = 1 := rfl; have z2 : (⟨#[60, 61]⟩ : ByteArray).size = 2 := rfl; simp; omega) (by have := HH.out.2.1.size; simp at this ⊢; omega)).mono ?_
  rintro e w4 ⟨rfl, hw4⟩
  have hS4 : (fun w' => w'.cell? ⟨w.heap.size, 0, none⟩ = some (.int .i64 4) ∧ w'.cell? ⟨w.heap.size, 1, none⟩ = some (.int .i64 (k : Int)) ∧ w'.cell? ⟨cb, co + k * 2, none⟩ = some (.string nm)) w4 := by
    have hbx := hw4.kept w.heap.size _ (HBX.out) (by simpa using hgb) (fun c fz e => by injection e with _ h2; cases h2)
    refine ⟨?_, ?_, ?_⟩
    · unfold World.cell?; rw [hbx]; rfl
    · unfold World.cell?; rw [hbx]; rfl
    · exact (hw4.below.cell (World.block_lt_of_cell? _ _ HG0.out)).trans hS3.2.2
  refine hK.out _ _ hS4 (fun _ => ?_)
  clear hK K
  try simp only [Act.put, List.getElem_toArray, List.getElem_cons_succ, List.getElem_cons_zero, List.setIfInBounds_toArray, List.set_cons_zero, List.set_cons_succ]
  refine wpAnyH_done (by kernel_rfl) ?_ _
  refine NoPanic.normal ?_
  go_wp2
  (try simp only [Exit.inBlock, Exit.then])
  go_end0
  refine ⟨rfl, _, HW3.out.trans hw4, .inl ?_, ?_⟩
  · rw [HTX.out, ← HTD.out.1, show (signL 4) = [60, 61] from rfl]
    simp
  · have z1 : (⟨#[32]⟩ : ByteArray).size = 1 := rfl
    have z2 : (⟨#[60, 61]⟩ : ByteArray).size = 2 := rfl
    have := HLL.out
    simp
    omega

set_option maxRecDepth 100000 in
set_option maxHeartbeats 4000000 in
theorem write_leaf5 (cols : List Co) (ac : Option Addr) (cc : Nat) (w0 : World) (b n m : Nat) (t : PT) (a : Option Addr) (c : Nat) (pa : Option Addr) (pc : Nat) (l : List UInt8) (w : World)
    (hcols : colsB cols = true) (hr0 : ColIs w0 ac cols) (hG : Globs w0) (hp : PredIs m w0 t a pa) (hm : mayP cols (n + 1) t = true) (ho : t.op = 5)
    (hb0 : Below w0.heap.size w0 w) (hbd : BD w0.heap.size b l w) (hl : l.length ≤ 1024) :
    Calls Tryz.prog 34 #[.pointer (some ⟨b, 0, none⟩), pv t a c pa pc, .slice ac cols.length cc] w fun e w' => e = .returned (.tuple #[]) ∧ ∃ l', Wrote w0.heap.size b w w' l' ∧ WR l (textP cols (n + 1) t) l' ∧ l'.length ≤ max l.length (3000 + 50 * (n + 1)) := by
  have hop : 1 ≤ t.op ∧ t.op ≤ 6 := by omega
  obtain ⟨k, hcol, hklt, hdm, -⟩ := LeafOk.of hm hop
  have hb1 : Below w.heap.size w (w.alloc (pbox t a c pa pc)) := by go_grown
  have hb01 := hb0.trans (hb1.mono hb0.size)
  have hbd1 := bkeepI hbd hb1
  have hw1 := Wrote.of_below hbd hb1 hb0.size
  have hgb : w.heap.size ≠ b := by have := BD.lt hbd; omega
  have hbox : (w.alloc (pbox t a c pa pc)).heap[w.heap.size]? = some (pbox t a c pa pc) := heap_alloc_new w _
  have HL := Lib.hid (blen_any _ b l _ hbd1)
  have HP := Lib.hid (print_call t.d a c _ (hp.da.below hb01) (hG.below hb01))
  have hgood := hp.da.good hdm
  rw [show tS t.d = ⟨t.d.text.toArray⟩ by simp [tS, hdm], show dE t.d = 0 by simp [dE, hdm]] at HP
  have hts : (⟨t.d.text.toArray⟩ : ByteArray).size ≤ 800 := by rw [ba_size]; exact text_len hgood
  have htd : (⟨t.d.text.toArray⟩ : ByteArray).data.toList = t.d.text := by simp
  generalize hT : (⟨t.d.text.toArray⟩ : ByteArray) = T at *
  obtain ⟨hnm, hns⟩ := name_len hcols k hklt
  have HTX := Lib.hid ((textP_leaf (cols := cols) (n := n) hop).trans (by rw [nameAt_eq cols t.col k hcol hklt]))
  obtain ⟨cb, co, rfl, g0, _, _, _⟩ := hr0.at_ k hklt
  have hgc := (hb01.cell (World.block_lt_of_cell? _ _ g0)).trans g0
  have hkl : (k : Int) < (cols.length : Int) := by have := hklt; omega
  have hkg : (0 : Int) ≤ (k : Int) := by omega
  have hss := signB_size t.op
  have hsd : (signB t.op).data.toList = signL t.op := by simp [signB]
  have e1 : decide ((1024 : Int) < (l.length : Int)) = false := by rw [decide_eq_false_iff_not]; omega
  have HH := Lib.hid (And.intro hw1 (And.intro hb01 (And.intro hb0 hgood)))
  have HB := Lib.hid (And.intro hbox hgc)
  have HG0 := Lib.hid g0
  clear hp hm hbd hbd1 hw1 hb1 hbox hgc g0 hr0 hgood hnm
  generalize cols[k].name = nm at *
  have HTD := Lib.hid (And.intro htd hsd)
  clear htd hsd hT
  generalize hll : l.length = ll at *
  have HLL := Lib.hid hll
  clear hll
  unfold pbox at *
  unfold pv
  generalize textP cols (n + 1) t = TX at *
  generalize t.d.text = TXT at *
  generalize t.op = op at *
  generalize t.col = col at *
  generalize t.d = d at *
  generalize t.parts = ps at *
  subst hcol
  subst ho
  have c1 : ¬ 9223372036854775807 < nm.size + 1 := by omega
  have c2 : ¬ 9223372036854775807 < nm.size + 1 + 2 := by omega
  have c3 : ¬ 9223372036854775807 < nm.size + 1 + 2 + 1 := by omega
  have c4 : ¬ 9223372036854775807 < nm.size + 1 + 2 + 1 + T.size := by omega
  have cw : IntKind.i64.wrap 4 = 4 := by decide
  go_enter Tryz.func34, Tryz.ntmps34
  go_wp2_with fail
  refine HL.out.mono ?_
  rintro e w' ⟨rfl, rfl⟩
  go_wp2_with fail
  refine HP.out.mono ?_
  rintro e w2 ⟨rfl, hb2⟩
  have hz2 := hb2.size
  simp at hz2
  have hbox2 := (hb2.block w.heap.size (by simp)).trans HB.out.1
  have hgc2 := (hb2.cell (World.block_lt_of_cell? _ _ HB.out.2)).trans HB.out.2
  have d0 : w2.drew.cell? ⟨w.heap.size, 0, none⟩ = some (.int .i64 5) := by show w2.cell? _ = _; unfold World.cell?; rw [hbox2]; rfl
  have d1 : w2.drew.cell? ⟨w.heap.size, 1, none⟩ = some (.int .i64 (k : Int)) := by show w2.cell? _ = _; unfold World.cell?; rw [hbox2]; rfl
  have HBX : Hid ((w2.drew.alloc signsObj).heap[w.heap.size]? = some _) := Lib.hid ((Below.heap_alloc w2.drew signsObj w.heap.size (by simp; omega)).trans hbox2)
  have hW2 := HH.out.1.after hb2 (by have := HH.out.2.1.size; exact this)
  have HW3 := Lib.hid (hW2.after (((Below.refl w2.heap.size w2).drew).alloc (by simp) signsObj) (by have := HH.out.2.1.size; simp at this; omega))
  clear hb2 hW2
  go_wp2
  refine wp_region_noPanic ?_
  refine wp_region_held_drew (S := (fun w' => w'.cell? ⟨w.heap.size, 0, none⟩ = some (.int .i64 5) ∧ w'.cell? ⟨w.heap.size, 1, none⟩ = some (.int .i64 (k : Int)) ∧ w'.cell? ⟨cb, co + k * 2, none⟩ = some (.string nm))) (by kernel_rfl) ⟨d0, d1, hgc2⟩ (fun hS => ?_)
  refine wpAnyH_take (i := 0) (v := ?_) rfl (by kernel_rfl) (by kernel_rfl) (by kernel_rfl) (fun _ _ _ h => h) (Or.inl ⟨by rfl, ?_⟩) hS ?_
  rotate_left
  · rintro w9 ⟨t0, t1, t2⟩
    go_simp
    try with_reducible rfl
  try simp only [Act.put, List.getElem_toArray, List.getElem_cons_succ, List.getElem_cons_zero, List.setIfInBounds_toArray, List.set_cons_zero, List.set_cons_succ]
  refine wpAnyH_take (i := 1) (v := ?_) rfl (by kernel_rfl) (by kernel_rfl) (by kernel_rfl) (fun _ _ _ h => h) (Or.inl ⟨by rfl, ?_⟩) hS ?_
  rotate_left
  · rintro w9 ⟨t0, t1, t2⟩
    go_simp
    try with_reducible rfl
  try simp only [Act.put, List.getElem_toArray, List.getElem_cons_succ, List.getElem_cons_zero, List.setIfInBounds_toArray, List.set_cons_zero, List.set_cons_succ]
  refine wpAnyH_take (i := 2) (v := ?_) rfl (by kernel_rfl) (by kernel_rfl) (by kernel_rfl) (fun _ _ _ h => h) (Or.inl ⟨by rfl, ?_⟩) hS ?_
  rotate_left
  · rintro w9 ⟨t0, t1, t2⟩
    go_simp
    try with_reducible rfl
  try simp only [Act.put, List.getElem_toArray, List.getElem_cons_succ, List.getElem_cons_zero, List.setIfInBounds_toArray, List.set_cons_zero, List.set_cons_succ]
  refine wpAnyH_take (i := 3) (v := ?_) rfl (by kernel_rfl) (by kernel_rfl) (by kernel_rfl) (fun _ _ _ h => h) (Or.inl ⟨by rfl, ?_⟩) hS ?_
  rotate_left
  · rintro w9 ⟨t0, t1, t2⟩
    go_simp
    try with_reducible rfl
  try simp only [Act.put, List.getElem_toArray, List.getElem_cons_succ, List.getElem_cons_zero, List.setIfInBounds_toArray, List.set_cons_zero, List.set_cons_succ]
  refine wpAnyH_take (i := 4) (v := ?_) rfl (by kernel_rfl) (by kernel_rfl) (by kernel_rfl) (fun _ _ _ h => h) (Or.inl ⟨by rfl, ?_⟩) hS ?_
  rotate_left
  · rintro w9 ⟨t0, t1, t2⟩
    go_simp
    try with_reducible rfl
  try simp only [Act.put, List.getElem_toArray, List.getElem_cons_succ, List.getElem_cons_zero, List.setIfInBounds_toArray, List.set_cons_zero, List.set_cons_succ]
  refine wpAnyH_take (i := 5) (v := ?_) rfl (by kernel_rfl) (by kernel_rfl) (by kernel_rfl) (fun _ _ _ h => h) (Or.inl ⟨by rfl, ?_⟩) hS ?_
  rotate_left
  · rintro w9 ⟨t0, t1, t2⟩
    go_simp
    try with_reducible rfl
  try simp only [Act.put, List.getElem_toArray, List.getElem_cons_succ, List.getElem_cons_zero, List.setIfInBounds_toArray, List.set_cons_zero, List.set_cons_succ]
  refine wpAnyH_take (i := 6) (v := ?_) rfl (by kernel_rfl) (by kernel_rfl) (by kernel_rfl) (fun _ _ _ h => h) (Or.inl ⟨by rfl, ?_⟩) hS ?_
  rotate_left
  · rintro w9 ⟨t0, t1, t2⟩
    go_simp
    try with_reducible rfl
  try simp only [Act.put, List.getElem_toArray, List.getElem_cons_succ, List.getElem_cons_zero, List.setIfInBounds_toArray, List.set_cons_zero, List.set_cons_succ]
  refine wpAnyH_take (i := 7) (v := ?_) rfl (by kernel_rfl) (by kernel_rfl) (by kernel_rfl) (fun _ _ _ h => h) (Or.inl ⟨by rfl, ?_⟩) hS ?_
  rotate_left
  · rintro w9 ⟨t0, t1, t2⟩
    go_simp
    try with_reducible rfl
  try simp only [Act.put, List.getElem_toArray, List.getElem_cons_succ, List.getElem_cons_zero, List.setIfInBounds_toArray, List.set_cons_zero, List.set_cons_succ]
  refine wpAnyH_take (i := 9) (v := ?_) rfl (by kernel_rfl) (by kernel_rfl) (by kernel_rfl) (fun _ _ _ h => h) (Or.inl ⟨by rfl, ?_⟩) hS ?_
  rotate_left
  · rintro w9 ⟨t0, t1, t2⟩
    go_simp
    try with_reducible rfl
  try simp only [Act.put, List.getElem_toArray, List.getElem_cons_succ, List.getElem_cons_zero, List.setIfInBounds_toArray, List.set_cons_zero, List.set_cons_succ]
  refine wpAnyH_take (i := 10) (v := ?_) rfl (by kernel_rfl) (by kernel_rfl) (by kernel_rfl) (fun _ _ _ h => h) (Or.inl ⟨by rfl, ?_⟩) hS ?_
  rotate_left
  · rintro w9 ⟨t0, t1, t2⟩
    go_simp
    try with_reducible rfl
  try simp only [Act.put, List.getElem_toArray, List.getElem_cons_succ, List.getElem_cons_zero, List.setIfInBounds_toArray, List.set_cons_zero, List.set_cons_succ]
  refine wpAnyH_take (i := 11) (v := ?_) rfl (by kernel_rfl) (by kernel_rfl) (by kernel_rfl) (fun _ _ _ h => h) (Or.inl ⟨by rfl, ?_⟩) hS ?_
  rotate_left
  · rintro w9 ⟨t0, t1, t2⟩
    go_simp
    try with_reducible rfl
  try simp only [Act.put, List.getElem_toArray, List.getElem_cons_succ, List.getElem_cons_zero, List.setIfInBounds_toArray, List.set_cons_zero, List.set_cons_succ]
  refine wpAnyH_take (i := 16) (v := ?_) rfl (by kernel_rfl) (by kernel_rfl) (by kernel_rfl) (fun _ _ _ h => h) (Or.inl ⟨by rfl, ?_⟩) hS ?_
  rotate_left
  · rintro w9 ⟨t0, t1, t2⟩
    go_simp
    try with_reducible rfl
  try simp only [Act.put, List.getElem_toArray, List.getElem_cons_succ, List.getElem_cons_zero, List.setIfInBounds_toArray, List.set_cons_zero, List.set_cons_succ]
  refine wpAnyH_ready (rs := [8]) (by kernel_rfl) (by simp) ?_
  refine AllReadyH.cons rfl (fun K hK => ?_) AllReadyH.nil
  go_simp
  refine (signs_any _).mono ?_
  rintro e w3 ⟨rfl, rfl⟩
  have hS3 : (fun w' => w'.cell? ⟨w.heap.size, 0, none⟩ = some (.int .i64 5) ∧ w'.cell? ⟨w.heap.size, 1, none⟩ = some (.int .i64 (k : Int)) ∧ w'.cell? ⟨cb, co + k * 2, none⟩ = some (.string nm)) (w2.drew.alloc signsObj) := ⟨cellA hS.1 _, cellA hS.2.1 _, cellA hS.2.2 _⟩
  refine hK.out _ _ hS3 (fun _ => ?_)
  clear hK K
  try simp only [Act.put, List.getElem_toArray, List.getElem_cons_succ, List.getElem_cons_zero, List.setIfInBounds_toArray, List.set_cons_zero, List.set_cons_succ]
  refine wpAnyH_take (i := 12) (v := ?_) rfl (by kernel_rfl) (by kernel_rfl) (by kernel_rfl) (fun _ _ _ h => h) (Or.inl ⟨by rfl, ?_⟩) hS3 ?_
  rotate_left
  · rintro w9 ⟨t0, t1, t2⟩
    go_simp
    try with_reducible rfl
  try simp only [Act.put, List.getElem_toArray, List.getElem_cons_succ, List.getElem_cons_zero, List.setIfInBounds_toArray, List.set_cons_zero, List.set_cons_succ]
  refine wpAnyH_ready (rs := [13]) (by kernel_rfl) (by simp) ?_
  refine AllReadyH.cons rfl (fun K hK => ?_) AllReadyH.nil
  go_simp
  refine hK.out _ _ hS3 (fun _ => ?_)
  clear hK K
  try simp only [Act.put, List.getElem_toArray, List.getElem_cons_succ, List.getElem_cons_zero, List.setIfInBounds_toArray, List.set_cons_zero, List.set_cons_succ]
  refine wpAnyH_take (i := 14) (v := ?_) rfl (by kernel_rfl) (by kernel_rfl) (by kernel_rfl) (fun _ _ _ h => h) (Or.inl ⟨by rfl, ?_⟩) hS3 ?_
  rotate_left
  · rintro w9 ⟨t0, t1, t2⟩
    go_simp
    try with_reducible rfl
  try simp only [Act.put, List.getElem_toArray, List.getElem_cons_succ, List.getElem_cons_zero, List.setIfInBounds_toArray, List.set_cons_zero, List.set_cons_succ]
  refine wpAnyH_take (i := 15) (v := ?_) rfl (by kernel_rfl) (by kernel_rfl) (by kernel_rfl) (fun _ _ _ h => h) (Or.inl ⟨by rfl, ?_⟩) hS3 ?_
  rotate_left
  · rintro w9 ⟨t0, t1, t2⟩
    go_simp
    try with_reducible rfl
  try simp only [Act.put, List.getElem_toArray, List.getElem_cons_succ, List.getElem_cons_zero, List.setIfInBounds_toArray, List.set_cons_zero, List.set_cons_succ]
  refine wpAnyH_take (i := 17) (v := ?_) rfl (by kernel_rfl) (by kernel_rfl) (by kernel_rfl) (fun _ _ _ h => h) (Or.inl ⟨by rfl, ?_⟩) hS3 ?_
  rotate_left
  · rintro w9 ⟨t0, t1, t2⟩
    go_simp
    try with_reducible rfl
  try simp only [Act.put, List.getElem_toArray, List.getElem_cons_succ, List.getElem_cons_zero, List.setIfInBounds_toArray, List.set_cons_zero, List.set_cons_succ]
  refine wpAnyH_ready (rs := [18]) (by kernel_rfl) (by simp) ?_
  refine AllReadyH.cons rfl (fun K hK => ?_) AllReadyH.nil
  go_simp
  refine (wstr_any _ _ _ _ _ HW3.out.bd (by have := HLL.out; omega) (by have z1 : (⟨#[32]⟩ : ByteArray).size = 1 := rfl; have z2 : (⟨#[62, 61]⟩ : ByteArray).size = 2 := rfl; simp; omega) (by have := HH.out.2.1.size; simp at this ⊢; omega)).mono ?_
  rintro e w4 ⟨rfl, hw4⟩
  have hS4 : (fun w' => w'.cell? ⟨w.heap.size, 0, none⟩ = some (.int .i64 5) ∧ w'.cell? ⟨w.heap.size, 1, none⟩ = some (.int .i64 (k : Int)) ∧ w'.cell? ⟨cb, co + k * 2, none⟩ = some (.string nm)) w4 := by
    have hbx := hw4.kept w.heap.size _ (HBX.out) (by simpa using hgb) (fun c fz e => by injection e with _ h2; cases h2)
    refine ⟨?_, ?_, ?_⟩
    · unfold World.cell?; rw [hbx]; rfl
    · unfold World.cell?; rw [hbx]; rfl
    · exact (hw4.below.cell (World.block_lt_of_cell? _ _ HG0.out)).trans hS3.2.2
  refine hK.out _ _ hS4 (fun _ => ?_)
  clear hK K
  try simp only [Act.put, List.getElem_toArray, List.getElem_cons_succ, List.getElem_cons_zero, List.setIfInBounds_toArray, List.set_cons_zero, List.set_cons_succ]
  refine wpAnyH_done (by kernel_rfl) ?_ _
  refine NoPanic.normal ?_
  go_wp2
  (try simp only [Exit.inBlock, Exit.then])
  go_end0
  refine ⟨rfl, _, HW3.out.trans hw4, .inl ?_, ?_⟩
  · rw [HTX.out, ← HTD.out.1, show (signL 5) = [62, 61] from rfl]
    simp
  · have z1 : (⟨#[32]⟩ : ByteArray).size = 1 := rfl
    have z2 : (⟨#[62, 61]⟩ : ByteArray).size = 2 := rfl
    have := HLL.out
    simp
    omega

set_option maxRecDepth 100000 in
set_option maxHeartbeats 4000000 in
theorem write_leaf6 (cols : List Co) (ac : Option Addr) (cc : Nat) (w0 : World) (b n m : Nat) (t : PT) (a : Option Addr) (c : Nat) (pa : Option Addr) (pc : Nat) (l : List UInt8) (w : World)
    (hcols : colsB cols = true) (hr0 : ColIs w0 ac cols) (hG : Globs w0) (hp : PredIs m w0 t a pa) (hm : mayP cols (n + 1) t = true) (ho : t.op = 6)
    (hb0 : Below w0.heap.size w0 w) (hbd : BD w0.heap.size b l w) (hl : l.length ≤ 1024) :
    Calls Tryz.prog 34 #[.pointer (some ⟨b, 0, none⟩), pv t a c pa pc, .slice ac cols.length cc] w fun e w' => e = .returned (.tuple #[]) ∧ ∃ l', Wrote w0.heap.size b w w' l' ∧ WR l (textP cols (n + 1) t) l' ∧ l'.length ≤ max l.length (3000 + 50 * (n + 1)) := by
  have hop : 1 ≤ t.op ∧ t.op ≤ 6 := by omega
  obtain ⟨k, hcol, hklt, hdm, -⟩ := LeafOk.of hm hop
  have hb1 : Below w.heap.size w (w.alloc (pbox t a c pa pc)) := by go_grown
  have hb01 := hb0.trans (hb1.mono hb0.size)
  have hbd1 := bkeepI hbd hb1
  have hw1 := Wrote.of_below hbd hb1 hb0.size
  have hgb : w.heap.size ≠ b := by have := BD.lt hbd; omega
  have hbox : (w.alloc (pbox t a c pa pc)).heap[w.heap.size]? = some (pbox t a c pa pc) := heap_alloc_new w _
  have HL := Lib.hid (blen_any _ b l _ hbd1)
  have HP := Lib.hid (print_call t.d a c _ (hp.da.below hb01) (hG.below hb01))
  have hgood := hp.da.good hdm
  rw [show tS t.d = ⟨t.d.text.toArray⟩ by simp [tS, hdm], show dE t.d = 0 by simp [dE, hdm]] at HP
  have hts : (⟨t.d.text.toArray⟩ : ByteArray).size ≤ 800 := by rw [ba_size]; exact text_len hgood
  have htd : (⟨t.d.text.toArray⟩ : ByteArray).data.toList = t.d.text := by simp
  generalize hT : (⟨t.d.text.toArray⟩ : ByteArray) = T at *
  obtain ⟨hnm, hns⟩ := name_len hcols k hklt
  have HTX := Lib.hid ((textP_leaf (cols := cols) (n := n) hop).trans (by rw [nameAt_eq cols t.col k hcol hklt]))
  obtain ⟨cb, co, rfl, g0, _, _, _⟩ := hr0.at_ k hklt
  have hgc := (hb01.cell (World.block_lt_of_cell? _ _ g0)).trans g0
  have hkl : (k : Int) < (cols.length : Int) := by have := hklt; omega
  have hkg : (0 : Int) ≤ (k : Int) := by omega
  have hss := signB_size t.op
  have hsd : (signB t.op).data.toList = signL t.op := by simp [signB]
  have e1 : decide ((1024 : Int) < (l.length : Int)) = false := by rw [decide_eq_false_iff_not]; omega
  have HH := Lib.hid (And.intro hw1 (And.intro hb01 (And.intro hb0 hgood)))
  have HB := Lib.hid (And.intro hbox hgc)
  have HG0 := Lib.hid g0
  clear hp hm hbd hbd1 hw1 hb1 hbox hgc g0 hr0 hgood hnm
  generalize cols[k].name = nm at *
  have HTD := Lib.hid (And.intro htd hsd)
  clear htd hsd hT
  generalize hll : l.length = ll at *
  have HLL := Lib.hid hll
  clear hll
  unfold pbox at *
  unfold pv
  generalize textP cols (n + 1) t = TX at *
  generalize t.d.text = TXT at *
  generalize t.op = op at *
  generalize t.col = col at *
  generalize t.d = d at *
  generalize t.parts = ps at *
  subst hcol
  subst ho
  have c1 : ¬ 9223372036854775807 < nm.size + 1 := by omega
  have c2 : ¬ 9223372036854775807 < nm.size + 1 + 3 := by omega
  have c3 : ¬ 9223372036854775807 < nm.size + 1 + 3 + 1 := by omega
  have c4 : ¬ 9223372036854775807 < nm.size + 1 + 3 + 1 + T.size := by omega
  have cw : IntKind.i64.wrap 5 = 5 := by decide
  go_enter Tryz.func34, Tryz.ntmps34
  go_wp2_with fail
  refine HL.out.mono ?_
  rintro e w' ⟨rfl, rfl⟩
  go_wp2_with fail
  refine HP.out.mono ?_
  rintro e w2 ⟨rfl, hb2⟩
  have hz2 := hb2.size
  simp at hz2
  have hbox2 := (hb2.block w.heap.size (by simp)).trans HB.out.1
  have hgc2 := (hb2.cell (World.block_lt_of_cell? _ _ HB.out.2)).trans HB.out.2
  have d0 : w2.drew.cell? ⟨w.heap.size, 0, none⟩ = some (.int .i64 6) := by show w2.cell? _ = _; unfold World.cell?; rw [hbox2]; rfl
  have d1 : w2.drew.cell? ⟨w.heap.size, 1, none⟩ = some (.int .i64 (k : Int)) := by show w2.cell? _ = _; unfold World.cell?; rw [hbox2]; rfl
  have HBX : Hid ((w2.drew.alloc signsObj).heap[w.heap.size]? = some _) := Lib.hid ((Below.heap_alloc w2.drew signsObj w.heap.size (by simp; omega)).trans hbox2)
  have hW2 := HH.out.1.after hb2 (by have := HH.out.2.1.size; exact this)
  have HW3 := Lib.hid (hW2.after (((Below.refl w2.heap.size w2).drew).alloc (by simp) signsObj) (by have := HH.out.2.1.size; simp at this; omega))
  clear hb2 hW2
  go_wp2
  refine wp_region_noPanic ?_
  refine wp_region_held_drew (S := (fun w' => w'.cell? ⟨w.heap.size, 0, none⟩ = some (.int .i64 6) ∧ w'.cell? ⟨w.heap.size, 1, none⟩ = some (.int .i64 (k : Int)) ∧ w'.cell? ⟨cb, co + k * 2, none⟩ = some (.string nm))) (by kernel_rfl) ⟨d0, d1, hgc2⟩ (fun hS => ?_)
  refine wpAnyH_take (i := 0) (v := ?_) rfl (by kernel_rfl) (by kernel_rfl) (by kernel_rfl) (fun _ _ _ h => h) (Or.inl ⟨by rfl, ?_⟩) hS ?_
  rotate_left
  · rintro w9 ⟨t0, t1, t2⟩
    go_simp
    try with_reducible rfl
  try simp only [Act.put, List.getElem_toArray, List.getElem_cons_succ, List.getElem_cons_zero, List.setIfInBounds_toArray, List.set_cons_zero, List.set_cons_succ]
  refine wpAnyH_take (i := 1) (v := ?_) rfl (by kernel_rfl) (by kernel_rfl) (by kernel_rfl) (fun _ _ _ h => h) (Or.inl ⟨by rfl, ?_⟩) hS ?_
  rotate_left
  · rintro w9 ⟨t0, t1, t2⟩
    go_simp
    try with_reducible rfl
  try simp only [Act.put, List.getElem_toArray, List.getElem_cons_succ, List.getElem_cons_zero, List.setIfInBounds_toArray, List.set_cons_zero, List.set_cons_succ]
  refine wpAnyH_take (i := 2) (v := ?_) rfl (by kernel_rfl) (by kernel_rfl) (by kernel_rfl) (fun _ _ _ h => h) (Or.inl ⟨by rfl, ?_⟩) hS ?_
  rotate_left
  · rintro w9 ⟨t0, t1, t2⟩
    go_simp
    try with_reducible rfl
  try simp only [Act.put, List.getElem_toArray, List.getElem_cons_succ, List.getElem_cons_zero, List.setIfInBounds_toArray, List.set_cons_zero, List.set_cons_succ]
  refine wpAnyH_take (i := 3) (v := ?_) rfl (by kernel_rfl) (by kernel_rfl) (by kernel_rfl) (fun _ _ _ h => h) (Or.inl ⟨by rfl, ?_⟩) hS ?_
  rotate_left
  · rintro w9 ⟨t0, t1, t2⟩
    go_simp
    try with_reducible rfl
  try simp only [Act.put, List.getElem_toArray, List.getElem_cons_succ, List.getElem_cons_zero, List.setIfInBounds_toArray, List.set_cons_zero, List.set_cons_succ]
  refine wpAnyH_take (i := 4) (v := ?_) rfl (by kernel_rfl) (by kernel_rfl) (by kernel_rfl) (fun _ _ _ h => h) (Or.inl ⟨by rfl, ?_⟩) hS ?_
  rotate_left
  · rintro w9 ⟨t0, t1, t2⟩
    go_simp
    try with_reducible rfl
  try simp only [Act.put, List.getElem_toArray, List.getElem_cons_succ, List.getElem_cons_zero, List.setIfInBounds_toArray, List.set_cons_zero, List.set_cons_succ]
  refine wpAnyH_take (i := 5) (v := ?_) rfl (by kernel_rfl) (by kernel_rfl) (by kernel_rfl) (fun _ _ _ h => h) (Or.inl ⟨by rfl, ?_⟩) hS ?_
  rotate_left
  · rintro w9 ⟨t0, t1, t2⟩
    go_simp
    try with_reducible rfl
  try simp only [Act.put, List.getElem_toArray, List.getElem_cons_succ, List.getElem_cons_zero, List.setIfInBounds_toArray, List.set_cons_zero, List.set_cons_succ]
  refine wpAnyH_take (i := 6) (v := ?_) rfl (by kernel_rfl) (by kernel_rfl) (by kernel_rfl) (fun _ _ _ h => h) (Or.inl ⟨by rfl, ?_⟩) hS ?_
  rotate_left
  · rintro w9 ⟨t0, t1, t2⟩
    go_simp
    try with_reducible rfl
  try simp only [Act.put, List.getElem_toArray, List.getElem_cons_succ, List.getElem_cons_zero, List.setIfInBounds_toArray, List.set_cons_zero, List.set_cons_succ]
  refine wpAnyH_take (i := 7) (v := ?_) rfl (by kernel_rfl) (by kernel_rfl) (by kernel_rfl) (fun _ _ _ h => h) (Or.inl ⟨by rfl, ?_⟩) hS ?_
  rotate_left
  · rintro w9 ⟨t0, t1, t2⟩
    go_simp
    try with_reducible rfl
  try simp only [Act.put, List.getElem_toArray, List.getElem_cons_succ, List.getElem_cons_zero, List.setIfInBounds_toArray, List.set_cons_zero, List.set_cons_succ]
  refine wpAnyH_take (i := 9) (v := ?_) rfl (by kernel_rfl) (by kernel_rfl) (by kernel_rfl) (fun _ _ _ h => h) (Or.inl ⟨by rfl, ?_⟩) hS ?_
  rotate_left
  · rintro w9 ⟨t0, t1, t2⟩
    go_simp
    try with_reducible rfl
  try simp only [Act.put, List.getElem_toArray, List.getElem_cons_succ, List.getElem_cons_zero, List.setIfInBounds_toArray, List.set_cons_zero, List.set_cons_succ]
  refine wpAnyH_take (i := 10) (v := ?_) rfl (by kernel_rfl) (by kernel_rfl) (by kernel_rfl) (fun _ _ _ h => h) (Or.inl ⟨by rfl, ?_⟩) hS ?_
  rotate_left
  · rintro w9 ⟨t0, t1, t2⟩
    go_simp
    try with_reducible rfl
  try simp only [Act.put, List.getElem_toArray, List.getElem_cons_succ, List.getElem_cons_zero, List.setIfInBounds_toArray, List.set_cons_zero, List.set_cons_succ]
  refine wpAnyH_take (i := 11) (v := ?_) rfl (by kernel_rfl) (by kernel_rfl) (by kernel_rfl) (fun _ _ _ h => h) (Or.inl ⟨by rfl, ?_⟩) hS ?_
  rotate_left
  · rintro w9 ⟨t0, t1, t2⟩
    go_simp
    try with_reducible rfl
  try simp only [Act.put, List.getElem_toArray, List.getElem_cons_succ, List.getElem_cons_zero, List.setIfInBounds_toArray, List.set_cons_zero, List.set_cons_succ]
  refine wpAnyH_take (i := 16) (v := ?_) rfl (by kernel_rfl) (by kernel_rfl) (by kernel_rfl) (fun _ _ _ h => h) (Or.inl ⟨by rfl, ?_⟩) hS ?_
  rotate_left
  · rintro w9 ⟨t0, t1, t2⟩
    go_simp
    try with_reducible rfl
  try simp only [Act.put, List.getElem_toArray, List.getElem_cons_succ, List.getElem_cons_zero, List.setIfInBounds_toArray, List.set_cons_zero, List.set_cons_succ]
  refine wpAnyH_ready (rs := [8]) (by kernel_rfl) (by simp) ?_
  refine AllReadyH.cons rfl (fun K hK => ?_) AllReadyH.nil
  go_simp
  refine (signs_any _).mono ?_
  rintro e w3 ⟨rfl, rfl⟩
  have hS3 : (fun w' => w'.cell? ⟨w.heap.size, 0, none⟩ = some (.int .i64 6) ∧ w'.cell? ⟨w.heap.size, 1, none⟩ = some (.int .i64 (k : Int)) ∧ w'.cell? ⟨cb, co + k * 2, none⟩ = some (.string nm)) (w2.drew.alloc signsObj) := ⟨cellA hS.1 _, cellA hS.2.1 _, cellA hS.2.2 _⟩
  refine hK.out _ _ hS3 (fun _ => ?_)
  clear hK K
  try simp only [Act.put, List.getElem_toArray, List.getElem_cons_succ, List.getElem_cons_zero, List.setIfInBounds_toArray, List.set_cons_zero, List.set_cons_succ]
  refine wpAnyH_take (i := 12) (v := ?_) rfl (by kernel_rfl) (by kernel_rfl) (by kernel_rfl) (fun _ _ _ h => h) (Or.inl ⟨by rfl, ?_⟩) hS3 ?_
  rotate_left
  · rintro w9 ⟨t0, t1, t2⟩
    go_simp
    try with_reducible rfl
  try simp only [Act.put, List.getElem_toArray, List.getElem_cons_succ, List.getElem_cons_zero, List.setIfInBounds_toArray, List.set_cons_zero, List.set_cons_succ]
  refine wpAnyH_ready (rs := [13]) (by kernel_rfl) (by simp) ?_
  refine AllReadyH.cons rfl (fun K hK => ?_) AllReadyH.nil
  go_simp
  refine hK.out _ _ hS3 (fun _ => ?_)
  clear hK K
  try simp only [Act.put, List.getElem_toArray, List.getElem_cons_succ, List.getElem_cons_zero, List.setIfInBounds_toArray, List.set_cons_zero, List.set_cons_succ]
  refine wpAnyH_take (i := 14) (v := ?_) rfl (by kernel_rfl) (by kernel_rfl) (by kernel_rfl) (fun _ _ _ h => h) (Or.inl ⟨by rfl, ?_⟩) hS3 ?_
  rotate_left
  · rintro w9 ⟨t0, t1, t2⟩
    go_simp
    try with_reducible rfl
  try simp only [Act.put, List.getElem_toArray, List.getElem_cons_succ, List.getElem_cons_zero, List.setIfInBounds_toArray, List.set_cons_zero, List.set_cons_succ]
  refine wpAnyH_take (i := 15) (v := ?_) rfl (by kernel_rfl) (by kernel_rfl) (by kernel_rfl) (fun _ _ _ h => h) (Or.inl ⟨by rfl, ?_⟩) hS3 ?_
  rotate_left
  · rintro w9 ⟨t0, t1, t2⟩
    go_simp
    try with_reducible rfl
  try simp only [Act.put, List.getElem_toArray, List.getElem_cons_succ, List.getElem_cons_zero, List.setIfInBounds_toArray, List.set_cons_zero, List.set_cons_succ]
  refine wpAnyH_take (i := 17) (v := ?_) rfl (by kernel_rfl) (by kernel_rfl) (by kernel_rfl) (fun _ _ _ h => h) (Or.inl ⟨by rfl, ?_⟩) hS3 ?_
  rotate_left
  · rintro w9 ⟨t0, t1, t2⟩
    go_simp
    try with_reducible rfl
  try simp only [Act.put, List.getElem_toArray, List.getElem_cons_succ, List.getElem_cons_zero, List.setIfInBounds_toArray, List.set_cons_zero, List.set_cons_succ]
  refine wpAnyH_ready (rs := [18]) (by kernel_rfl) (by simp) ?_
  refine AllReadyH.cons rfl (fun K hK => ?_) AllReadyH.nil
  go_simp
  refine (wstr_any _ _ _ _ _ HW3.out.bd (by have := HLL.out; omega) (by have z1 : (⟨#[32]⟩ : ByteArray).size = 1 := rfl; have z2 : (⟨#[104, 97, 115]⟩ : ByteArray).size = 3 := rfl; simp; omega) (by have := HH.out.2.1.size; simp at this ⊢; omega)).mono ?_
  rintro e w4 ⟨rfl, hw4⟩
  have hS4 : (fun w' => w'.cell? ⟨w.heap.size, 0, none⟩ = some (.int .i64 6) ∧ w'.cell? ⟨w.heap.size, 1, none⟩ = some (.int .i64 (k : Int)) ∧ w'.cell? ⟨cb, co + k * 2, none⟩ = some (.string nm)) w4 := by
    have hbx := hw4.kept w.heap.size _ (HBX.out) (by simpa using hgb) (fun c fz e => by injection e with _ h2; cases h2)
    refine ⟨?_, ?_, ?_⟩
    · unfold World.cell?; rw [hbx]; rfl
    · unfold World.cell?; rw [hbx]; rfl
    · exact (hw4.below.cell (World.block_lt_of_cell? _ _ HG0.out)).trans hS3.2.2
  refine hK.out _ _ hS4 (fun _ => ?_)
  clear hK K
  try simp only [Act.put, List.getElem_toArray, List.getElem_cons_succ, List.getElem_cons_zero, List.setIfInBounds_toArray, List.set_cons_zero, List.set_cons_succ]
  refine wpAnyH_done (by kernel_rfl) ?_ _
  refine NoPanic.normal ?_
  go_wp2
  (try simp only [Exit.inBlock, Exit.then])
  go_end0
  refine ⟨rfl, _, HW3.out.trans hw4, .inl ?_, ?_⟩
  · rw [HTX.out, ← HTD.out.1, show (signL 6) = [104, 97, 115] from rfl]
    simp
  · have z1 : (⟨#[32]⟩ : ByteArray).size = 1 := rfl
    have z2 : (⟨#[104, 97, 115]⟩ : ByteArray).size = 3 := rfl
    have := HLL.out
    simp
    omega

end Go.Proofs.YtdjlbfepddcmeaaGreatDoor
