/- A bitmap index: Find. A bitmap index: what must come, whatever the arguments are (awake). -/
import Derived.Test.YtoejgkcaamkanaaGreatDoorQ15
import Derived.Deep.LoopGhost
set_option linter.unusedVariables false
set_option linter.unusedSimpArgs false
namespace Go.Proofs.YtoejgkcaamkanaaGreatDoor
open Go.RowKit

theorem wp_appnuAll {ops : Array Oper} {rest : List Oper} {o : Oper} {a : Act} {Q : Exit → Act → World → Prop} {w : World} (hgd : o.guard = none) (s x : Operand)
    (ho : o.op = .call { callee := .builtin .append, args := #[s, x], argTypes := #[38, 38] })
    (B : Nat) (v : Value) (l : List Nu) (hs : a.eval s = v) (hb : nuRows w B v l) (B2 g4 n4 c4 : Nat) (m : List Nu) (hm : nuRows w B2 (.slice (some ⟨g4, 0, none⟩) n4 c4) m) (hx : a.eval x = .slice (some ⟨g4, 0, none⟩) n4 c4) (h0 : 0 < m.length)
    (hlen : l.length + m.length ≤ 1099511627776) (hB : B ≤ w.heap.size)
    (h : ∀ g cap w', nuRows w' B (.slice (some ⟨g, 0, none⟩) (l ++ m).length cap) (l ++ m) → w.grownBy w' v.ownBlock → (v.ownBlock = some g ∨ g = w.heap.size) → wpList Tryz.prog ops Q rest (a.put o.dst (.slice (some ⟨g, 0, none⟩) (l ++ m).length cap)) w') : wpList Tryz.prog ops Q (o :: rest) a w := by
  obtain ⟨i0, hi, hz0, hz1, hz2⟩ := info_of nu_info
  have hn4 : n4 = m.length := (hm.cells 0 h0).2.1
  subst hn4
  have hnl : (m.flatMap nuc).length = m.length * 1 := by
    clear hm hx h0 hlen h
    induction m with
    | nil => rfl
    | cons y m ih => simp [List.flatMap_cons, ih, nuc]
  refine wpList_append_lies w hgd s x 38 ho B 3 i0 _ 1 8 Tryz.underlying38 hi hz0 hz1 hz2 rfl (by decide) v l.length (l.flatMap nuc) hs hb ⟨g4, 0, none⟩ m.length c4 (m.flatMap nuc) hx hnl ?_ ?_ h0 (by unfold maxLen; omega) (by omega) hB _ rfl ?_
  · intro j u hj
    exact World.ownsRow.cells hm (g := g4) rfl j u hj
  · intro u hu
    obtain ⟨y, _, hy⟩ := List.mem_flatMap.1 hu
    simp [nuc] at hy
    subst hy
    rfl
  · intro g cap w' hown hg hat hlt
    rw [show l.length + m.length = (l ++ m).length by simp] at hown ⊢
    refine h g cap w' ?_ hg hat
    unfold nuRows
    rw [List.flatMap_append]
    exact hown

theorem BIs.off {bs : Nat} {B : Base bs} {w w' : World} {ba mb tb k : Nat} {o : Obj} {F G : Nat → Prop} {R : Raw} {L : List KV} (h : BIs B w ba mb tb k o F R L) (ho : Off G w w') (hG : ∀ j, G j → ¬ F j ∧ j ≠ mb ∧ j ≠ tb ∧ 1 ≤ j) : BIs B w' ba mb tb k o F R L := by
  refine ⟨⟨⟨?_, ?_, h.m.m.act.off ho (fun j hj e => (hG j e).1 hj), h.m.m.mF, h.m.m.tF⟩, h.m.fine, h.m.k16, h.m.tr⟩, ?_, Nat.le_trans h.h8 ho.size, h.F8⟩
  · exact (ho.block mb h.m.m.lt.1 (fun e => (hG _ e).2.1 rfl)).trans h.m.m.meth
  · exact (ho.block tb h.m.m.lt.2 (fun e => (hG _ e).2.2.1 rfl)).trans h.m.m.tree
  · obtain ⟨m, hm⟩ := h.G.maxlen
    exact ⟨⟨m, ho.cell hm (fun e => by have := (hG _ e).2.2.2; simp at this)⟩⟩

/-- While Find goes: an item in hand (cell gx), the addresses so far (v), the index. -/
structure FA {bs : Nat} (B : Base bs) (w : World) (ba mb tb k : Nat) (F : Nat → Prop) (R : Raw) (L : List KV) (wr : World) (F' : Nat → Prop) (gx : Nat) (x : KV) (v : Value) (l : List Int) : Prop where
  cell : wr.heap[gx]? = some (itemO x)
  b : BIs B wr ba mb tb k (bmO tb) F' R L
  row : nuRows wr w.heap.size v (l.map Nu.mk)
  dis : ∀ g, v.ownBlock = some g → ¬ F' g
  gx : ¬ F' gx ∧ w.heap.size ≤ gx
  yF : ∀ j, j < w.heap.size → F' j → F j
  off : Off F w wr
  lt : mb < w.heap.size ∧ tb < w.heap.size ∧ 1 ≤ w.heap.size
section
variable {bs : Nat} {B : Base bs} {w wr w' w4 w5 : World} {ba mb tb k gx : Nat} {F F' : Nat → Prop} {R : Raw} {L : List KV} {x : KV} {v : Value} {l : List Int}
theorem FA.lt' (h : FA B w ba mb tb k F R L wr F' gx x v l) : gx < wr.heap.size := (Array.getElem?_eq_some_iff.1 h.cell).1
theorem FA.ne (h : FA B w ba mb tb k F R L wr F' gx x v l) (g : Nat) (hg : v.ownBlock = some g) : g ≠ gx ∧ g < wr.heap.size ∧ w.heap.size ≤ g := by
  obtain ⟨h1, cs, fr, h2⟩ := h.row.own hg
  refine ⟨fun e => ?_, h1, (World.ownsRow.lt h.row g hg).1⟩
  subst e
  rw [h.cell] at h2
  cases h2
theorem FA.step (h : FA B w ba mb tb k F R L wr F' gx x v l) (hs : BStep B ba mb tb k (bmO tb) wr F' R L w') : ∃ F2, FA B w ba mb tb k F R L w' F2 gx x v l := by
  have hx := hs.block h.cell h.gx.1
  obtain ⟨F2, hb, hF2, ho⟩ := hs
  exact ⟨F2, hx, hb, h.row.keep (fun g hg => ho.block g (h.ne g hg).2.1 (h.dis g hg)), fun g hg e => h.dis g hg (hF2 g (h.ne g hg).2.1 e), ⟨fun e => h.gx.1 (hF2 _ h.lt' e), h.gx.2⟩, fun j hj e => h.yF j hj (hF2 j (Nat.lt_of_lt_of_le hj h.off.size) e), h.off.trans ho (fun j hj e => h.yF j hj e), h.lt⟩
theorem FA.below (h : FA B w ba mb tb k F R L wr F' gx x v l) (hb : Below wr.heap.size wr w') : FA B w ba mb tb k F R L w' F' gx x v l :=
  ⟨(hb.block gx h.lt').trans h.cell, h.b.below hb, h.row.keep (fun g hg => hb.block g (h.ne g hg).2.1), h.dis, h.gx, h.yF, h.off.trans (Off.of_below hb (F := fun _ => False)) (fun _ _ e => e.elim), h.lt⟩
theorem FA.app (h : FA B w ba mb tb k F R L w4 F' gx x v l) {g cap n : Nat} {m : List Int} (hr : nuRows w5 w.heap.size (.slice (some ⟨g, 0, none⟩) n cap) ((l ++ m).map Nu.mk)) (hg : w4.grownBy w5 v.ownBlock) (hat : v.ownBlock = some g ∨ g = w4.heap.size) : FA B w ba mb tb k F R L w5 F' gx x (.slice (some ⟨g, 0, none⟩) n cap) (l ++ m) := by
  have ho : Off (fun j => v.ownBlock = some j) w4 w5 := ⟨hg.os, hg.tape, hg.output, hg.size, fun j hj hn => hg.block j hj (fun e => hn e.symm)⟩
  refine ⟨(ho.block gx h.lt' (fun e => (h.ne gx e).1 rfl)).trans h.cell, h.b.off ho (fun j hj => ⟨h.dis j hj, ?_, ?_, ?_⟩), hr, ?_, h.gx, h.yF, ?_, h.lt⟩
  · have := (h.ne j hj).2.2; have := h.lt.1; omega
  · have := (h.ne j hj).2.2; have := h.lt.2.1; omega
  · have := (h.ne j hj).2.2; have := h.lt.2.2; omega
  · intro j hj
    have e : j = g := by simpa [Value.ownBlock] using hj.symm
    subst e
    rcases hat with e | e
    · exact h.dis j e
    · intro e'
      have := h.b.m.m.act.1 _ e'
      omega
  · exact ⟨ho.os.trans h.off.os, ho.tape.trans h.off.tape, ho.output.trans h.off.output, Nat.le_trans h.off.size ho.size, fun j hj hn => (ho.block j (Nat.lt_of_lt_of_le hj h.off.size) (fun e => by have := (h.ne j e).2.2; omega)).trans (h.off.block j hj hn)⟩
theorem FA.set (h : FA B w ba mb tb k F R L wr F' gx x v l) (y : KV) : FA B w ba mb tb k F R L ((wr.setCell ⟨gx, 0, none⟩ (.string y.k)).setCell ⟨gx, 1, none⟩ (.string y.v)) F' gx y v l := by
  have ho := off_set2 wr gx 0 1 (.string y.k) (.string y.v)
  have h3 := h.lt
  have h4 := h.gx.2
  refine ⟨heap_set (heap_set h.cell), h.b.off ho (fun j hj => by subst hj; exact ⟨h.gx.1, by omega, by omega, by omega⟩), h.row.keep (fun g hg => ho.block g (h.ne g hg).2.1 (fun e => (h.ne g hg).1 e)), h.dis, h.gx, h.yF, ?_, h.lt⟩
  exact ⟨ho.os.trans h.off.os, ho.tape.trans h.off.tape, ho.output.trans h.off.output, Nat.le_trans h.off.size ho.size, fun j hj hn => (ho.block j (Nat.lt_of_lt_of_le hj h.off.size) (fun e => by have e' : j = gx := e; omega)).trans (h.off.block j hj hn)⟩
theorem FA.fresh (h : FA B w ba mb tb k F R L wr F' gx x v l) (y : KV) : FA B w ba mb tb k F R L (wr.alloc (itemO y)) F' wr.heap.size y v l := by
  have hb : Below wr.heap.size wr (wr.alloc (itemO y)) := by go_grown
  have h' := h.below hb
  exact ⟨hnew wr _, h'.b, h'.row, h'.dis, ⟨fun e => by have := h.b.m.m.act.1 _ e; omega, h.off.size⟩, h'.yF, h'.off, h'.lt⟩
end
theorem da4 {w : World} {g : Nat} {k n : Int} {s : ByteArray} {a : Option Addr} {l c : Nat} (h : w.heap[g]? = some (.cells #[.int .i64 k, .int .i64 n, .string s, .slice a l c] 34)) :
    w.cell? ⟨g, 0, none⟩ = some (.int .i64 k) ∧ w.cell? ⟨g, 1, none⟩ = some (.int .i64 n) ∧ w.cell? ⟨g, 2, none⟩ = some (.string s) ∧ w.cell? ⟨g, 3, none⟩ = some (.slice a l c) := by
  refine ⟨?_, ?_, ?_, ?_⟩ <;> (unfold World.cell?; rw [h]; rfl)
theorem flat_tids_len (l : List KV) : (l.flatMap tidsL).length ≤ 256 * l.length := by
  induction l with
  | nil => simp
  | cons x l ih =>
    have := tidsN_len x 256
    simp only [List.flatMap_cons, List.length_append, List.length_cons]
    unfold tidsL at *
    omega

set_option maxRecDepth 100000 in
set_option maxHeartbeats 4000000 in
theorem bmFind {bs : Nat} {B : Base bs} {w : World} {ba mb tb k : Nat} {F : Nat → Prop} {R : Raw} {L : List KV} (h : BIs B w ba mb tb k (bmO tb) F R L) (d : Da) (a : Option Addr) (c : Nat) (hd : DaIs w d a) (hm : d.may = true) (h3 : d.k ≠ 3)
    (hok : ∀ x ∈ L, 2 ≤ x.k.size ∧ x.v.size = 32 ∧ tidsL x ≠ []) (hfew : L.length < 65536) :
    Calls Tryz.prog 12 #[.pointer (some ⟨mb, 0, none⟩), dv d.k d.n d.s a d.l.length c] w fun e w' => ∃ (i n : Nat) (v : Value), Cut L ⟨d.enc.toArray⟩ i ∧ i + n ≤ L.length ∧ (∀ t (ht : t < L.length), i ≤ t → t < i + n → pre ⟨d.enc.toArray⟩ L[t] = true) ∧ (∀ ht : i + n < L.length, pre ⟨d.enc.toArray⟩ L[i + n] = false) ∧
      e = .returned (.tuple #[v, .int .i64 0]) ∧ nuRows w' w.heap.size v ((((L.drop i).take n).flatMap tidsL).map Nu.mk) ∧
      ∃ F', BIs B w' ba mb tb k (bmO tb) F' R L ∧ (∀ g, v.ownBlock = some g → ¬ F' g) ∧ (∀ j, j < w.heap.size → F' j → F j) ∧ Off F w w' := by
  have hb0 : Below w.heap.size w (w.alloc (.cells #[.int .i64 d.k, .int .i64 d.n, .string d.s, .slice a d.l.length c] 34)) := by go_grown
  have hx0 := hnew w (.cells #[.int .i64 d.k, .int .i64 d.n, .string d.s, .slice a d.l.length c] 34)
  have hnF : ∀ j, w.heap.size ≤ j → ¬ F j := fun j hj e => by have := h.m.m.act.1 _ e; omega
  have HG := Lib.hid (bmGo (h.below hb0))
  have hda : DaIs w d a ∧ d.l = [] := ⟨hd, (simple_may hm h3).2⟩
  have hans : bmBytesAns d = .tuple #[.string ⟨d.enc.toArray⟩, .int .i64 0] := by unfold bmBytesAns; rw [if_pos hm, if_neg h3]
  have H := Lib.hid (And.intro hb0 (And.intro hx0 (And.intro hnF (And.intro hda (And.intro hans (And.intro h hok))))))
  obtain ⟨key, hkey⟩ : ∃ key : ByteArray, key = ⟨d.enc.toArray⟩ := ⟨_, rfl⟩
  have HKey := Lib.hid hkey
  have hz0 : (w.alloc (.cells #[.int .i64 d.k, .int .i64 d.n, .string d.s, .slice a d.l.length c] 34)).heap.size = w.heap.size + 1 := by simp
  have HZ0 := Lib.hid hz0
  rw [← hkey] at hans
  clear hb0 hx0 hnF hda hd hm h3 h hkey hok hz0 hans
  rw [← HKey.out]
  go_enter Tryz.func12, Tryz.ntmps12
  go_wp2_with fail
  refine HG.out.mono ?_
  rintro e w1 ⟨rfl, hst⟩
  obtain ⟨hb0, hx0, hnF, hda, hans, h, hok⟩ := H.out
  rw [← HKey.out] at hans
  have hx1 := hst.block hx0 (hnF _ (Nat.le_refl _))
  obtain ⟨F1, h1, hF1, ho1⟩ := hst
  obtain ⟨c0, c1, c2, c3⟩ := da4 hx1
  have HB := bmBytes d a c w1 (hda.1.any hda.2) h1.G h1.h8
  rw [hans] at HB
  have HBh := Lib.hid HB
  have H1 := Lib.hid (And.intro h1 (And.intro hF1 ho1))
  clear hx1 h1 hF1 ho1 HB hb0 hx0 hnF hda hans h hok HG
  go_wp2_with fail
  refine HBh.out.mono ?_
  rintro e w2 ⟨rfl, hb2⟩
  have h2 := H1.out.1.below hb2
  have hm2 : w2.cell? ⟨mb, 0, none⟩ = some (.pointer (some ⟨tb, 0, none⟩)) := by unfold World.cell?; rw [h2.m.m.meth]; rfl
  have HFr := Lib.hid (h2.m.From key)
  have H2 := Lib.hid (And.intro h2 hb2)
  clear h2 hb2 HBh c0 c1 c2 c3
  go_wp2_with fail
  refine HFr.out.mono ?_
  rintro e w3 ⟨i, hcut, rfl, hst3⟩
  have HE0 := Lib.hid (show ∃ F3, FA B w ba mb tb k F R L (w3.alloc (itemO (yv L i))) F3 w3.heap.size (yv L i) (.slice none 0 0) [] from by
    obtain ⟨hb0, hx0, hnF, hda, hans, h, hok⟩ := H.out
    obtain ⟨h1, hF1, ho1⟩ := H1.out
    obtain ⟨h2, hb2⟩ := H2.out
    have hz0 := HZ0.out
    obtain ⟨F3, h3, hF3, ho3⟩ := h2.step hst3
    have hb : Below w3.heap.size w3 (w3.alloc (itemO (yv L i))) := by go_grown
    have s1 := ho1.size
    have s2 := hb2.size
    have s3 := ho3.size
    refine ⟨F3, hnew w3 _, h3.below hb, nuRows.nil _ _, fun g hg => by simp [Value.ownBlock] at hg, ⟨fun e => by have := h3.m.m.act.1 _ e; omega, by omega⟩, fun j hj e => ?_, ?_, ⟨h.m.lt.1, h.m.lt.2, h.h8⟩⟩
    · exact hF1 j (by omega) (hF3 j (by omega) e)
    · have o1 : Off F w w1 := (Off.of_below hb0 (F := F)).trans ho1 (fun _ _ e => e)
      have o2 : Off F w w2 := o1.trans (Off.of_below hb2 (F := F)) (fun _ _ e => e)
      have o3 : Off F w w3 := o2.trans ho3 (fun j hj e => hF1 j (by omega) e)
      exact o3.trans (Off.of_below hb (F := F)) (fun _ _ e => e))
  rw [show firstI L key true i = i by simp [firstI], itemR_eq]
  have HCut := Lib.hid hcut
  have hile := hcut.le
  clear hst3 hcut hm2
  go_wp2
  go_loopg [10, 11, 9] (L.length - i) (fun gf s10 s11 s9 wr => ∃ (j gx : Nat) (F' : Nat → Prop), gf = L.length - j ∧ i ≤ j ∧ j ≤ L.length ∧ s10 = .pointer (some ⟨gx, 0, none⟩) ∧ s11 = .bool (decide (j < L.length)) ∧ FA B w ba mb tb k F R L wr F' gx (yv L j) s9 (((L.drop i).take (j - i)).flatMap tidsL) ∧ (∀ t (ht : t < L.length), i ≤ t → t < j → pre key L[t] = true))
  case atStart =>
    obtain ⟨F2, h2⟩ := HE0.out
    exact ⟨i, w3.heap.size, F2, rfl, Nat.le_refl _, hile, rfl, rfl, by simpa using h2, fun t _ h1 h2 => by omega⟩
  case round =>
    obtain ⟨j, gx, F2, rfl, hij, hj, rfl, rfl, hEA, hpre⟩ := hrel
    have HE := Lib.hid (And.intro hEA hpre)
    by_cases hjl : j < L.length
    · rw [decide_eq_true hjl]
      obtain ⟨x0, x1⟩ := xcells hEA.cell
      have HP := Lib.hid (Tryz.strings_HasPrefix (yv L j).k key wr)
      clear hEA hpre
      go_wp2_with fail
      refine HP.out.mono ?_
      rintro e w4 ⟨rfl, rfl⟩
      rw [show Lib.hasPrefix (yv L j).k.data.toList key.data.toList = pre key (yv L j) from rfl]
      cases hp : pre key (yv L j) with
      | false =>
        have HPf := Lib.hid hp
        clear hp
        go_wp2
        go_ret2
        refine ⟨i, j - i, u9, HCut.out, by omega, fun t ht h1 h2 => HE.out.2 t ht h1 (by omega), fun ht => ?_, rfl, HE.out.1.row, F2, HE.out.1.b, HE.out.1.dis, HE.out.1.yF, HE.out.1.off⟩
        have hz := HPf.out
        rw [yv_at L j hjl] at hz
        have e : i + (j - i) = j := by omega
        simpa only [e] using hz
      | true =>
        have HPt := Lib.hid hp
        clear hp
        have hxe := yv_at L j hjl
        have hmem : yv L j ∈ L := by rw [hxe]; exact List.getElem_mem hjl
        obtain ⟨hk2, hv32, hne⟩ := H.out.2.2.2.2.2.2 _ hmem
        have hk96 := (H.out.2.2.2.2.2.1.m.tr.ok _ hmem).1
        have HT := Lib.hid (tids_any (yv L j) w4 hk2 hk96 hv32)
        have hfl := flat_tids_len ((L.drop i).take (j - i))
        obtain ⟨l, hl⟩ : ∃ l, ((L.drop i).take (j - i)).flatMap tidsL = l := ⟨_, rfl⟩
        obtain ⟨m, hm⟩ : ∃ m, tidsL (yv L j) = m := ⟨_, rfl⟩
        rw [hm] at hne HT
        have hml : m.length ≤ 256 := by rw [← hm]; exact tidsN_len _ _
        have hll : l.length ≤ 16777216 := by
          rw [hl] at hfl
          have : ((L.drop i).take (j - i)).length ≤ L.length := by simp; omega
          omega
        have HEl := HE.out.1
        rw [hl] at HEl
        generalize hy : yv L j = y at *
        have HY := Lib.hid (And.intro hy (And.intro hxe (And.intro hl (And.intro hm (And.intro hne (And.intro hml hll))))))
        have HE1 := Lib.hid HEl
        clear hxe hy hl hm hne hml hll hfl hmem hk2 hv32 hk96 HEl
        go_wp2_with fail
        refine HT.out.mono ?_
        rintro e w5 ⟨v5, rfl, hr5, hb5⟩
        have h0m : 0 < m.length := by
          have := HY.out.2.2.2.2.1
          cases m with
          | nil => exact absurd rfl this
          | cons => simp
        obtain ⟨g5, n5, c5, rfl⟩ : ∃ g5 n5 c5, v5 = .slice (some ⟨g5, 0, none⟩) n5 c5 := by
          rcases hr5.2 with ⟨e, h0⟩ | ⟨g', cap, cur, e, _⟩
          · rw [List.length_map] at h0; omega
          · exact ⟨g', _, cap, e⟩
        have h5 := HE1.out.below hb5
        have HRow := Lib.hid h5.row
        have HM := Lib.hid (And.intro hr5 (And.intro (show 0 < (m.map Nu.mk).length by simpa using h0m) (And.intro (show (l.map Nu.mk).length + (m.map Nu.mk).length ≤ 1099511627776 by have := HY.out.2.2.2.2.2; simp; omega) (show w.heap.size ≤ w5.heap.size from h5.off.size))))
        have H5 := Lib.hid h5
        clear hr5 hb5 h0m h5 HT x0 x1
        go_wp2_with (at_builtin; refine wp_appnuAll rfl _ _ rfl w.heap.size u9 (l.map Nu.mk) rfl HRow.out _ g5 n5 c5 (m.map Nu.mk) HM.out.1 rfl HM.out.2.1 HM.out.2.2.1 HM.out.2.2.2 ?_; intro g cap w6 hr6 hg6 hat6; have h6 := H5.out.app (n := l.length + m.length) (m := m) (by simpa using hr6) hg6 hat6; obtain ⟨x0, x1⟩ := xcells h6.cell; have H6 := Lib.hid h6; have H7 := Lib.hid (h6.fresh y); clear hr6 hg6 hat6 h6)
        have hd7 : FA B w ba mb tb k F R L (w6.alloc (itemO y)).drew F2 w6.heap.size y (.slice (some ⟨g, 0, none⟩) (l.length + m.length) cap) (l ++ m) := H7.out.below ((Below.refl (w6.alloc (itemO y)).heap.size _).drew)
        have HN := Lib.hid (hd7.b.m.Next y.k)
        have c1' : (w6.alloc (itemO y)).drew.cell? ⟨mb, 0, none⟩ = some (.pointer (some ⟨tb, 0, none⟩)) := by unfold World.cell?; rw [hd7.b.m.m.meth]; rfl
        have HX5 := Lib.hid (xcells hd7.cell)
        have HD5 := Lib.hid hd7
        clear hd7
        refine wp_region_noPanic ?_
        refine wp_region_held_drew (S := (fun w' => w'.cell? ⟨mb, 0, none⟩ = some (.pointer (some ⟨tb, 0, none⟩)))) (by kernel_rfl) c1' (fun hS => ?_)
        refine wpAnyH_take (i := 0) (v := ?_) rfl (by kernel_rfl) (by kernel_rfl) (by kernel_rfl) (fun _ _ _ h => h) (Or.inl ⟨by rfl, ?_⟩) hS ?_
        rotate_left
        · intro w9 t0
          go_simp
          try with_reducible rfl
        try simp only [Act.put, List.getElem_toArray, List.getElem_cons_succ, List.getElem_cons_zero, List.setIfInBounds_toArray, List.set_cons_zero, List.set_cons_succ]
        refine wpAnyH_take (i := 1) (v := ?_) rfl (by kernel_rfl) (by kernel_rfl) (by kernel_rfl) (fun _ _ _ h => h) (Or.inl ⟨by rfl, ?_⟩) hS ?_
        rotate_left
        · intro w9 t0
          go_simp
          try with_reducible rfl
        try simp only [Act.put, List.getElem_toArray, List.getElem_cons_succ, List.getElem_cons_zero, List.setIfInBounds_toArray, List.set_cons_zero, List.set_cons_succ]
        refine wpAnyH_take (i := 2) (v := ?_) rfl (by kernel_rfl) (by kernel_rfl) (by kernel_rfl) (fun _ _ _ h => h) (Or.inl ⟨by rfl, ?_⟩) hS ?_
        rotate_left
        · intro w9 t0
          go_simp
          try with_reducible rfl
        try simp only [Act.put, List.getElem_toArray, List.getElem_cons_succ, List.getElem_cons_zero, List.setIfInBounds_toArray, List.set_cons_zero, List.set_cons_succ]
        refine wpAnyH_take (i := 3) (v := ?_) rfl (by kernel_rfl) (by kernel_rfl) (by kernel_rfl) (fun _ _ _ h => h) (Or.inl ⟨by rfl, ?_⟩) hS ?_
        rotate_left
        · intro w9 t0
          go_simp
          try with_reducible rfl
        try simp only [Act.put, List.getElem_toArray, List.getElem_cons_succ, List.getElem_cons_zero, List.setIfInBounds_toArray, List.set_cons_zero, List.set_cons_succ]
        refine wpAnyH_take (i := 4) (v := ?_) rfl (by kernel_rfl) (by kernel_rfl) (by kernel_rfl) (fun _ _ _ h => h) (Or.inl ⟨by rfl, ?_⟩) hS ?_
        rotate_left
        · intro w9 t0
          go_simp
          try with_reducible rfl
        try simp only [Act.put, List.getElem_toArray, List.getElem_cons_succ, List.getElem_cons_zero, List.setIfInBounds_toArray, List.set_cons_zero, List.set_cons_succ]
        have x0' := HX5.out.1
        refine wpAnyH_ready (rs := [5]) (by kernel_rfl) (by simp) ?_
        refine AllReadyH.cons rfl (fun K hK => ?_) AllReadyH.nil
        go_simp
        refine hK.out _ _ hS (fun _ => ?_)
        clear hK K
        try simp only [Act.put, List.getElem_toArray, List.getElem_cons_succ, List.getElem_cons_zero, List.setIfInBounds_toArray, List.set_cons_zero, List.set_cons_succ]
        refine wpAnyH_ready (rs := [6]) (by kernel_rfl) (by simp) ?_
        refine AllReadyH.cons rfl (fun K hK => ?_) AllReadyH.nil
        go_simp
        refine HN.out.mono ?_
        rintro e w8 ⟨i8, hcut8, rfl, hst8⟩
        have hi8 : firstI L y.k false i8 = j + 1 := by
          rw [← HY.out.1, yv_at L j hjl] at hcut8 ⊢
          obtain ⟨rfl, hat⟩ := cut_own H.out.2.2.2.2.2.1.m.tr.rises hjl hcut8
          simp [firstI, hat]
        rw [hi8, itemR_eq]
        obtain ⟨F8, h8⟩ := HD5.out.step (HD5.out.b.step hst8)
        have HSg := Lib.hid (show w8.cell? ⟨mb, 0, none⟩ = some (.pointer (some ⟨tb, 0, none⟩)) by unfold World.cell?; rw [h8.b.m.m.meth]; rfl)
        obtain ⟨z0, z1⟩ := xfroz h8.cell
        obtain ⟨x6, x7⟩ := xcells h8.cell
        have h9 := h8.set (yv L (j + 1))
        have HSg7 := Lib.hid (show ((w8.setCell ⟨w6.heap.size, 0, none⟩ (.string (yv L (j + 1)).k)).setCell ⟨w6.heap.size, 1, none⟩ (.string (yv L (j + 1)).v)).cell? ⟨mb, 0, none⟩ = some (.pointer (some ⟨tb, 0, none⟩)) by unfold World.cell?; rw [h9.b.m.m.meth]; rfl)
        have HE7 := Lib.hid h9
        clear h8 hst8 hcut8 hi8 h9
        refine hK.out _ _ HSg.out (fun _ => ?_)
        clear hK K
        try simp only [Act.put, List.getElem_toArray, List.getElem_cons_succ, List.getElem_cons_zero, List.setIfInBounds_toArray, List.set_cons_zero, List.set_cons_succ]
        refine wpAnyH_take (i := 7) (v := ?_) rfl (by kernel_rfl) (by kernel_rfl) (by kernel_rfl) (fun _ _ _ h => h) (Or.inl ⟨by rfl, ?_⟩) HSg.out ?_
        rotate_left
        · intro w9 t0
          go_simp
          try with_reducible rfl
        try simp only [Act.put, List.getElem_toArray, List.getElem_cons_succ, List.getElem_cons_zero, List.setIfInBounds_toArray, List.set_cons_zero, List.set_cons_succ]
        refine wpAnyH_take (i := 8) (v := ?_) rfl (by kernel_rfl) (by kernel_rfl) (by kernel_rfl) (fun _ _ _ h => h) (Or.inl ⟨by rfl, ?_⟩) HSg.out ?_
        rotate_left
        · intro w9 t0
          go_simp
          try with_reducible rfl
        try simp only [Act.put, List.getElem_toArray, List.getElem_cons_succ, List.getElem_cons_zero, List.setIfInBounds_toArray, List.set_cons_zero, List.set_cons_succ]
        refine wpAnyH_take (i := 9) (v := ?_) rfl (by kernel_rfl) (by kernel_rfl) (by kernel_rfl) (fun _ _ _ h => h) (Or.inl ⟨by rfl, ?_⟩) HSg.out ?_
        rotate_left
        · intro w9 t0
          go_simp
          try with_reducible rfl
        try simp only [Act.put, List.getElem_toArray, List.getElem_cons_succ, List.getElem_cons_zero, List.setIfInBounds_toArray, List.set_cons_zero, List.set_cons_succ]
        refine wpAnyH_ready (rs := [10]) (by kernel_rfl) (by simp) ?_
        refine AllReadyH.cons rfl (fun K hK => ?_) AllReadyH.nil
        go_simp
        refine hK.out _ _ HSg7.out (fun _ => ?_)
        clear hK K
        try simp only [Act.put, List.getElem_toArray, List.getElem_cons_succ, List.getElem_cons_zero, List.setIfInBounds_toArray, List.set_cons_zero, List.set_cons_succ]
        refine wpAnyH_take (i := 11) (v := ?_) rfl (by kernel_rfl) (by kernel_rfl) (by kernel_rfl) (fun _ _ _ h => h) (Or.inl ⟨by rfl, ?_⟩) HSg7.out ?_
        rotate_left
        · intro w9 t0
          go_simp
          try with_reducible rfl
        try simp only [Act.put, List.getElem_toArray, List.getElem_cons_succ, List.getElem_cons_zero, List.setIfInBounds_toArray, List.set_cons_zero, List.set_cons_succ]
        refine wpAnyH_done (by kernel_rfl) ?_ _
        refine NoPanic.normal ?_
        go_wp2
        go_roundg (L.length - (j + 1))
        case measure => omega
        case rel =>
          refine ⟨j + 1, w6.heap.size, F8, rfl, by omega, by omega, rfl, rfl, ?_, fun t ht h1 h2 => ?_⟩
          · have e : ((L.drop i).take (j + 1 - i)).flatMap tidsL = l ++ m := by
              rw [show j + 1 - i = (j - i) + 1 by omega, List.take_succ_eq_append_getElem (by simp; omega)]
              simp only [List.getElem_drop]
              have e2 : i + (j - i) = j := by omega
              simp only [e2, List.flatMap_append, List.flatMap_cons, List.flatMap_nil, List.append_nil]
              rw [HY.out.2.2.1, ← yv_at L j hjl, HY.out.1, HY.out.2.2.2.1]
            rw [e]
            exact HE7.out
          · by_cases htj : t < j
            · exact HE.out.2 t ht h1 htj
            · have e : t = j := by omega
              subst e
              have := HPt.out
              rw [← HY.out.1, yv_at L t hjl] at this
              exact this
    · rw [decide_eq_false hjl]
      clear hEA hpre
      go_wp2
      go_ret2
      exact ⟨i, j - i, u9, HCut.out, by omega, fun t ht h1 h2 => HE.out.2 t ht h1 (by omega), fun ht => by omega, rfl, HE.out.1.row, F2, HE.out.1.b, HE.out.1.dis, HE.out.1.yF, HE.out.1.off⟩
end Go.Proofs.YtoejgkcaamkanaaGreatDoor

namespace Go.Proofs.YtoejgkcaamkanaaGreatDoor
open Go.RowKit

theorem results_cell1 {fn : Func} {p : Tmp} {ty : TypeId} (h : fn.results = #[.cell p ty]) (tmps : Array Value) (P : Program) (w : World) :
    (results fn tmps).run P w = ((asAddr (tmps.getD p undef)).run P w).andThen fun a w₁ => (loadVar ty a).run P w₁ := by
  simp only [results, h]
  simp [Sem.run_bind, Result.andThen]
theorem num12 (n : Int) (w : World) : Calls Tryz.prog 11 #[.int .i64 n] w fun e w' => e = .returned (dv 1 n ⟨#[]⟩ none 0 0) ∧ Below w.heap.size w w' := by
  go_enter Tryz.func11, Tryz.ntmps11
  go_wp2
  (try simp only [Exit.inBlock, Exit.then])
  refine bodyPost_ret (v := dv 1 n ⟨#[]⟩ none 0 0) ?_ rfl ⟨rfl, by go_grown⟩
  rw [results_cell1 rfl]
  go_simp
  try rfl

theorem BStep.aw {bs : Nat} {B : Base bs} {w0 w w' : World} {ba mb tb k : Nat} {o : Obj} {F : Nat → Prop} {R : Raw} {L : List KV} (h : BStep B ba mb tb k o w F R L w') (hF : ∀ j, F j → w0.heap.size ≤ j) (hb : Below w0.heap.size w0 w) :
    ∃ F', BIs B w' ba mb tb k o F' R L ∧ (∀ j, F' j → w0.heap.size ≤ j) ∧ Below w0.heap.size w0 w' := by
  obtain ⟨F', h', hF', ho⟩ := h
  refine ⟨F', h', fun j hj => ?_, hb.trans (ho.below hF hb.size)⟩
  by_cases hlt : j < w.heap.size
  · exact hF j (hF' j hlt hj)
  · have := hb.size; omega
theorem leafB_le {L : List KV} (h : ∀ x ∈ L, x.ok) : (leafB L).length ≤ 2 + 130 * L.length := by
  have : (L.flatMap itemB).length ≤ 130 * L.length := by
    induction L with
    | nil => simp
    | cons x L ih =>
      have h1 := h x List.mem_cons_self
      have h2 := ih (fun y hy => h y (List.mem_cons_of_mem _ hy))
      have h3 := itemB_length x
      simp only [List.flatMap_cons, List.length_append, List.length_cons]
      unfold KV.ok at h1
      omega
  simp only [leafB, List.length_cons]
  omega

def d1 : Da := ⟨1, 1, ⟨#[]⟩, []⟩
theorem d1_is (w : World) : DaIs w d1 none := ⟨.inl rfl, by unfold In64 d1; decide, by decide, by decide⟩
def x300 : KV := ⟨keyB d1 300, ⟨(setBit z32L 300).toArray⟩⟩
def x0_ : KV := ⟨keyB d1 0, ⟨(setBit z32L 0).toArray⟩⟩
theorem x300_ok : x300.ok := by unfold KV.ok; decide +kernel
theorem x0_ok : x0_.ok := by unfold KV.ok; decide +kernel

set_option maxRecDepth 100000 in
set_option maxHeartbeats 4000000 in
theorem awake12 (w : World) (hG : GlobsM w) (h8 : 1 ≤ w.heap.size) :
    Calls Tryz.prog 16 #[] w fun e w' => e = .returned (.bool true) ∧ Below w.heap.size w w' := by
  have HB := Lib.hid (begun_any w)
  have H := Lib.hid (And.intro hG h8)
  clear hG h8
  go_enter Tryz.func16, Tryz.ntmps16
  go_wp2_with fail
  refine HB.out.mono ?_
  rintro e w1 ⟨bd, bs, ba, F, rfl, hA, hF, hb1⟩
  have HN := Lib.hid (bmNew hA (cov0 bs) 2 (by decide))
  have H1 := Lib.hid (And.intro hF hb1)
  clear hA hF hb1 HB
  go_wp2_with fail
  refine HN.out.mono ?_
  rintro e w2 ⟨mb, tb, F2, rfl, hm2, hy1, hy2, hF2, ho2⟩
  have hb2 : Below w.heap.size w w2 := H1.out.2.trans (ho2.below H1.out.1 H1.out.2.size)
  have hz1 := H1.out.2.size
  have hF2' : ∀ j, F2 j → w.heap.size ≤ j := fun j hj => by
    by_cases hlt : j < w1.heap.size
    · exact H1.out.1 j (hF2 j hlt hj)
    · omega
  have h2 : BIs (base0 bs) w2 ba mb tb 2 (bmO tb) F2 raw0 [] := ⟨⟨hm2, fine0 bs, by decide, .inl ⟨rfl, by unfold raw0; decide +kernel⟩⟩, H.out.1.below hb2, Nat.le_trans H.out.2 hb2.size, fun j hj => Nat.le_trans H.out.2 (hF2' j hj)⟩
  have H2 := Lib.hid (And.intro h2 (And.intro hF2' hb2))
  have HNum := Lib.hid (fun W => num12 1 W)
  clear hm2 hy1 hy2 hF2 ho2 hb2 hF2' h2 HN
  go_wp2_with fail
  refine (HNum.out _).mono ?_
  rintro e w3 ⟨rfl, hb3⟩
  have h3 := H2.out.1.below hb3
  have hb3' : Below w.heap.size w w3 := H2.out.2.2.trans (hb3.mono H2.out.2.2.size)
  have HI := Lib.hid (show Calls Tryz.prog 10 #[.pointer (some ⟨mb, 0, none⟩), env 1 1 ⟨#[]⟩ none 0 0 300] w3 _ from
    bmInsert h3 d1 none 0 (d1_is w3) (by decide +kernel) (by decide) 300 (by decide) (fun x hx => by simp at hx) (fun i hcut v hv => by
      obtain ⟨p1, p2, p3⟩ := putL_laws (x := ⟨keyB d1 300, v⟩) h3.m.tr.ok h3.m.tr.rises ⟨x300_ok.1, by show v.size ≤ 32; omega⟩ hcut
      have := leafB_le p1
      simp at p3
      omega) (by decide) (by unfold raw0; decide +kernel))
  have H3 := Lib.hid (And.intro h3 hb3')
  clear hb3 h3 hb3'
  go_wp2_with fail
  refine HI.out.mono ?_
  rintro e w4 ⟨i, hcut, hor⟩
  have hi0 : i = 0 := by have := hcut.le; simpa using this
  subst hi0
  have hrow : rowAt [] (keyB d1 300) 0 = z32L := rfl
  rw [hrow] at hor
  rcases hor with ⟨hon, _⟩ | ⟨_, rfl, R1, hR1, hst⟩
  · exact absurd hon (by decide +kernel)
  have hst' : BStep (base0 bs) ba mb tb 2 (bmO tb) w3 F2 R1 [x300] w4 := hst
  obtain ⟨F4, h4, hF4, hb4⟩ := hst'.aw H2.out.2.1 H3.out.2
  have hR1' : R1.total ≤ 1 := by
    have e : pageOf [] = 1 := rfl
    have e2 : raw0.total = 0 := by unfold raw0; decide +kernel
    rw [e, e2] at hR1
    omega
  have H4 := Lib.hid (And.intro h4 (And.intro hF4 (And.intro hb4 hR1')))
  clear hst hst' h4 hF4 hb4 hR1 hR1' hcut hrow HI
  go_wp2_with fail
  refine (HNum.out _).mono ?_
  rintro e w5 ⟨rfl, hb5⟩
  have h5 := H4.out.1.below hb5
  have hb5' : Below w.heap.size w w5 := H4.out.2.2.1.trans (hb5.mono H4.out.2.2.1.size)
  have HI := Lib.hid (show Calls Tryz.prog 10 #[.pointer (some ⟨mb, 0, none⟩), env 1 1 ⟨#[]⟩ none 0 0 0] w5 _ from
    bmInsert h5 d1 none 0 (d1_is w5) (by decide +kernel) (by decide) 0 (by decide) (fun x hx => by simp at hx; subst hx; decide +kernel) (fun i hcut v hv => by
      obtain ⟨p1, p2, p3⟩ := putL_laws (x := ⟨keyB d1 0, v⟩) h5.m.tr.ok h5.m.tr.rises ⟨x0_ok.1, by show v.size ≤ 32; omega⟩ hcut
      have := leafB_le p1
      simp at p3
      omega) (by decide) (by have := H4.out.2.2.2; omega))
  have H5 := Lib.hid (And.intro h5 hb5')
  clear hb5 h5 hb5'
  go_wp2_with fail
  refine HI.out.mono ?_
  rintro e w6 ⟨i, hcut, hor⟩
  have hi0 : i = 0 := hcut.uniq ⟨by omega, fun t _ h => by omega, fun t ht _ => by
    have e : t = 0 := by simpa using ht
    subst e
    have hc : 0 ≤ cmpK x300 (keyB d1 0) := by decide +kernel
    exact hc⟩
  subst hi0
  have hrow : rowAt [x300] (keyB d1 0) 0 = z32L := by decide +kernel
  rw [hrow] at hor
  rcases hor with ⟨hon, _⟩ | ⟨_, rfl, R2, hR2, hst⟩
  · exact absurd hon (by decide +kernel)
  have hput : putL [x300] 0 ⟨keyB d1 0, ⟨(setBit z32L 0).toArray⟩⟩ = [x0_, x300] := by
    unfold putL
    rw [if_neg (by decide +kernel)]
    rfl
  rw [hput] at hst
  obtain ⟨F6, h6, hF6, hb6⟩ := hst.aw H4.out.2.1 H5.out.2
  have H6 := Lib.hid (And.intro h6 (And.intro hF6 hb6))
  clear hst h6 hF6 hb6 hR2 hcut hrow hput HI
  go_wp2_with fail
  refine (HNum.out _).mono ?_
  rintro e w7 ⟨rfl, hb7⟩
  have h7 := H6.out.1.below hb7
  have hb7' : Below w.heap.size w w7 := H6.out.2.2.trans (hb7.mono H6.out.2.2.size)
  have HFi := Lib.hid (show Calls Tryz.prog 12 #[.pointer (some ⟨mb, 0, none⟩), dv 1 1 ⟨#[]⟩ none 0 0] w7 _ from
    bmFind h7 d1 none 0 (d1_is w7) (by decide +kernel) (by decide) (fun x hx => by
      simp at hx
      rcases hx with rfl | rfl <;> decide +kernel) (by decide))
  have H7 := Lib.hid (And.intro h7 hb7')
  clear hb7 h7 hb7'
  go_wp2_with fail
  refine HFi.out.mono ?_
  rintro e w8 ⟨i, n, v, hcut, hin, hpre, hnot, rfl, hrow, F8, h8, hdis, hF8, ho8⟩
  have hi0 : i = 0 := hcut.uniq ⟨by omega, fun t _ h => by omega, fun t ht _ => by
    have e : t = 0 ∨ t = 1 := by simp at ht; omega
    have hc0 : 0 ≤ cmpK x0_ ⟨d1.enc.toArray⟩ := by decide +kernel
    have hc1 : 0 ≤ cmpK x300 ⟨d1.enc.toArray⟩ := by decide +kernel
    rcases e with rfl | rfl
    · exact hc0
    · exact hc1⟩
  subst hi0
  have hn2 : n = 2 := by
    simp only [Nat.zero_add] at hin hnot
    by_cases h : n < 2
    · have hf := hnot h
      have e : n = 0 ∨ n = 1 := by omega
      rcases e with rfl | rfl
      · have hp : pre ⟨d1.enc.toArray⟩ x0_ = true := by decide +kernel
        have hf' : pre ⟨d1.enc.toArray⟩ x0_ = false := hf
        rw [hp] at hf'
        cases hf'
      · have hp : pre ⟨d1.enc.toArray⟩ x300 = true := by decide +kernel
        have hf' : pre ⟨d1.enc.toArray⟩ x300 = false := hf
        rw [hp] at hf'
        cases hf'
    · simp at hin; omega
  subst hn2
  have hl : ((([x0_, x300] : List KV).drop 0).take 2).flatMap tidsL = [0, 300] := by decide +kernel
  rw [hl] at hrow
  obtain ⟨g, cp, rfl⟩ : ∃ g cp, v = .slice (some ⟨g, 0, none⟩) 2 cp := by
    rcases hrow.2 with ⟨e, h0⟩ | ⟨g', cap, cur, e, _⟩
    · simp at h0
    · exact ⟨g', cap, e⟩
  have hc1 : w8.cell? ⟨g, 1, none⟩ = some (.int .i64 300) := by
    have := (hrow.cells 1 (by simp)).2.2
    simpa using this
  have HNm := Lib.hid (fun W => bmName mb W)
  have H8 := Lib.hid (H7.out.2.trans (ho8.below H6.out.2.1 H7.out.2.size))
  clear hcut hin hpre hnot hrow h8 hdis hF8 ho8 HFi
  go_wp2_with fail
  refine (HNm.out _).mono ?_
  rintro e w9 ⟨rfl, rfl⟩
  go_wp2
  go_ret
  exact ⟨rfl, H8.out⟩
end Go.Proofs.YtoejgkcaamkanaaGreatDoor
