/- A catalog's memory; going; each. Rows of columns and of indexes that a call has made. (Printed by genrow.py.) -/
import Derived.Test.YtiakepcgalmjfaaGreatQ11
import Derived.Test.YtiakepcgalmjfaaGreatShelf
import Derived.Deep.LoopGhost
import Derived.Deep.AppendLies
set_option linter.unusedVariables false
set_option linter.unusedSimpArgs false
namespace Go.Proofs.YtiakepcgalmjfaaGreat
open Go.RowKit

abbrev catO (ba tb : Nat) : Obj := .cells #[.pointer (some ⟨ba, 0, none⟩), .pointer (some ⟨tb, 0, none⟩)] 82
theorem cat2 {w : World} {g ba tb : Nat} (h : w.heap[g]? = some (catO ba tb)) : w.cell? ⟨g, 0, none⟩ = some (.pointer (some ⟨ba, 0, none⟩)) ∧ w.cell? ⟨g, 1, none⟩ = some (.pointer (some ⟨tb, 0, none⟩)) := by
  refine ⟨?_, ?_⟩ <;> (unfold World.cell?; rw [h]; rfl)
/-- A catalog whose tree is one leaf. -/
structure CatIs {bs : Nat} (B : Base bs) (w : World) (gb ba tb : Nat) (F : Nat → Prop) (R : Raw) (L : List KV) : Prop where
  cat : w.heap[gb]? = some (catO ba tb)
  tree : w.heap[tb]? = some (treeO ba 0)
  act : ActIs B w ba F R
  fine : Fine B R
  tF : ¬ F tb
  gF : ¬ F gb
  leaf : Leaf R 0 L
def CStep {bs : Nat} (B : Base bs) (gb ba tb : Nat) (w : World) (F : Nat → Prop) (R' : Raw) (L' : List KV) (w' : World) : Prop := ∃ F', CatIs B w' gb ba tb F' R' L' ∧ (∀ k, k < w.heap.size → F' k → F k) ∧ Off F w w'
section
variable {bs : Nat} {B : Base bs} {w w' : World} {gb ba tb : Nat} {F G : Nat → Prop} {R R' : Raw} {L L' : List KV}
theorem CatIs.lt (h : CatIs B w gb ba tb F R L) : gb < w.heap.size ∧ tb < w.heap.size := ⟨(Array.getElem?_eq_some_iff.1 h.cat).1, (Array.getElem?_eq_some_iff.1 h.tree).1⟩
theorem CatIs.step (h : CatIs B w gb ba tb F R L) (hs : Step B ba w F R' w') (hf : Fine B R') (hl : Leaf R' 0 L') : CStep B gb ba tb w F R' L' w' := by
  have hc := hs.block h.cat h.gF
  have ht := hs.block h.tree h.tF
  obtain ⟨F', hA, hF, ho⟩ := hs
  exact ⟨F', ⟨hc, ht, hA, hf, fun e => h.tF (hF _ h.lt.2 e), fun e => h.gF (hF _ h.lt.1 e), hl⟩, hF, ho⟩
theorem CatIs.same (h : CatIs B w gb ba tb F R L) (hs : Step B ba w F R w') : CStep B gb ba tb w F R L w' := h.step hs h.fine h.leaf
theorem CatIs.off (h : CatIs B w gb ba tb F R L) (ho : Off G w w') (hG : ∀ k, G k → ¬ F k ∧ k ≠ gb ∧ k ≠ tb) : CatIs B w' gb ba tb F R L :=
  ⟨(ho.block gb h.lt.1 (fun e => (hG gb e).2.1 rfl)).trans h.cat, (ho.block tb h.lt.2 (fun e => (hG tb e).2.2 rfl)).trans h.tree, h.act.off ho (fun k hk e => (hG k e).1 hk), h.fine, h.tF, h.gF, h.leaf⟩
theorem CatIs.below (h : CatIs B w gb ba tb F R L) (hb : Below w.heap.size w w') : CatIs B w' gb ba tb F R L :=
  ⟨(hb.block gb h.lt.1).trans h.cat, (hb.block tb h.lt.2).trans h.tree, h.act.below hb, h.fine, h.tF, h.gF, h.leaf⟩
theorem CatIs.cells (h : CatIs B w gb ba tb F R L) : w.cell? ⟨gb, 0, none⟩ = some (.pointer (some ⟨ba, 0, none⟩)) ∧ w.cell? ⟨gb, 1, none⟩ = some (.pointer (some ⟨tb, 0, none⟩)) := cat2 h.cat
end
theorem CStep.of_off {bs : Nat} {B : Base bs} {w w' w'' : World} {gb ba tb : Nat} {F F1 : Nat → Prop} {R' : Raw} {L' : List KV} (ho : Off F w w') (hF : ∀ k, k < w.heap.size → F1 k → F k) (h : CStep B gb ba tb w' F1 R' L' w'') : CStep B gb ba tb w F R' L' w'' := by
  obtain ⟨F2, h2, hF2, ho2⟩ := h
  exact ⟨F2, h2, fun k hk h => hF k hk (hF2 k (Nat.lt_of_lt_of_le hk ho.size) h), ho.trans ho2 hF⟩
theorem CStep.below {bs : Nat} {B : Base bs} {w w' w'' : World} {gb ba tb : Nat} {F : Nat → Prop} {R' : Raw} {L' : List KV} (h : CStep B gb ba tb w F R' L' w') (hb : Below w'.heap.size w' w'') : CStep B gb ba tb w F R' L' w'' := by
  obtain ⟨F2, h2, hF2, ho2⟩ := h
  exact ⟨F2, h2.below hb, hF2, ho2.trans (Off.of_below hb (F := fun _ => False)) (fun _ _ h => h.elim)⟩

set_option maxRecDepth 100000 in
set_option maxHeartbeats 2000000 in
theorem cgoing_any {bs : Nat} {B : Base bs} {w : World} {gb ba tb : Nat} {F : Nat → Prop} {R : Raw} {L : List KV} (h : CatIs B w gb ba tb F R L) :
    Calls Tryz.prog 42 #[.pointer (some ⟨gb, 0, none⟩)] w fun e w' => e = .returned (.int .i64 0) ∧ CStep B gb ba tb w F R L w' := by
  have HG := Lib.hid (Get_leaf h.tree h.act h.fine h.tF (by decide) h.leaf ⟨#[99]⟩)
  obtain ⟨c0, c1⟩ := h.cells
  have H := Lib.hid h
  clear h
  go_enter Tryz.func42, Tryz.ntmps42
  go_wp2_with fail
  refine HG.out.mono ?_
  rintro e w1 ⟨i, hcut, rfl, hst⟩
  have HS := Lib.hid (H.out.same hst)
  clear hst hcut
  unfold gotR
  by_cases hat : isAt L ⟨#[99]⟩ i = true
  · rw [if_pos hat]
    clear hat
    go_wp2
    go_ret
    exact ⟨rfl, HS.out⟩
  · rw [if_neg hat]
    clear hat
    go_wp2
    go_ret
    exact ⟨rfl, HS.out⟩

/-- What a closure keeps, and which blocks are its own. -/
structure Clo (fn : Nat) (c : Value) (Ok : KV → Prop) (Inv : List KV → (Nat → Prop) → World → Prop) : Prop where
  enters : ∀ args w, (callFunc fn args).run Tryz.prog w = .ok (.enter fn args) w
  own : ∀ l G w, Inv l G w → ∀ k, G k → k < w.heap.size
  keep : ∀ l G w w', Inv l G w → (∀ k, G k → w'.heap[k]? = w.heap[k]?) → w.heap.size ≤ w'.heap.size → Inv l G w'
  does : ∀ l x G w, Inv l G w → Ok x → l.length < 256 → Calls Tryz.prog fn #[.string (x.k.extract 1 x.k.size), .string x.v, c] w fun e w' => e = .returned (.tuple #[]) ∧ ∃ G', Inv (l ++ [x]) G' w' ∧ (∀ k, k < w.heap.size → G' k → G k) ∧ Off G w w'
def pre (begin_ : ByteArray) (x : KV) : Bool := Lib.hasPrefix x.k.data.toList begin_.data.toList

/-- While each goes: an item in hand (cell gx), what the closure keeps, the catalog. -/
structure EA {bs : Nat} (B : Base bs) (w : World) (gb ba tb : Nat) (F G : Nat → Prop) (R : Raw) (L : List KV) (Inv : List KV → (Nat → Prop) → World → Prop) (wr : World) (F' G' : Nat → Prop) (gx : Nat) (x : KV) (l : List KV) : Prop where
  cell : wr.heap[gx]? = some (itemO x)
  cat : CatIs B wr gb ba tb F' R L
  inv : Inv l G' wr
  dis : ∀ k, G' k → ¬ F' k ∧ k ≠ gb ∧ k ≠ tb
  gx : ¬ F' gx ∧ ¬ G' gx ∧ gx ≠ gb ∧ gx ≠ tb ∧ w.heap.size ≤ gx
  yF : ∀ k, k < w.heap.size → F' k → F k
  yG : ∀ k, k < w.heap.size → G' k → G k
  off : Off (fun k => F k ∨ G k) w wr
section
variable {bs : Nat} {B : Base bs} {w : World} {gb ba tb : Nat} {F G : Nat → Prop} {R : Raw} {L : List KV} {fn : Nat} {c : Value} {Ok : KV → Prop} {Inv : List KV → (Nat → Prop) → World → Prop} {wr w' : World} {F' G' : Nat → Prop} {gx : Nat} {x : KV} {l : List KV}
theorem EA.step (h : EA B w gb ba tb F G R L Inv wr F' G' gx x l) (hc : Clo fn c Ok Inv) (hs : Step B ba wr F' R w') : ∃ F2, EA B w gb ba tb F G R L Inv w' F2 G' gx x l := by
  have hx := hs.block h.cell h.gx.1
  obtain ⟨F2, hcat, hF2, ho⟩ := h.cat.same hs
  have hlt : gx < wr.heap.size := (Array.getElem?_eq_some_iff.1 h.cell).1
  have hown := hc.own _ _ _ h.inv
  exact ⟨F2, hx, hcat, hc.keep _ _ _ _ h.inv (fun k hk => ho.block k (hown k hk) (h.dis k hk).1) ho.size, fun k hk => ⟨fun e => (h.dis k hk).1 (hF2 k (hown k hk) e), (h.dis k hk).2⟩, ⟨fun e => h.gx.1 (hF2 _ hlt e), h.gx.2⟩,
    fun k hk e => h.yF k hk (hF2 k (Nat.lt_of_lt_of_le hk h.off.size) e), h.yG, h.off.trans ho (fun k hk e => .inl (h.yF k hk e))⟩
theorem EA.clo (h : EA B w gb ba tb F G R L Inv wr F' G' gx x l) {G2 : Nat → Prop} {l2 : List KV} (hi : Inv l2 G2 w') (hG2 : ∀ k, k < wr.heap.size → G2 k → G' k) (ho : Off G' wr w') : EA B w gb ba tb F G R L Inv w' F' G2 gx x l2 := by
  have hlt : gx < wr.heap.size := (Array.getElem?_eq_some_iff.1 h.cell).1
  refine ⟨(ho.block gx hlt h.gx.2.1).trans h.cell, h.cat.off ho h.dis, hi, fun k hk => ?_, ⟨h.gx.1, fun e => h.gx.2.1 (hG2 _ hlt e), h.gx.2.2⟩, h.yF, fun k hk e => h.yG k hk (hG2 k (Nat.lt_of_lt_of_le hk h.off.size) e), h.off.trans ho (fun k hk e => .inr (h.yG k hk e))⟩
  by_cases hk' : k < wr.heap.size
  · exact h.dis k (hG2 k hk' hk)
  · have h1 := h.cat.lt
    have h2 := h.cat.act.1
    exact ⟨fun e => hk' (h2 k e), by omega, by omega⟩
theorem EA.below (h : EA B w gb ba tb F G R L Inv wr F' G' gx x l) (hc : Clo fn c Ok Inv) (hb : Below wr.heap.size wr w') : EA B w gb ba tb F G R L Inv w' F' G' gx x l :=
  ⟨(hb.block gx (Array.getElem?_eq_some_iff.1 h.cell).1).trans h.cell, h.cat.below hb, hc.keep _ _ _ _ h.inv (fun k hk => hb.block k (hc.own _ _ _ h.inv k hk)) hb.size, h.dis, h.gx, h.yF, h.yG, h.off.trans (Off.of_below hb (F := fun _ => False)) (fun _ _ e => e.elim)⟩
theorem EA.set (h : EA B w gb ba tb F G R L Inv wr F' G' gx x l) (hc : Clo fn c Ok Inv) (y : KV) : EA B w gb ba tb F G R L Inv ((wr.setCell ⟨gx, 0, none⟩ (.string y.k)).setCell ⟨gx, 1, none⟩ (.string y.v)) F' G' gx y l := by
  have ho := off_set2 wr gx 0 1 (.string y.k) (.string y.v)
  refine ⟨heap_set (heap_set h.cell), h.cat.off ho (fun k hk => by subst hk; exact ⟨h.gx.1, h.gx.2.2.1, h.gx.2.2.2.1⟩), hc.keep _ _ _ _ h.inv (fun k hk => ho.block k (hc.own _ _ _ h.inv k hk) (fun e => h.gx.2.1 (by subst e; exact hk))) ho.size, h.dis, h.gx, h.yF, h.yG, ?_⟩
  exact ⟨ho.os.trans h.off.os, ho.tape.trans h.off.tape, ho.output.trans h.off.output, Nat.le_trans h.off.size ho.size, fun k hk hn => (ho.block k (Nat.lt_of_lt_of_le hk h.off.size) (fun e => by have := h.gx.2.2.2.2; omega)).trans (h.off.block k hk hn)⟩
theorem EA.fresh (h : EA B w gb ba tb F G R L Inv wr F' G' gx x l) (hc : Clo fn c Ok Inv) (y : KV) : EA B w gb ba tb F G R L Inv (wr.alloc (itemO y)) F' G' wr.heap.size y l := by
  have hb : Below wr.heap.size wr (wr.alloc (itemO y)) := by go_grown
  have h1 := h.cat.lt
  have h' := h.below hc hb
  exact ⟨hnew wr _, h'.cat, h'.inv, h'.dis, ⟨fun e => by have := h.cat.act.1 _ e; omega, fun e => by have := hc.own _ _ _ h.inv _ e; omega, by omega, by omega, h.off.size⟩, h'.yF, h'.yG, h'.off⟩
end
def yv (L : List KV) (j : Nat) : KV := L.getD j ⟨⟨#[]⟩, ⟨#[]⟩⟩
theorem yv_at (L : List KV) (j : Nat) (h : j < L.length) : yv L j = L[j] := by
  rw [yv, List.getD_eq_getElem?_getD, List.getElem?_eq_getElem h]; rfl
theorem itemR_eq (L : List KV) (j : Nat) : itemR L[j]? = .tuple #[.agg #[.string (yv L j).k, .string (yv L j).v], .bool (decide (j < L.length))] := by
  by_cases h : j < L.length
  · rw [yv_at L j h, List.getElem?_eq_getElem h, decide_eq_true h]; rfl
  · rw [yv, List.getD_eq_getElem?_getD, List.getElem?_eq_none (by omega), decide_eq_false h]; rfl
theorem cb_self : ∀ l : List UInt8, Go.Lib.compareBytes l l = 0
  | [] => by simp [Go.Lib.compareBytes]
  | x :: l => by simp [Go.Lib.compareBytes, UInt8.lt_iff_toNat_lt, cb_self l]
/-- A key of the leaf stands at its own place. -/
theorem cut_own {L : List KV} (hs : Sorted L) {j i : Nat} (hj : j < L.length) (h : Cut L L[j].k i) : i = j ∧ isAt L L[j].k i = true := by
  have hself : cmpK L[j] L[j].k = 0 := cb_self _
  have e : i = j := by
    rcases Nat.lt_trichotomy i j with hl | he | hg
    · have h1 := h.hi i (by omega) (Nat.le_refl _)
      have := hs i j (by omega) hj hl
      unfold cmpK at h1
      omega
    · exact he
    · have := h.lo j hj hg
      omega
  subst e
  exact ⟨rfl, by rw [isAt, List.getElem?_eq_getElem hj]; simp [hself]⟩

set_option maxRecDepth 100000 in
set_option maxHeartbeats 4000000 in
theorem each_any {bs : Nat} {B : Base bs} {w : World} {gb ba tb : Nat} {F G : Nat → Prop} {R : Raw} {L : List KV} (h : CatIs B w gb ba tb F R L) {fn : Nat} {c : Value} {Ok : KV → Prop} {Inv : List KV → (Nat → Prop) → World → Prop} (hc : Clo fn c Ok Inv) (hI : Inv [] G w)
    (hFG : ∀ k, G k → ¬ F k ∧ k ≠ gb ∧ k ≠ tb) (b : UInt8) (hok : ∀ x ∈ L, pre ⟨#[b]⟩ x = true → Ok x) :
    Calls Tryz.prog 29 #[.pointer (some ⟨gb, 0, none⟩), .string ⟨#[b]⟩, .func (.func fn) #[] #[c]] w fun e w' => e = .returned (.tuple #[]) ∧
      ∃ i n G' F', Cut L ⟨#[b]⟩ i ∧ i + n ≤ L.length ∧ (∀ t (ht : t < L.length), i ≤ t → t < i + n → pre ⟨#[b]⟩ L[t] = true) ∧ (∀ ht : i + n < L.length, pre ⟨#[b]⟩ L[i + n] = false) ∧
      Inv ((L.drop i).take n) G' w' ∧ CatIs B w' gb ba tb F' R L ∧ (∀ k, G' k → ¬ F' k ∧ k ≠ gb ∧ k ≠ tb) ∧ (∀ k, k < w.heap.size → F' k → F k) ∧ (∀ k, k < w.heap.size → G' k → G k) ∧ Off (fun k => F k ∨ G k) w w' := by
  have HG := Lib.hid (cgoing_any h)
  have eg := hc.enters
  have H := Lib.hid (And.intro h (And.intro hc (And.intro hI (And.intro hFG hok))))
  clear h hc hI hFG hok
  go_enter Tryz.func29, Tryz.ntmps29
  go_wp2_with fail
  refine HG.out.mono ?_
  rintro e w1 ⟨rfl, F1, h1, hF1, ho1⟩
  have HFr := Lib.hid (From_leaf h1.tree h1.act h1.fine h1.tF (by decide) h1.leaf ⟨#[b]⟩)
  obtain ⟨c0, c1⟩ := h1.cells
  have hI1 : Inv [] G w1 := H.out.2.1.keep _ _ _ _ H.out.2.2.1 (fun k hk => ho1.block k (H.out.2.1.own _ _ _ H.out.2.2.1 k hk) (H.out.2.2.2.1 k hk).1) ho1.size
  have H1 := Lib.hid (And.intro h1 (And.intro hF1 (And.intro ho1 hI1)))
  clear h1 hF1 ho1 hI1 HG
  go_wp2_with fail
  refine HFr.out.mono ?_
  rintro e w2 ⟨i, hcut, rfl, hst⟩
  have hltg : gb < w2.heap.size := by have := H.out.1.lt; have := H1.out.2.2.1.size; have := (Array.getElem?_eq_some_iff.1 (hst.block H1.out.1.cat H1.out.1.gF)).1; omega
  have HE0 := Lib.hid (show ∃ F2, EA B w gb ba tb F G R L Inv (w2.alloc (itemO (yv L i))) F2 G w2.heap.size (yv L i) [] from by
    have hown := H.out.2.1.own _ _ _ H1.out.2.2.2
    have hown0 := H.out.2.1.own _ _ _ H.out.2.2.1
    obtain ⟨F2, hcat, hF2, ho2⟩ := H1.out.1.same hst
    have hb : Below w2.heap.size w2 (w2.alloc (itemO (yv L i))) := by go_grown
    have hcb := hcat.below hb
    have hi2 := H.out.2.1.keep _ _ _ _ H1.out.2.2.2 (fun k hk => (ho2.block k (hown k hk) (fun e => (H.out.2.2.2.1 k hk).1 (H1.out.2.1 k (hown0 k hk) e)))) ho2.size
    have hown2 := H.out.2.1.own _ _ _ hi2
    refine ⟨F2, hnew w2 _, hcb, H.out.2.1.keep _ _ _ _ hi2 (fun k hk => hb.block k (hown2 k hk)) hb.size, fun k hk => ⟨fun e => (H.out.2.2.2.1 k hk).1 (H1.out.2.1 k (hown0 k hk) (hF2 k (hown k hk) e)), (H.out.2.2.2.1 k hk).2⟩, ⟨fun e => ?_, fun e => ?_, ?_, ?_, ?_⟩, fun k hk e => H1.out.2.1 k hk (hF2 k (Nat.lt_of_lt_of_le hk H1.out.2.2.1.size) e), fun k _ e => e, ?_⟩
    · have := hcat.act.1 _ e; omega
    · have := hown2 _ e; omega
    · have := hcat.lt; omega
    · have := hcat.lt; omega
    · exact Nat.le_trans H1.out.2.2.1.size ho2.size
    · exact (((H1.out.2.2.1).trans ho2 (fun k hk e => H1.out.2.1 k hk e)).trans (Off.of_below hb (F := fun _ => False)) (fun _ _ e => e.elim)).mono (fun k e => .inl e))
  rw [show firstI L ⟨#[b]⟩ true i = i by simp [firstI], itemR_eq]
  have HCut := Lib.hid hcut
  have hile := hcut.le
  clear hst hcut
  clear c0 c1
  go_wp2
  go_loopg [6, 7] (L.length - i) (fun gf s6 s7 wr => ∃ (j gx : Nat) (F' G' : Nat → Prop), gf = L.length - j ∧ i ≤ j ∧ j ≤ L.length ∧ s6 = .pointer (some ⟨gx, 0, none⟩) ∧ s7 = .bool (decide (j < L.length)) ∧ EA B w gb ba tb F G R L Inv wr F' G' gx (yv L j) ((L.drop i).take (j - i)) ∧ (∀ t (ht : t < L.length), i ≤ t → t < j → pre ⟨#[b]⟩ L[t] = true))
  case atStart =>
    obtain ⟨F2, h2⟩ := HE0.out
    exact ⟨i, w2.heap.size, F2, G, rfl, Nat.le_refl _, hile, rfl, rfl, by simpa using h2, fun t _ h1 h2 => by omega⟩
  case round =>
    obtain ⟨j, gx, F2, G2, rfl, hij, hj, rfl, rfl, hEA, hpre⟩ := hrel
    have HE := Lib.hid (And.intro hEA hpre)
    by_cases hjl : j < L.length
    · rw [decide_eq_true hjl]
      obtain ⟨x0, x1⟩ := xcells hEA.cell
      obtain ⟨c0, c1⟩ := hEA.cat.cells
      have HP := Lib.hid (Tryz.strings_HasPrefix (yv L j).k ⟨#[b]⟩ wr)
      clear hEA hpre
      go_wp2_with fail
      refine HP.out.mono ?_
      rintro e w3 ⟨rfl, rfl⟩
      rw [show Lib.hasPrefix (yv L j).k.data.toList (ByteArray.mk #[b]).data.toList = pre ⟨#[b]⟩ (yv L j) from rfl]
      cases hp : pre ⟨#[b]⟩ (yv L j) with
      | false =>
        have HPf := Lib.hid hp
        clear hp
        go_wp2
        refine Great.bodyPost_end0 rfl rfl ⟨rfl, i, j - i, G2, F2, HCut.out, by omega, fun t ht h1 h2 => HE.out.2 t ht h1 (by omega), fun ht => ?_, HE.out.1.inv, HE.out.1.cat, HE.out.1.dis, HE.out.1.yF, HE.out.1.yG, HE.out.1.off⟩
        have hz := HPf.out
        rw [yv_at L j hjl] at hz
        have e : i + (j - i) = j := by omega
        simpa only [e] using hz
      | true =>
        have HPt := Lib.hid hp
        clear hp
        have hxe := yv_at L j hjl
        have hk1 : 1 ≤ (yv L j).k.size := by
          have := HPt.out
          unfold pre at this
          cases hd : (yv L j).k.data.toList with
          | nil => rw [hd] at this; simp [Lib.hasPrefix] at this
          | cons a l =>
            have e : (yv L j).k.size = (yv L j).k.data.toList.length := by simp
            rw [e, hd]
            simp
        have hokx : Ok (yv L j) := by rw [hxe]; exact H.out.2.2.2.2 _ (List.getElem_mem hjl) (by rw [← hxe]; exact HPt.out)
        have hd1 : EA B w gb ba tb F G R L Inv w3.drew F2 G2 gx (yv L j) ((L.drop i).take (j - i)) := HE.out.1.below H.out.2.1 ((Below.refl w3.heap.size w3).drew)
        have hk2 : (1 : Int) ≤ (yv L j).k.size := by omega
        have HC := Lib.hid (H.out.2.1.does _ (yv L j) _ _ hd1.inv hokx (by have := H1.out.1.leaf.few; rw [List.length_take]; omega))
        have HD := Lib.hid hd1
        generalize hy : yv L j = y at *
        have HY := Lib.hid (And.intro hy hxe)
        clear hokx hd1 hxe hy
        go_wp2
        refine wp_region_noPanic ?_
        refine wp_region_held_drew (S := (fun w' => w'.cell? ⟨gx, 0, none⟩ = some (.string y.k) ∧ w'.cell? ⟨gx, 1, none⟩ = some (.string y.v))) (by kernel_rfl) ⟨x0, x1⟩ (fun hS => ?_)
        refine wpAnyH_take (i := 0) (v := ?_) rfl (by kernel_rfl) (by kernel_rfl) (by kernel_rfl) (fun _ _ _ h => h) (Or.inl ⟨by rfl, ?_⟩) hS ?_
        rotate_left
        · rintro w9 ⟨t0, t1⟩
          go_simp
          try with_reducible rfl
        try simp only [Act.put, List.getElem_toArray, List.getElem_cons_succ, List.getElem_cons_zero, List.setIfInBounds_toArray, List.set_cons_zero, List.set_cons_succ]
        refine wpAnyH_take (i := 1) (v := ?_) rfl (by kernel_rfl) (by kernel_rfl) (by kernel_rfl) (fun _ _ _ h => h) (Or.inl ⟨by rfl, ?_⟩) hS ?_
        rotate_left
        · rintro w9 ⟨t0, t1⟩
          go_simp
          try with_reducible rfl
        try simp only [Act.put, List.getElem_toArray, List.getElem_cons_succ, List.getElem_cons_zero, List.setIfInBounds_toArray, List.set_cons_zero, List.set_cons_succ]
        refine wpAnyH_take (i := 2) (v := ?_) rfl (by kernel_rfl) (by kernel_rfl) (by kernel_rfl) (fun _ _ _ h => h) (Or.inl ⟨by rfl, ?_⟩) hS ?_
        rotate_left
        · rintro w9 ⟨t0, t1⟩
          go_simp
          try with_reducible rfl
        try simp only [Act.put, List.getElem_toArray, List.getElem_cons_succ, List.getElem_cons_zero, List.setIfInBounds_toArray, List.set_cons_zero, List.set_cons_succ]
        refine wpAnyH_take (i := 3) (v := ?_) rfl (by kernel_rfl) (by kernel_rfl) (by kernel_rfl) (fun _ _ _ h => h) (Or.inl ⟨by rfl, ?_⟩) hS ?_
        rotate_left
        · rintro w9 ⟨t0, t1⟩
          go_simp
          try with_reducible rfl
        try simp only [Act.put, List.getElem_toArray, List.getElem_cons_succ, List.getElem_cons_zero, List.setIfInBounds_toArray, List.set_cons_zero, List.set_cons_succ]
        refine wpAnyH_take (i := 4) (v := ?_) rfl (by kernel_rfl) (by kernel_rfl) (by kernel_rfl) (fun _ _ _ h => h) (Or.inl ⟨by rfl, ?_⟩) hS ?_
        rotate_left
        · rintro w9 ⟨t0, t1⟩
          go_simp
          try with_reducible rfl
        try simp only [Act.put, List.getElem_toArray, List.getElem_cons_succ, List.getElem_cons_zero, List.setIfInBounds_toArray, List.set_cons_zero, List.set_cons_succ]
        refine wpAnyH_take (i := 5) (v := ?_) rfl (by kernel_rfl) (by kernel_rfl) (by kernel_rfl) (fun _ _ _ h => h) (Or.inl ⟨by rfl, ?_⟩) hS ?_
        rotate_left
        · rintro w9 ⟨t0, t1⟩
          go_simp
          try with_reducible rfl
        try simp only [Act.put, List.getElem_toArray, List.getElem_cons_succ, List.getElem_cons_zero, List.setIfInBounds_toArray, List.set_cons_zero, List.set_cons_succ]
        refine wpAnyH_ready (rs := [6]) (by kernel_rfl) (by simp) ?_
        refine AllReadyH.cons rfl (fun K hK => ?_) AllReadyH.nil
        go_simp
        refine HC.out.mono ?_
        rintro e w4 ⟨rfl, G4, hi4, hG4, ho4⟩
        have HE4 := Lib.hid (HD.out.clo hi4 hG4 ho4)
        have HSx := Lib.hid (xcells HE4.out.cell)
        clear hi4 hG4 ho4
        refine hK.out _ _ HSx.out (fun _ => ?_)
        clear hK K
        try simp only [Act.put, List.getElem_toArray, List.getElem_cons_succ, List.getElem_cons_zero, List.setIfInBounds_toArray, List.set_cons_zero, List.set_cons_succ]
        refine wpAnyH_done (by kernel_rfl) ?_ _
        refine NoPanic.normal ?_
        obtain ⟨x0, x1⟩ := xcells HE4.out.cell
        obtain ⟨c0, c1⟩ := HE4.out.cat.cells
        have HE5 := Lib.hid (HE4.out.fresh H.out.2.1 y)
        go_wp2
        have c1' := HE5.out.cat.cells.2
        have hd5 : EA B w gb ba tb F G R L Inv (w4.alloc (itemO y)).drew F2 G4 w4.heap.size y ((L.drop i).take (j - i) ++ [y]) := HE5.out.below H.out.2.1 ((Below.refl (w4.alloc (itemO y)).heap.size _).drew)
        have HN := Lib.hid (Next_leaf hd5.cat.tree hd5.cat.act hd5.cat.fine hd5.cat.tF (by decide) hd5.cat.leaf y.k)
        have HX5 := Lib.hid (xcells hd5.cell)
        have HD5 := Lib.hid hd5
        clear hd5
        refine wp_region_noPanic ?_
        refine wp_region_held_drew (S := (fun w' => w'.cell? ⟨gb, 1, none⟩ = some (.pointer (some ⟨tb, 0, none⟩)))) (by kernel_rfl) c1' (fun hS => ?_)
        refine wpAnyH_take (i := 0) (v := ?_) rfl (by kernel_rfl) (by kernel_rfl) (by kernel_rfl) (fun _ _ _ h => h) (Or.inl ⟨by rfl, ?_⟩) hS ?_
        rotate_left
        · intro w9 t0
          go_simp
          try with_reducible rfl
        try simp only [Act.put, List.getElem_toArray, List.getElem_cons_succ, List.getElem_cons_zero, List.setIfInBounds_toArray, List.set_cons_zero, List.set_cons_succ]
        refine wpAnyH_take (i := 1) (v := ?_) rfl (by kernel_rfl) (by kernel_rfl) (by kernel_rfl) (fun _ _ _ h => h) (Or.inl ⟨by rfl, ?_⟩) hS ?_
        rotate_left
        · intro w9 t0
          go_simp
          try with_reducible rfl
        try simp only [Act.put, List.getElem_toArray, List.getElem_cons_succ, List.getElem_cons_zero, List.setIfInBounds_toArray, List.set_cons_zero, List.set_cons_succ]
        refine wpAnyH_take (i := 2) (v := ?_) rfl (by kernel_rfl) (by kernel_rfl) (by kernel_rfl) (fun _ _ _ h => h) (Or.inl ⟨by rfl, ?_⟩) hS ?_
        rotate_left
        · intro w9 t0
          go_simp
          try with_reducible rfl
        try simp only [Act.put, List.getElem_toArray, List.getElem_cons_succ, List.getElem_cons_zero, List.setIfInBounds_toArray, List.set_cons_zero, List.set_cons_succ]
        refine wpAnyH_take (i := 3) (v := ?_) rfl (by kernel_rfl) (by kernel_rfl) (by kernel_rfl) (fun _ _ _ h => h) (Or.inl ⟨by rfl, ?_⟩) hS ?_
        rotate_left
        · intro w9 t0
          go_simp
          try with_reducible rfl
        try simp only [Act.put, List.getElem_toArray, List.getElem_cons_succ, List.getElem_cons_zero, List.setIfInBounds_toArray, List.set_cons_zero, List.set_cons_succ]
        refine wpAnyH_take (i := 4) (v := ?_) rfl (by kernel_rfl) (by kernel_rfl) (by kernel_rfl) (fun _ _ _ h => h) (Or.inl ⟨by rfl, ?_⟩) hS ?_
        rotate_left
        · intro w9 t0
          go_simp
          try with_reducible rfl
        try simp only [Act.put, List.getElem_toArray, List.getElem_cons_succ, List.getElem_cons_zero, List.setIfInBounds_toArray, List.set_cons_zero, List.set_cons_succ]
        have x0' := HX5.out.1
        refine wpAnyH_ready (rs := [5]) (by kernel_rfl) (by simp) ?_
        refine AllReadyH.cons rfl (fun K hK => ?_) AllReadyH.nil
        go_simp
        refine hK.out _ _ hS (fun _ => ?_)
        clear hK K
        try simp only [Act.put, List.getElem_toArray, List.getElem_cons_succ, List.getElem_cons_zero, List.setIfInBounds_toArray, List.set_cons_zero, List.set_cons_succ]
        refine wpAnyH_ready (rs := [6]) (by kernel_rfl) (by simp) ?_
        refine AllReadyH.cons rfl (fun K hK => ?_) AllReadyH.nil
        go_simp
        refine HN.out.mono ?_
        rintro e w6 ⟨i6, hcut6, rfl, hst6⟩
        have hi6 : firstI L y.k false i6 = j + 1 := by
          rw [HY.out.2] at hcut6 ⊢
          obtain ⟨rfl, hat⟩ := cut_own H1.out.1.leaf.rises hjl hcut6
          simp [firstI, hat]
        rw [hi6, itemR_eq]
        obtain ⟨F6, h6⟩ := HD5.out.step H.out.2.1 hst6
        have HSg := Lib.hid h6.cat.cells.2
        obtain ⟨z0, z1⟩ := xfroz h6.cell
        obtain ⟨x6, x7⟩ := xcells h6.cell
        have HE7 := Lib.hid (h6.set H.out.2.1 (yv L (j + 1)))
        have HSg7 := Lib.hid HE7.out.cat.cells.2
        clear h6 hst6 hcut6 hi6
        refine hK.out _ _ HSg.out (fun _ => ?_)
        clear hK K
        try simp only [Act.put, List.getElem_toArray, List.getElem_cons_succ, List.getElem_cons_zero, List.setIfInBounds_toArray, List.set_cons_zero, List.set_cons_succ]
        refine wpAnyH_take (i := 7) (v := ?_) rfl (by kernel_rfl) (by kernel_rfl) (by kernel_rfl) (fun _ _ _ h => h) (Or.inl ⟨by rfl, ?_⟩) HSg.out ?_
        rotate_left
        · intro w9 t0
          go_simp
          try with_reducible rfl
        try simp only [Act.put, List.getElem_toArray, List.getElem_cons_succ, List.getElem_cons_zero, List.setIfInBounds_toArray, List.set_cons_zero, List.set_cons_succ]
        refine wpAnyH_take (i := 8) (v := ?_) rfl (by kernel_rfl) (by kernel_rfl) (by kernel_rfl) (fun _ _ _ h => h) (Or.inl ⟨by rfl, ?_⟩) HSg.out ?_
        rotate_left
        · intro w9 t0
          go_simp
          try with_reducible rfl
        try simp only [Act.put, List.getElem_toArray, List.getElem_cons_succ, List.getElem_cons_zero, List.setIfInBounds_toArray, List.set_cons_zero, List.set_cons_succ]
        refine wpAnyH_take (i := 9) (v := ?_) rfl (by kernel_rfl) (by kernel_rfl) (by kernel_rfl) (fun _ _ _ h => h) (Or.inl ⟨by rfl, ?_⟩) HSg.out ?_
        rotate_left
        · intro w9 t0
          go_simp
          try with_reducible rfl
        try simp only [Act.put, List.getElem_toArray, List.getElem_cons_succ, List.getElem_cons_zero, List.setIfInBounds_toArray, List.set_cons_zero, List.set_cons_succ]
        refine wpAnyH_ready (rs := [10]) (by kernel_rfl) (by simp) ?_
        refine AllReadyH.cons rfl (fun K hK => ?_) AllReadyH.nil
        go_simp
        refine hK.out _ _ HSg7.out (fun _ => ?_)
        clear hK K
        try simp only [Act.put, List.getElem_toArray, List.getElem_cons_succ, List.getElem_cons_zero, List.setIfInBounds_toArray, List.set_cons_zero, List.set_cons_succ]
        refine wpAnyH_take (i := 11) (v := ?_) rfl (by kernel_rfl) (by kernel_rfl) (by kernel_rfl) (fun _ _ _ h => h) (Or.inl ⟨by rfl, ?_⟩) HSg7.out ?_
        rotate_left
        · intro w9 t0
          go_simp
          try with_reducible rfl
        try simp only [Act.put, List.getElem_toArray, List.getElem_cons_succ, List.getElem_cons_zero, List.setIfInBounds_toArray, List.set_cons_zero, List.set_cons_succ]
        refine wpAnyH_done (by kernel_rfl) ?_ _
        refine NoPanic.normal ?_
        go_wp2
        go_roundg (L.length - (j + 1))
        case measure => omega
        case rel =>
          refine ⟨j + 1, w4.heap.size, F6, G4, rfl, by omega, by omega, rfl, rfl, ?_, fun t ht h1 h2 => ?_⟩
          · have e : (L.drop i).take (j + 1 - i) = (L.drop i).take (j - i) ++ [y] := by
              rw [show j + 1 - i = (j - i) + 1 by omega, List.take_succ_eq_append_getElem (by simp; omega)]
              simp only [List.getElem_drop]
              have e2 : i + (j - i) = j := by omega
              simp only [e2, HY.out.2]
            rw [e]
            exact HE7.out
          · by_cases htj : t < j
            · exact HE.out.2 t ht h1 htj
            · have e : t = j := by omega
              subst e
              have := HPt.out
              rw [HY.out.2] at this
              exact this
    · rw [decide_eq_false hjl]
      clear hEA hpre
      go_wp2
      exact Great.bodyPost_end0 rfl rfl ⟨rfl, i, j - i, G2, F2, HCut.out, by omega, fun t ht h1 h2 => HE.out.2 t ht h1 (by omega), fun ht => by omega, HE.out.1.inv, HE.out.1.cat, HE.out.1.dis, HE.out.1.yF, HE.out.1.yG, HE.out.1.off⟩
end Go.Proofs.YtiakepcgalmjfaaGreat

namespace Go.Proofs.YtiakepcgalmjfaaGreat
open Go.RowKit

structure Co where
  name : ByteArray
  kind : Int
structure Xi where
  name : ByteArray
  meth : ByteArray
  col : Int
  uniq : Bool
  state : Int

def coc (x : Co) : List Value := [.string x.name, .int .i64 x.kind]
abbrev coO (x : Co) : Obj := .cells #[.string x.name, .int .i64 x.kind] 84
def coRows (w : World) (B : Nat) (v : Value) (L : List Co) : Prop := w.ownsRow B 84 2 v L.length (L.flatMap coc)
theorem coRows.nil (w : World) (B : Nat) : coRows w B (.slice none 0 0) [] := World.ownsRow_nil _ _ _ _
theorem coRows.slice {w : World} {B : Nat} {v : Value} {L : List Co} (h : coRows w B v L) : ∃ A c, v = .slice A L.length c := by
  rcases h.2 with ⟨rfl, h0⟩ | ⟨g, cap, cur, rfl, _⟩
  · exact ⟨none, 0, by rw [h0]⟩
  · exact ⟨_, _, rfl⟩
theorem coRows.keep {w w' : World} {B : Nat} {v : Value} {L : List Co} (h : coRows w B v L) (e : ∀ k, v.ownBlock = some k → w'.heap[k]? = w.heap[k]?) : coRows w' B v L := by
  obtain ⟨h1, h2⟩ := h
  refine ⟨h1, ?_⟩
  rcases h2 with h2 | ⟨g, cap, cur, hv, hg, hh, r⟩
  · exact .inl h2
  · exact .inr ⟨g, cap, cur, hv, hg, (e g (by rw [hv]; rfl)).trans hh, r⟩
theorem coRows.own {w : World} {B : Nat} {v : Value} {L : List Co} (h : coRows w B v L) {k : Nat} (hk : v.ownBlock = some k) : k < w.heap.size ∧ ∃ cs fr, w.heap[k]? = some (.cells cs 84 fr) := by
  rcases h.2 with ⟨rfl, _⟩ | ⟨g, cap, cur, rfl, _, hh, _⟩
  · simp [Value.ownBlock] at hk
  · simp only [Value.ownBlock, Option.some.injEq] at hk
    subst hk
    exact ⟨(Array.getElem?_eq_some_iff.1 hh).1, _, _, hh⟩
theorem co_at : ∀ (L : List Co) (i : Nat) (h : i < L.length) (j : Nat), j < 2 → (L.flatMap coc)[i * 2 + j]? = (coc L[i])[j]?
  | [], i, h, _, _ => by simp at h
  | x :: L, 0, _, j, hj => by
    have h2 : (coc x).length = 2 := rfl
    simp only [List.flatMap_cons, Nat.zero_mul, Nat.zero_add, List.getElem_cons_zero]
    rw [List.getElem?_append_left (by omega)]
  | x :: L, i + 1, h, j, hj => by
    have h2 : (coc x).length = 2 := rfl
    simp only [List.flatMap_cons, List.getElem_cons_succ]
    rw [List.getElem?_append_right (by omega), h2, show (i + 1) * 2 + j - 2 = i * 2 + j by omega]
    exact co_at L i (by simpa using h) j hj
theorem coRows.cells {w : World} {B g n c : Nat} {o : Nat} {L : List Co} (h : coRows w B (.slice (some ⟨g, o, none⟩) n c) L) (i : Nat) (hi : i < L.length) :
    o = 0 ∧ n = L.length ∧ w.cell? ⟨g, i * 2, none⟩ = some (.string L[i].name) ∧ w.cell? ⟨g, i * 2 + 1, none⟩ = some (.int .i64 L[i].kind) := by
  rcases h.2 with ⟨e, h0⟩ | ⟨g', cap, cur, e, hg', _⟩
  · cases e
  · simp only [Value.slice.injEq, Option.some.injEq, Addr.mk.injEq] at e
    obtain ⟨⟨rfl, rfl, _⟩, rfl, rfl⟩ := e
    have key : ∀ j v, j < 2 → (coc L[i])[j]? = some v → w.cell? ⟨g, i * 2 + j, none⟩ = some v := fun j v hj hv => by
      have := World.ownsRow.cells h (g := g) rfl (i * 2 + j) v (by rw [co_at L i hi j hj]; exact hv)
      have ha : (⟨g, 0, none⟩ : Addr).add (i * 2 + j) = ⟨g, i * 2 + j, none⟩ := by unfold Addr.add; split <;> simp_all
      rw [← ha]; exact this
    exact ⟨rfl, rfl, key 0 _ (by omega) rfl, key 1 _ (by omega) rfl⟩
theorem coRows.nonil {w : World} {B n c : Nat} {L : List Co} (h : coRows w B (.slice none n c) L) : L = [] := by
  rcases h.2 with ⟨_, e⟩ | ⟨_, _, _, e, _⟩
  · exact List.length_eq_zero_iff.1 e
  · cases e
theorem co_info : (Tryz.prog.info? 84).map (fun i => (i.zero, i.size, i.bytes)) = some (some (.agg #[.string ⟨#[]⟩, .int .i64 0]), 2, 24) := by kernel_rfl
theorem step_appco {ops : Array Oper} {o : Oper} {a : Act} {K : Act → World → Prop} {Q : Exit → Act → World → Prop} {E : Prop} {W : World} (hgd : o.guard = none) (s x : Operand)
    (ho : o.op = .call { callee := .builtin .append, args := #[s, x], argTypes := #[22, 22] })
    (B : Nat) (v : Value) (l : List Co) (hs : a.eval s = v) (hb : coRows W B v l) (y : Co) (k c : Nat) (hx : a.eval x = .slice (some ⟨k, 0, none⟩) 1 c) (hk : k = W.heap.size)
    (hlen : l.length ≤ 1099511627776) (hB : B ≤ W.heap.size)
    (h : ∀ g cap w', coRows w' B (.slice (some ⟨g, 0, none⟩) (l ++ [y]).length cap) (l ++ [y]) → W.grownBy w' v.ownBlock → (v.ownBlock = some g ∨ W.heap.size ≤ g) → K (a.put o.dst (.slice (some ⟨g, 0, none⟩) (l ++ [y]).length cap)) w') : if Region.wanted o (yielded ops a.tmps) = true then Oper.wp Tryz.prog o a (W.alloc (coO y)) K Q else E := by
  have hw : Region.wanted o (yielded ops a.tmps) = true := by simp [Region.wanted, hgd]
  rw [if_pos hw]
  obtain ⟨i0, hi, hz0, hz1, hz2⟩ := info_of co_info
  subst hk
  refine wp_append_lies _ s x 22 ho B 84 i0 _ 2 24 Tryz.underlying22 hi hz0 hz1 hz2 rfl (by decide) v l.length (l.flatMap coc) hs (World.ownsRow.alloc hb _) ⟨W.heap.size, 0, none⟩ 1 c (coc y) hx rfl ?_ ?_ (by omega) (by unfold maxLen; omega) (by omega) (by simp; omega) _ rfl ?_
  · intro j u hj
    match j, hj with
    | 0, hj => simp [coc] at hj; subst hj; simp [Addr.add]
    | 1, hj => simp [coc] at hj; subst hj; simp [Addr.add]
  · intro u hu
    simp [coc] at hu
    rcases hu with rfl | rfl <;> rfl
  · intro g cap w' hown hg hat hlt
    rw [show l.length + 1 = (l ++ [y]).length by simp]
    refine h g cap w' ?_ (grown_then (World.grownBy_alloc W _ none) hg) (hat.imp id (fun e => by subst e; simp))
    unfold coRows
    rw [List.length_append, List.flatMap_append]
    simpa using hown
theorem wp_appco {ops : Array Oper} {rest : List Oper} {o : Oper} {a : Act} {Q : Exit → Act → World → Prop} {w : World} (hgd : o.guard = none) (s x : Operand)
    (ho : o.op = .call { callee := .builtin .append, args := #[s, x], argTypes := #[22, 22] })
    (B : Nat) (v : Value) (l : List Co) (hs : a.eval s = v) (hb : coRows w B v l) (y : Co) (k c : Nat) (hx : a.eval x = .slice (some ⟨k, 0, none⟩) 1 c) (h0 : w.cell? ⟨k, 0, none⟩ = some (.string y.name)) (h1 : w.cell? ⟨k, 1, none⟩ = some (.int .i64 y.kind))
    (hlen : l.length ≤ 1099511627776) (hB : B ≤ w.heap.size)
    (h : ∀ g cap w', coRows w' B (.slice (some ⟨g, 0, none⟩) (l ++ [y]).length cap) (l ++ [y]) → w.grownBy w' v.ownBlock → (v.ownBlock = some g ∨ g = w.heap.size) → wpList Tryz.prog ops Q rest (a.put o.dst (.slice (some ⟨g, 0, none⟩) (l ++ [y]).length cap)) w') : wpList Tryz.prog ops Q (o :: rest) a w := by
  obtain ⟨i0, hi, hz0, hz1, hz2⟩ := info_of co_info
  refine wpList_append_lies w hgd s x 22 ho B 84 i0 _ 2 24 Tryz.underlying22 hi hz0 hz1 hz2 rfl (by decide) v l.length (l.flatMap coc) hs hb ⟨k, 0, none⟩ 1 c (coc y) hx rfl ?_ ?_ (by omega) (by unfold maxLen; omega) (by omega) hB _ rfl ?_
  · intro j u hj
    match j, hj with
    | 0, hj => simp [coc] at hj; subst hj; simpa [Addr.add] using h0
    | 1, hj => simp [coc] at hj; subst hj; simpa [Addr.add] using h1
  · intro u hu
    simp [coc] at hu
    rcases hu with rfl | rfl <;> rfl
  · intro g cap w' hown hg hat hlt
    rw [show l.length + 1 = (l ++ [y]).length by simp]
    refine h g cap w' ?_ hg hat
    unfold coRows
    rw [List.length_append, List.flatMap_append]
    simpa using hown

def xic (x : Xi) : List Value := [.string x.name, .string x.meth, .int .i64 x.col, .bool x.uniq, .int .i64 x.state]
abbrev xiO (x : Xi) : Obj := .cells #[.string x.name, .string x.meth, .int .i64 x.col, .bool x.uniq, .int .i64 x.state] 35
def xiRows (w : World) (B : Nat) (v : Value) (L : List Xi) : Prop := w.ownsRow B 35 5 v L.length (L.flatMap xic)
theorem xiRows.nil (w : World) (B : Nat) : xiRows w B (.slice none 0 0) [] := World.ownsRow_nil _ _ _ _
theorem xiRows.slice {w : World} {B : Nat} {v : Value} {L : List Xi} (h : xiRows w B v L) : ∃ A c, v = .slice A L.length c := by
  rcases h.2 with ⟨rfl, h0⟩ | ⟨g, cap, cur, rfl, _⟩
  · exact ⟨none, 0, by rw [h0]⟩
  · exact ⟨_, _, rfl⟩
theorem xiRows.keep {w w' : World} {B : Nat} {v : Value} {L : List Xi} (h : xiRows w B v L) (e : ∀ k, v.ownBlock = some k → w'.heap[k]? = w.heap[k]?) : xiRows w' B v L := by
  obtain ⟨h1, h2⟩ := h
  refine ⟨h1, ?_⟩
  rcases h2 with h2 | ⟨g, cap, cur, hv, hg, hh, r⟩
  · exact .inl h2
  · exact .inr ⟨g, cap, cur, hv, hg, (e g (by rw [hv]; rfl)).trans hh, r⟩
theorem xiRows.own {w : World} {B : Nat} {v : Value} {L : List Xi} (h : xiRows w B v L) {k : Nat} (hk : v.ownBlock = some k) : k < w.heap.size ∧ ∃ cs fr, w.heap[k]? = some (.cells cs 35 fr) := by
  rcases h.2 with ⟨rfl, _⟩ | ⟨g, cap, cur, rfl, _, hh, _⟩
  · simp [Value.ownBlock] at hk
  · simp only [Value.ownBlock, Option.some.injEq] at hk
    subst hk
    exact ⟨(Array.getElem?_eq_some_iff.1 hh).1, _, _, hh⟩
theorem xi_at : ∀ (L : List Xi) (i : Nat) (h : i < L.length) (j : Nat), j < 5 → (L.flatMap xic)[i * 5 + j]? = (xic L[i])[j]?
  | [], i, h, _, _ => by simp at h
  | x :: L, 0, _, j, hj => by
    have h2 : (xic x).length = 5 := rfl
    simp only [List.flatMap_cons, Nat.zero_mul, Nat.zero_add, List.getElem_cons_zero]
    rw [List.getElem?_append_left (by omega)]
  | x :: L, i + 1, h, j, hj => by
    have h2 : (xic x).length = 5 := rfl
    simp only [List.flatMap_cons, List.getElem_cons_succ]
    rw [List.getElem?_append_right (by omega), h2, show (i + 1) * 5 + j - 5 = i * 5 + j by omega]
    exact xi_at L i (by simpa using h) j hj
theorem xiRows.cells {w : World} {B g n c : Nat} {o : Nat} {L : List Xi} (h : xiRows w B (.slice (some ⟨g, o, none⟩) n c) L) (i : Nat) (hi : i < L.length) :
    o = 0 ∧ n = L.length ∧ w.cell? ⟨g, i * 5, none⟩ = some (.string L[i].name) ∧ w.cell? ⟨g, i * 5 + 1, none⟩ = some (.string L[i].meth) ∧ w.cell? ⟨g, i * 5 + 2, none⟩ = some (.int .i64 L[i].col) ∧ w.cell? ⟨g, i * 5 + 3, none⟩ = some (.bool L[i].uniq) ∧ w.cell? ⟨g, i * 5 + 4, none⟩ = some (.int .i64 L[i].state) := by
  rcases h.2 with ⟨e, h0⟩ | ⟨g', cap, cur, e, hg', _⟩
  · cases e
  · simp only [Value.slice.injEq, Option.some.injEq, Addr.mk.injEq] at e
    obtain ⟨⟨rfl, rfl, _⟩, rfl, rfl⟩ := e
    have key : ∀ j v, j < 5 → (xic L[i])[j]? = some v → w.cell? ⟨g, i * 5 + j, none⟩ = some v := fun j v hj hv => by
      have := World.ownsRow.cells h (g := g) rfl (i * 5 + j) v (by rw [xi_at L i hi j hj]; exact hv)
      have ha : (⟨g, 0, none⟩ : Addr).add (i * 5 + j) = ⟨g, i * 5 + j, none⟩ := by unfold Addr.add; split <;> simp_all
      rw [← ha]; exact this
    exact ⟨rfl, rfl, key 0 _ (by omega) rfl, key 1 _ (by omega) rfl, key 2 _ (by omega) rfl, key 3 _ (by omega) rfl, key 4 _ (by omega) rfl⟩
theorem xiRows.nonil {w : World} {B n c : Nat} {L : List Xi} (h : xiRows w B (.slice none n c) L) : L = [] := by
  rcases h.2 with ⟨_, e⟩ | ⟨_, _, _, e, _⟩
  · exact List.length_eq_zero_iff.1 e
  · cases e
theorem xi_info : (Tryz.prog.info? 35).map (fun i => (i.zero, i.size, i.bytes)) = some (some (.agg #[.string ⟨#[]⟩, .string ⟨#[]⟩, .int .i64 0, .bool false, .int .i64 0]), 5, 56) := by kernel_rfl
theorem step_appxi {ops : Array Oper} {o : Oper} {a : Act} {K : Act → World → Prop} {Q : Exit → Act → World → Prop} {E : Prop} {W : World} (hgd : o.guard = none) (s x : Operand)
    (ho : o.op = .call { callee := .builtin .append, args := #[s, x], argTypes := #[31, 31] })
    (B : Nat) (v : Value) (l : List Xi) (hs : a.eval s = v) (hb : xiRows W B v l) (y : Xi) (k c : Nat) (hx : a.eval x = .slice (some ⟨k, 0, none⟩) 1 c) (hk : k = W.heap.size)
    (hlen : l.length ≤ 1099511627776) (hB : B ≤ W.heap.size)
    (h : ∀ g cap w', xiRows w' B (.slice (some ⟨g, 0, none⟩) (l ++ [y]).length cap) (l ++ [y]) → W.grownBy w' v.ownBlock → (v.ownBlock = some g ∨ W.heap.size ≤ g) → K (a.put o.dst (.slice (some ⟨g, 0, none⟩) (l ++ [y]).length cap)) w') : if Region.wanted o (yielded ops a.tmps) = true then Oper.wp Tryz.prog o a (W.alloc (xiO y)) K Q else E := by
  have hw : Region.wanted o (yielded ops a.tmps) = true := by simp [Region.wanted, hgd]
  rw [if_pos hw]
  obtain ⟨i0, hi, hz0, hz1, hz2⟩ := info_of xi_info
  subst hk
  refine wp_append_lies _ s x 31 ho B 35 i0 _ 5 56 Tryz.underlying31 hi hz0 hz1 hz2 rfl (by decide) v l.length (l.flatMap xic) hs (World.ownsRow.alloc hb _) ⟨W.heap.size, 0, none⟩ 1 c (xic y) hx rfl ?_ ?_ (by omega) (by unfold maxLen; omega) (by omega) (by simp; omega) _ rfl ?_
  · intro j u hj
    match j, hj with
    | 0, hj => simp [xic] at hj; subst hj; simp [Addr.add]
    | 1, hj => simp [xic] at hj; subst hj; simp [Addr.add]
    | 2, hj => simp [xic] at hj; subst hj; simp [Addr.add]
    | 3, hj => simp [xic] at hj; subst hj; simp [Addr.add]
    | 4, hj => simp [xic] at hj; subst hj; simp [Addr.add]
  · intro u hu
    simp [xic] at hu
    rcases hu with rfl | rfl | rfl | rfl | rfl <;> rfl
  · intro g cap w' hown hg hat hlt
    rw [show l.length + 1 = (l ++ [y]).length by simp]
    refine h g cap w' ?_ (grown_then (World.grownBy_alloc W _ none) hg) (hat.imp id (fun e => by subst e; simp))
    unfold xiRows
    rw [List.length_append, List.flatMap_append]
    simpa using hown
theorem wp_appxi {ops : Array Oper} {rest : List Oper} {o : Oper} {a : Act} {Q : Exit → Act → World → Prop} {w : World} (hgd : o.guard = none) (s x : Operand)
    (ho : o.op = .call { callee := .builtin .append, args := #[s, x], argTypes := #[31, 31] })
    (B : Nat) (v : Value) (l : List Xi) (hs : a.eval s = v) (hb : xiRows w B v l) (y : Xi) (k c : Nat) (hx : a.eval x = .slice (some ⟨k, 0, none⟩) 1 c) (h0 : w.cell? ⟨k, 0, none⟩ = some (.string y.name)) (h1 : w.cell? ⟨k, 1, none⟩ = some (.string y.meth)) (h2 : w.cell? ⟨k, 2, none⟩ = some (.int .i64 y.col)) (h3 : w.cell? ⟨k, 3, none⟩ = some (.bool y.uniq)) (h4 : w.cell? ⟨k, 4, none⟩ = some (.int .i64 y.state))
    (hlen : l.length ≤ 1099511627776) (hB : B ≤ w.heap.size)
    (h : ∀ g cap w', xiRows w' B (.slice (some ⟨g, 0, none⟩) (l ++ [y]).length cap) (l ++ [y]) → w.grownBy w' v.ownBlock → (v.ownBlock = some g ∨ g = w.heap.size) → wpList Tryz.prog ops Q rest (a.put o.dst (.slice (some ⟨g, 0, none⟩) (l ++ [y]).length cap)) w') : wpList Tryz.prog ops Q (o :: rest) a w := by
  obtain ⟨i0, hi, hz0, hz1, hz2⟩ := info_of xi_info
  refine wpList_append_lies w hgd s x 31 ho B 35 i0 _ 5 56 Tryz.underlying31 hi hz0 hz1 hz2 rfl (by decide) v l.length (l.flatMap xic) hs hb ⟨k, 0, none⟩ 1 c (xic y) hx rfl ?_ ?_ (by omega) (by unfold maxLen; omega) (by omega) hB _ rfl ?_
  · intro j u hj
    match j, hj with
    | 0, hj => simp [xic] at hj; subst hj; simpa [Addr.add] using h0
    | 1, hj => simp [xic] at hj; subst hj; simpa [Addr.add] using h1
    | 2, hj => simp [xic] at hj; subst hj; simpa [Addr.add] using h2
    | 3, hj => simp [xic] at hj; subst hj; simpa [Addr.add] using h3
    | 4, hj => simp [xic] at hj; subst hj; simpa [Addr.add] using h4
  · intro u hu
    simp [xic] at hu
    rcases hu with rfl | rfl | rfl | rfl | rfl <;> rfl
  · intro g cap w' hown hg hat hlt
    rw [show l.length + 1 = (l ++ [y]).length by simp]
    refine h g cap w' ?_ hg hat
    unfold xiRows
    rw [List.length_append, List.flatMap_append]
    simpa using hown
end Go.Proofs.YtiakepcgalmjfaaGreat
