/- A catalog's memory; going; each. -/
import Derived.Test.YtddddjpmeegedaaGreatSqC
import Derived.Test.YtddddjpmeegedaaGreatShelf
import Derived.Deep.LoopGhost
set_option linter.unusedVariables false
set_option linter.unusedSimpArgs false
namespace Go.Proofs.YtddddjpmeegedaaGreat
open Go.RowKit

abbrev catO (ba tb : Nat) : Obj := .cells #[.pointer (some ⟨ba, 0, none⟩), .pointer (some ⟨tb, 0, none⟩)] 34
theorem cat2 {w : World} {g ba tb : Nat} (h : w.heap[g]? = some (catO ba tb)) : w.cell? ⟨g, 0, none⟩ = some (.pointer (some ⟨ba, 0, none⟩)) ∧ w.cell? ⟨g, 1, none⟩ = some (.pointer (some ⟨tb, 0, none⟩)) := by
  refine ⟨?_, ?_⟩ <;> (unfold World.cell?; rw [h]; rfl)
/-- A catalog whose tree is one leaf. -/
structure CatIs {bs : Nat} (B : Base bs) (w : World) (gb ba tb : Nat) (F : Nat → Prop) (R : Raw) (L : List KV) : Prop where
  cat : w.heap[gb]? = some (catO ba tb)
  tree : w.heap[tb]? = some (treeO ba 0)
  act : ActIs B w ba F R
  fine : Fine B R
  tF : ¬ F tb
  gF : ¬ F gb
  leaf : Leaf R 0 L
def CStep {bs : Nat} (B : Base bs) (gb ba tb : Nat) (w : World) (F : Nat → Prop) (R' : Raw) (L' : List KV) (w' : World) : Prop := ∃ F', CatIs B w' gb ba tb F' R' L' ∧ (∀ k, k < w.heap.size → F' k → F k) ∧ Off F w w'
section
variable {bs : Nat} {B : Base bs} {w w' : World} {gb ba tb : Nat} {F G : Nat → Prop} {R R' : Raw} {L L' : List KV}
theorem CatIs.lt (h : CatIs B w gb ba tb F R L) : gb < w.heap.size ∧ tb < w.heap.size := ⟨(Array.getElem?_eq_some_iff.1 h.cat).1, (Array.getElem?_eq_some_iff.1 h.tree).1⟩
theorem CatIs.step (h : CatIs B w gb ba tb F R L) (hs : Step B ba w F R' w') (hf : Fine B R') (hl : Leaf R' 0 L') : CStep B gb ba tb w F R' L' w' := by
  have hc := hs.block h.cat h.gF
  have ht := hs.block h.tree h.tF
  obtain ⟨F', hA, hF, ho⟩ := hs
  exact ⟨F', ⟨hc, ht, hA, hf, fun e => h.tF (hF _ h.lt.2 e), fun e => h.gF (hF _ h.lt.1 e), hl⟩, hF, ho⟩
theorem CatIs.same (h : CatIs B w gb ba tb F R L) (hs : Step B ba w F R w') : CStep B gb ba tb w F R L w' := h.step hs h.fine h.leaf
theorem CatIs.off (h : CatIs B w gb ba tb F R L) (ho : Off G w w') (hG : ∀ k, G k → ¬ F k ∧ k ≠ gb ∧ k ≠ tb) : CatIs B w' gb ba tb F R L :=
  ⟨(ho.block gb h.lt.1 (fun e => (hG gb e).2.1 rfl)).trans h.cat, (ho.block tb h.lt.2 (fun e => (hG tb e).2.2 rfl)).trans h.tree, h.act.off ho (fun k hk e => (hG k e).1 hk), h.fine, h.tF, h.gF, h.leaf⟩
theorem CatIs.below (h : CatIs B w gb ba tb F R L) (hb : Below w.heap.size w w') : CatIs B w' gb ba tb F R L :=
  ⟨(hb.block gb h.lt.1).trans h.cat, (hb.block tb h.lt.2).trans h.tree, h.act.below hb, h.fine, h.tF, h.gF, h.leaf⟩
theorem CatIs.cells (h : CatIs B w gb ba tb F R L) : w.cell? ⟨gb, 0, none⟩ = some (.pointer (some ⟨ba, 0, none⟩)) ∧ w.cell? ⟨gb, 1, none⟩ = some (.pointer (some ⟨tb, 0, none⟩)) := cat2 h.cat
end
theorem CStep.of_off {bs : Nat} {B : Base bs} {w w' w'' : World} {gb ba tb : Nat} {F F1 : Nat → Prop} {R' : Raw} {L' : List KV} (ho : Off F w w') (hF : ∀ k, k < w.heap.size → F1 k → F k) (h : CStep B gb ba tb w' F1 R' L' w'') : CStep B gb ba tb w F R' L' w'' := by
  obtain ⟨F2, h2, hF2, ho2⟩ := h
  exact ⟨F2, h2, fun k hk h => hF k hk (hF2 k (Nat.lt_of_lt_of_le hk ho.size) h), ho.trans ho2 hF⟩
theorem CStep.below {bs : Nat} {B : Base bs} {w w' w'' : World} {gb ba tb : Nat} {F : Nat → Prop} {R' : Raw} {L' : List KV} (h : CStep B gb ba tb w F R' L' w') (hb : Below w'.heap.size w' w'') : CStep B gb ba tb w F R' L' w'' := by
  obtain ⟨F2, h2, hF2, ho2⟩ := h
  exact ⟨F2, h2.below hb, hF2, ho2.trans (Off.of_below hb (F := fun _ => False)) (fun _ _ h => h.elim)⟩

set_option maxRecDepth 100000 in
set_option maxHeartbeats 2000000 in
theorem cgoing_any {bs : Nat} {B : Base bs} {w : World} {gb ba tb : Nat} {F : Nat → Prop} {R : Raw} {L : List KV} (h : CatIs B w gb ba tb F R L) :
    Calls Tryz.prog 30 #[.pointer (some ⟨gb, 0, none⟩)] w fun e w' => e = .returned (.int .i64 0) ∧ CStep B gb ba tb w F R L w' := by
  have HG := Lib.hid (Get_leaf h.tree h.act h.fine h.tF (by decide) h.leaf ⟨#[99]⟩)
  obtain ⟨c0, c1⟩ := h.cells
  have H := Lib.hid h
  clear h
  go_enter Tryz.func30, Tryz.ntmps30
  go_wp2_with fail
  refine HG.out.mono ?_
  rintro e w1 ⟨i, hcut, rfl, hst⟩
  have HS := Lib.hid (H.out.same hst)
  clear hst hcut
  unfold gotR
  by_cases hat : isAt L ⟨#[99]⟩ i = true
  · rw [if_pos hat]
    clear hat
    go_wp2
    go_ret
    exact ⟨rfl, HS.out⟩
  · rw [if_neg hat]
    clear hat
    go_wp2
    go_ret
    exact ⟨rfl, HS.out⟩

/-- What a closure keeps, and which blocks are its own. -/
structure Clo (fn : Nat) (c : Value) (Ok : KV → Prop) (Inv : List KV → (Nat → Prop) → World → Prop) : Prop where
  enters : ∀ args w, (callFunc fn args).run Tryz.prog w = .ok (.enter fn args) w
  own : ∀ l G w, Inv l G w → ∀ k, G k → k < w.heap.size
  keep : ∀ l G w w', Inv l G w → (∀ k, G k → w'.heap[k]? = w.heap[k]?) → w.heap.size ≤ w'.heap.size → Inv l G w'
  does : ∀ l x G w, Inv l G w → Ok x → l.length < 256 → Calls Tryz.prog fn #[.string (x.k.extract 1 x.k.size), .string x.v, c] w fun e w' => e = .returned (.tuple #[]) ∧ ∃ G', Inv (l ++ [x]) G' w' ∧ (∀ k, k < w.heap.size → G' k → G k) ∧ Off G w w'
def pre (begin_ : ByteArray) (x : KV) : Bool := Lib.hasPrefix x.k.data.toList begin_.data.toList

/-- While each goes: an item in hand (cell gx), what the closure keeps, the catalog. -/
structure EA {bs : Nat} (B : Base bs) (w : World) (gb ba tb : Nat) (F G : Nat → Prop) (R : Raw) (L : List KV) (Inv : List KV → (Nat → Prop) → World → Prop) (wr : World) (F' G' : Nat → Prop) (gx : Nat) (x : KV) (l : List KV) : Prop where
  cell : wr.heap[gx]? = some (itemO x)
  cat : CatIs B wr gb ba tb F' R L
  inv : Inv l G' wr
  dis : ∀ k, G' k → ¬ F' k ∧ k ≠ gb ∧ k ≠ tb
  gx : ¬ F' gx ∧ ¬ G' gx ∧ gx ≠ gb ∧ gx ≠ tb ∧ w.heap.size ≤ gx
  yF : ∀ k, k < w.heap.size → F' k → F k
  yG : ∀ k, k < w.heap.size → G' k → G k
  off : Off (fun k => F k ∨ G k) w wr
section
variable {bs : Nat} {B : Base bs} {w : World} {gb ba tb : Nat} {F G : Nat → Prop} {R : Raw} {L : List KV} {fn : Nat} {c : Value} {Ok : KV → Prop} {Inv : List KV → (Nat → Prop) → World → Prop} {wr w' : World} {F' G' : Nat → Prop} {gx : Nat} {x : KV} {l : List KV}
theorem EA.step (h : EA B w gb ba tb F G R L Inv wr F' G' gx x l) (hc : Clo fn c Ok Inv) (hs : Step B ba wr F' R w') : ∃ F2, EA B w gb ba tb F G R L Inv w' F2 G' gx x l := by
  have hx := hs.block h.cell h.gx.1
  obtain ⟨F2, hcat, hF2, ho⟩ := h.cat.same hs
  have hlt : gx < wr.heap.size := (Array.getElem?_eq_some_iff.1 h.cell).1
  have hown := hc.own _ _ _ h.inv
  exact ⟨F2, hx, hcat, hc.keep _ _ _ _ h.inv (fun k hk => ho.block k (hown k hk) (h.dis k hk).1) ho.size, fun k hk => ⟨fun e => (h.dis k hk).1 (hF2 k (hown k hk) e), (h.dis k hk).2⟩, ⟨fun e => h.gx.1 (hF2 _ hlt e), h.gx.2⟩,
    fun k hk e => h.yF k hk (hF2 k (Nat.lt_of_lt_of_le hk h.off.size) e), h.yG, h.off.trans ho (fun k hk e => .inl (h.yF k hk e))⟩
theorem EA.clo (h : EA B w gb ba tb F G R L Inv wr F' G' gx x l) {G2 : Nat → Prop} {l2 : List KV} (hi : Inv l2 G2 w') (hG2 : ∀ k, k < wr.heap.size → G2 k → G' k) (ho : Off G' wr w') : EA B w gb ba tb F G R L Inv w' F' G2 gx x l2 := by
  have hlt : gx < wr.heap.size := (Array.getElem?_eq_some_iff.1 h.cell).1
  refine ⟨(ho.block gx hlt h.gx.2.1).trans h.cell, h.cat.off ho h.dis, hi, fun k hk => ?_, ⟨h.gx.1, fun e => h.gx.2.1 (hG2 _ hlt e), h.gx.2.2⟩, h.yF, fun k hk e => h.yG k hk (hG2 k (Nat.lt_of_lt_of_le hk h.off.size) e), h.off.trans ho (fun k hk e => .inr (h.yG k hk e))⟩
  by_cases hk' : k < wr.heap.size
  · exact h.dis k (hG2 k hk' hk)
  · have h1 := h.cat.lt
    have h2 := h.cat.act.1
    exact ⟨fun e => hk' (h2 k e), by omega, by omega⟩
theorem EA.below (h : EA B w gb ba tb F G R L Inv wr F' G' gx x l) (hc : Clo fn c Ok Inv) (hb : Below wr.heap.size wr w') : EA B w gb ba tb F G R L Inv w' F' G' gx x l :=
  ⟨(hb.block gx (Array.getElem?_eq_some_iff.1 h.cell).1).trans h.cell, h.cat.below hb, hc.keep _ _ _ _ h.inv (fun k hk => hb.block k (hc.own _ _ _ h.inv k hk)) hb.size, h.dis, h.gx, h.yF, h.yG, h.off.trans (Off.of_below hb (F := fun _ => False)) (fun _ _ e => e.elim)⟩
theorem EA.set (h : EA B w gb ba tb F G R L Inv wr F' G' gx x l) (hc : Clo fn c Ok Inv) (y : KV) : EA B w gb ba tb F G R L Inv ((wr.setCell ⟨gx, 0, none⟩ (.string y.k)).setCell ⟨gx, 1, none⟩ (.string y.v)) F' G' gx y l := by
  have ho := off_set2 wr gx 0 1 (.string y.k) (.string y.v)
  refine ⟨heap_set (heap_set h.cell), h.cat.off ho (fun k hk => by subst hk; exact ⟨h.gx.1, h.gx.2.2.1, h.gx.2.2.2.1⟩), hc.keep _ _ _ _ h.inv (fun k hk => ho.block k (hc.own _ _ _ h.inv k hk) (fun e => h.gx.2.1 (by subst e; exact hk))) ho.size, h.dis, h.gx, h.yF, h.yG, ?_⟩
  exact ⟨ho.os.trans h.off.os, ho.tape.trans h.off.tape, ho.output.trans h.off.output, Nat.le_trans h.off.size ho.size, fun k hk hn => (ho.block k (Nat.lt_of_lt_of_le hk h.off.size) (fun e => by have := h.gx.2.2.2.2; omega)).trans (h.off.block k hk hn)⟩
theorem EA.fresh (h : EA B w gb ba tb F G R L Inv wr F' G' gx x l) (hc : Clo fn c Ok Inv) (y : KV) : EA B w gb ba tb F G R L Inv (wr.alloc (itemO y)) F' G' wr.heap.size y l := by
  have hb : Below wr.heap.size wr (wr.alloc (itemO y)) := by go_grown
  have h1 := h.cat.lt
  have h' := h.below hc hb
  exact ⟨hnew wr _, h'.cat, h'.inv, h'.dis, ⟨fun e => by have := h.cat.act.1 _ e; omega, fun e => by have := hc.own _ _ _ h.inv _ e; omega, by omega, by omega, h.off.size⟩, h'.yF, h'.yG, h'.off⟩
end
def yv (L : List KV) (j : Nat) : KV := L.getD j ⟨⟨#[]⟩, ⟨#[]⟩⟩
theorem yv_at (L : List KV) (j : Nat) (h : j < L.length) : yv L j = L[j] := by
  rw [yv, List.getD_eq_getElem?_getD, List.getElem?_eq_getElem h]; rfl
theorem itemR_eq (L : List KV) (j : Nat) : itemR L[j]? = .tuple #[.agg #[.string (yv L j).k, .string (yv L j).v], .bool (decide (j < L.length))] := by
  by_cases h : j < L.length
  · rw [yv_at L j h, List.getElem?_eq_getElem h, decide_eq_true h]; rfl
  · rw [yv, List.getD_eq_getElem?_getD, List.getElem?_eq_none (by omega), decide_eq_false h]; rfl
theorem cb_self : ∀ l : List UInt8, Go.Lib.compareBytes l l = 0
  | [] => by simp [Go.Lib.compareBytes]
  | x :: l => by simp [Go.Lib.compareBytes, UInt8.lt_iff_toNat_lt, cb_self l]
/-- A key of the leaf stands at its own place. -/
theorem cut_own {L : List KV} (hs : Sorted L) {j i : Nat} (hj : j < L.length) (h : Cut L L[j].k i) : i = j ∧ isAt L L[j].k i = true := by
  have hself : cmpK L[j] L[j].k = 0 := cb_self _
  have e : i = j := by
    rcases Nat.lt_trichotomy i j with hl | he | hg
    · have h1 := h.hi i (by omega) (Nat.le_refl _)
      have := hs i j (by omega) hj hl
      unfold cmpK at h1
      omega
    · exact he
    · have := h.lo j hj hg
      omega
  subst e
  exact ⟨rfl, by rw [isAt, List.getElem?_eq_getElem hj]; simp [hself]⟩

set_option maxRecDepth 100000 in
set_option maxHeartbeats 4000000 in
theorem each_any {bs : Nat} {B : Base bs} {w : World} {gb ba tb : Nat} {F G : Nat → Prop} {R : Raw} {L : List KV} (h : CatIs B w gb ba tb F R L) {fn : Nat} {c : Value} {Ok : KV → Prop} {Inv : List KV → (Nat → Prop) → World → Prop} (hc : Clo fn c Ok Inv) (hI : Inv [] G w)
    (hFG : ∀ k, G k → ¬ F k ∧ k ≠ gb ∧ k ≠ tb) (b : UInt8) (hok : ∀ x ∈ L, pre ⟨#[b]⟩ x = true → Ok x) :
    Calls Tryz.prog 37 #[.pointer (some ⟨gb, 0, none⟩), .string ⟨#[b]⟩, .func (.func fn) #[] #[c]] w fun e w' => e = .returned (.tuple #[]) ∧
      ∃ i n G' F', Cut L ⟨#[b]⟩ i ∧ i + n ≤ L.length ∧ (∀ t (ht : t < L.length), i ≤ t → t < i + n → pre ⟨#[b]⟩ L[t] = true) ∧ (∀ ht : i + n < L.length, pre ⟨#[b]⟩ L[i + n] = false) ∧
      Inv ((L.drop i).take n) G' w' ∧ CatIs B w' gb ba tb F' R L ∧ (∀ k, G' k → ¬ F' k ∧ k ≠ gb ∧ k ≠ tb) ∧ (∀ k, k < w.heap.size → F' k → F k) ∧ (∀ k, k < w.heap.size → G' k → G k) ∧ Off (fun k => F k ∨ G k) w w' := by
  have HG := Lib.hid (cgoing_any h)
  have eg := hc.enters
  have H := Lib.hid (And.intro h (And.intro hc (And.intro hI (And.intro hFG hok))))
  clear h hc hI hFG hok
  go_enter Tryz.func37, Tryz.ntmps37
  go_wp2_with fail
  refine HG.out.mono ?_
  rintro e w1 ⟨rfl, F1, h1, hF1, ho1⟩
  have HFr := Lib.hid (From_leaf h1.tree h1.act h1.fine h1.tF (by decide) h1.leaf ⟨#[b]⟩)
  obtain ⟨c0, c1⟩ := h1.cells
  have hI1 : Inv [] G w1 := H.out.2.1.keep _ _ _ _ H.out.2.2.1 (fun k hk => ho1.block k (H.out.2.1.own _ _ _ H.out.2.2.1 k hk) (H.out.2.2.2.1 k hk).1) ho1.size
  have H1 := Lib.hid (And.intro h1 (And.intro hF1 (And.intro ho1 hI1)))
  clear h1 hF1 ho1 hI1 HG
  go_wp2_with fail
  refine HFr.out.mono ?_
  rintro e w2 ⟨i, hcut, rfl, hst⟩
  have hltg : gb < w2.heap.size := by have := H.out.1.lt; have := H1.out.2.2.1.size; have := (Array.getElem?_eq_some_iff.1 (hst.block H1.out.1.cat H1.out.1.gF)).1; omega
  have HE0 := Lib.hid (show ∃ F2, EA B w gb ba tb F G R L Inv (w2.alloc (itemO (yv L i))) F2 G w2.heap.size (yv L i) [] from by
    have hown := H.out.2.1.own _ _ _ H1.out.2.2.2
    have hown0 := H.out.2.1.own _ _ _ H.out.2.2.1
    obtain ⟨F2, hcat, hF2, ho2⟩ := H1.out.1.same hst
    have hb : Below w2.heap.size w2 (w2.alloc (itemO (yv L i))) := by go_grown
    have hcb := hcat.below hb
    have hi2 := H.out.2.1.keep _ _ _ _ H1.out.2.2.2 (fun k hk => (ho2.block k (hown k hk) (fun e => (H.out.2.2.2.1 k hk).1 (H1.out.2.1 k (hown0 k hk) e)))) ho2.size
    have hown2 := H.out.2.1.own _ _ _ hi2
    refine ⟨F2, hnew w2 _, hcb, H.out.2.1.keep _ _ _ _ hi2 (fun k hk => hb.block k (hown2 k hk)) hb.size, fun k hk => ⟨fun e => (H.out.2.2.2.1 k hk).1 (H1.out.2.1 k (hown0 k hk) (hF2 k (hown k hk) e)), (H.out.2.2.2.1 k hk).2⟩, ⟨fun e => ?_, fun e => ?_, ?_, ?_, ?_⟩, fun k hk e => H1.out.2.1 k hk (hF2 k (Nat.lt_of_lt_of_le hk H1.out.2.2.1.size) e), fun k _ e => e, ?_⟩
    · have := hcat.act.1 _ e; omega
    · have := hown2 _ e; omega
    · have := hcat.lt; omega
    · have := hcat.lt; omega
    · exact Nat.le_trans H1.out.2.2.1.size ho2.size
    · exact (((H1.out.2.2.1).trans ho2 (fun k hk e => H1.out.2.1 k hk e)).trans (Off.of_below hb (F := fun _ => False)) (fun _ _ e => e.elim)).mono (fun k e => .inl e))
  rw [show firstI L ⟨#[b]⟩ true i = i by simp [firstI], itemR_eq]
  have HCut := Lib.hid hcut
  have hile := hcut.le
  clear hst hcut
  clear c0 c1
  go_wp2
  go_loopg [6, 7] (L.length - i) (fun gf s6 s7 wr => ∃ (j gx : Nat) (F' G' : Nat → Prop), gf = L.length - j ∧ i ≤ j ∧ j ≤ L.length ∧ s6 = .pointer (some ⟨gx, 0, none⟩) ∧ s7 = .bool (decide (j < L.length)) ∧ EA B w gb ba tb F G R L Inv wr F' G' gx (yv L j) ((L.drop i).take (j - i)) ∧ (∀ t (ht : t < L.length), i ≤ t → t < j → pre ⟨#[b]⟩ L[t] = true))
  case atStart =>
    obtain ⟨F2, h2⟩ := HE0.out
    exact ⟨i, w2.heap.size, F2, G, rfl, Nat.le_refl _, hile, rfl, rfl, by simpa using h2, fun t _ h1 h2 => by omega⟩
  case round =>
    obtain ⟨j, gx, F2, G2, rfl, hij, hj, rfl, rfl, hEA, hpre⟩ := hrel
    have HE := Lib.hid (And.intro hEA hpre)
    by_cases hjl : j < L.length
    · rw [decide_eq_true hjl]
      obtain ⟨x0, x1⟩ := xcells hEA.cell
      obtain ⟨c0, c1⟩ := hEA.cat.cells
      have HP := Lib.hid (Tryz.strings_HasPrefix (yv L j).k ⟨#[b]⟩ wr)
      clear hEA hpre
      go_wp2_with fail
      refine HP.out.mono ?_
      rintro e w3 ⟨rfl, rfl⟩
      rw [show Lib.hasPrefix (yv L j).k.data.toList (ByteArray.mk #[b]).data.toList = pre ⟨#[b]⟩ (yv L j) from rfl]
      cases hp : pre ⟨#[b]⟩ (yv L j) with
      | false =>
        have HPf := Lib.hid hp
        clear hp
        go_wp2
        refine Great.bodyPost_end0 rfl rfl ⟨rfl, i, j - i, G2, F2, HCut.out, by omega, fun t ht h1 h2 => HE.out.2 t ht h1 (by omega), fun ht => ?_, HE.out.1.inv, HE.out.1.cat, HE.out.1.dis, HE.out.1.yF, HE.out.1.yG, HE.out.1.off⟩
        have hz := HPf.out
        rw [yv_at L j hjl] at hz
        have e : i + (j - i) = j := by omega
        simpa only [e] using hz
      | true =>
        have HPt := Lib.hid hp
        clear hp
        have hxe := yv_at L j hjl
        have hk1 : 1 ≤ (yv L j).k.size := by
          have := HPt.out
          unfold pre at this
          cases hd : (yv L j).k.data.toList with
          | nil => rw [hd] at this; simp [Lib.hasPrefix] at this
          | cons a l =>
            have e : (yv L j).k.size = (yv L j).k.data.toList.length := by simp
            rw [e, hd]
            simp
        have hokx : Ok (yv L j) := by rw [hxe]; exact H.out.2.2.2.2 _ (List.getElem_mem hjl) (by rw [← hxe]; exact HPt.out)
        have hd1 : EA B w gb ba tb F G R L Inv w3.drew F2 G2 gx (yv L j) ((L.drop i).take (j - i)) := HE.out.1.below H.out.2.1 ((Below.refl w3.heap.size w3).drew)
        have hk2 : (1 : Int) ≤ (yv L j).k.size := by omega
        have HC := Lib.hid (H.out.2.1.does _ (yv L j) _ _ hd1.inv hokx (by have := H1.out.1.leaf.few; rw [List.length_take]; omega))
        have HD := Lib.hid hd1
        generalize hy : yv L j = y at *
        have HY := Lib.hid (And.intro hy hxe)
        clear hokx hd1 hxe hy
        go_wp2
        refine wp_region_noPanic ?_
        refine wp_region_held_drew (S := (fun w' => w'.cell? ⟨gx, 0, none⟩ = some (.string y.k) ∧ w'.cell? ⟨gx, 1, none⟩ = some (.string y.v))) (by kernel_rfl) ⟨x0, x1⟩ (fun hS => ?_)
        refine wpAnyH_take (i := 0) (v := ?_) rfl (by kernel_rfl) (by kernel_rfl) (by kernel_rfl) (fun _ _ _ h => h) (Or.inl ⟨by rfl, ?_⟩) hS ?_
        rotate_left
        · rintro w9 ⟨t0, t1⟩
          go_simp
          try with_reducible rfl
        try simp only [Act.put, List.getElem_toArray, List.getElem_cons_succ, List.getElem_cons_zero, List.setIfInBounds_toArray, List.set_cons_zero, List.set_cons_succ]
        refine wpAnyH_take (i := 1) (v := ?_) rfl (by kernel_rfl) (by kernel_rfl) (by kernel_rfl) (fun _ _ _ h => h) (Or.inl ⟨by rfl, ?_⟩) hS ?_
        rotate_left
        · rintro w9 ⟨t0, t1⟩
          go_simp
          try with_reducible rfl
        try simp only [Act.put, List.getElem_toArray, List.getElem_cons_succ, List.getElem_cons_zero, List.setIfInBounds_toArray, List.set_cons_zero, List.set_cons_succ]
        refine wpAnyH_take (i := 2) (v := ?_) rfl (by kernel_rfl) (by kernel_rfl) (by kernel_rfl) (fun _ _ _ h => h) (Or.inl ⟨by rfl, ?_⟩) hS ?_
        rotate_left
        · rintro w9 ⟨t0, t1⟩
          go_simp
          try with_reducible rfl
        try simp only [Act.put, List.getElem_toArray, List.getElem_cons_succ, List.getElem_cons_zero, List.setIfInBounds_toArray, List.set_cons_zero, List.set_cons_succ]
        refine wpAnyH_take (i := 3) (v := ?_) rfl (by kernel_rfl) (by kernel_rfl) (by kernel_rfl) (fun _ _ _ h => h) (Or.inl ⟨by rfl, ?_⟩) hS ?_
        rotate_left
        · rintro w9 ⟨t0, t1⟩
          go_simp
          try with_reducible rfl
        try simp only [Act.put, List.getElem_toArray, List.getElem_cons_succ, List.getElem_cons_zero, List.setIfInBounds_toArray, List.set_cons_zero, List.set_cons_succ]
        refine wpAnyH_take (i := 4) (v := ?_) rfl (by kernel_rfl) (by kernel_rfl) (by kernel_rfl) (fun _ _ _ h => h) (Or.inl ⟨by rfl, ?_⟩) hS ?_
        rotate_left
        · rintro w9 ⟨t0, t1⟩
          go_simp
          try with_reducible rfl
        try simp only [Act.put, List.getElem_toArray, List.getElem_cons_succ, List.getElem_cons_zero, List.setIfInBounds_toArray, List.set_cons_zero, List.set_cons_succ]
        refine wpAnyH_take (i := 5) (v := ?_) rfl (by kernel_rfl) (by kernel_rfl) (by kernel_rfl) (fun _ _ _ h => h) (Or.inl ⟨by rfl, ?_⟩) hS ?_
        rotate_left
        · rintro w9 ⟨t0, t1⟩
          go_simp
          try with_reducible rfl
        try simp only [Act.put, List.getElem_toArray, List.getElem_cons_succ, List.getElem_cons_zero, List.setIfInBounds_toArray, List.set_cons_zero, List.set_cons_succ]
        refine wpAnyH_ready (rs := [6]) (by kernel_rfl) (by simp) ?_
        refine AllReadyH.cons rfl (fun K hK => ?_) AllReadyH.nil
        go_simp
        refine HC.out.mono ?_
        rintro e w4 ⟨rfl, G4, hi4, hG4, ho4⟩
        have HE4 := Lib.hid (HD.out.clo hi4 hG4 ho4)
        have HSx := Lib.hid (xcells HE4.out.cell)
        clear hi4 hG4 ho4
        refine hK.out _ _ HSx.out (fun _ => ?_)
        clear hK K
        try simp only [Act.put, List.getElem_toArray, List.getElem_cons_succ, List.getElem_cons_zero, List.setIfInBounds_toArray, List.set_cons_zero, List.set_cons_succ]
        refine wpAnyH_done (by kernel_rfl) ?_ _
        refine NoPanic.normal ?_
        obtain ⟨x0, x1⟩ := xcells HE4.out.cell
        obtain ⟨c0, c1⟩ := HE4.out.cat.cells
        have HE5 := Lib.hid (HE4.out.fresh H.out.2.1 y)
        go_wp2
        have c1' := HE5.out.cat.cells.2
        have hd5 : EA B w gb ba tb F G R L Inv (w4.alloc (itemO y)).drew F2 G4 w4.heap.size y ((L.drop i).take (j - i) ++ [y]) := HE5.out.below H.out.2.1 ((Below.refl (w4.alloc (itemO y)).heap.size _).drew)
        have HN := Lib.hid (Next_leaf hd5.cat.tree hd5.cat.act hd5.cat.fine hd5.cat.tF (by decide) hd5.cat.leaf y.k)
        have HX5 := Lib.hid (xcells hd5.cell)
        have HD5 := Lib.hid hd5
        clear hd5
        refine wp_region_noPanic ?_
        refine wp_region_held_drew (S := (fun w' => w'.cell? ⟨gb, 1, none⟩ = some (.pointer (some ⟨tb, 0, none⟩)))) (by kernel_rfl) c1' (fun hS => ?_)
        refine wpAnyH_take (i := 0) (v := ?_) rfl (by kernel_rfl) (by kernel_rfl) (by kernel_rfl) (fun _ _ _ h => h) (Or.inl ⟨by rfl, ?_⟩) hS ?_
        rotate_left
        · intro w9 t0
          go_simp
          try with_reducible rfl
        try simp only [Act.put, List.getElem_toArray, List.getElem_cons_succ, List.getElem_cons_zero, List.setIfInBounds_toArray, List.set_cons_zero, List.set_cons_succ]
        refine wpAnyH_take (i := 1) (v := ?_) rfl (by kernel_rfl) (by kernel_rfl) (by kernel_rfl) (fun _ _ _ h => h) (Or.inl ⟨by rfl, ?_⟩) hS ?_
        rotate_left
        · intro w9 t0
          go_simp
          try with_reducible rfl
        try simp only [Act.put, List.getElem_toArray, List.getElem_cons_succ, List.getElem_cons_zero, List.setIfInBounds_toArray, List.set_cons_zero, List.set_cons_succ]
        refine wpAnyH_take (i := 2) (v := ?_) rfl (by kernel_rfl) (by kernel_rfl) (by kernel_rfl) (fun _ _ _ h => h) (Or.inl ⟨by rfl, ?_⟩) hS ?_
        rotate_left
        · intro w9 t0
          go_simp
          try with_reducible rfl
        try simp only [Act.put, List.getElem_toArray, List.getElem_cons_succ, List.getElem_cons_zero, List.setIfInBounds_toArray, List.set_cons_zero, List.set_cons_succ]
        refine wpAnyH_take (i := 3) (v := ?_) rfl (by kernel_rfl) (by kernel_rfl) (by kernel_rfl) (fun _ _ _ h => h) (Or.inl ⟨by rfl, ?_⟩) hS ?_
        rotate_left
        · intro w9 t0
          go_simp
          try with_reducible rfl
        try simp only [Act.put, List.getElem_toArray, List.getElem_cons_succ, List.getElem_cons_zero, List.setIfInBounds_toArray, List.set_cons_zero, List.set_cons_succ]
        refine wpAnyH_take (i := 4) (v := ?_) rfl (by kernel_rfl) (by kernel_rfl) (by kernel_rfl) (fun _ _ _ h => h) (Or.inl ⟨by rfl, ?_⟩) hS ?_
        rotate_left
        · intro w9 t0
          go_simp
          try with_reducible rfl
        try simp only [Act.put, List.getElem_toArray, List.getElem_cons_succ, List.getElem_cons_zero, List.setIfInBounds_toArray, List.set_cons_zero, List.set_cons_succ]
        have x0' := HX5.out.1
        refine wpAnyH_ready (rs := [5]) (by kernel_rfl) (by simp) ?_
        refine AllReadyH.cons rfl (fun K hK => ?_) AllReadyH.nil
        go_simp
        refine hK.out _ _ hS (fun _ => ?_)
        clear hK K
        try simp only [Act.put, List.getElem_toArray, List.getElem_cons_succ, List.getElem_cons_zero, List.setIfInBounds_toArray, List.set_cons_zero, List.set_cons_succ]
        refine wpAnyH_ready (rs := [6]) (by kernel_rfl) (by simp) ?_
        refine AllReadyH.cons rfl (fun K hK => ?_) AllReadyH.nil
        go_simp
        refine HN.out.mono ?_
        rintro e w6 ⟨i6, hcut6, rfl, hst6⟩
        have hi6 : firstI L y.k false i6 = j + 1 := by
          rw [HY.out.2] at hcut6 ⊢
          obtain ⟨rfl, hat⟩ := cut_own H1.out.1.leaf.rises hjl hcut6
          simp [firstI, hat]
        rw [hi6, itemR_eq]
        obtain ⟨F6, h6⟩ := HD5.out.step H.out.2.1 hst6
        have HSg := Lib.hid h6.cat.cells.2
        obtain ⟨z0, z1⟩ := xfroz h6.cell
        obtain ⟨x6, x7⟩ := xcells h6.cell
        have HE7 := Lib.hid (h6.set H.out.2.1 (yv L (j + 1)))
        have HSg7 := Lib.hid HE7.out.cat.cells.2
        clear h6 hst6 hcut6 hi6
        refine hK.out _ _ HSg.out (fun _ => ?_)
        clear hK K
        try simp only [Act.put, List.getElem_toArray, List.getElem_cons_succ, List.getElem_cons_zero, List.setIfInBounds_toArray, List.set_cons_zero, List.set_cons_succ]
        refine wpAnyH_take (i := 7) (v := ?_) rfl (by kernel_rfl) (by kernel_rfl) (by kernel_rfl) (fun _ _ _ h => h) (Or.inl ⟨by rfl, ?_⟩) HSg.out ?_
        rotate_left
        · intro w9 t0
          go_simp
          try with_reducible rfl
        try simp only [Act.put, List.getElem_toArray, List.getElem_cons_succ, List.getElem_cons_zero, List.setIfInBounds_toArray, List.set_cons_zero, List.set_cons_succ]
        refine wpAnyH_take (i := 8) (v := ?_) rfl (by kernel_rfl) (by kernel_rfl) (by kernel_rfl) (fun _ _ _ h => h) (Or.inl ⟨by rfl, ?_⟩) HSg.out ?_
        rotate_left
        · intro w9 t0
          go_simp
          try with_reducible rfl
        try simp only [Act.put, List.getElem_toArray, List.getElem_cons_succ, List.getElem_cons_zero, List.setIfInBounds_toArray, List.set_cons_zero, List.set_cons_succ]
        refine wpAnyH_take (i := 9) (v := ?_) rfl (by kernel_rfl) (by kernel_rfl) (by kernel_rfl) (fun _ _ _ h => h) (Or.inl ⟨by rfl, ?_⟩) HSg.out ?_
        rotate_left
        · intro w9 t0
          go_simp
          try with_reducible rfl
        try simp only [Act.put, List.getElem_toArray, List.getElem_cons_succ, List.getElem_cons_zero, List.setIfInBounds_toArray, List.set_cons_zero, List.set_cons_succ]
        refine wpAnyH_ready (rs := [10]) (by kernel_rfl) (by simp) ?_
        refine AllReadyH.cons rfl (fun K hK => ?_) AllReadyH.nil
        go_simp
        refine hK.out _ _ HSg7.out (fun _ => ?_)
        clear hK K
        try simp only [Act.put, List.getElem_toArray, List.getElem_cons_succ, List.getElem_cons_zero, List.setIfInBounds_toArray, List.set_cons_zero, List.set_cons_succ]
        refine wpAnyH_take (i := 11) (v := ?_) rfl (by kernel_rfl) (by kernel_rfl) (by kernel_rfl) (fun _ _ _ h => h) (Or.inl ⟨by rfl, ?_⟩) HSg7.out ?_
        rotate_left
        · intro w9 t0
          go_simp
          try with_reducible rfl
        try simp only [Act.put, List.getElem_toArray, List.getElem_cons_succ, List.getElem_cons_zero, List.setIfInBounds_toArray, List.set_cons_zero, List.set_cons_succ]
        refine wpAnyH_done (by kernel_rfl) ?_ _
        refine NoPanic.normal ?_
        go_wp2
        go_roundg (L.length - (j + 1))
        case measure => omega
        case rel =>
          refine ⟨j + 1, w4.heap.size, F6, G4, rfl, by omega, by omega, rfl, rfl, ?_, fun t ht h1 h2 => ?_⟩
          · have e : (L.drop i).take (j + 1 - i) = (L.drop i).take (j - i) ++ [y] := by
              rw [show j + 1 - i = (j - i) + 1 by omega, List.take_succ_eq_append_getElem (by simp; omega)]
              simp only [List.getElem_drop]
              have e2 : i + (j - i) = j := by omega
              simp only [e2, HY.out.2]
            rw [e]
            exact HE7.out
          · by_cases htj : t < j
            · exact HE.out.2 t ht h1 htj
            · have e : t = j := by omega
              subst e
              have := HPt.out
              rw [HY.out.2] at this
              exact this
    · rw [decide_eq_false hjl]
      clear hEA hpre
      go_wp2
      exact Great.bodyPost_end0 rfl rfl ⟨rfl, i, j - i, G2, F2, HCut.out, by omega, fun t ht h1 h2 => HE.out.2 t ht h1 (by omega), fun ht => by omega, HE.out.1.inv, HE.out.1.cat, HE.out.1.dis, HE.out.1.yF, HE.out.1.yG, HE.out.1.off⟩
end Go.Proofs.YtddddjpmeegedaaGreat
