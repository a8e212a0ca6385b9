/- An action of a space: how it lies in memory; going, page. -/
import Derived.Test.YtddddjpmeegedaaGreatSpC
set_option linter.unusedVariables false
set_option linter.unusedSimpArgs false
namespace Go.Proofs.YtddddjpmeegedaaGreat
open Go.RowKit

/-- What lies under an action: pages that its space gives. -/
structure Base (bs : Nat) where
  is : World → (Nat → Prop) → Prop
  dom : Int → Prop
  view : Int → List UInt8
  own : ∀ {w F}, is w F → ∀ k, F k → k < w.heap.size
  keep : ∀ {w w' F}, is w F → (∀ k, F k → w'.heap[k]? = w.heap[k]?) → is w' F
  bytes : ∀ {w F} (p : Int), is w F → dom p → Calls Tryz.prog 56 #[.pointer (some ⟨bs, 0, none⟩), .int .i64 p] w fun e w' =>
    ∃ b cap F', e = .returned (.slice (some ⟨b, 0, none⟩) 512 cap) ∧ PageAt w' b cap (view p) ∧ is w' F' ∧ ¬ F' b ∧ w.heap.size ≤ b ∧ (∀ k, k < w.heap.size → F' k → F k) ∧ Off F w w'

/-- What an action holds. -/
structure Raw where
  page : Int → List UInt8
  dirty : Int → Bool
  gone : Int → Bool

abbrev actO (bs bp bg : Nat) (over : Bool) : Obj := .cells #[.pointer (some ⟨bs, 0, none⟩), .map (some bp), .map (some bg), .bool over] 100
def pagesF (R : Raw) (blk cap : Int → Nat) (p : Int) : Option Value := if R.dirty p then some (.slice (some ⟨blk p, 0, none⟩) 512 (cap p)) else none
def goneF (R : Raw) (p : Int) : Option Value := if R.gone p then some (.bool true) else none

structure ActAt {bs : Nat} (B : Base bs) (w : World) (ba bp bg : Nat) (Fb : Nat → Prop) (R : Raw) (blk cap : Int → Nat) : Prop where
  a : w.heap[ba]? = some (actO bs bp bg false)
  base : B.is w Fb
  pages : MapIs w bp (pagesF R blk cap)
  goneM : MapIs w bg (goneF R)
  at_ : ∀ p, R.dirty p = true → PageAt w (blk p) (cap p) (R.page p)
  low : ∀ p, R.dirty p = false → B.dom p → R.page p = B.view p
  rng : ∀ p, R.dirty p = true → 0 ≤ p ∧ p < 4096
  rngG : ∀ p, R.gone p = true → 0 ≤ p ∧ p < 4096
  inj : ∀ p q, R.dirty p = true → R.dirty q = true → blk p = blk q → p = q
  maps : bp ≠ bg
  fa : ¬ Fb ba
  fp : ¬ Fb bp
  fg : ¬ Fb bg
  fk : ∀ p, R.dirty p = true → ¬ Fb (blk p)
/-- Its blocks. -/
def foot (ba bp bg : Nat) (Fb : Nat → Prop) (R : Raw) (blk : Int → Nat) (k : Nat) : Prop := k = ba ∨ k = bp ∨ k = bg ∨ Fb k ∨ ∃ p, R.dirty p = true ∧ k = blk p

section
variable {bs : Nat} {B : Base bs} {w : World} {ba bp bg : Nat} {Fb : Nat → Prop} {R : Raw} {blk cap : Int → Nat}
theorem MapIs.cells_ne {w : World} {b g : Nat} {f : Int → Option Value} (h : MapIs w b f) {cs : Array Value} {t : TypeId} {fr : Nat × Nat} (hg : w.heap[g]? = some (.cells cs t fr)) : b ≠ g := by
  rintro rfl
  obtain ⟨D, L, ⟨es, clock, hb, _⟩, _⟩ := h
  rw [hb] at hg
  cases hg
theorem PageAt.ne {w : World} {b cap g : Nat} {l : List UInt8} (h : PageAt w b cap l) {cs : Array Value} {t : TypeId} {fr : Nat × Nat} (hg : w.heap[g]? = some (.cells cs t fr)) (ht : t ≠ 5) : b ≠ g := by
  rintro rfl
  obtain ⟨_, cur, fr', hb, _⟩ := h
  rw [hb] at hg
  cases hg
  exact ht rfl
theorem PageAt.map_ne {w : World} {b cap g : Nat} {l : List UInt8} (h : PageAt w b cap l) {f : Int → Option Value} (hg : MapIs w g f) : b ≠ g := by
  obtain ⟨_, cur, fr', hb, _⟩ := h
  exact fun e => hg.cells_ne hb e.symm
theorem ActAt.bounded (h : ActAt B w ba bp bg Fb R blk cap) (k : Nat) (hk : foot ba bp bg Fb R blk k) : k < w.heap.size := by
  rcases hk with rfl | rfl | rfl | hk | ⟨p, hp, rfl⟩
  · exact (Array.getElem?_eq_some_iff.1 h.a).1
  · exact h.pages.lt
  · exact h.goneM.lt
  · exact B.own h.base k hk
  · exact (h.at_ p hp).lt
theorem ActAt.keep (h : ActAt B w ba bp bg Fb R blk cap) {w' : World} (e : ∀ k, foot ba bp bg Fb R blk k → w'.heap[k]? = w.heap[k]?) : ActAt B w' ba bp bg Fb R blk cap :=
  ⟨(e ba (.inl rfl)).trans h.a, B.keep h.base fun k hk => e k (.inr (.inr (.inr (.inl hk)))), h.pages.keep (e bp (.inr (.inl rfl))), h.goneM.keep (e bg (.inr (.inr (.inl rfl)))), fun p hp => (h.at_ p hp).keep (e _ (.inr (.inr (.inr (.inr ⟨p, hp, rfl⟩))))), h.low, h.rng, h.rngG, h.inj, h.maps, h.fa, h.fp, h.fg, h.fk⟩
theorem ActAt.below (h : ActAt B w ba bp bg Fb R blk cap) {w' : World} (hb : Below w.heap.size w w') : ActAt B w' ba bp bg Fb R blk cap := h.keep fun k hk => hb.block k (h.bounded k hk)
end

/-- An action that holds R; F: the blocks that are its own. -/
def ActIs {bs : Nat} (B : Base bs) (w : World) (ba : Nat) (F : Nat → Prop) (R : Raw) : Prop :=
  (∀ k, F k → k < w.heap.size) ∧ ∃ bp bg Fb blk cap, ActAt B w ba bp bg Fb R blk cap ∧ ∀ k, foot ba bp bg Fb R blk k → F k
theorem ActIs.keep {bs : Nat} {B : Base bs} {w w' : World} {ba : Nat} {F : Nat → Prop} {R : Raw} (h : ActIs B w ba F R) (e : ∀ k, F k → w'.heap[k]? = w.heap[k]?) (hz : w.heap.size ≤ w'.heap.size) : ActIs B w' ba F R := by
  obtain ⟨h1, bp, bg, Fb, blk, cap, h2, h3⟩ := h
  exact ⟨fun k hk => Nat.lt_of_lt_of_le (h1 k hk) hz, bp, bg, Fb, blk, cap, h2.keep fun k hk => e k (h3 k hk), h3⟩
theorem ActIs.below {bs : Nat} {B : Base bs} {w w' : World} {ba : Nat} {F : Nat → Prop} {R : Raw} (h : ActIs B w ba F R) (hb : Below w.heap.size w w') : ActIs B w' ba F R := h.keep (fun k hk => hb.block k (h.1 k hk)) hb.size
theorem ActIs.off {bs : Nat} {B : Base bs} {w w' : World} {ba : Nat} {F G : Nat → Prop} {R : Raw} (h : ActIs B w ba F R) (ho : Off G w w') (hG : ∀ k, F k → ¬ G k) : ActIs B w' ba F R := h.keep (fun k hk => ho.block k (h.1 k hk) (hG k hk)) ho.size
/-- A step of an action: what it holds behind it. -/
def Step {bs : Nat} (B : Base bs) (ba : Nat) (w : World) (F : Nat → Prop) (R' : Raw) (w' : World) : Prop := ∃ F', ActIs B w' ba F' R' ∧ (∀ k, k < w.heap.size → F' k → F k) ∧ Off F w w'
theorem Step.of_at {bs : Nat} {B : Base bs} {ba : Nat} {w : World} {F : Nat → Prop} {R' : Raw} {w' : World} {bp bg : Nat} {Fb : Nat → Prop} {blk cap : Int → Nat} (h : ActAt B w' ba bp bg Fb R' blk cap) (hF : ∀ k, k < w.heap.size → foot ba bp bg Fb R' blk k → F k) (ho : Off F w w') : Step B ba w F R' w' :=
  ⟨foot ba bp bg Fb R' blk, ⟨h.bounded, bp, bg, Fb, blk, cap, h, fun _ hk => hk⟩, hF, ho⟩
theorem Step.trans {bs : Nat} {B : Base bs} {ba : Nat} {w w1 w2 : World} {F F1 : Nat → Prop} {R2 : Raw} (ho : Off F w w1) (hF : ∀ k, k < w.heap.size → F1 k → F k) (h : Step B ba w1 F1 R2 w2) : Step B ba w F R2 w2 := by
  obtain ⟨F2, h2, hF2, ho2⟩ := h
  exact ⟨F2, h2, fun k hk h => hF k hk (hF2 k (Nat.lt_of_lt_of_le hk ho.size) h), ho.trans ho2 hF⟩

theorem act4 {w : World} {g bs bp bg : Nat} {over : Bool} (h : w.heap[g]? = some (actO bs bp bg over)) : w.cell? ⟨g, 0, none⟩ = some (.pointer (some ⟨bs, 0, none⟩)) ∧ w.cell? ⟨g, 1, none⟩ = some (.map (some bp)) ∧ w.cell? ⟨g, 2, none⟩ = some (.map (some bg)) ∧ w.cell? ⟨g, 3, none⟩ = some (.bool over) := by
  refine ⟨?_, ?_, ?_, ?_⟩ <;> (unfold World.cell?; rw [h]; rfl)

theorem going_any {w : World} {ba bs bp bg : Nat} (h : w.heap[ba]? = some (actO bs bp bg false)) :
    Calls Tryz.prog 47 #[.pointer (some ⟨ba, 0, none⟩)] w fun e w' => e = .returned (.int .i64 0) ∧ Below w.heap.size w w' := by
  obtain ⟨c0, c1, c2, c3⟩ := act4 h
  clear h
  go_enter Tryz.func47, Tryz.ntmps47
  go_wp2
  go_ret
  exact ⟨rfl, by first | exact Below.refl _ _ | go_grown⟩

set_option maxHeartbeats 1000000 in
theorem page_any {bs : Nat} {B : Base bs} {w : World} {ba bp bg : Nat} {Fb : Nat → Prop} {R : Raw} {blk cap : Int → Nat} (h : ActAt B w ba bp bg Fb R blk cap) (p : Int) (hp : 0 ≤ p ∧ p < 4096) (hd : R.dirty p = true ∨ B.dom p) :
    Calls Tryz.prog 107 #[.pointer (some ⟨ba, 0, none⟩), .int .i64 p] w fun e w' =>
      ∃ b c Fb', e = .returned (.slice (some ⟨b, 0, none⟩) 512 c) ∧ PageAt w' b c (R.page p) ∧ ActAt B w' ba bp bg Fb' R blk cap ∧ (∀ k, k < w.heap.size → Fb' k → Fb k) ∧ ((R.dirty p = true ∧ b = blk p ∧ c = cap p) ∨ (R.dirty p = false ∧ w.heap.size ≤ b ∧ ¬ Fb' b)) ∧ Off Fb w w' := by
  obtain ⟨c0, c1, c2, c3⟩ := act4 h.a
  have hl := h.pages.look_ok (t := 97) (e := 74) (z := .slice none 0 0) Tryz.underlying97 (by kernel_rfl) (i := p) (wfI ⟨by omega, by omega⟩)
  have HH := Lib.hid h
  by_cases hdp : R.dirty p = true
  · rw [pagesF, if_pos hdp] at hl
    clear h hd
    have HD := Lib.hid hdp
    clear hdp
    go_enter Tryz.func107, Tryz.ntmps107
    go_wp2
    go_ret
    exact ⟨blk p, cap p, Fb, rfl, HH.out.at_ p HD.out, HH.out, fun _ _ h => h, .inl ⟨HD.out, rfl, rfl⟩, Off.refl _ _⟩
  · have hdf : R.dirty p = false := by simpa using hdp
    have hdom : B.dom p := hd.resolve_left hdp
    rw [pagesF, if_neg hdp] at hl
    have HB := Lib.hid (B.bytes p h.base hdom)
    have HD := Lib.hid (And.intro hdf hdom)
    clear h hd hdf hdp hdom
    go_enter Tryz.func107, Tryz.ntmps107
    go_wp2_with fail
    refine HB.out.mono ?_
    rintro e w1 ⟨b, c, F', rfl, hpg, his, hnb, hyb, hF', ho⟩
    have h1 : ActAt B w1 ba bp bg F' R blk cap := by
      have h := HH.out
      have ey : ∀ k, k < w.heap.size → ¬ Fb k → w1.heap[k]? = w.heap[k]? := ho.block
      have blt : ∀ k, foot ba bp bg Fb R blk k → k < w.heap.size := h.bounded
      exact ⟨(ey ba (blt _ (.inl rfl)) h.fa).trans h.a, his, h.pages.keep (ey bp h.pages.lt h.fp), h.goneM.keep (ey bg h.goneM.lt h.fg), fun q hq => (h.at_ q hq).keep (ey _ (h.at_ q hq).lt (h.fk q hq)), h.low, h.rng, h.rngG, h.inj, h.maps,
        fun e => h.fa (hF' _ (blt _ (.inl rfl)) e), fun e => h.fp (hF' _ h.pages.lt e), fun e => h.fg (hF' _ h.goneM.lt e), fun q hq e => h.fk q hq (hF' _ (h.at_ q hq).lt e)⟩
    have H1 := Lib.hid (And.intro hpg (And.intro h1 (And.intro hnb (And.intro hyb (And.intro hF' ho)))))
    clear hpg his hnb hyb hF' ho h1
    go_wp2
    go_ret
    refine ⟨b, c, F', rfl, ?_, H1.out.2.1, H1.out.2.2.2.2.1, .inr ⟨HD.out.1, H1.out.2.2.2.1, H1.out.2.2.1⟩, H1.out.2.2.2.2.2⟩
    rw [HH.out.low p HD.out.1 HD.out.2]
    exact H1.out.1
end Go.Proofs.YtddddjpmeegedaaGreat
