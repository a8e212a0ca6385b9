/- An action of a space: how it lies in memory; going, page. An action of a space: total, put. An action of a space: there, Read, Write, Root, SetRoot. An action of a space: Write, Root, SetRoot. -/
import Derived.Test.YtoejgkcaamkanaaGreatDoorQ01
import Derived.Great.Walk
set_option linter.unusedVariables false
set_option linter.unusedSimpArgs false
namespace Go.Proofs.YtoejgkcaamkanaaGreatDoor
open Go.RowKit

/-- What lies under an action: pages that its space gives. -/
structure Base (bs : Nat) where
  is : World → (Nat → Prop) → Prop
  dom : Int → Prop
  view : Int → List UInt8
  own : ∀ {w F}, is w F → ∀ k, F k → k < w.heap.size
  keep : ∀ {w w' F}, is w F → (∀ k, F k → w'.heap[k]? = w.heap[k]?) → is w' F
  bytes : ∀ {w F} (p : Int), is w F → dom p → Calls Tryz.prog 85 #[.pointer (some ⟨bs, 0, none⟩), .int .i64 p] w fun e w' =>
    ∃ b cap F', e = .returned (.slice (some ⟨b, 0, none⟩) 512 cap) ∧ PageAt w' b cap (view p) ∧ is w' F' ∧ ¬ F' b ∧ w.heap.size ≤ b ∧ (∀ k, k < w.heap.size → F' k → F k) ∧ Off F w w'

/-- What an action holds. -/
structure Raw where
  page : Int → List UInt8
  dirty : Int → Bool
  gone : Int → Bool

abbrev actO (bs bp bg : Nat) (over : Bool) : Obj := .cells #[.pointer (some ⟨bs, 0, none⟩), .map (some bp), .map (some bg), .bool over] 152
def pagesF (R : Raw) (blk cap : Int → Nat) (p : Int) : Option Value := if R.dirty p then some (.slice (some ⟨blk p, 0, none⟩) 512 (cap p)) else none
def goneF (R : Raw) (p : Int) : Option Value := if R.gone p then some (.bool true) else none

structure ActAt {bs : Nat} (B : Base bs) (w : World) (ba bp bg : Nat) (Fb : Nat → Prop) (R : Raw) (blk cap : Int → Nat) : Prop where
  a : w.heap[ba]? = some (actO bs bp bg false)
  base : B.is w Fb
  pages : MapIs w bp (pagesF R blk cap)
  goneM : MapIs w bg (goneF R)
  at_ : ∀ p, R.dirty p = true → PageAt w (blk p) (cap p) (R.page p)
  low : ∀ p, R.dirty p = false → B.dom p → R.page p = B.view p
  rng : ∀ p, R.dirty p = true → 0 ≤ p ∧ p < 4096
  rngG : ∀ p, R.gone p = true → 0 ≤ p ∧ p < 4096
  inj : ∀ p q, R.dirty p = true → R.dirty q = true → blk p = blk q → p = q
  maps : bp ≠ bg
  fa : ¬ Fb ba
  fp : ¬ Fb bp
  fg : ¬ Fb bg
  fk : ∀ p, R.dirty p = true → ¬ Fb (blk p)
/-- Its blocks. -/
def foot (ba bp bg : Nat) (Fb : Nat → Prop) (R : Raw) (blk : Int → Nat) (k : Nat) : Prop := k = ba ∨ k = bp ∨ k = bg ∨ Fb k ∨ ∃ p, R.dirty p = true ∧ k = blk p

section
variable {bs : Nat} {B : Base bs} {w : World} {ba bp bg : Nat} {Fb : Nat → Prop} {R : Raw} {blk cap : Int → Nat}
theorem MapIs.cells_ne {w : World} {b g : Nat} {f : Int → Option Value} (h : MapIs w b f) {cs : Array Value} {t : TypeId} {fr : Nat × Nat} (hg : w.heap[g]? = some (.cells cs t fr)) : b ≠ g := by
  rintro rfl
  obtain ⟨D, L, ⟨es, clock, hb, _⟩, _⟩ := h
  rw [hb] at hg
  cases hg
theorem PageAt.ne {w : World} {b cap g : Nat} {l : List UInt8} (h : PageAt w b cap l) {cs : Array Value} {t : TypeId} {fr : Nat × Nat} (hg : w.heap[g]? = some (.cells cs t fr)) (ht : t ≠ 5) : b ≠ g := by
  rintro rfl
  obtain ⟨_, cur, fr', hb, _⟩ := h
  rw [hb] at hg
  cases hg
  exact ht rfl
theorem PageAt.map_ne {w : World} {b cap g : Nat} {l : List UInt8} (h : PageAt w b cap l) {f : Int → Option Value} (hg : MapIs w g f) : b ≠ g := by
  obtain ⟨_, cur, fr', hb, _⟩ := h
  exact fun e => hg.cells_ne hb e.symm
theorem ActAt.bounded (h : ActAt B w ba bp bg Fb R blk cap) (k : Nat) (hk : foot ba bp bg Fb R blk k) : k < w.heap.size := by
  rcases hk with rfl | rfl | rfl | hk | ⟨p, hp, rfl⟩
  · exact (Array.getElem?_eq_some_iff.1 h.a).1
  · exact h.pages.lt
  · exact h.goneM.lt
  · exact B.own h.base k hk
  · exact (h.at_ p hp).lt
theorem ActAt.keep (h : ActAt B w ba bp bg Fb R blk cap) {w' : World} (e : ∀ k, foot ba bp bg Fb R blk k → w'.heap[k]? = w.heap[k]?) : ActAt B w' ba bp bg Fb R blk cap :=
  ⟨(e ba (.inl rfl)).trans h.a, B.keep h.base fun k hk => e k (.inr (.inr (.inr (.inl hk)))), h.pages.keep (e bp (.inr (.inl rfl))), h.goneM.keep (e bg (.inr (.inr (.inl rfl)))), fun p hp => (h.at_ p hp).keep (e _ (.inr (.inr (.inr (.inr ⟨p, hp, rfl⟩))))), h.low, h.rng, h.rngG, h.inj, h.maps, h.fa, h.fp, h.fg, h.fk⟩
theorem ActAt.below (h : ActAt B w ba bp bg Fb R blk cap) {w' : World} (hb : Below w.heap.size w w') : ActAt B w' ba bp bg Fb R blk cap := h.keep fun k hk => hb.block k (h.bounded k hk)
end

/-- An action that holds R; F: the blocks that are its own. -/
def ActIs {bs : Nat} (B : Base bs) (w : World) (ba : Nat) (F : Nat → Prop) (R : Raw) : Prop :=
  (∀ k, F k → k < w.heap.size) ∧ ∃ bp bg Fb blk cap, ActAt B w ba bp bg Fb R blk cap ∧ ∀ k, foot ba bp bg Fb R blk k → F k
theorem ActIs.keep {bs : Nat} {B : Base bs} {w w' : World} {ba : Nat} {F : Nat → Prop} {R : Raw} (h : ActIs B w ba F R) (e : ∀ k, F k → w'.heap[k]? = w.heap[k]?) (hz : w.heap.size ≤ w'.heap.size) : ActIs B w' ba F R := by
  obtain ⟨h1, bp, bg, Fb, blk, cap, h2, h3⟩ := h
  exact ⟨fun k hk => Nat.lt_of_lt_of_le (h1 k hk) hz, bp, bg, Fb, blk, cap, h2.keep fun k hk => e k (h3 k hk), h3⟩
theorem ActIs.below {bs : Nat} {B : Base bs} {w w' : World} {ba : Nat} {F : Nat → Prop} {R : Raw} (h : ActIs B w ba F R) (hb : Below w.heap.size w w') : ActIs B w' ba F R := h.keep (fun k hk => hb.block k (h.1 k hk)) hb.size
theorem ActIs.off {bs : Nat} {B : Base bs} {w w' : World} {ba : Nat} {F G : Nat → Prop} {R : Raw} (h : ActIs B w ba F R) (ho : Off G w w') (hG : ∀ k, F k → ¬ G k) : ActIs B w' ba F R := h.keep (fun k hk => ho.block k (h.1 k hk) (hG k hk)) ho.size
/-- A step of an action: what it holds behind it. -/
def Step {bs : Nat} (B : Base bs) (ba : Nat) (w : World) (F : Nat → Prop) (R' : Raw) (w' : World) : Prop := ∃ F', ActIs B w' ba F' R' ∧ (∀ k, k < w.heap.size → F' k → F k) ∧ Off F w w'
theorem Step.of_at {bs : Nat} {B : Base bs} {ba : Nat} {w : World} {F : Nat → Prop} {R' : Raw} {w' : World} {bp bg : Nat} {Fb : Nat → Prop} {blk cap : Int → Nat} (h : ActAt B w' ba bp bg Fb R' blk cap) (hF : ∀ k, k < w.heap.size → foot ba bp bg Fb R' blk k → F k) (ho : Off F w w') : Step B ba w F R' w' :=
  ⟨foot ba bp bg Fb R' blk, ⟨h.bounded, bp, bg, Fb, blk, cap, h, fun _ hk => hk⟩, hF, ho⟩
theorem Step.trans {bs : Nat} {B : Base bs} {ba : Nat} {w w1 w2 : World} {F F1 : Nat → Prop} {R2 : Raw} (ho : Off F w w1) (hF : ∀ k, k < w.heap.size → F1 k → F k) (h : Step B ba w1 F1 R2 w2) : Step B ba w F R2 w2 := by
  obtain ⟨F2, h2, hF2, ho2⟩ := h
  exact ⟨F2, h2, fun k hk h => hF k hk (hF2 k (Nat.lt_of_lt_of_le hk ho.size) h), ho.trans ho2 hF⟩

theorem act4 {w : World} {g bs bp bg : Nat} {over : Bool} (h : w.heap[g]? = some (actO bs bp bg over)) : w.cell? ⟨g, 0, none⟩ = some (.pointer (some ⟨bs, 0, none⟩)) ∧ w.cell? ⟨g, 1, none⟩ = some (.map (some bp)) ∧ w.cell? ⟨g, 2, none⟩ = some (.map (some bg)) ∧ w.cell? ⟨g, 3, none⟩ = some (.bool over) := by
  refine ⟨?_, ?_, ?_, ?_⟩ <;> (unfold World.cell?; rw [h]; rfl)

theorem going_any {w : World} {ba bs bp bg : Nat} (h : w.heap[ba]? = some (actO bs bp bg false)) :
    Calls Tryz.prog 100 #[.pointer (some ⟨ba, 0, none⟩)] w fun e w' => e = .returned (.int .i64 0) ∧ Below w.heap.size w w' := by
  obtain ⟨c0, c1, c2, c3⟩ := act4 h
  clear h
  go_enter Tryz.func100, Tryz.ntmps100
  go_wp2
  go_ret
  exact ⟨rfl, by first | exact Below.refl _ _ | go_grown⟩

set_option maxHeartbeats 1000000 in
theorem page_any {bs : Nat} {B : Base bs} {w : World} {ba bp bg : Nat} {Fb : Nat → Prop} {R : Raw} {blk cap : Int → Nat} (h : ActAt B w ba bp bg Fb R blk cap) (p : Int) (hp : 0 ≤ p ∧ p < 4096) (hd : R.dirty p = true ∨ B.dom p) :
    Calls Tryz.prog 101 #[.pointer (some ⟨ba, 0, none⟩), .int .i64 p] w fun e w' =>
      ∃ b c Fb', e = .returned (.slice (some ⟨b, 0, none⟩) 512 c) ∧ PageAt w' b c (R.page p) ∧ ActAt B w' ba bp bg Fb' R blk cap ∧ (∀ k, k < w.heap.size → Fb' k → Fb k) ∧ ((R.dirty p = true ∧ b = blk p ∧ c = cap p) ∨ (R.dirty p = false ∧ w.heap.size ≤ b ∧ ¬ Fb' b)) ∧ Off Fb w w' := by
  obtain ⟨c0, c1, c2, c3⟩ := act4 h.a
  have hl := h.pages.look_ok (t := 150) (e := 84) (z := .slice none 0 0) Tryz.underlying150 (by kernel_rfl) (i := p) (wfI ⟨by omega, by omega⟩)
  have HH := Lib.hid h
  by_cases hdp : R.dirty p = true
  · rw [pagesF, if_pos hdp] at hl
    clear h hd
    have HD := Lib.hid hdp
    clear hdp
    go_enter Tryz.func101, Tryz.ntmps101
    go_wp2
    go_ret
    exact ⟨blk p, cap p, Fb, rfl, HH.out.at_ p HD.out, HH.out, fun _ _ h => h, .inl ⟨HD.out, rfl, rfl⟩, Off.refl _ _⟩
  · have hdf : R.dirty p = false := by simpa using hdp
    have hdom : B.dom p := hd.resolve_left hdp
    rw [pagesF, if_neg hdp] at hl
    have HB := Lib.hid (B.bytes p h.base hdom)
    have HD := Lib.hid (And.intro hdf hdom)
    clear h hd hdf hdp hdom
    go_enter Tryz.func101, Tryz.ntmps101
    go_wp2_with fail
    refine HB.out.mono ?_
    rintro e w1 ⟨b, c, F', rfl, hpg, his, hnb, hyb, hF', ho⟩
    have h1 : ActAt B w1 ba bp bg F' R blk cap := by
      have h := HH.out
      have ey : ∀ k, k < w.heap.size → ¬ Fb k → w1.heap[k]? = w.heap[k]? := ho.block
      have blt : ∀ k, foot ba bp bg Fb R blk k → k < w.heap.size := h.bounded
      exact ⟨(ey ba (blt _ (.inl rfl)) h.fa).trans h.a, his, h.pages.keep (ey bp h.pages.lt h.fp), h.goneM.keep (ey bg h.goneM.lt h.fg), fun q hq => (h.at_ q hq).keep (ey _ (h.at_ q hq).lt (h.fk q hq)), h.low, h.rng, h.rngG, h.inj, h.maps,
        fun e => h.fa (hF' _ (blt _ (.inl rfl)) e), fun e => h.fp (hF' _ h.pages.lt e), fun e => h.fg (hF' _ h.goneM.lt e), fun q hq e => h.fk q hq (hF' _ (h.at_ q hq).lt e)⟩
    have H1 := Lib.hid (And.intro hpg (And.intro h1 (And.intro hnb (And.intro hyb (And.intro hF' ho)))))
    clear hpg his hnb hyb hF' ho h1
    go_wp2
    go_ret
    refine ⟨b, c, F', rfl, ?_, H1.out.2.1, H1.out.2.2.2.2.1, .inr ⟨HD.out.1, H1.out.2.2.2.1, H1.out.2.2.1⟩, H1.out.2.2.2.2.2⟩
    rw [HH.out.low p HD.out.1 HD.out.2]
    exact H1.out.1
end Go.Proofs.YtoejgkcaamkanaaGreatDoor

namespace Go.Proofs.YtoejgkcaamkanaaGreatDoor
open Go.RowKit

def num (l : List UInt8) (i : Nat) : Int := (num4 (l.getD i 0) (l.getD (i + 1) 0) (l.getD (i + 2) 0) (l.getD (i + 3) 0) : Nat)
theorem num_range (l : List UInt8) (i : Nat) : 0 ≤ num l i ∧ num l i < 4294967296 := by
  have := num4_lt (l.getD i 0) (l.getD (i + 1) 0) (l.getD (i + 2) 0) (l.getD (i + 3) 0)
  unfold num
  omega
theorem number_at {w : World} {b cap : Nat} {l : List UInt8} (h : PageAt w b cap l) (o len c : Nat) (ho : o + 4 ≤ 512) (hl : 4 ≤ len) :
    Calls Tryz.prog 86 #[.slice (some ⟨b, o, none⟩) len c] w fun e w' => e = .returned (.int .i64 (num l o)) ∧ Below w.heap.size w w' :=
  number_any b o len c _ _ _ _ w (h.cell o (by omega)) (h.cell (o + 1) (by omega)) (h.cell (o + 2) (by omega)) (h.cell (o + 3) (by omega)) hl

set_option maxHeartbeats 1000000 in
theorem total_any {bs : Nat} {B : Base bs} {w : World} {ba bp bg : Nat} {Fb : Nat → Prop} {R : Raw} {blk cap : Int → Nat} (h : ActAt B w ba bp bg Fb R blk cap) (hd : R.dirty 0 = true ∨ B.dom 0) :
    Calls Tryz.prog 105 #[.pointer (some ⟨ba, 0, none⟩)] w fun e w' =>
      e = .returned (.int .i64 (num (R.page 0) 0)) ∧ ∃ Fb', ActAt B w' ba bp bg Fb' R blk cap ∧ (∀ k, k < w.heap.size → Fb' k → Fb k) ∧ Off Fb w w' := by
  have HP := Lib.hid (page_any h 0 ⟨by omega, by omega⟩ hd)
  clear h hd
  go_enter Tryz.func105, Tryz.ntmps105
  go_wp2_with fail
  refine HP.out.mono ?_
  rintro e w1 ⟨b, c, Fb', rfl, hpg, h1, hF, _, ho⟩
  have hc : 512 ≤ c := by obtain ⟨_, _, _, _, _, h, _⟩ := hpg; exact h
  have HN := Lib.hid (number_at hpg 0 512 c (by omega) (by omega))
  have H1 := Lib.hid (And.intro h1 (And.intro hF ho))
  clear hpg h1 hF ho
  go_wp2_with fail
  refine HN.out.mono ?_
  rintro e w2 ⟨rfl, hb2⟩
  have HB := Lib.hid hb2
  clear hb2
  go_wp2
  go_ret
  exact ⟨rfl, Fb', H1.out.1.below HB.out, H1.out.2.1, H1.out.2.2.trans (Off.of_below HB.out (F := fun _ => False)) (fun _ _ h => h.elim)⟩

def Raw.put (R : Raw) (p : Int) (o : Nat) (s : List UInt8) : Raw := ⟨fun q => if q = p then splice (R.page p) o s else R.page q, fun q => decide (q = p) || R.dirty q, R.gone⟩

set_option maxHeartbeats 1000000 in
theorem put_any {bs : Nat} {B : Base bs} {w : World} {ba bp bg : Nat} {Fb : Nat → Prop} {R : Raw} {blk cap : Int → Nat} (h : ActAt B w ba bp bg Fb R blk cap) (p : Int) (hp : 0 ≤ p ∧ p < 4096) (hd : R.dirty p = true ∨ B.dom p)
    (o : Nat) (s : ByteArray) (ho : o < 512) (hs : o + s.size ≤ 512) :
    Calls Tryz.prog 104 #[.pointer (some ⟨ba, 0, none⟩), .int .i64 p, .int .i64 o, .string s] w fun e w' =>
      e = .returned (.tuple #[]) ∧ ∃ Fb' blk' cap', ActAt B w' ba bp bg Fb' (R.put p o s.data.toList) blk' cap' ∧ (∀ k, k < w.heap.size → foot ba bp bg Fb' (R.put p o s.data.toList) blk' k → foot ba bp bg Fb R blk k) ∧ Off (foot ba bp bg Fb R blk) w w' := by
  have HP := Lib.hid (page_any h p hp hd)
  have H0 := Lib.hid h
  clear h hd
  go_enter Tryz.func104, Tryz.ntmps104
  go_wp2_with fail
  refine HP.out.mono ?_
  rintro e w1 ⟨b, c, Fb', rfl, hpg, h1, hF, hcase, hof⟩
  have hc : 512 ≤ c := by obtain ⟨_, _, _, _, _, h, _⟩ := hpg; exact h
  obtain ⟨w2, hcp, hpg2, hoff2, hz2⟩ := hpg.put o s hs (c - o) 3
  have hba : b ≠ ba := hpg.ne h1.a (by decide)
  have hbp : b ≠ bp := hpg.map_ne h1.pages
  have hbg : b ≠ bg := hpg.map_ne h1.goneM
  have hFb : ¬ Fb' b := by
    rcases hcase with ⟨hd, rfl, _⟩ | ⟨_, _, h⟩
    · exact h1.fk p hd
    · exact h
  have e2 : ∀ k, k < w1.heap.size → k ≠ b → w2.heap[k]? = w1.heap[k]? := fun k hk hne => hoff2.block k hk hne
  have hp2 : MapIs w2 bp (pagesF R blk cap) := h1.pages.keep (e2 bp h1.pages.lt (Ne.symm hbp))
  obtain ⟨w3, hset, hm3, hoff3, hz3⟩ := hp2.set (fun i hi => by
    unfold pagesF at hi
    by_cases hh : R.dirty i = true
    · have := h1.rng i hh; omega
    · rw [if_neg hh] at hi; exact absurd rfl hi) (t := 150) (e := 84) Tryz.underlying150 (i := p) (wfI ⟨by omega, by omega⟩) (.slice (some ⟨b, 0, none⟩) 512 c)
  obtain ⟨c0, c1, c2, c3⟩ := act4 ((e2 ba (h1.bounded ba (.inl rfl)) (Ne.symm hba)).trans h1.a)
  have e3 : ∀ k, k < w1.heap.size → k ≠ b → k ≠ bp → w3.heap[k]? = w1.heap[k]? := fun k hk hn hn' => (hoff3.block k (by omega) hn').trans (e2 k hk hn)
  have hold : ∀ k, k < w.heap.size → k = b → R.dirty p = true ∧ k = blk p := fun k hk hkb => by
    rcases hcase with ⟨hd, rfl, _⟩ | ⟨_, hy, _⟩
    · exact ⟨hd, hkb⟩
    · omega
  have hA : ActAt B w3 ba bp bg Fb' (R.put p o s.data.toList) (fun q => if q = p then b else blk q) (fun q => if q = p then c else cap q) := by
    have hne : ∀ q, R.dirty q = true → q ≠ p → blk q ≠ b := fun q hq hqp hb => by
      rcases hcase with ⟨hd, rfl, _⟩ | ⟨_, hy, _⟩
      · exact hqp (H0.out.inj q p hq hd hb)
      · have := (H0.out.at_ q hq).lt; omega
    have hdq : ∀ q, q ≠ p → (R.put p o s.data.toList).dirty q = true → R.dirty q = true := fun q hqp hq => by
      simpa [Raw.put, hqp] using hq
    refine ⟨(e3 ba (h1.bounded ba (.inl rfl)) (Ne.symm hba) (fun e => by subst e; exact hp2.cells_ne ((e2 _ (h1.bounded _ (.inl rfl)) (Ne.symm hba)).trans h1.a) rfl)).trans h1.a, B.keep h1.base (fun k hk => e3 k (B.own h1.base k hk) (fun e => hFb (e ▸ hk)) (fun e => h1.fp (e ▸ hk))), ?_, ?_, ?_, ?_, ?_, h1.rngG, ?_, h1.maps, h1.fa, h1.fp, h1.fg, ?_⟩
    · have : pagesF (R.put p o s.data.toList) (fun q => if q = p then b else blk q) (fun q => if q = p then c else cap q) = fun j => if j = p then some (Value.slice (some ⟨b, 0, none⟩) 512 c) else pagesF R blk cap j := by
        funext j
        unfold pagesF Raw.put
        by_cases e : j = p <;> simp [e]
      rw [this]
      exact hm3
    · exact h1.goneM.keep (e3 bg h1.goneM.lt (Ne.symm hbg) (Ne.symm h1.maps))
    · intro q hq
      by_cases e : q = p
      · subst e
        simp only [if_pos rfl, Raw.put]
        exact hpg2.keep (hoff3.block b (by have := hpg.lt; omega) hbp)
      · have hq' := hdq q e hq
        simp only [if_neg e, Raw.put]
        exact (h1.at_ q hq').keep (e3 _ (h1.at_ q hq').lt (hne q hq' e) (fun e' => (h1.at_ q hq').map_ne h1.pages e'))
    · intro q hq hdom
      by_cases e : q = p
      · subst e; simp [Raw.put] at hq
      · simp only [Raw.put, if_neg e]
        refine h1.low q ?_ hdom
        simpa [Raw.put, e] using hq
    · intro q hq
      by_cases e : q = p
      · subst e; exact hp
      · exact h1.rng q (hdq q e hq)
    · intro q q' hq hq' he
      by_cases e : q = p <;> by_cases e' : q' = p
      · rw [e, e']
      · simp only [if_pos e, if_neg e'] at he
        exact absurd he.symm (hne q' (hdq q' e' hq') e')
      · simp only [if_neg e, if_pos e'] at he
        exact absurd he (hne q (hdq q e hq) e)
      · simp only [if_neg e, if_neg e'] at he
        exact h1.inj q q' (hdq q e hq) (hdq q' e' hq') he
    · intro q hq
      by_cases e : q = p
      · simp only [if_pos e]; exact hFb
      · simp only [if_neg e]; exact h1.fk q (hdq q e hq)
  have hft : ∀ k, k < w.heap.size → foot ba bp bg Fb' (R.put p o s.data.toList) (fun q => if q = p then b else blk q) k → foot ba bp bg Fb R blk k := fun k hk hf => by
    rcases hf with h | h | h | h | ⟨q, hq, h⟩
    · exact .inl h
    · exact .inr (.inl h)
    · exact .inr (.inr (.inl h))
    · exact .inr (.inr (.inr (.inl (hF k hk h))))
    · by_cases e : q = p
      · simp only [if_pos e] at h
        exact .inr (.inr (.inr (.inr ⟨p, hold k hk h⟩)))
      · simp only [if_neg e] at h
        exact .inr (.inr (.inr (.inr ⟨q, by simpa [Raw.put, e] using hq, h⟩)))
  have hO : Off (foot ba bp bg Fb R blk) w w3 := ((hof.mono fun k hk => .inr (.inr (.inr (.inl hk)))).trans hoff2 (fun k hk e => .inr (.inr (.inr (.inr ⟨p, hold k hk e⟩))))).trans hoff3 (fun k _ e => .inr (.inl e))
  have HR := Lib.hid (And.intro hA (And.intro hft hO))
  have hl1 : ¬ (o : Int) > 512 := by omega
  clear H0 HP hcase hof hpg hpg2 h1 hF e2 e3 hold hA hft hO hm3 hoff3 hoff2 hp2 hba hbp hbg hFb
  go_wp2
  exact Great.bodyPost_end0 rfl rfl ⟨rfl, _, _, _, HR.out⟩
end Go.Proofs.YtoejgkcaamkanaaGreatDoor

namespace Go.Proofs.YtoejgkcaamkanaaGreatDoor
open Go.RowKit

abbrev I64 (p : Int) : Prop := -9223372036854775808 ≤ p ∧ p ≤ 9223372036854775807
def Raw.total (R : Raw) : Int := num (R.page 0) 0
def thereE (R : Raw) (p : Int) : Int := if 1 ≤ p ∧ p ≤ R.total ∧ R.gone p = false then 0 else 3
/-- Each page that there is can be had. -/
def Cov {bs : Nat} (B : Base bs) (R : Raw) : Prop := (∀ q, 0 ≤ q → q ≤ R.total → R.dirty q = true ∨ B.dom q) ∧ R.total < 4096
theorem Cov.zero {bs : Nat} {B : Base bs} {R : Raw} (h : Cov B R) : R.dirty 0 = true ∨ B.dom 0 := h.1 0 (by omega) (num_range _ _).1

set_option maxRecDepth 100000 in
set_option maxHeartbeats 1000000 in
theorem there_any {bs : Nat} {B : Base bs} {w : World} {ba bp bg : Nat} {Fb : Nat → Prop} {R : Raw} {blk cap : Int → Nat} (h : ActAt B w ba bp bg Fb R blk cap) (hc : Cov B R) (p : Int) (hp : I64 p) :
    Calls Tryz.prog 140 #[.pointer (some ⟨ba, 0, none⟩), .int .i64 p] w fun e w' =>
      e = .returned (.int .i64 (thereE R p)) ∧ ∃ Fb', ActAt B w' ba bp bg Fb' R blk cap ∧ (∀ k, k < w.heap.size → Fb' k → Fb k) ∧ Off Fb w w' := by
  have HG := Lib.hid (going_any h.a)
  have H0 := Lib.hid h
  clear h
  go_enter Tryz.func140, Tryz.ntmps140
  go_wp2_with fail
  refine HG.out.mono ?_
  rintro e w1 ⟨rfl, hb1⟩
  have h1 := H0.out.below hb1
  have HT := Lib.hid (total_any h1 hc.zero)
  have H1 := Lib.hid (And.intro h1 hb1)
  clear h1 hb1 HG
  by_cases hp1 : p < 1
  · have HE := Lib.hid (show thereE R p = 3 from by rw [thereE, if_neg (by omega)])
    go_wp2
    go_ret
    exact ⟨ret_i HE.out.symm, Fb, H1.out.1, fun _ _ h => h, Off.of_below H1.out.2⟩
  · go_wp2_with fail
    refine HT.out.mono ?_
    rintro e w2 ⟨rfl, Fb', h2, hF, ho⟩
    have hl := h2.goneM.look (t := 141) (e := 4) (z := .bool false) Tryz.underlying141 (by kernel_rfl) (i := p) (wfI hp)
    obtain ⟨c0, c1, c2, c3⟩ := act4 h2.a
    have H2 := Lib.hid (And.intro h2 (And.intro hF (show Off Fb w w2 from (Off.of_below H1.out.2).trans ho (fun k hk e => e))))
    clear h2 hF ho HT
    by_cases ht : p > R.total
    · have HE := Lib.hid (show thereE R p = 3 from by rw [thereE, if_neg (by omega)])
      unfold Raw.total at ht
      go_wp2
      go_ret
      exact ⟨ret_i HE.out.symm, Fb', H2.out.1, fun k hk h => H2.out.2.1 k (by have := H1.out.2.size; omega) h, H2.out.2.2⟩
    · cases hgo : R.gone p with
      | true =>
        have HE := Lib.hid (show thereE R p = 3 from by rw [thereE, if_neg (by rw [hgo]; simp)])
        rw [goneF, if_pos hgo] at hl
        unfold Raw.total at ht
        clear hgo
        go_wp2
        go_ret
        exact ⟨ret_i HE.out.symm, Fb', H2.out.1, fun k hk h => H2.out.2.1 k (by have := H1.out.2.size; omega) h, H2.out.2.2⟩
      | false =>
        have HE := Lib.hid (show thereE R p = 0 from by rw [thereE, if_pos ⟨by omega, by omega, hgo⟩])
        rw [goneF, if_neg (by rw [hgo]; simp)] at hl
        unfold Raw.total at ht
        clear hgo
        go_wp2
        go_ret
        exact ⟨ret_i HE.out.symm, Fb', H2.out.1, fun k hk h => H2.out.2.1 k (by have := H1.out.2.size; omega) h, H2.out.2.2⟩

def readS (R : Raw) (p : Int) : ByteArray := if thereE R p = 0 then ⟨(R.page p).toArray⟩ else ⟨#[]⟩
/-- A step that turns nothing. -/
theorem Step.same {bs : Nat} {B : Base bs} {ba : Nat} {w w' : World} {F : Nat → Prop} {R : Raw} {bp bg : Nat} {Fb Fb' : Nat → Prop} {blk cap : Int → Nat} (hA : ActAt B w ba bp bg Fb R blk cap) (hft : ∀ k, foot ba bp bg Fb R blk k → F k)
    (h : ActAt B w' ba bp bg Fb' R blk cap) (hF : ∀ k, k < w.heap.size → Fb' k → Fb k) (ho : Off Fb w w') : Step B ba w F R w' :=
  Step.of_at h (fun k hk hf => hft k (by
    rcases hf with h | h | h | h | h
    · exact .inl h
    · exact .inr (.inl h)
    · exact .inr (.inr (.inl h))
    · exact .inr (.inr (.inr (.inl (hF k hk h))))
    · exact .inr (.inr (.inr (.inr h))))) (ho.mono fun k hk => hft k (.inr (.inr (.inr (.inl hk)))))

set_option maxRecDepth 100000 in
set_option maxHeartbeats 1000000 in
theorem read_any {bs : Nat} {B : Base bs} {w : World} {ba : Nat} {F : Nat → Prop} {R : Raw} (h : ActIs B w ba F R) (hc : Cov B R) (p : Int) (hp : I64 p) :
    Calls Tryz.prog 112 #[.pointer (some ⟨ba, 0, none⟩), .int .i64 p] w fun e w' =>
      e = .returned (.tuple #[.string (readS R p), .int .i64 (thereE R p)]) ∧ Step B ba w F R w' := by
  obtain ⟨hlt, bp, bg, Fb, blk, cap, hA, hft⟩ := h
  have HT := Lib.hid (there_any hA hc p hp)
  have H0 := Lib.hid (And.intro hA hft)
  clear hA hft hlt
  go_enter Tryz.func112, Tryz.ntmps112
  go_wp2_with fail
  refine HT.out.mono ?_
  rintro e w1 ⟨rfl, Fb1, h1, hF1, ho1⟩
  clear HT
  by_cases hE : thereE R p = 0
  · have hpr : 1 ≤ p ∧ p ≤ R.total := by
      unfold thereE at hE
      by_cases hh : 1 ≤ p ∧ p ≤ R.total ∧ R.gone p = false
      · exact ⟨hh.1, hh.2.1⟩
      · rw [if_neg hh] at hE; cases hE
    have HP := Lib.hid (page_any h1 p ⟨by omega, by have := hc.2; omega⟩ (hc.1 p (by omega) hpr.2))
    have H1 := Lib.hid (And.intro h1 (And.intro hF1 ho1))
    have HC := Lib.hid hc
    have HE := Lib.hid hE
    rw [hE]
    clear h1 hF1 ho1 hE hpr hc
    go_wp2_with fail
    refine HP.out.mono ?_
    rintro e w2 ⟨b, c, Fb2, rfl, hpg, h2, hF2, _, ho2⟩
    have hstr := hpg.string
    have HS := Lib.hid (show Step B ba w F R w2 from Step.same H0.out.1 H0.out.2 h2 (fun k hk h => H1.out.2.1 k hk (hF2 k (Nat.lt_of_lt_of_le hk H1.out.2.2.size) h)) (H1.out.2.2.trans ho2 H1.out.2.1))
    clear hpg h2 hF2 ho2
    go_wp2
    go_ret2
    exact ⟨ret_two (by rw [readS, if_pos HE.out]; rfl) (by rw [HE.out]; rfl), HS.out⟩
  · have hE' : (thereE R p != 0) = true := by simpa using hE
    have HS := Lib.hid (show Step B ba w F R w1 from Step.same H0.out.1 H0.out.2 h1 hF1 ho1)
    have HE := Lib.hid hE
    clear h1 hF1 ho1 hE
    go_wp2
    go_ret2
    exact ⟨ret_two (by rw [readS, if_neg HE.out]; rfl) rfl, HS.out⟩
end Go.Proofs.YtoejgkcaamkanaaGreatDoor

namespace Go.Proofs.YtoejgkcaamkanaaGreatDoor
open Go.RowKit

theorem Step.of_put {bs : Nat} {B : Base bs} {ba : Nat} {w w1 w2 : World} {F : Nat → Prop} {R R2 : Raw} {bp bg : Nat} {Fb Fb1 Fb2 : Nat → Prop} {blk blk2 cap2 : Int → Nat} (hft : ∀ k, foot ba bp bg Fb R blk k → F k)
    (hF1 : ∀ k, k < w.heap.size → Fb1 k → Fb k) (ho1 : Off Fb w w1) (h2 : ActAt B w2 ba bp bg Fb2 R2 blk2 cap2) (hft2 : ∀ k, k < w1.heap.size → foot ba bp bg Fb2 R2 blk2 k → foot ba bp bg Fb1 R blk k) (ho2 : Off (foot ba bp bg Fb1 R blk) w1 w2) : Step B ba w F R2 w2 := by
  have up : ∀ k, k < w.heap.size → foot ba bp bg Fb1 R blk k → F k := fun k hk hf => hft k (by
    rcases hf with h | h | h | h | h
    · exact .inl h
    · exact .inr (.inl h)
    · exact .inr (.inr (.inl h))
    · exact .inr (.inr (.inr (.inl (hF1 k hk h))))
    · exact .inr (.inr (.inr (.inr h))))
  exact Step.of_at h2 (fun k hk hf => up k hk (hft2 k (Nat.lt_of_lt_of_le hk ho1.size) hf)) ((ho1.mono fun k hk => hft k (.inr (.inr (.inr (.inl hk))))).trans ho2 up)
def writeR (R : Raw) (p : Int) (o : Nat) (s : List UInt8) : Raw := if thereE R p = 0 then R.put p o s else R
theorem thereE_rng {R : Raw} {p : Int} (h : thereE R p = 0) : 1 ≤ p ∧ p ≤ R.total ∧ R.gone p = false := by
  unfold thereE at h
  by_cases hh : 1 ≤ p ∧ p ≤ R.total ∧ R.gone p = false
  · exact hh
  · rw [if_neg hh] at h; cases h

set_option maxRecDepth 100000 in
set_option maxHeartbeats 1000000 in
theorem write_any {bs : Nat} {B : Base bs} {w : World} {ba : Nat} {F : Nat → Prop} {R : Raw} (h : ActIs B w ba F R) (hc : Cov B R) (p : Int) (hp : I64 p) (o : Nat) (s : ByteArray) (ho : o < 512) (hs : o + s.size ≤ 512) :
    Calls Tryz.prog 108 #[.pointer (some ⟨ba, 0, none⟩), .int .i64 p, .int .i64 o, .string s] w fun e w' =>
      e = .returned (.int .i64 (thereE R p)) ∧ Step B ba w F (writeR R p o s.data.toList) w' := by
  obtain ⟨hlt, bp, bg, Fb, blk, cap, hA, hft⟩ := h
  have HT := Lib.hid (there_any hA hc p hp)
  have H0 := Lib.hid (And.intro hA hft)
  clear hA hft hlt
  go_enter Tryz.func108, Tryz.ntmps108
  go_wp2_with fail
  refine HT.out.mono ?_
  rintro e w1 ⟨rfl, Fb1, h1, hF1, ho1⟩
  clear HT
  by_cases hE : thereE R p = 0
  · have hpr := thereE_rng hE
    have HP := Lib.hid (put_any h1 p ⟨by omega, by have := hc.2; omega⟩ (hc.1 p (by omega) hpr.2.1) o s ho hs)
    have H1 := Lib.hid (And.intro h1 (And.intro hF1 ho1))
    have HC := Lib.hid hc
    have HE := Lib.hid hE
    have f1 : ¬ (o : Int) < 0 := by omega
    have f2 : ¬ (o : Int) > 512 := by omega
    have f3 : ¬ (s.size : Int) > 512 - (o : Int) := by omega
    rw [hE]
    clear h1 hF1 ho1 hE hpr hc
    go_wp2_with fail
    refine HP.out.mono ?_
    rintro e w2 ⟨rfl, Fb2, blk2, cap2, h2, hft2, ho2⟩
    have HS := Lib.hid (show Step B ba w F (writeR R p o s.data.toList) w2 from by
      rw [writeR, if_pos HE.out]
      exact Step.of_put H0.out.2 H1.out.2.1 H1.out.2.2 h2 hft2 ho2)
    clear h2 hft2 ho2
    go_wp2
    go_ret
    exact ⟨ret_i HE.out.symm, HS.out⟩
  · have hE' : (thereE R p != 0) = true := by simpa using hE
    have HS := Lib.hid (show Step B ba w F (writeR R p o s.data.toList) w1 from by
      rw [writeR, if_neg hE]
      exact Step.same H0.out.1 H0.out.2 h1 hF1 ho1)
    clear h1 hF1 ho1 hE
    go_wp2
    go_ret
    exact ⟨rfl, HS.out⟩

set_option maxRecDepth 100000 in
set_option maxHeartbeats 1000000 in
theorem root_any {bs : Nat} {B : Base bs} {w : World} {ba : Nat} {F : Nat → Prop} {R : Raw} (h : ActIs B w ba F R) (hc : Cov B R) (k : Nat) (hk : k < 16) :
    Calls Tryz.prog 52 #[.pointer (some ⟨ba, 0, none⟩), .int .i64 k] w fun e w' =>
      e = .returned (.tuple #[.int .i64 (num (R.page 0) (8 + 4 * k)), .int .i64 0]) ∧ Step B ba w F R w' := by
  obtain ⟨hlt, bp, bg, Fb, blk, cap, hA, hft⟩ := h
  have HG := Lib.hid (going_any hA.a)
  have H0 := Lib.hid (And.intro hA hft)
  clear hA hft hlt
  have f1 : ¬ (k : Int) < 0 := by omega
  have f2 : ¬ (k : Int) ≥ 16 := by omega
  go_enter Tryz.func52, Tryz.ntmps52
  go_wp2_with fail
  refine HG.out.mono ?_
  rintro e w1 ⟨rfl, hb1⟩
  have HP := Lib.hid (page_any (H0.out.1.below hb1) 0 ⟨by omega, by omega⟩ hc.zero)
  have HB1 := Lib.hid hb1
  clear hb1 HG
  go_wp2_with fail
  refine HP.out.mono ?_
  rintro e w2 ⟨b, c, Fb2, rfl, hpg, h2, hF2, _, ho2⟩
  have hcap : 512 ≤ c := by obtain ⟨_, _, _, _, _, h, _⟩ := hpg; exact h
  have HN := Lib.hid (number_at hpg (8 + 4 * k) (512 - (8 + 4 * k)) (c - (8 + 4 * k)) (by omega) (by omega))
  have H2 := Lib.hid (And.intro h2 (And.intro hF2 ho2))
  clear hpg h2 hF2 ho2 HP
  go_wp2_with fail
  refine HN.out.mono ?_
  rintro e w3 ⟨rfl, hb3⟩
  have HS := Lib.hid (show Step B ba w F R w3 from Step.same H0.out.1 H0.out.2 (H2.out.1.below hb3) (fun i hi h => H2.out.2.1 i (Nat.lt_of_lt_of_le hi HB1.out.size) h) (((Off.of_below HB1.out).trans H2.out.2.2 (fun _ _ h => h)).trans (Off.of_below hb3 (F := fun _ => False)) (fun _ _ h => h.elim)))
  clear hb3 HN
  go_wp2
  go_ret2
  exact ⟨rfl, HS.out⟩

set_option maxRecDepth 100000 in
set_option maxHeartbeats 1000000 in
theorem root_bad {bs : Nat} {B : Base bs} {w : World} {ba : Nat} {F : Nat → Prop} {R : Raw} (h : ActIs B w ba F R) (k : Int) (hk : k < 0 ∨ 16 ≤ k) :
    Calls Tryz.prog 52 #[.pointer (some ⟨ba, 0, none⟩), .int .i64 k] w fun e w' =>
      e = .returned (.tuple #[.int .i64 0, .int .i64 1]) ∧ Step B ba w F R w' := by
  obtain ⟨hlt, bp, bg, Fb, blk, cap, hA, hft⟩ := h
  have HG := Lib.hid (going_any hA.a)
  have H0 := Lib.hid (And.intro hA hft)
  clear hA hft hlt
  have f1 : (decide (k < 0) || decide (16 ≤ k)) = true := by rcases hk with h | h <;> simp [h]
  go_enter Tryz.func52, Tryz.ntmps52
  go_wp2_with fail
  refine HG.out.mono ?_
  rintro e w1 ⟨rfl, hb1⟩
  have HS := Lib.hid (show Step B ba w F R w1 from Step.same H0.out.1 H0.out.2 (H0.out.1.below hb1) (fun i hi h => h) (Off.of_below hb1))
  clear hb1
  rcases hk with hk | hk
  · go_wp2
    go_ret2
    exact ⟨rfl, HS.out⟩
  · have hk' : ¬ k < 0 := by omega
    go_wp2
    go_ret2
    exact ⟨rfl, HS.out⟩

set_option maxRecDepth 100000 in
set_option maxHeartbeats 1000000 in
theorem setRoot_any {bs : Nat} {B : Base bs} {w : World} {ba : Nat} {F : Nat → Prop} {R : Raw} (h : ActIs B w ba F R) (hc : Cov B R) (k : Nat) (hk : k < 16) (n : Int) (hn : 0 ≤ n ∧ n ≤ 2147483647) :
    Calls Tryz.prog 56 #[.pointer (some ⟨ba, 0, none⟩), .int .i64 k, .int .i64 n] w fun e w' =>
      e = .returned (.int .i64 0) ∧ Step B ba w F (R.put 0 (8 + 4 * k) (digL n)) w' := by
  obtain ⟨hlt, bp, bg, Fb, blk, cap, hA, hft⟩ := h
  have HG := Lib.hid (going_any hA.a)
  have H0 := Lib.hid (And.intro hA hft)
  clear hA hft hlt
  have f1 : ¬ (k : Int) < 0 := by omega
  have f2 : ¬ (k : Int) ≥ 16 := by omega
  have f3 : ¬ n < 0 := by omega
  have f4 : ¬ n > 2147483647 := by omega
  go_enter Tryz.func56, Tryz.ntmps56
  go_wp2_with fail
  refine HG.out.mono ?_
  rintro e w1 ⟨rfl, hb1⟩
  have HD := Lib.hid (digits_any n w1)
  have HB1 := Lib.hid hb1
  clear hb1 HG
  go_wp2_with fail
  refine HD.out.mono ?_
  rintro e w2 ⟨rfl, hb2⟩
  have HB2 := Lib.hid (HB1.out.trans (hb2.mono HB1.out.size))
  have HP := Lib.hid (put_any (H0.out.1.below HB2.out) 0 ⟨by omega, by omega⟩ hc.zero (8 + 4 * k) ⟨(digL n).toArray⟩ (by omega) (by show 8 + 4 * k + 4 ≤ 512; omega))
  clear hb2 HD
  go_wp2_with fail
  refine HP.out.mono ?_
  rintro e w3 ⟨rfl, Fb2, blk2, cap2, h2, hft2, ho2⟩
  have HS := Lib.hid (show Step B ba w F (R.put 0 (8 + 4 * k) (digL n)) w3 from Step.of_put H0.out.2 (fun _ _ h => h) (Off.of_below HB2.out) h2 hft2 ho2)
  clear h2 hft2 ho2
  go_wp2
  go_ret
  exact ⟨rfl, HS.out⟩
end Go.Proofs.YtoejgkcaamkanaaGreatDoor
