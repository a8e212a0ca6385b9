/- An action of a space: total, put. -/
import Derived.Test.YtddddjpmeegedaaGreatSpD
import Derived.Great.Walk
set_option linter.unusedVariables false
set_option linter.unusedSimpArgs false
namespace Go.Proofs.YtddddjpmeegedaaGreat
open Go.RowKit

def num (l : List UInt8) (i : Nat) : Int := (num4 (l.getD i 0) (l.getD (i + 1) 0) (l.getD (i + 2) 0) (l.getD (i + 3) 0) : Nat)
theorem num_range (l : List UInt8) (i : Nat) : 0 ≤ num l i ∧ num l i < 4294967296 := by
  have := num4_lt (l.getD i 0) (l.getD (i + 1) 0) (l.getD (i + 2) 0) (l.getD (i + 3) 0)
  unfold num
  omega
theorem number_at {w : World} {b cap : Nat} {l : List UInt8} (h : PageAt w b cap l) (o len c : Nat) (ho : o + 4 ≤ 512) (hl : 4 ≤ len) :
    Calls Tryz.prog 57 #[.slice (some ⟨b, o, none⟩) len c] w fun e w' => e = .returned (.int .i64 (num l o)) ∧ Below w.heap.size w w' :=
  number_any b o len c _ _ _ _ w (h.cell o (by omega)) (h.cell (o + 1) (by omega)) (h.cell (o + 2) (by omega)) (h.cell (o + 3) (by omega)) hl

set_option maxHeartbeats 1000000 in
theorem total_any {bs : Nat} {B : Base bs} {w : World} {ba bp bg : Nat} {Fb : Nat → Prop} {R : Raw} {blk cap : Int → Nat} (h : ActAt B w ba bp bg Fb R blk cap) (hd : R.dirty 0 = true ∨ B.dom 0) :
    Calls Tryz.prog 111 #[.pointer (some ⟨ba, 0, none⟩)] w fun e w' =>
      e = .returned (.int .i64 (num (R.page 0) 0)) ∧ ∃ Fb', ActAt B w' ba bp bg Fb' R blk cap ∧ (∀ k, k < w.heap.size → Fb' k → Fb k) ∧ Off Fb w w' := by
  have HP := Lib.hid (page_any h 0 ⟨by omega, by omega⟩ hd)
  clear h hd
  go_enter Tryz.func111, Tryz.ntmps111
  go_wp2_with fail
  refine HP.out.mono ?_
  rintro e w1 ⟨b, c, Fb', rfl, hpg, h1, hF, _, ho⟩
  have hc : 512 ≤ c := by obtain ⟨_, _, _, _, _, h, _⟩ := hpg; exact h
  have HN := Lib.hid (number_at hpg 0 512 c (by omega) (by omega))
  have H1 := Lib.hid (And.intro h1 (And.intro hF ho))
  clear hpg h1 hF ho
  go_wp2_with fail
  refine HN.out.mono ?_
  rintro e w2 ⟨rfl, hb2⟩
  have HB := Lib.hid hb2
  clear hb2
  go_wp2
  go_ret
  exact ⟨rfl, Fb', H1.out.1.below HB.out, H1.out.2.1, H1.out.2.2.trans (Off.of_below HB.out (F := fun _ => False)) (fun _ _ h => h.elim)⟩

def Raw.put (R : Raw) (p : Int) (o : Nat) (s : List UInt8) : Raw := ⟨fun q => if q = p then splice (R.page p) o s else R.page q, fun q => decide (q = p) || R.dirty q, R.gone⟩

set_option maxHeartbeats 1000000 in
theorem put_any {bs : Nat} {B : Base bs} {w : World} {ba bp bg : Nat} {Fb : Nat → Prop} {R : Raw} {blk cap : Int → Nat} (h : ActAt B w ba bp bg Fb R blk cap) (p : Int) (hp : 0 ≤ p ∧ p < 4096) (hd : R.dirty p = true ∨ B.dom p)
    (o : Nat) (s : ByteArray) (ho : o < 512) (hs : o + s.size ≤ 512) :
    Calls Tryz.prog 110 #[.pointer (some ⟨ba, 0, none⟩), .int .i64 p, .int .i64 o, .string s] w fun e w' =>
      e = .returned (.tuple #[]) ∧ ∃ Fb' blk' cap', ActAt B w' ba bp bg Fb' (R.put p o s.data.toList) blk' cap' ∧ (∀ k, k < w.heap.size → foot ba bp bg Fb' (R.put p o s.data.toList) blk' k → foot ba bp bg Fb R blk k) ∧ Off (foot ba bp bg Fb R blk) w w' := by
  have HP := Lib.hid (page_any h p hp hd)
  have H0 := Lib.hid h
  clear h hd
  go_enter Tryz.func110, Tryz.ntmps110
  go_wp2_with fail
  refine HP.out.mono ?_
  rintro e w1 ⟨b, c, Fb', rfl, hpg, h1, hF, hcase, hof⟩
  have hc : 512 ≤ c := by obtain ⟨_, _, _, _, _, h, _⟩ := hpg; exact h
  obtain ⟨w2, hcp, hpg2, hoff2, hz2⟩ := hpg.put o s hs (c - o) 3
  have hba : b ≠ ba := hpg.ne h1.a (by decide)
  have hbp : b ≠ bp := hpg.map_ne h1.pages
  have hbg : b ≠ bg := hpg.map_ne h1.goneM
  have hFb : ¬ Fb' b := by
    rcases hcase with ⟨hd, rfl, _⟩ | ⟨_, _, h⟩
    · exact h1.fk p hd
    · exact h
  have e2 : ∀ k, k < w1.heap.size → k ≠ b → w2.heap[k]? = w1.heap[k]? := fun k hk hne => hoff2.block k hk hne
  have hp2 : MapIs w2 bp (pagesF R blk cap) := h1.pages.keep (e2 bp h1.pages.lt (Ne.symm hbp))
  obtain ⟨w3, hset, hm3, hoff3, hz3⟩ := hp2.set (fun i hi => by
    unfold pagesF at hi
    by_cases hh : R.dirty i = true
    · have := h1.rng i hh; omega
    · rw [if_neg hh] at hi; exact absurd rfl hi) (t := 97) (e := 74) Tryz.underlying97 (i := p) (wfI ⟨by omega, by omega⟩) (.slice (some ⟨b, 0, none⟩) 512 c)
  obtain ⟨c0, c1, c2, c3⟩ := act4 ((e2 ba (h1.bounded ba (.inl rfl)) (Ne.symm hba)).trans h1.a)
  have e3 : ∀ k, k < w1.heap.size → k ≠ b → k ≠ bp → w3.heap[k]? = w1.heap[k]? := fun k hk hn hn' => (hoff3.block k (by omega) hn').trans (e2 k hk hn)
  have hold : ∀ k, k < w.heap.size → k = b → R.dirty p = true ∧ k = blk p := fun k hk hkb => by
    rcases hcase with ⟨hd, rfl, _⟩ | ⟨_, hy, _⟩
    · exact ⟨hd, hkb⟩
    · omega
  have hA : ActAt B w3 ba bp bg Fb' (R.put p o s.data.toList) (fun q => if q = p then b else blk q) (fun q => if q = p then c else cap q) := by
    have hne : ∀ q, R.dirty q = true → q ≠ p → blk q ≠ b := fun q hq hqp hb => by
      rcases hcase with ⟨hd, rfl, _⟩ | ⟨_, hy, _⟩
      · exact hqp (H0.out.inj q p hq hd hb)
      · have := (H0.out.at_ q hq).lt; omega
    have hdq : ∀ q, q ≠ p → (R.put p o s.data.toList).dirty q = true → R.dirty q = true := fun q hqp hq => by
      simpa [Raw.put, hqp] using hq
    refine ⟨(e3 ba (h1.bounded ba (.inl rfl)) (Ne.symm hba) (fun e => by subst e; exact hp2.cells_ne ((e2 _ (h1.bounded _ (.inl rfl)) (Ne.symm hba)).trans h1.a) rfl)).trans h1.a, B.keep h1.base (fun k hk => e3 k (B.own h1.base k hk) (fun e => hFb (e ▸ hk)) (fun e => h1.fp (e ▸ hk))), ?_, ?_, ?_, ?_, ?_, h1.rngG, ?_, h1.maps, h1.fa, h1.fp, h1.fg, ?_⟩
    · have : pagesF (R.put p o s.data.toList) (fun q => if q = p then b else blk q) (fun q => if q = p then c else cap q) = fun j => if j = p then some (Value.slice (some ⟨b, 0, none⟩) 512 c) else pagesF R blk cap j := by
        funext j
        unfold pagesF Raw.put
        by_cases e : j = p <;> simp [e]
      rw [this]
      exact hm3
    · exact h1.goneM.keep (e3 bg h1.goneM.lt (Ne.symm hbg) (Ne.symm h1.maps))
    · intro q hq
      by_cases e : q = p
      · subst e
        simp only [if_pos rfl, Raw.put]
        exact hpg2.keep (hoff3.block b (by have := hpg.lt; omega) hbp)
      · have hq' := hdq q e hq
        simp only [if_neg e, Raw.put]
        exact (h1.at_ q hq').keep (e3 _ (h1.at_ q hq').lt (hne q hq' e) (fun e' => (h1.at_ q hq').map_ne h1.pages e'))
    · intro q hq hdom
      by_cases e : q = p
      · subst e; simp [Raw.put] at hq
      · simp only [Raw.put, if_neg e]
        refine h1.low q ?_ hdom
        simpa [Raw.put, e] using hq
    · intro q hq
      by_cases e : q = p
      · subst e; exact hp
      · exact h1.rng q (hdq q e hq)
    · intro q q' hq hq' he
      by_cases e : q = p <;> by_cases e' : q' = p
      · rw [e, e']
      · simp only [if_pos e, if_neg e'] at he
        exact absurd he.symm (hne q' (hdq q' e' hq') e')
      · simp only [if_neg e, if_pos e'] at he
        exact absurd he (hne q (hdq q e hq) e)
      · simp only [if_neg e, if_neg e'] at he
        exact h1.inj q q' (hdq q e hq) (hdq q' e' hq') he
    · intro q hq
      by_cases e : q = p
      · simp only [if_pos e]; exact hFb
      · simp only [if_neg e]; exact h1.fk q (hdq q e hq)
  have hft : ∀ k, k < w.heap.size → foot ba bp bg Fb' (R.put p o s.data.toList) (fun q => if q = p then b else blk q) k → foot ba bp bg Fb R blk k := fun k hk hf => by
    rcases hf with h | h | h | h | ⟨q, hq, h⟩
    · exact .inl h
    · exact .inr (.inl h)
    · exact .inr (.inr (.inl h))
    · exact .inr (.inr (.inr (.inl (hF k hk h))))
    · by_cases e : q = p
      · simp only [if_pos e] at h
        exact .inr (.inr (.inr (.inr ⟨p, hold k hk h⟩)))
      · simp only [if_neg e] at h
        exact .inr (.inr (.inr (.inr ⟨q, by simpa [Raw.put, e] using hq, h⟩)))
  have hO : Off (foot ba bp bg Fb R blk) w w3 := ((hof.mono fun k hk => .inr (.inr (.inr (.inl hk)))).trans hoff2 (fun k hk e => .inr (.inr (.inr (.inr ⟨p, hold k hk e⟩))))).trans hoff3 (fun k _ e => .inr (.inl e))
  have HR := Lib.hid (And.intro hA (And.intro hft hO))
  have hl1 : ¬ (o : Int) > 512 := by omega
  clear H0 HP hcase hof hpg hpg2 h1 hF e2 e3 hold hA hft hO hm3 hoff3 hoff2 hp2 hba hbp hbg hFb
  go_wp2
  exact Great.bodyPost_end0 rfl rfl ⟨rfl, _, _, _, HR.out⟩
end Go.Proofs.YtddddjpmeegedaaGreat
