/- An action of a space: Alloc, Free. The pool's first frame, and a space's bytes, over an empty disk. A space's page 0 over an empty disk. An empty disk, its log, its pool. -/
import Derived.Test.YtoejgkcaamkanaaGreatDoorQ02
import Derived.Deep.RegionHeld3
import Derived.Deep.RegionLaw
set_option linter.unusedVariables false
set_option linter.unusedSimpArgs false
namespace Go.Proofs.YtoejgkcaamkanaaGreatDoor
open Go.RowKit

theorem PageAt.sub {w : World} {b cap : Nat} {l : List UInt8} (h : PageAt w b cap l) (o n c : Nat) (hn : o + n ≤ 512) : (convert 84 9 (.slice (some ⟨b, o, none⟩) n c)).run Tryz.prog w = .ok (.string ⟨((l.drop o).take n).toArray⟩) w := by
  have hl := h.1
  have := run_convert_bytes_arg w 84 5 Tryz.underlying84 Tryz.underlying5 b o n c (((l.drop o).take n).map fun b => (b.toNat : Int)) (by simp [hl]; omega) (fun i hi => by
    have hc := h.cell (o + i) (by omega)
    rw [hc]
    simp [List.getD, hl, hi, List.getElem?_take, List.getElem?_drop, show o + i < 512 by omega]) 9 Tryz.underlying9
  rw [this, strOf_bytes]

def zeros : List UInt8 := List.replicate 512 0
theorem made_one (z : Value) (n : Nat) (hz : z.cells = #[z]) : madeCells z.cells n = Array.replicate n z := by
  rw [hz]
  apply Array.ext
  · rw [size_madeCells]; simp
  · intro i h1 h2
    simp [madeCells, Nat.mod_one]
theorem make_page (w : World) : (Instr.makeSlice 84 (.int .i64 512) (.int .i64 512)).run Tryz.prog w = .ok (.slice (some ⟨w.heap.size, 0, none⟩) 512 512) (w.alloc (.cells (Array.replicate 512 (.int .u8 0)) 5)) := by
  have hi := info_u8
  cases hq : Tryz.prog.info? 5 with
  | none => rw [hq] at hi; cases hi
  | some i =>
    rw [hq] at hi
    simp only [Option.map_some, Option.some.injEq, Prod.mk.injEq] at hi
    have := run_makeSlice (P := Tryz.prog) w 84 5 i (.int .u8 0) Tryz.underlying84 hq hi.1 .i64 .i64 512 512 (by omega) (by omega) (by rw [hi.2.1]; decide) (by rw [hi.2.2]; decide) (by omega)
    rw [this, hi.2.1, made_one _ _ rfl]
    rfl
def Raw.lay (R : Raw) (p : Int) (l : List UInt8) : Raw := ⟨fun q => if q = p then l else R.page q, fun q => decide (q = p) || R.dirty q, R.gone⟩
def Raw.goes (R : Raw) (g : Int → Bool) : Raw := ⟨R.page, R.dirty, g⟩

/-- A new page in the map. -/
theorem ActAt.page_new {bs : Nat} {B : Base bs} {w w' : World} {ba bp bg : Nat} {Fb : Nat → Prop} {R : Raw} {blk cap : Int → Nat} (h : ActAt B w ba bp bg Fb R blk cap) {g c : Nat} {l : List UInt8} {p : Int} (hp : 0 ≤ p ∧ p < 4096)
    (hg : PageAt w' g c l) (hy : w.heap.size ≤ g) (hm : MapIs w' bp (fun j => if j = p then some (.slice (some ⟨g, 0, none⟩) 512 c) else pagesF R blk cap j)) (e : ∀ k, k < w.heap.size → k ≠ bp → w'.heap[k]? = w.heap[k]?) :
    ActAt B w' ba bp bg Fb (R.lay p l) (fun q => if q = p then g else blk q) (fun q => if q = p then c else cap q) := by
  have hdq : ∀ q, q ≠ p → (R.lay p l).dirty q = true → R.dirty q = true := fun q hqp hq => by
    simpa [Raw.lay, hqp] using hq
  have hne : ∀ q, R.dirty q = true → blk q ≠ g := fun q hq he => by have := (h.at_ q hq).lt; omega
  refine ⟨(e ba (h.bounded ba (.inl rfl)) (fun e => by subst e; exact h.pages.cells_ne h.a rfl)).trans h.a, B.keep h.base (fun k hk => e k (B.own h.base k hk) (fun e => h.fp (e ▸ hk))), ?_, ?_, ?_, ?_, ?_, h.rngG, ?_, h.maps, h.fa, h.fp, h.fg, ?_⟩
  · have : pagesF (R.lay p l) (fun q => if q = p then g else blk q) (fun q => if q = p then c else cap q) = fun j => if j = p then some (Value.slice (some ⟨g, 0, none⟩) 512 c) else pagesF R blk cap j := by
      funext j
      unfold pagesF Raw.lay
      by_cases e : j = p <;> simp [e]
    rw [this]
    exact hm
  · exact h.goneM.keep (e bg h.goneM.lt (Ne.symm h.maps))
  · intro q hq
    by_cases e' : q = p
    · subst e'
      simp only [if_pos rfl, Raw.lay]
      exact hg
    · have hq' := hdq q e' hq
      simp only [if_neg e', Raw.lay]
      exact (h.at_ q hq').keep (e _ (h.at_ q hq').lt (fun e2 => (h.at_ q hq').map_ne h.pages e2))
  · intro q hq hdom
    by_cases e' : q = p
    · subst e'; simp [Raw.lay] at hq
    · simp only [Raw.lay, if_neg e']
      refine h.low q ?_ hdom
      simpa [Raw.lay, e'] using hq
  · intro q hq
    by_cases e' : q = p
    · subst e'; exact hp
    · exact h.rng q (hdq q e' hq)
  · intro q q' hq hq' he
    by_cases e1 : q = p <;> by_cases e2 : q' = p
    · rw [e1, e2]
    · simp only [if_pos e1, if_neg e2] at he
      exact absurd he.symm (hne q' (hdq q' e2 hq'))
    · simp only [if_neg e1, if_pos e2] at he
      exact absurd he (hne q (hdq q e1 hq))
    · simp only [if_neg e1, if_neg e2] at he
      exact h.inj q q' (hdq q e1 hq) (hdq q' e2 hq') he
  · intro q hq
    by_cases e1 : q = p
    · simp only [if_pos e1]
      exact fun hf => by have := B.own h.base g hf; omega
    · simp only [if_neg e1]; exact h.fk q (hdq q e1 hq)
theorem ActAt.page_foot {bs : Nat} {B : Base bs} {w : World} {ba bp bg : Nat} {Fb : Nat → Prop} {R : Raw} {blk : Int → Nat} {g : Nat} {l : List UInt8} {p : Int} (hy : w.heap.size ≤ g) (k : Nat) (hk : k < w.heap.size)
    (hf : foot ba bp bg Fb (R.lay p l) (fun q => if q = p then g else blk q) k) : foot ba bp bg Fb R blk k := by
  rcases hf with h | h | h | h | ⟨q, hq, h⟩
  · exact .inl h
  · exact .inr (.inl h)
  · exact .inr (.inr (.inl h))
  · exact .inr (.inr (.inr (.inl h)))
  · by_cases e : q = p
    · simp only [if_pos e] at h; omega
    · simp only [if_neg e] at h
      exact .inr (.inr (.inr (.inr ⟨q, by simpa [Raw.lay, e] using hq, h⟩)))
/-- Other pages are gone. -/
theorem ActAt.goes {bs : Nat} {B : Base bs} {w w' : World} {ba bp bg : Nat} {Fb : Nat → Prop} {R : Raw} {blk cap : Int → Nat} (h : ActAt B w ba bp bg Fb R blk cap) {g : Int → Bool} (hr : ∀ p, g p = true → 0 ≤ p ∧ p < 4096)
    (hm : MapIs w' bg (goneF (R.goes g))) (e : ∀ k, k < w.heap.size → k ≠ bg → w'.heap[k]? = w.heap[k]?) : ActAt B w' ba bp bg Fb (R.goes g) blk cap :=
  ⟨(e ba (h.bounded ba (.inl rfl)) (fun e => by subst e; exact h.goneM.cells_ne h.a rfl)).trans h.a, B.keep h.base (fun k hk => e k (B.own h.base k hk) (fun e => h.fg (e ▸ hk))), h.pages.keep (e bp h.pages.lt h.maps), hm, fun q hq => (h.at_ q hq).keep (e _ (h.at_ q hq).lt (fun e2 => (h.at_ q hq).map_ne h.goneM e2)), h.low, h.rng, hr, h.inj, h.maps, h.fa, h.fp, h.fg, h.fk⟩

theorem page_zero (w : World) : PageAt (w.alloc (.cells (Array.replicate 512 (.int .u8 0)) 5)) w.heap.size 512 zeros := by
  have e1 : zeros.length = 512 := List.length_replicate
  have e2 : (Array.replicate 512 (Value.int .u8 0)).size = 512 := Array.size_replicate
  refine ⟨e1, Array.replicate 512 (.int .u8 0), (0, 0), ?_, e2, Nat.le_refl _, by unfold maxLen; omega, ?_, .inl rfl⟩
  · show (w.heap.push _)[w.heap.size]? = _
    rw [Array.getElem?_push, if_pos rfl]
  · rw [Array.toList_replicate, List.take_of_length_le (by rw [List.length_replicate]; exact Nat.le_refl _)]
    unfold zeros Lib.byteCells
    rw [List.map_replicate]
    rfl

set_option maxRecDepth 100000 in
set_option maxHeartbeats 1000000 in
theorem alloc_new {bs : Nat} {B : Base bs} {w : World} {ba : Nat} {F : Nat → Prop} {R : Raw} (h : ActIs B w ba F R) (hc : Cov B R) (h0 : num (R.page 0) 4 = 0) (ht : R.total + 1 < 4096) :
    Calls Tryz.prog 55 #[.pointer (some ⟨ba, 0, none⟩)] w fun e w' =>
      e = .returned (.tuple #[.int .i64 (R.total + 1), .int .i64 0]) ∧ Step B ba w F ((R.put 0 0 (digL (R.total + 1))).lay (R.total + 1) zeros) w' := by
  obtain ⟨hlt, bp, bg, Fb, blk, cap, hA, hft⟩ := h
  have HG := Lib.hid (going_any hA.a)
  have H0 := Lib.hid (And.intro hA hft)
  have hr := (num_range (R.page 0) 0).1
  clear hA hft hlt
  go_enter Tryz.func55, Tryz.ntmps55
  go_wp2_with fail
  refine HG.out.mono ?_
  rintro e w1 ⟨rfl, hb1⟩
  have HP := Lib.hid (page_any (H0.out.1.below hb1) 0 ⟨by omega, by omega⟩ hc.zero)
  have HB1 := Lib.hid hb1
  clear hb1 HG
  go_wp2_with fail
  refine HP.out.mono ?_
  rintro e w2 ⟨b, c, Fb2, rfl, hpg, h2, hF2, _, ho2⟩
  have hcap : 512 ≤ c := by obtain ⟨_, _, _, _, _, h, _⟩ := hpg; exact h
  have HN := number_at hpg 4 (512 - 4) (c - 4) (by omega) (by omega)
  rw [h0] at HN
  have HNh := Lib.hid HN
  have H2 := Lib.hid (And.intro h2 (And.intro hF2 ho2))
  clear hpg h2 hF2 ho2 HP HN
  go_wp2_with fail
  refine HNh.out.mono ?_
  rintro e w3 ⟨rfl, hb3⟩
  have HT := Lib.hid (total_any (H2.out.1.below hb3) hc.zero)
  have HB3 := Lib.hid hb3
  clear hb3 HNh
  go_wp2_with fail
  refine HT.out.mono ?_
  rintro e w4 ⟨rfl, Fb4, h4, hF4, ho4⟩
  have HD := Lib.hid (digits_any (R.total + 1) w4)
  have H4 := Lib.hid (And.intro h4 (And.intro hF4 ho4))
  clear h4 hF4 ho4 HT
  have hnb : ¬ R.total + 1 ≥ 4096 := by omega
  unfold Raw.total at *
  go_wp2_with fail
  refine HD.out.mono ?_
  rintro e w5 ⟨rfl, hb5⟩
  have HP2 := Lib.hid (put_any (H4.out.1.below hb5) 0 ⟨by omega, by omega⟩ hc.zero 0 ⟨(digL (R.total + 1)).toArray⟩ (by omega) (by show 0 + 4 ≤ 512; omega))
  have HB5 := Lib.hid hb5
  clear hb5 HD
  unfold Raw.total at *
  go_wp2_with fail
  refine HP2.out.mono ?_
  rintro e w6 ⟨rfl, Fb6, blk6, cap6, h6, hft6, ho6⟩
  obtain ⟨c0, c1, c2, c3⟩ := act4 h6.a
  have hz6 := h6.a
  have hpm : MapIs (w6.alloc (.cells (Array.replicate 512 (.int .u8 0)) 5)).drew bp (pagesF (R.put 0 0 (digL (num (R.page 0) 0 + 1))) blk6 cap6) := h6.pages.keep (Below.heap_alloc _ _ bp h6.pages.lt)
  obtain ⟨w7, hset, hm7, hoff7, hz7⟩ := hpm.set (fun i hi => by
    unfold pagesF at hi
    by_cases hh : (R.put 0 0 (digL (num (R.page 0) 0 + 1))).dirty i = true
    · have := h6.rng i hh; omega
    · rw [if_neg hh] at hi; exact absurd rfl hi) (t := 150) (e := 84) Tryz.underlying150 (i := num (R.page 0) 0 + 1) (wfI ⟨by omega, by omega⟩) (.slice (some ⟨w6.heap.size, 0, none⟩) 512 512)
  have hmk := make_page w6.drew
  have hS7 : w7.cell? ⟨ba, 1, none⟩ = some (.map (some bp)) := hoff7.cell (((((Below.refl w6.heap.size w6).alloc (Nat.le_refl _) (.cells (Array.replicate 512 (.int .u8 0)) 5))).cell (p := ⟨ba, 1, none⟩) (World.block_lt_of_cell? w6 _ c1)).trans c1) (fun e => by
    have e' : ba = bp := e
    subst e'
    exact h6.pages.cells_ne h6.a rfl)
  have e7 : ∀ k, k < w6.heap.size → k ≠ bp → w7.heap[k]? = w6.heap[k]? := fun k hk hne => (hoff7.block k (by show k < (w6.alloc _).heap.size; simp; omega) hne).trans (Below.heap_alloc w6 _ k hk)
  have h7 : ActAt B w7 ba bp bg Fb6 ((R.put 0 0 (digL (R.total + 1))).lay (R.total + 1) zeros) (fun q => if q = R.total + 1 then w6.heap.size else blk6 q) (fun q => if q = R.total + 1 then 512 else cap6 q) :=
    h6.page_new (by unfold Raw.total; omega) ((page_zero w6).keep (hoff7.block _ (by show _ < (w6.alloc _).heap.size; simp) (fun e => by have := h6.pages.lt; omega))) (Nat.le_refl _) hm7 e7
  have ho7 : Off (foot ba bp bg Fb6 (R.put 0 0 (digL (R.total + 1))) blk6) w6 w7 := ⟨hoff7.os, hoff7.tape, hoff7.output, by have := hoff7.size; simp at this; omega, fun k hk hf => e7 k hk (fun e => hf (.inr (.inl e)))⟩
  have ho5 : Off Fb w w5 := ((((Off.of_below HB1.out).trans H2.out.2.2 (fun _ _ h => h)).trans (Off.of_below HB3.out (F := fun _ => False)) (fun _ _ h => h.elim)).trans H4.out.2.2 (fun k hk h => H2.out.2.1 k (Nat.lt_of_lt_of_le hk HB1.out.size) h)).trans (Off.of_below HB5.out (F := fun _ => False)) (fun _ _ h => h.elim)
  have hF5 : ∀ k, k < w.heap.size → Fb4 k → Fb k := fun k hk h => H2.out.2.1 k (Nat.lt_of_lt_of_le hk HB1.out.size) (H4.out.2.1 k (by have := HB1.out.size; have := H2.out.2.2.size; have := HB3.out.size; omega) h)
  have HS := Lib.hid (show Step B ba w F ((R.put 0 0 (digL (R.total + 1))).lay (R.total + 1) zeros) w7 from Step.of_put H0.out.2 hF5 ho5 h7
    (fun k hk hf => hft6 k hk (ActAt.page_foot (B := B) (w := w6) (Nat.le_refl _) k (Nat.lt_of_lt_of_le hk ho6.size) hf)) (ho6.trans ho7 (fun k hk hf => hft6 k hk hf)))
  clear h7 ho7 ho5 hF5 e7
  go_wp2
  refine wp_region_noPanic ?_
  refine wp_region_held_drew (S := (fun w' => w'.cell? ⟨ba, 1, none⟩ = some (.map (some bp)))) (by kernel_rfl) c1 (fun hS => ?_)
  refine wpAnyH_take (i := 0) (v := ?_) rfl (by kernel_rfl) (by kernel_rfl) (by kernel_rfl) (fun _ _ _ h => h) (Or.inl ⟨by rfl, ?_⟩) hS ?_
  rotate_left
  · intro w9 t0
    go_simp
    try with_reducible rfl
  try simp only [Act.put, List.getElem_toArray, List.getElem_cons_succ, List.getElem_cons_zero, List.setIfInBounds_toArray, List.set_cons_zero, List.set_cons_succ]
  refine wpAnyH_take (i := 1) (v := ?_) rfl (by kernel_rfl) (by kernel_rfl) (by kernel_rfl) (fun _ _ _ h => h) (Or.inl ⟨by rfl, ?_⟩) hS ?_
  rotate_left
  · intro w9 t0
    go_simp
    try with_reducible rfl
  try simp only [Act.put, List.getElem_toArray, List.getElem_cons_succ, List.getElem_cons_zero, List.setIfInBounds_toArray, List.set_cons_zero, List.set_cons_succ]
  refine wpAnyH_take (i := 2) (v := ?_) rfl (by kernel_rfl) (by kernel_rfl) (by kernel_rfl) (fun _ _ _ h => h) (Or.inl ⟨by rfl, ?_⟩) hS ?_
  rotate_left
  · intro w9 t0
    go_simp
    try with_reducible rfl
  try simp only [Act.put, List.getElem_toArray, List.getElem_cons_succ, List.getElem_cons_zero, List.setIfInBounds_toArray, List.set_cons_zero, List.set_cons_succ]
  refine wpAnyH_take (i := 3) (v := ?_) rfl (by kernel_rfl) (by kernel_rfl) (by kernel_rfl) (fun _ _ _ h => h) (Or.inl ⟨by rfl, ?_⟩) hS ?_
  rotate_left
  · intro w9 t0
    go_simp
    try with_reducible rfl
  try simp only [Act.put, List.getElem_toArray, List.getElem_cons_succ, List.getElem_cons_zero, List.setIfInBounds_toArray, List.set_cons_zero, List.set_cons_succ]
  refine wpAnyH_take (i := 4) (v := ?_) rfl (by kernel_rfl) (by kernel_rfl) (by kernel_rfl) (fun _ _ _ h => h) (Or.inl ⟨by rfl, ?_⟩) hS ?_
  rotate_left
  · intro w9 t0
    go_simp
    try with_reducible rfl
  try simp only [Act.put, List.getElem_toArray, List.getElem_cons_succ, List.getElem_cons_zero, List.setIfInBounds_toArray, List.set_cons_zero, List.set_cons_succ]
  refine wpAnyH_ready (rs := [5]) (by kernel_rfl) (by simp) ?_
  refine AllReadyH.cons rfl (fun K hK => ?_) AllReadyH.nil
  go_simp
  have hSa : ((w6.alloc (.cells (Array.replicate 512 (.int .u8 0)) 5)).drew).cell? ⟨ba, 1, none⟩ = some (.map (some bp)) := ((((Below.refl w6.heap.size w6).alloc (Nat.le_refl _) _)).cell (p := ⟨ba, 1, none⟩) (World.block_lt_of_cell? w6 _ c1)).trans c1
  refine hK.out _ _ hSa (fun _ => ?_)
  clear hK K
  try simp only [Act.put, List.getElem_toArray, List.getElem_cons_succ, List.getElem_cons_zero, List.setIfInBounds_toArray, List.set_cons_zero, List.set_cons_succ]
  refine wpAnyH_ready (rs := [6]) (by kernel_rfl) (by simp) ?_
  refine AllReadyH.cons rfl (fun K hK => ?_) AllReadyH.nil
  go_simp
  refine hK.out _ _ hS7 (fun _ => ?_)
  clear hK K
  try simp only [Act.put, List.getElem_toArray, List.getElem_cons_succ, List.getElem_cons_zero, List.setIfInBounds_toArray, List.set_cons_zero, List.set_cons_succ]
  refine wpAnyH_done (by kernel_rfl) ?_ _
  refine NoPanic.normal ?_
  go_wp2
  go_ret2
  exact ⟨rfl, HS.out⟩
end Go.Proofs.YtoejgkcaamkanaaGreatDoor

namespace Go.Proofs.YtoejgkcaamkanaaGreatDoor
open Go.RowKit

abbrev frameO (page : Int) (bb c : Nat) (pins : Int) (ch late : Bool) : Obj := .cells #[.int .i64 page, .slice (some ⟨bb, 0, none⟩) 512 c, .int .i64 pins, .bool ch, .bool late] 249
def onlyF (p : Int) (v : Value) (q : Int) : Option Value := if q = p then some v else none
/-- A pool that holds page 0 in its one frame. -/
structure PoolAt (w : World) (bp bat bf bb c : Nat) (pins : Int) : Prop where
  p1 : w.cell? ⟨bp, 1, none⟩ = some (.int .i64 16)
  p4 : w.cell? ⟨bp, 4, none⟩ = some (.map (some bat))
  m : MapIs w bat (onlyF 0 (.pointer (some ⟨bf, 0, none⟩)))
  f : ∃ ch late, w.heap[bf]? = some (frameO 0 bb c pins ch late)
  pg : PageAt w bb c zeros
  ne : bp ≠ bf
theorem frame5 {w : World} {g : Nat} {page : Int} {bb c : Nat} {pins : Int} {ch late : Bool} (h : w.heap[g]? = some (frameO page bb c pins ch late)) :
    w.cell? ⟨g, 0, none⟩ = some (.int .i64 page) ∧ w.cell? ⟨g, 1, none⟩ = some (.slice (some ⟨bb, 0, none⟩) 512 c) ∧ w.cell? ⟨g, 2, none⟩ = some (.int .i64 pins) ∧ w.cell? ⟨g, 3, none⟩ = some (.bool ch) ∧ w.cell? ⟨g, 4, none⟩ = some (.bool late) ∧ ∀ i, w.frozen? ⟨g, i, none⟩ = false := by
  refine ⟨?_, ?_, ?_, ?_, ?_, fun i => ?_⟩
  · unfold World.cell?; rw [h]; rfl
  · unfold World.cell?; rw [h]; rfl
  · unfold World.cell?; rw [h]; rfl
  · unfold World.cell?; rw [h]; rfl
  · unfold World.cell?; rw [h]; rfl
  · unfold World.frozen?; rw [h]; simp
theorem PoolAt.bf_lt {w : World} {bp bat bf bb c : Nat} {pins : Int} (h : PoolAt w bp bat bf bb c pins) : bf < w.heap.size := by
  obtain ⟨ch, late, hf⟩ := h.f
  exact (Array.getElem?_eq_some_iff.1 hf).1
/-- Only the frame's block turns. -/
theorem PoolAt.turn {w w' : World} {bp bat bf bb c : Nat} {pins pins' : Int} (h : PoolAt w bp bat bf bb c pins) (ho : Off (· = bf) w w') (hf : ∃ ch late, w'.heap[bf]? = some (frameO 0 bb c pins' ch late)) : PoolAt w' bp bat bf bb c pins' := by
  obtain ⟨ch, late, hf0⟩ := h.f
  exact ⟨ho.cell h.p1 h.ne, ho.cell h.p4 h.ne, h.m.keep (ho.block bat h.m.lt (h.m.cells_ne hf0)), hf, h.pg.keep (ho.block bb h.pg.lt (h.pg.ne hf0 (by decide))), h.ne⟩
theorem heap_set {w : World} {g i : Nat} {v : Value} {cs : Array Value} {t : TypeId} {fr : Nat × Nat} (h : w.heap[g]? = some (.cells cs t fr)) : (w.setCell ⟨g, i, none⟩ v).heap[g]? = some (.cells (cs.setIfInBounds i v) t fr) := by
  simp only [World.setCell, Array.getElem?_modify]
  simp only [h]
  rfl

theorem pgiven_any {w : World} {bp : Nat} (h : w.cell? ⟨bp, 1, none⟩ = some (.int .i64 16)) :
    Calls Tryz.prog 173 #[.pointer (some ⟨bp, 0, none⟩)] w fun e w' => e = .returned (.bool true) ∧ Below w.heap.size w w' := by
  go_enter Tryz.func173, Tryz.ntmps173
  go_wp2
  go_ret
  exact ⟨rfl, by first | exact Below.refl _ _ | go_grown⟩

set_option maxRecDepth 100000 in
set_option maxHeartbeats 1000000 in
theorem pinned_any {w : World} {bp bat bf bb c : Nat} {pins : Int} (h : PoolAt w bp bat bf bb c pins) (hp : 0 < pins) :
    Calls Tryz.prog 175 #[.pointer (some ⟨bp, 0, none⟩), .int .i64 0] w fun e w' => e = .returned (.pointer (some ⟨bf, 0, none⟩)) ∧ Below w.heap.size w w' := by
  have hl := h.m.look (t := 198) (e := 246) (z := .pointer none) Tryz.underlying198 (by kernel_rfl) (i := 0) (wfI ⟨by omega, by omega⟩)
  rw [onlyF, if_pos rfl] at hl
  obtain ⟨ch, late, hf⟩ := h.f
  obtain ⟨f0, f1, f2, f3, f4, ff⟩ := frame5 hf
  have p4 := h.p4
  clear h hf
  go_enter Tryz.func175, Tryz.ntmps175
  go_wp2
  go_ret
  exact ⟨rfl, by first | exact Below.refl _ _ | go_grown⟩

set_option maxRecDepth 100000 in
set_option maxHeartbeats 1000000 in
theorem pread_any {w : World} {bp bat bf bb c : Nat} {pins : Int} (h : PoolAt w bp bat bf bb c pins) (hp : 0 < pins) :
    Calls Tryz.prog 130 #[.pointer (some ⟨bp, 0, none⟩), .int .i64 0] w fun e w' => e = .returned (.tuple #[.string ⟨zeros.toArray⟩, .int .i64 0]) ∧ Below w.heap.size w w' := by
  have HG := Lib.hid (pgiven_any h.p1)
  have H := Lib.hid h
  clear h
  go_enter Tryz.func130, Tryz.ntmps130
  go_wp2_with fail
  refine HG.out.mono ?_
  rintro e w1 ⟨rfl, hb1⟩
  obtain ⟨ch, late, hf⟩ := H.out.f
  have h1 : PoolAt w1 bp bat bf bb c pins := H.out.turn (Off.of_below hb1) ⟨ch, late, (hb1.block bf H.out.bf_lt).trans hf⟩
  have HP := Lib.hid (pinned_any h1 hp)
  have HB1 := Lib.hid hb1
  have H1 := Lib.hid h1
  clear hb1 h1 hf HG
  go_wp2_with fail
  refine HP.out.mono ?_
  rintro e w2 ⟨rfl, hb2⟩
  obtain ⟨ch, late, hf⟩ := H1.out.f
  have h2 : PoolAt w2 bp bat bf bb c pins := H1.out.turn (Off.of_below hb2) ⟨ch, late, (hb2.block bf H1.out.bf_lt).trans hf⟩
  obtain ⟨ch2, late2, hf2⟩ := h2.f
  obtain ⟨f0, f1, f2, f3, f4, ff⟩ := frame5 hf2
  have hs := h2.pg.string
  have HB2 := Lib.hid (HB1.out.trans (hb2.mono HB1.out.size))
  clear h2 hf hf2 hb2 HP
  go_wp2
  go_ret2
  exact ⟨rfl, HB2.out⟩

set_option maxRecDepth 100000 in
set_option maxHeartbeats 1000000 in
theorem unpin_any {w : World} {bp bat bf bb c : Nat} (h : PoolAt w bp bat bf bb c 1) :
    Calls Tryz.prog 129 #[.pointer (some ⟨bp, 0, none⟩), .int .i64 0] w fun e w' => e = .returned (.int .i64 0) ∧ PoolAt w' bp bat bf bb c 0 ∧ Off (· = bf) w w' := by
  have HG := Lib.hid (pgiven_any h.p1)
  have H := Lib.hid h
  clear h
  go_enter Tryz.func129, Tryz.ntmps129
  go_wp2_with fail
  refine HG.out.mono ?_
  rintro e w1 ⟨rfl, hb1⟩
  obtain ⟨ch, late, hf⟩ := H.out.f
  have h1 : PoolAt w1 bp bat bf bb c 1 := H.out.turn (Off.of_below hb1) ⟨ch, late, (hb1.block bf H.out.bf_lt).trans hf⟩
  have HP := Lib.hid (pinned_any h1 (by omega))
  have HB1 := Lib.hid hb1
  have H1 := Lib.hid h1
  clear hb1 h1 hf HG
  go_wp2_with fail
  refine HP.out.mono ?_
  rintro e w2 ⟨rfl, hb2⟩
  obtain ⟨ch, late, hf⟩ := H1.out.f
  have hf2 := (hb2.block bf H1.out.bf_lt).trans hf
  have H2 := Lib.hid (And.intro (H1.out.turn (pins' := 1) (Off.of_below hb2) ⟨ch, late, hf2⟩) (And.intro hf2 (HB1.out.trans (hb2.mono HB1.out.size))))
  obtain ⟨f0, f1, f2, f3, f4, ff⟩ := frame5 hf2
  have f2f := ff 2
  clear hf hf2 hb2 HP ff
  go_wp2
  go_ret
  refine ⟨rfl, ?_⟩
  have ho : Off (· = bf) w2 (w2.setCell ⟨bf, 2, none⟩ (.int .i64 0)) := ⟨rfl, rfl, rfl, by simp [World.setCell], fun k hk hne => Below.heap_setCell _ _ _ _ hne⟩
  exact ⟨H2.out.1.turn ho ⟨ch, late, heap_set H2.out.2.1⟩, (Off.of_below H2.out.2.2).trans ho (fun _ _ h => h)⟩

set_option maxRecDepth 100000 in
set_option maxHeartbeats 1000000 in
theorem pin_any {w : World} {bp bat bf bb c : Nat} (h : PoolAt w bp bat bf bb c 0) :
    Calls Tryz.prog 127 #[.pointer (some ⟨bp, 0, none⟩), .int .i64 0] w fun e w' => e = .returned (.int .i64 0) ∧ PoolAt w' bp bat bf bb c 1 ∧ Off (· = bf) w w' := by
  have HG := Lib.hid (pgiven_any h.p1)
  have H := Lib.hid h
  clear h
  go_enter Tryz.func127, Tryz.ntmps127
  go_wp2_with fail
  refine HG.out.mono ?_
  rintro e w1 ⟨rfl, hb1⟩
  obtain ⟨ch, late, hf⟩ := H.out.f
  have hf1 := (hb1.block bf H.out.bf_lt).trans hf
  have h1 : PoolAt w1 bp bat bf bb c 0 := H.out.turn (Off.of_below hb1) ⟨ch, late, hf1⟩
  have hl := h1.m.look (t := 198) (e := 246) (z := .pointer none) Tryz.underlying198 (by kernel_rfl) (i := 0) (wfI ⟨by omega, by omega⟩)
  rw [onlyF, if_pos rfl] at hl
  have H1 := Lib.hid (And.intro h1 (And.intro hf1 hb1))
  have p4 := h1.p4
  obtain ⟨f0, f1, f2, f3, f4, ff⟩ := frame5 hf1
  have f2f := ff 2
  have f4f := ff 4
  clear hf hf1 hb1 h1 HG ff
  go_wp2
  go_ret
  refine ⟨rfl, ?_⟩
  have ho : Off (· = bf) w1 ((w1.setCell ⟨bf, 2, none⟩ (.int .i64 1)).setCell ⟨bf, 4, none⟩ (.bool true)) := ⟨rfl, rfl, rfl, by simp [World.setCell], fun k hk hne => (Below.heap_setCell _ _ _ _ hne).trans (Below.heap_setCell _ _ _ _ hne)⟩
  exact ⟨H1.out.1.turn ho ⟨ch, true, heap_set (heap_set H1.out.2.1)⟩, (Off.of_below H1.out.2.2).trans ho (fun _ _ h => h)⟩
end Go.Proofs.YtoejgkcaamkanaaGreatDoor

namespace Go.Proofs.YtoejgkcaamkanaaGreatDoor
open Go.RowKit

theorem below_conv (w : World) (e : TypeId) (s : ByteArray) : Below w.heap.size w (Lib.bytesWorld w e s) := by
  refine ⟨?_, ?_, ?_, ?_, fun k hk => Lib.bytesWorld_at_old w e s k hk⟩
  · unfold Lib.bytesWorld World.freeze; split <;> rfl
  · unfold Lib.bytesWorld World.freeze; split <;> rfl
  · unfold Lib.bytesWorld World.freeze; split <;> rfl
  · rw [Lib.bytesWorld_size]; omega
theorem page_conv (w : World) (l : List UInt8) (hl : l.length = 512) : PageAt (Lib.bytesWorld w 5 ⟨l.toArray⟩) w.heap.size (grownCap w 512 0 5) l := by
  have hs : (⟨l.toArray⟩ : ByteArray).size = 512 := by show l.toArray.size = 512; simp [hl]
  have hge := grownCap_ge w 512 0 5
  have hz : (Lib.bytesCells w 5 ⟨l.toArray⟩).size = grownCap w 512 0 5 := by
    unfold Lib.bytesCells
    rw [hs]
    simp [hl]
    omega
  refine ⟨hl, _, _, Lib.bytesWorld_at_new w 5 ⟨l.toArray⟩, hz, hge, grownCap_le_maxLen w 512 0 5 (by unfold maxLen; omega), ?_, .inr (by show 512 ≤ _; rw [hz]; exact hge)⟩
  unfold Lib.bytesCells
  rw [Array.toList_append, List.take_append_of_le_length (by simp [hl]), List.take_of_length_le (by simp [hl])]
  simp [Lib.byteCells]

set_option maxRecDepth 100000 in
set_option maxHeartbeats 1000000 in
theorem bytes_zero {w : World} {bs bp bat bf bb c : Nat} (h : PoolAt w bp bat bf bb c 0) (hs : w.cell? ⟨bs, 1, none⟩ = some (.pointer (some ⟨bp, 0, none⟩))) (hne : bs ≠ bf) :
    Calls Tryz.prog 85 #[.pointer (some ⟨bs, 0, none⟩), .int .i64 0] w fun e w' =>
      ∃ b cap, e = .returned (.slice (some ⟨b, 0, none⟩) 512 cap) ∧ PageAt w' b cap zeros ∧ PoolAt w' bp bat bf bb c 0 ∧ w.heap.size ≤ b ∧ Off (· = bf) w w' := by
  have HP := Lib.hid (pin_any h)
  clear h
  go_enter Tryz.func85, Tryz.ntmps85
  go_wp2_with fail
  refine HP.out.mono ?_
  rintro e w1 ⟨rfl, h1, ho1⟩
  have hs1 := ho1.cell hs hne
  have HR := Lib.hid (pread_any h1 (by omega))
  have H1 := Lib.hid (And.intro h1 ho1)
  clear h1 ho1 HP hs
  go_wp2_with fail
  refine HR.out.mono ?_
  rintro e w2 ⟨rfl, hb2⟩
  obtain ⟨ch, late, hf⟩ := H1.out.1.f
  have h2 : PoolAt w2 bp bat bf bb c 1 := H1.out.1.turn (Off.of_below hb2) ⟨ch, late, (hb2.block bf H1.out.1.bf_lt).trans hf⟩
  have hs2 : w2.cell? ⟨bs, 1, none⟩ = some (.pointer (some ⟨bp, 0, none⟩)) := (hb2.cell (World.block_lt_of_cell? w1 _ hs1)).trans hs1
  have HU := Lib.hid (unpin_any h2)
  have H2 := Lib.hid (H1.out.2.trans (Off.of_below hb2 (F := fun _ => False)) (fun _ _ h => h.elim))
  clear h2 hb2 hf HR hs1
  go_wp2_with fail
  refine HU.out.mono ?_
  rintro e w3 ⟨rfl, h3, ho3⟩
  have hconv := Lib.run_convert_string_bytes (P := Tryz.prog) w3 9 84 5 ⟨zeros.toArray⟩ Tryz.underlying9 Tryz.underlying84 Tryz.underlying5
  have hz : (⟨zeros.toArray⟩ : ByteArray).size = 512 := by show zeros.toArray.size = 512; simp [zeros]
  rw [hz] at hconv
  have H3 := Lib.hid (And.intro h3 (H2.out.trans ho3 (fun _ _ h => h)))
  clear h3 ho3 HU hs2
  go_wp2
  go_ret
  have hbc := below_conv w3 5 ⟨zeros.toArray⟩
  obtain ⟨ch, late, hf⟩ := H3.out.1.f
  exact ⟨w3.heap.size, grownCap w3 512 0 5, rfl, page_conv w3 zeros (by simp [zeros]), H3.out.1.turn (Off.of_below hbc) ⟨ch, late, (hbc.block bf H3.out.1.bf_lt).trans hf⟩, H3.out.2.size, H3.out.2.trans (Off.of_below hbc (F := fun _ => False)) (fun _ _ h => h.elim)⟩

/-- What lies under an action on an empty disk. -/
def base0 (bs : Nat) : Base bs where
  is w F := ∃ bp bat bf bb c, PoolAt w bp bat bf bb c 0 ∧ w.cell? ⟨bs, 1, none⟩ = some (.pointer (some ⟨bp, 0, none⟩)) ∧ bs ≠ bf ∧ ∀ k, F k ↔ k = bs ∨ k = bp ∨ k = bat ∨ k = bf ∨ k = bb
  dom p := p = 0
  view _ := zeros
  own := by
    rintro w F ⟨bp, bat, bf, bb, c, h, hs, hne, hF⟩ k hk
    rcases (hF k).1 hk with rfl | rfl | rfl | rfl | rfl
    · exact World.block_lt_of_cell? w _ hs
    · exact World.block_lt_of_cell? w _ h.p1
    · exact h.m.lt
    · exact h.bf_lt
    · exact h.pg.lt
  keep := by
    rintro w w' F ⟨bp, bat, bf, bb, c, h, hs, hne, hF⟩ e
    have cell : ∀ b i v, F b → w.cell? ⟨b, i, none⟩ = some v → w'.cell? ⟨b, i, none⟩ = some v := fun b i v hb hv => by
      rw [World.cell?_of_block (e b hb)]; exact hv
    obtain ⟨ch, late, hf⟩ := h.f
    exact ⟨bp, bat, bf, bb, c, ⟨cell _ _ _ ((hF bp).2 (.inr (.inl rfl))) h.p1, cell _ _ _ ((hF bp).2 (.inr (.inl rfl))) h.p4, h.m.keep (e bat ((hF bat).2 (.inr (.inr (.inl rfl))))), ⟨ch, late, (e bf ((hF bf).2 (.inr (.inr (.inr (.inl rfl)))))).trans hf⟩, h.pg.keep (e bb ((hF bb).2 (.inr (.inr (.inr (.inr rfl)))))), h.ne⟩,
      cell _ _ _ ((hF bs).2 (.inl rfl)) hs, hne, hF⟩
  bytes := by
    rintro w F p ⟨bp, bat, bf, bb, c, h, hs, hne, hF⟩ rfl
    refine (bytes_zero h hs hne).mono ?_
    rintro e w' ⟨b, cap, rfl, hpg, hpool, hy, ho⟩
    refine ⟨b, cap, F, rfl, hpg, ⟨bp, bat, bf, bb, c, hpool, ho.cell hs hne, hne, hF⟩, ?_, hy, fun _ _ h => h, ho.mono fun k hk => (hF k).2 (.inr (.inr (.inr (.inl hk))))⟩
    intro hb
    have hlt : b < w.heap.size := by
      rcases (hF b).1 hb with rfl | rfl | rfl | rfl | rfl
      · exact World.block_lt_of_cell? w _ hs
      · exact World.block_lt_of_cell? w _ h.p1
      · exact h.m.lt
      · exact h.bf_lt
      · exact h.pg.lt
    omega
end Go.Proofs.YtoejgkcaamkanaaGreatDoor

namespace Go.Proofs.YtoejgkcaamkanaaGreatDoor
open Go.RowKit

theorem hnew (w : World) (o : Obj) : (w.alloc o).heap[w.heap.size]? = some o := by
  show (w.heap.push o)[w.heap.size]? = _
  rw [Array.getElem?_push, if_pos rfl]
abbrev diskO : Obj := .cells #[.bool true, .slice none 0 0, .slice none 0 0, .slice none 0 0, .slice none 0 0, .slice none 0 0] 136
/-- A disk on which nothing stands. -/
structure DiskAt (w : World) (bd : Nat) : Prop where
  c0 : w.cell? ⟨bd, 0, none⟩ = some (.bool true)
  c1 : w.cell? ⟨bd, 1, none⟩ = some (.slice none 0 0)
  c2 : w.cell? ⟨bd, 2, none⟩ = some (.slice none 0 0)
theorem DiskAt.below {w w' : World} {bd : Nat} (h : DiskAt w bd) (hb : Below w.heap.size w w') : DiskAt w' bd :=
  ⟨(hb.cell (World.block_lt_of_cell? w _ h.c0)).trans h.c0, (hb.cell (World.block_lt_of_cell? w _ h.c1)).trans h.c1, (hb.cell (World.block_lt_of_cell? w _ h.c2)).trans h.c2⟩

abbrev logO (bd : Nat) : Obj := .cells #[.pointer (some ⟨bd, 0, none⟩), .int .i64 0, .int .i64 0] 197
theorem diskNew_any (w : World) : Calls Tryz.prog 33 #[] w fun e w' => e = .returned (.pointer (some ⟨w.heap.size, 0, none⟩)) ∧ Below w.heap.size w w' ∧ w'.heap[w.heap.size]? = some diskO := by
  go_enter Tryz.func33, Tryz.ntmps33
  go_wp2
  go_ret
  exact ⟨rfl, by go_grown, hnew w _⟩

theorem dgiven_any {w : World} {bd : Nat} (h : DiskAt w bd) (f : Int) (hf : 0 ≤ f ∧ f < 4) :
    Calls Tryz.prog 171 #[.pointer (some ⟨bd, 0, none⟩), .int .i64 f] w fun e w' => e = .returned (.bool true) ∧ Below w.heap.size w w' := by
  have c0 := h.c0
  clear h
  have f1 : f ≥ 0 := hf.1
  have f2 : f < 4 := hf.2
  go_enter Tryz.func171, Tryz.ntmps171
  go_wp2
  go_ret
  exact ⟨rfl, by first | exact Below.refl _ _ | go_grown⟩

set_option maxHeartbeats 1000000 in
theorem dsize_any {w : World} {bd : Nat} (h : DiskAt w bd) (f : Int) (hf : f = 0 ∨ f = 1) :
    Calls Tryz.prog 125 #[.pointer (some ⟨bd, 0, none⟩), .int .i64 f] w fun e w' => e = .returned (.int .i64 0) ∧ Below w.heap.size w w' := by
  have HG := Lib.hid (dgiven_any h f (by omega))
  have H := Lib.hid h
  clear h
  rcases hf with rfl | rfl <;> (
    go_enter Tryz.func125, Tryz.ntmps125
    go_wp2_with fail
    refine HG.out.mono ?_
    rintro e w1 ⟨rfl, hb1⟩
    obtain ⟨c0, c1, c2⟩ := H.out.below hb1
    have HB := Lib.hid hb1
    clear hb1
    go_wp2
    go_ret
    exact ⟨rfl, HB.out⟩)

set_option maxRecDepth 100000 in
set_option maxHeartbeats 1000000 in
theorem dread_any {w : World} {bd : Nat} (h : DiskAt w bd) (f : Int) (hf : f = 0 ∨ f = 1) :
    Calls Tryz.prog 124 #[.pointer (some ⟨bd, 0, none⟩), .int .i64 f, .int .i64 0, .int .i64 0] w fun e w' => e = .returned (.tuple #[.string ⟨#[]⟩, .int .i64 0]) ∧ Below w.heap.size w w' := by
  have HG := Lib.hid (dgiven_any h f (by omega))
  have H := Lib.hid h
  clear h
  rcases hf with rfl | rfl <;> (
    go_enter Tryz.func124, Tryz.ntmps124
    go_wp2_with fail
    refine HG.out.mono ?_
    rintro e w1 ⟨rfl, hb1⟩
    obtain ⟨c0, c1, c2⟩ := H.out.below hb1
    have HB := Lib.hid hb1
    clear hb1
    have hs : ∀ w, (convert 84 9 (.slice none 0 0)).run Tryz.prog w = .ok (.string ⟨#[]⟩) w := fun w => run_convert_bytes_nil w 84 5 Tryz.underlying84 Tryz.underlying5 0 0 9 Tryz.underlying9
    go_wp2
    go_ret2
    exact ⟨rfl, HB.out⟩)

set_option maxRecDepth 100000 in
set_option maxHeartbeats 1000000 in
theorem poolNew_any {w : World} {bd : Nat} (h : DiskAt w bd) :
    Calls Tryz.prog 83 #[.pointer (some ⟨bd, 0, none⟩), .int .i64 16] w fun e w' =>
      ∃ bp bat, e = .returned (.tuple #[.pointer (some ⟨bp, 0, none⟩), .int .i64 0]) ∧ Below w.heap.size w w' ∧ w.heap.size ≤ bp ∧ w.heap.size ≤ bat ∧ bp ≠ bat ∧
        w'.heap[bp]? = some (.cells #[.pointer (some ⟨bd, 0, none⟩), .int .i64 16, .slice none 0 0, .int .i64 0, .map (some bat)] 201) ∧ MapIs w' bat (fun _ => none) := by
  have HR := Lib.hid (dread_any h 1 (.inr rfl))
  clear h
  go_enter Tryz.func83, Tryz.ntmps83
  go_wp2_with fail
  refine HR.out.mono ?_
  rintro e w1 ⟨rfl, hb1⟩
  have HB := Lib.hid hb1
  clear hb1
  have hmm := @run_makeMap Tryz.prog
  go_wp2
  go_ret2
  have hz := HB.out.size
  refine ⟨w1.heap.size + 1, w1.heap.size, rfl, HB.out.trans (by go_grown : Below w.heap.size w1 _), by omega, by omega, by omega, ?_, (MapIs.made w1).keep (Below.heap_alloc _ _ w1.heap.size (by simp))⟩
  have := hnew (w1.alloc (.map #[] 0)) (.cells #[.pointer (some ⟨bd, 0, none⟩), .int .i64 16, .slice none 0 0, .int .i64 0, .map (some w1.heap.size)] 201)
  simpa using this

set_option maxRecDepth 100000 in
set_option maxHeartbeats 1000000 in
theorem logOpen_any {w : World} {bd : Nat} (h : DiskAt w bd) :
    Calls Tryz.prog 82 #[.pointer (some ⟨bd, 0, none⟩)] w fun e w' =>
      ∃ bl, e = .returned (.tuple #[.pointer (some ⟨bl, 0, none⟩), .slice none 0 0, .int .i64 0]) ∧ Below w.heap.size w w' ∧ w.heap.size ≤ bl ∧ bl < w'.heap.size := by
  have HS := Lib.hid (dsize_any h 0 (.inl rfl))
  have H := Lib.hid h
  clear h
  go_enter Tryz.func82, Tryz.ntmps82
  go_wp2_with fail
  refine HS.out.mono ?_
  rintro e w1 ⟨rfl, hb1⟩
  have HR := Lib.hid (dread_any (H.out.below hb1) 0 (.inl rfl))
  have HB1 := Lib.hid hb1
  clear hb1 HS
  go_wp2_with fail
  refine HR.out.mono ?_
  rintro e w2 ⟨rfl, hb2⟩
  have HB2 := Lib.hid (HB1.out.trans (hb2.mono HB1.out.size))
  clear hb2 HR
  obtain ⟨w3, c3, hconv, hb3⟩ : ∃ w3 c3, (convert 9 84 (.string ⟨#[]⟩)).run Tryz.prog (w2.alloc (logO bd)) = .ok (.slice (some ⟨w2.heap.size + 1, 0, none⟩) 0 c3) w3 ∧ Below (w2.heap.size + 1) (w2.alloc (logO bd)) w3 := by
    have := Lib.run_convert_string_bytes (P := Tryz.prog) (w2.alloc (logO bd)) 9 84 5 ⟨#[]⟩ Tryz.underlying9 Tryz.underlying84 Tryz.underlying5
    rw [show (w2.alloc (logO bd)).heap.size = w2.heap.size + 1 by simp] at this
    exact ⟨Lib.bytesWorld (w2.alloc (logO bd)) 5 ⟨#[]⟩, _, this, (below_conv (w2.alloc (logO bd)) 5 ⟨#[]⟩).mono (by simp)⟩
  have hl3 := (hb3.block w2.heap.size (by omega)).trans (hnew w2 _)
  have l0 : w3.cell? ⟨w2.heap.size, 0, none⟩ = some (.pointer (some ⟨bd, 0, none⟩)) := by unfold World.cell?; rw [hl3]; rfl
  have l1 : w3.cell? ⟨w2.heap.size, 1, none⟩ = some (.int .i64 0) := by unfold World.cell?; rw [hl3]; rfl
  have l2 : w3.cell? ⟨w2.heap.size, 2, none⟩ = some (.int .i64 0) := by unfold World.cell?; rw [hl3]; rfl
  have lf : w3.frozen? ⟨w2.heap.size, 2, none⟩ = false := by unfold World.frozen?; rw [hl3]; rfl
  have HB3 := Lib.hid hb3
  have hlt3 := hb3.size
  simp at hlt3
  clear hb3 hl3
  go_wp2
  go_loopw [8, 9] (fun o r wr => o = .slice none 0 0 ∧ r = .slice (some ⟨w2.heap.size + 1, 0, none⟩) 0 c3 ∧ wr = w3) (fun _ _ _ => 0)
  case atStart => exact ⟨rfl, rfl, rfl⟩
  case round =>
    obtain ⟨rfl, rfl, rfl⟩ := hrel
    go_wp2
    have hbw : Below w.heap.size w (wr.setCell ⟨w2.heap.size, 2, none⟩ (.int .i64 0)).drew := HB2.out.trans ((((Below.refl w2.heap.size w2).alloc (Nat.le_refl _) (logO bd)).trans (((HB3.out.mono (by omega)).setCell (by simp) _).drew)).mono HB2.out.size)
    have l1' : (wr.setCell ⟨w2.heap.size, 2, none⟩ (.int .i64 0)).cell? ⟨w2.heap.size, 1, none⟩ = some (.int .i64 0) := by go_simp
    have hD := H.out.below hbw
    refine wp_region_noPanic ?_
    refine wp_region_held_drew (S := (fun w' => w'.cell? ⟨w2.heap.size, 1, none⟩ = some (.int .i64 0))) (by kernel_rfl) l1' (fun hS => ?_)
    refine wpAnyH_take (i := 0) (v := ?_) rfl (by kernel_rfl) (by kernel_rfl) (by kernel_rfl) (fun _ _ _ h => h) (Or.inl ⟨by rfl, ?_⟩) hS ?_
    rotate_left
    · intro w9 t0
      go_simp
      try with_reducible rfl
    try simp only [Act.put, List.getElem_toArray, List.getElem_cons_succ, List.getElem_cons_zero, List.setIfInBounds_toArray, List.set_cons_zero, List.set_cons_succ]
    refine wpAnyH_take (i := 2) (v := ?_) rfl (by kernel_rfl) (by kernel_rfl) (by kernel_rfl) (fun _ _ _ h => h) (Or.inl ⟨by rfl, ?_⟩) hS ?_
    rotate_left
    · intro w9 t0
      go_simp
      try with_reducible rfl
    try simp only [Act.put, List.getElem_toArray, List.getElem_cons_succ, List.getElem_cons_zero, List.setIfInBounds_toArray, List.set_cons_zero, List.set_cons_succ]
    refine wpAnyH_take (i := 3) (v := ?_) rfl (by kernel_rfl) (by kernel_rfl) (by kernel_rfl) (fun _ _ _ h => h) (Or.inl ⟨by rfl, ?_⟩) hS ?_
    rotate_left
    · intro w9 t0
      go_simp
      try with_reducible rfl
    try simp only [Act.put, List.getElem_toArray, List.getElem_cons_succ, List.getElem_cons_zero, List.setIfInBounds_toArray, List.set_cons_zero, List.set_cons_succ]
    refine wpAnyH_take (i := 4) (v := ?_) rfl (by kernel_rfl) (by kernel_rfl) (by kernel_rfl) (fun _ _ _ h => h) (Or.inl ⟨by rfl, ?_⟩) hS ?_
    rotate_left
    · intro w9 t0
      go_simp
      try with_reducible rfl
    try simp only [Act.put, List.getElem_toArray, List.getElem_cons_succ, List.getElem_cons_zero, List.setIfInBounds_toArray, List.set_cons_zero, List.set_cons_succ]
    refine wpAnyH_take (i := 5) (v := ?_) rfl (by kernel_rfl) (by kernel_rfl) (by kernel_rfl) (fun _ _ _ h => h) (Or.inl ⟨by rfl, ?_⟩) hS ?_
    rotate_left
    · intro w9 t0
      go_simp
      try with_reducible rfl
    try simp only [Act.put, List.getElem_toArray, List.getElem_cons_succ, List.getElem_cons_zero, List.setIfInBounds_toArray, List.set_cons_zero, List.set_cons_succ]
    refine wpAnyH_ready (rs := [1]) (by kernel_rfl) (by simp) ?_
    refine AllReadyH.cons rfl (fun K hK => ?_) AllReadyH.nil
    go_simp
    refine (dsize_any hD 0 (.inl rfl)).mono ?_
    rintro e w4 ⟨rfl, hb4⟩
    have HB4 := Lib.hid (hbw.trans (hb4.mono hbw.size))
    have e4 : (wr.setCell ⟨w2.heap.size, 2, none⟩ (.int .i64 0)).drew.heap.size = wr.heap.size := by simp [World.setCell]
    have hl4 : w2.heap.size < w4.heap.size := by
      have := hb4.size
      omega
    have hS4 : (fun w' => w'.cell? ⟨w2.heap.size, 1, none⟩ = some (.int .i64 0)) w4 := by
      exact (hb4.cell (World.block_lt_of_cell? _ _ hS)).trans hS
    refine hK.out _ _ hS4 (fun _ => ?_)
    clear hK K
    try simp only [Act.put, List.getElem_toArray, List.getElem_cons_succ, List.getElem_cons_zero, List.setIfInBounds_toArray, List.set_cons_zero, List.set_cons_succ]
    refine wpAnyH_take (i := 6) (v := ?_) rfl (by kernel_rfl) (by kernel_rfl) (by kernel_rfl) (fun _ _ _ h => h) (Or.inl ⟨by rfl, ?_⟩) hS4 ?_
    rotate_left
    · intro w9 t0
      go_simp
      try with_reducible rfl
    try simp only [Act.put, List.getElem_toArray, List.getElem_cons_succ, List.getElem_cons_zero, List.setIfInBounds_toArray, List.set_cons_zero, List.set_cons_succ]
    refine wpAnyH_done (by kernel_rfl) ?_ _
    refine NoPanic.normal ?_
    go_wp2
    go_ret3
    exact ⟨w2.heap.size, rfl, HB4.out, HB2.out.size, hl4⟩

set_option maxRecDepth 100000 in
set_option maxHeartbeats 1000000 in
theorem room_first {w : World} {bp bd bat : Nat} (h : w.heap[bp]? = some (.cells #[.pointer (some ⟨bd, 0, none⟩), .int .i64 16, .slice none 0 0, .int .i64 0, .map (some bat)] 201)) :
    Calls Tryz.prog 174 #[.pointer (some ⟨bp, 0, none⟩)] w fun e w' =>
      ∃ bf l, e = .returned (.pointer (some ⟨bf, 0, none⟩)) ∧ w.heap.size ≤ bf ∧ w'.heap[bp]? = some (.cells #[.pointer (some ⟨bd, 0, none⟩), .int .i64 16, l, .int .i64 0, .map (some bat)] 201) ∧
        w'.heap[bf]? = some (.cells #[.int .i64 0, .slice none 0 0, .int .i64 0, .bool false, .bool false] 249) ∧ Off (· = bp) w w' := by
  have c1 : w.cell? ⟨bp, 1, none⟩ = some (.int .i64 16) := by unfold World.cell?; rw [h]; rfl
  have c2 : w.cell? ⟨bp, 2, none⟩ = some (.slice none 0 0) := by unfold World.cell?; rw [h]; rfl
  have f2 : w.frozen? ⟨bp, 2, none⟩ = false := by unfold World.frozen?; rw [h]; rfl
  have H := Lib.hid h
  have hlt : bp < w.heap.size := (Array.getElem?_eq_some_iff.1 h).1
  clear h
  go_enter Tryz.func174, Tryz.ntmps174
  go_wp2
  go_quiet (fail)
  obtain ⟨w1, hw1⟩ : ∃ w1, w1 = w.drewN nq := ⟨_, rfl⟩
  rw [← hw1]
  have c2' : w1.cell? ⟨bp, 2, none⟩ = some (.slice none 0 0) := by rw [hw1]; exact c2
  have f2' : w1.frozen? ⟨bp, 2, none⟩ = false := by rw [hw1]; exact f2
  have hlt' : bp < w1.heap.size := by rw [hw1]; exact hlt
  have hb' : Below w.heap.size w w1 := by rw [hw1]; exact ⟨rfl, rfl, rfl, Nat.le_refl _, fun _ _ => rfl⟩
  have HW := Lib.hid (And.intro hw1 hb')
  clear hw1 hb' c1 c2 f2 hlt
  have hl1 : bp < w1.heap.size + 1 := by omega
  have hl2 : bp < w1.heap.size + 1 + 1 := by omega
  have hl3 : bp < w1.heap.size + 1 + 1 + 1 := by omega
  go_wp2
  go_ret
  have hz := HW.out.2.size
  have hH : w1.heap[bp]? = some (.cells #[.pointer (some ⟨bd, 0, none⟩), .int .i64 16, .slice none 0 0, .int .i64 0, .map (some bat)] 201) := by rw [HW.out.1]; exact H.out
  have hset := heap_set (i := 2) (v := .slice (some ⟨w1.heap.size + 1 + 1, 0, none⟩) 1 ((Question.appendCap 1 0 246).cut (w1.tape w1.drawn (Question.appendCap 1 0 246)))) hH
  generalize hw2 : w1.setCell ⟨bp, 2, none⟩ (.slice (some ⟨w1.heap.size + 1 + 1, 0, none⟩) 1 ((Question.appendCap 1 0 246).cut (w1.tape w1.drawn (Question.appendCap 1 0 246)))) = w2 at *
  have hz2 : w2.heap.size = w1.heap.size := by rw [← hw2]; simp [World.setCell]
  have ho2 : ∀ k, k ≠ bp → w2.heap[k]? = w1.heap[k]? := fun k hk => by rw [← hw2]; exact Below.heap_setCell _ _ _ _ hk
  have hos : w2.os = w1.os ∧ w2.tape = w1.tape ∧ w2.output = w1.output := by rw [← hw2]; exact ⟨rfl, rfl, rfl⟩
  clear hw2
  refine ⟨w1.heap.size, _, rfl, hz, (Below.block (B := w2.heap.size) (w := w2) (by go_grown) bp (by omega)).trans hset, ?_, ?_⟩
  · rw [← hz2]
    exact (Below.block (B := w2.heap.size + 1) (w := w2.alloc (.cells #[.int .i64 0, .slice none 0 0, .int .i64 0, .bool false, .bool false] 249)) (by go_grown) w2.heap.size (by omega)).trans (hnew w2 _)
  · exact ⟨hos.1.trans HW.out.2.os, hos.2.1.trans HW.out.2.tape, hos.2.2.trans HW.out.2.output, by simp; omega, fun k hk hne => (Below.block (B := w2.heap.size) (w := w2) (by go_grown) k (by omega)).trans ((ho2 k hne).trans (HW.out.2.block k hk))⟩
end Go.Proofs.YtoejgkcaamkanaaGreatDoor
