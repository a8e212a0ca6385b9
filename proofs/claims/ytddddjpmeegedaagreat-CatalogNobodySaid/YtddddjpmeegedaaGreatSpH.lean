/- An action of a space: Alloc, Free. -/
import Derived.Test.YtddddjpmeegedaaGreatSpG
import Derived.Deep.RegionHeld3
import Derived.Deep.RegionLaw
set_option linter.unusedVariables false
set_option linter.unusedSimpArgs false
namespace Go.Proofs.YtddddjpmeegedaaGreat
open Go.RowKit

theorem PageAt.sub {w : World} {b cap : Nat} {l : List UInt8} (h : PageAt w b cap l) (o n c : Nat) (hn : o + n ≤ 512) : (convert 74 9 (.slice (some ⟨b, o, none⟩) n c)).run Tryz.prog w = .ok (.string ⟨((l.drop o).take n).toArray⟩) w := by
  have hl := h.1
  have := run_convert_bytes_arg w 74 5 Tryz.underlying74 Tryz.underlying5 b o n c (((l.drop o).take n).map fun b => (b.toNat : Int)) (by simp [hl]; omega) (fun i hi => by
    have hc := h.cell (o + i) (by omega)
    rw [hc]
    simp [List.getD, hl, hi, List.getElem?_take, List.getElem?_drop, show o + i < 512 by omega]) 9 Tryz.underlying9
  rw [this, strOf_bytes]

def zeros : List UInt8 := List.replicate 512 0
theorem made_one (z : Value) (n : Nat) (hz : z.cells = #[z]) : madeCells z.cells n = Array.replicate n z := by
  rw [hz]
  apply Array.ext
  · rw [size_madeCells]; simp
  · intro i h1 h2
    simp [madeCells, Nat.mod_one]
theorem make_page (w : World) : (Instr.makeSlice 74 (.int .i64 512) (.int .i64 512)).run Tryz.prog w = .ok (.slice (some ⟨w.heap.size, 0, none⟩) 512 512) (w.alloc (.cells (Array.replicate 512 (.int .u8 0)) 5)) := by
  have hi := info_u8
  cases hq : Tryz.prog.info? 5 with
  | none => rw [hq] at hi; cases hi
  | some i =>
    rw [hq] at hi
    simp only [Option.map_some, Option.some.injEq, Prod.mk.injEq] at hi
    have := run_makeSlice (P := Tryz.prog) w 74 5 i (.int .u8 0) Tryz.underlying74 hq hi.1 .i64 .i64 512 512 (by omega) (by omega) (by rw [hi.2.1]; decide) (by rw [hi.2.2]; decide) (by omega)
    rw [this, hi.2.1, made_one _ _ rfl]
    rfl
def Raw.lay (R : Raw) (p : Int) (l : List UInt8) : Raw := ⟨fun q => if q = p then l else R.page q, fun q => decide (q = p) || R.dirty q, R.gone⟩
def Raw.goes (R : Raw) (g : Int → Bool) : Raw := ⟨R.page, R.dirty, g⟩

/-- A new page in the map. -/
theorem ActAt.page_new {bs : Nat} {B : Base bs} {w w' : World} {ba bp bg : Nat} {Fb : Nat → Prop} {R : Raw} {blk cap : Int → Nat} (h : ActAt B w ba bp bg Fb R blk cap) {g c : Nat} {l : List UInt8} {p : Int} (hp : 0 ≤ p ∧ p < 4096)
    (hg : PageAt w' g c l) (hy : w.heap.size ≤ g) (hm : MapIs w' bp (fun j => if j = p then some (.slice (some ⟨g, 0, none⟩) 512 c) else pagesF R blk cap j)) (e : ∀ k, k < w.heap.size → k ≠ bp → w'.heap[k]? = w.heap[k]?) :
    ActAt B w' ba bp bg Fb (R.lay p l) (fun q => if q = p then g else blk q) (fun q => if q = p then c else cap q) := by
  have hdq : ∀ q, q ≠ p → (R.lay p l).dirty q = true → R.dirty q = true := fun q hqp hq => by
    simpa [Raw.lay, hqp] using hq
  have hne : ∀ q, R.dirty q = true → blk q ≠ g := fun q hq he => by have := (h.at_ q hq).lt; omega
  refine ⟨(e ba (h.bounded ba (.inl rfl)) (fun e => by subst e; exact h.pages.cells_ne h.a rfl)).trans h.a, B.keep h.base (fun k hk => e k (B.own h.base k hk) (fun e => h.fp (e ▸ hk))), ?_, ?_, ?_, ?_, ?_, h.rngG, ?_, h.maps, h.fa, h.fp, h.fg, ?_⟩
  · have : pagesF (R.lay p l) (fun q => if q = p then g else blk q) (fun q => if q = p then c else cap q) = fun j => if j = p then some (Value.slice (some ⟨g, 0, none⟩) 512 c) else pagesF R blk cap j := by
      funext j
      unfold pagesF Raw.lay
      by_cases e : j = p <;> simp [e]
    rw [this]
    exact hm
  · exact h.goneM.keep (e bg h.goneM.lt (Ne.symm h.maps))
  · intro q hq
    by_cases e' : q = p
    · subst e'
      simp only [if_pos rfl, Raw.lay]
      exact hg
    · have hq' := hdq q e' hq
      simp only [if_neg e', Raw.lay]
      exact (h.at_ q hq').keep (e _ (h.at_ q hq').lt (fun e2 => (h.at_ q hq').map_ne h.pages e2))
  · intro q hq hdom
    by_cases e' : q = p
    · subst e'; simp [Raw.lay] at hq
    · simp only [Raw.lay, if_neg e']
      refine h.low q ?_ hdom
      simpa [Raw.lay, e'] using hq
  · intro q hq
    by_cases e' : q = p
    · subst e'; exact hp
    · exact h.rng q (hdq q e' hq)
  · intro q q' hq hq' he
    by_cases e1 : q = p <;> by_cases e2 : q' = p
    · rw [e1, e2]
    · simp only [if_pos e1, if_neg e2] at he
      exact absurd he.symm (hne q' (hdq q' e2 hq'))
    · simp only [if_neg e1, if_pos e2] at he
      exact absurd he (hne q (hdq q e1 hq))
    · simp only [if_neg e1, if_neg e2] at he
      exact h.inj q q' (hdq q e1 hq) (hdq q' e2 hq') he
  · intro q hq
    by_cases e1 : q = p
    · simp only [if_pos e1]
      exact fun hf => by have := B.own h.base g hf; omega
    · simp only [if_neg e1]; exact h.fk q (hdq q e1 hq)
theorem ActAt.page_foot {bs : Nat} {B : Base bs} {w : World} {ba bp bg : Nat} {Fb : Nat → Prop} {R : Raw} {blk : Int → Nat} {g : Nat} {l : List UInt8} {p : Int} (hy : w.heap.size ≤ g) (k : Nat) (hk : k < w.heap.size)
    (hf : foot ba bp bg Fb (R.lay p l) (fun q => if q = p then g else blk q) k) : foot ba bp bg Fb R blk k := by
  rcases hf with h | h | h | h | ⟨q, hq, h⟩
  · exact .inl h
  · exact .inr (.inl h)
  · exact .inr (.inr (.inl h))
  · exact .inr (.inr (.inr (.inl h)))
  · by_cases e : q = p
    · simp only [if_pos e] at h; omega
    · simp only [if_neg e] at h
      exact .inr (.inr (.inr (.inr ⟨q, by simpa [Raw.lay, e] using hq, h⟩)))
/-- Other pages are gone. -/
theorem ActAt.goes {bs : Nat} {B : Base bs} {w w' : World} {ba bp bg : Nat} {Fb : Nat → Prop} {R : Raw} {blk cap : Int → Nat} (h : ActAt B w ba bp bg Fb R blk cap) {g : Int → Bool} (hr : ∀ p, g p = true → 0 ≤ p ∧ p < 4096)
    (hm : MapIs w' bg (goneF (R.goes g))) (e : ∀ k, k < w.heap.size → k ≠ bg → w'.heap[k]? = w.heap[k]?) : ActAt B w' ba bp bg Fb (R.goes g) blk cap :=
  ⟨(e ba (h.bounded ba (.inl rfl)) (fun e => by subst e; exact h.goneM.cells_ne h.a rfl)).trans h.a, B.keep h.base (fun k hk => e k (B.own h.base k hk) (fun e => h.fg (e ▸ hk))), h.pages.keep (e bp h.pages.lt h.maps), hm, fun q hq => (h.at_ q hq).keep (e _ (h.at_ q hq).lt (fun e2 => (h.at_ q hq).map_ne h.goneM e2)), h.low, h.rng, hr, h.inj, h.maps, h.fa, h.fp, h.fg, h.fk⟩

theorem page_zero (w : World) : PageAt (w.alloc (.cells (Array.replicate 512 (.int .u8 0)) 5)) w.heap.size 512 zeros := by
  have e1 : zeros.length = 512 := List.length_replicate
  have e2 : (Array.replicate 512 (Value.int .u8 0)).size = 512 := Array.size_replicate
  refine ⟨e1, Array.replicate 512 (.int .u8 0), (0, 0), ?_, e2, Nat.le_refl _, by unfold maxLen; omega, ?_, .inl rfl⟩
  · show (w.heap.push _)[w.heap.size]? = _
    rw [Array.getElem?_push, if_pos rfl]
  · rw [Array.toList_replicate, List.take_of_length_le (by rw [List.length_replicate]; exact Nat.le_refl _)]
    unfold zeros Lib.byteCells
    rw [List.map_replicate]
    rfl

set_option maxRecDepth 100000 in
set_option maxHeartbeats 1000000 in
theorem alloc_new {bs : Nat} {B : Base bs} {w : World} {ba : Nat} {F : Nat → Prop} {R : Raw} (h : ActIs B w ba F R) (hc : Cov B R) (h0 : num (R.page 0) 4 = 0) (ht : R.total + 1 < 4096) :
    Calls Tryz.prog 64 #[.pointer (some ⟨ba, 0, none⟩)] w fun e w' =>
      e = .returned (.tuple #[.int .i64 (R.total + 1), .int .i64 0]) ∧ Step B ba w F ((R.put 0 0 (digL (R.total + 1))).lay (R.total + 1) zeros) w' := by
  obtain ⟨hlt, bp, bg, Fb, blk, cap, hA, hft⟩ := h
  have HG := Lib.hid (going_any hA.a)
  have H0 := Lib.hid (And.intro hA hft)
  have hr := (num_range (R.page 0) 0).1
  clear hA hft hlt
  go_enter Tryz.func64, Tryz.ntmps64
  go_wp2_with fail
  refine HG.out.mono ?_
  rintro e w1 ⟨rfl, hb1⟩
  have HP := Lib.hid (page_any (H0.out.1.below hb1) 0 ⟨by omega, by omega⟩ hc.zero)
  have HB1 := Lib.hid hb1
  clear hb1 HG
  go_wp2_with fail
  refine HP.out.mono ?_
  rintro e w2 ⟨b, c, Fb2, rfl, hpg, h2, hF2, _, ho2⟩
  have hcap : 512 ≤ c := by obtain ⟨_, _, _, _, _, h, _⟩ := hpg; exact h
  have HN := number_at hpg 4 (512 - 4) (c - 4) (by omega) (by omega)
  rw [h0] at HN
  have HNh := Lib.hid HN
  have H2 := Lib.hid (And.intro h2 (And.intro hF2 ho2))
  clear hpg h2 hF2 ho2 HP HN
  go_wp2_with fail
  refine HNh.out.mono ?_
  rintro e w3 ⟨rfl, hb3⟩
  have HT := Lib.hid (total_any (H2.out.1.below hb3) hc.zero)
  have HB3 := Lib.hid hb3
  clear hb3 HNh
  go_wp2_with fail
  refine HT.out.mono ?_
  rintro e w4 ⟨rfl, Fb4, h4, hF4, ho4⟩
  have HD := Lib.hid (digits_any (R.total + 1) w4)
  have H4 := Lib.hid (And.intro h4 (And.intro hF4 ho4))
  clear h4 hF4 ho4 HT
  have hnb : ¬ R.total + 1 ≥ 4096 := by omega
  unfold Raw.total at *
  go_wp2_with fail
  refine HD.out.mono ?_
  rintro e w5 ⟨rfl, hb5⟩
  have HP2 := Lib.hid (put_any (H4.out.1.below hb5) 0 ⟨by omega, by omega⟩ hc.zero 0 ⟨(digL (R.total + 1)).toArray⟩ (by omega) (by show 0 + 4 ≤ 512; omega))
  have HB5 := Lib.hid hb5
  clear hb5 HD
  unfold Raw.total at *
  go_wp2_with fail
  refine HP2.out.mono ?_
  rintro e w6 ⟨rfl, Fb6, blk6, cap6, h6, hft6, ho6⟩
  obtain ⟨c0, c1, c2, c3⟩ := act4 h6.a
  have hz6 := h6.a
  have hpm : MapIs (w6.alloc (.cells (Array.replicate 512 (.int .u8 0)) 5)).drew bp (pagesF (R.put 0 0 (digL (num (R.page 0) 0 + 1))) blk6 cap6) := h6.pages.keep (Below.heap_alloc _ _ bp h6.pages.lt)
  obtain ⟨w7, hset, hm7, hoff7, hz7⟩ := hpm.set (fun i hi => by
    unfold pagesF at hi
    by_cases hh : (R.put 0 0 (digL (num (R.page 0) 0 + 1))).dirty i = true
    · have := h6.rng i hh; omega
    · rw [if_neg hh] at hi; exact absurd rfl hi) (t := 97) (e := 74) Tryz.underlying97 (i := num (R.page 0) 0 + 1) (wfI ⟨by omega, by omega⟩) (.slice (some ⟨w6.heap.size, 0, none⟩) 512 512)
  have hmk := make_page w6.drew
  have hS7 : w7.cell? ⟨ba, 1, none⟩ = some (.map (some bp)) := hoff7.cell (((((Below.refl w6.heap.size w6).alloc (Nat.le_refl _) (.cells (Array.replicate 512 (.int .u8 0)) 5))).cell (p := ⟨ba, 1, none⟩) (World.block_lt_of_cell? w6 _ c1)).trans c1) (fun e => by
    have e' : ba = bp := e
    subst e'
    exact h6.pages.cells_ne h6.a rfl)
  have e7 : ∀ k, k < w6.heap.size → k ≠ bp → w7.heap[k]? = w6.heap[k]? := fun k hk hne => (hoff7.block k (by show k < (w6.alloc _).heap.size; simp; omega) hne).trans (Below.heap_alloc w6 _ k hk)
  have h7 : ActAt B w7 ba bp bg Fb6 ((R.put 0 0 (digL (R.total + 1))).lay (R.total + 1) zeros) (fun q => if q = R.total + 1 then w6.heap.size else blk6 q) (fun q => if q = R.total + 1 then 512 else cap6 q) :=
    h6.page_new (by unfold Raw.total; omega) ((page_zero w6).keep (hoff7.block _ (by show _ < (w6.alloc _).heap.size; simp) (fun e => by have := h6.pages.lt; omega))) (Nat.le_refl _) hm7 e7
  have ho7 : Off (foot ba bp bg Fb6 (R.put 0 0 (digL (R.total + 1))) blk6) w6 w7 := ⟨hoff7.os, hoff7.tape, hoff7.output, by have := hoff7.size; simp at this; omega, fun k hk hf => e7 k hk (fun e => hf (.inr (.inl e)))⟩
  have ho5 : Off Fb w w5 := ((((Off.of_below HB1.out).trans H2.out.2.2 (fun _ _ h => h)).trans (Off.of_below HB3.out (F := fun _ => False)) (fun _ _ h => h.elim)).trans H4.out.2.2 (fun k hk h => H2.out.2.1 k (Nat.lt_of_lt_of_le hk HB1.out.size) h)).trans (Off.of_below HB5.out (F := fun _ => False)) (fun _ _ h => h.elim)
  have hF5 : ∀ k, k < w.heap.size → Fb4 k → Fb k := fun k hk h => H2.out.2.1 k (Nat.lt_of_lt_of_le hk HB1.out.size) (H4.out.2.1 k (by have := HB1.out.size; have := H2.out.2.2.size; have := HB3.out.size; omega) h)
  have HS := Lib.hid (show Step B ba w F ((R.put 0 0 (digL (R.total + 1))).lay (R.total + 1) zeros) w7 from Step.of_put H0.out.2 hF5 ho5 h7
    (fun k hk hf => hft6 k hk (ActAt.page_foot (B := B) (w := w6) (Nat.le_refl _) k (Nat.lt_of_lt_of_le hk ho6.size) hf)) (ho6.trans ho7 (fun k hk hf => hft6 k hk hf)))
  clear h7 ho7 ho5 hF5 e7
  go_wp2
  refine wp_region_noPanic ?_
  refine wp_region_held_drew (S := (fun w' => w'.cell? ⟨ba, 1, none⟩ = some (.map (some bp)))) (by kernel_rfl) c1 (fun hS => ?_)
  refine wpAnyH_take (i := 0) (v := ?_) rfl (by kernel_rfl) (by kernel_rfl) (by kernel_rfl) (fun _ _ _ h => h) (Or.inl ⟨by rfl, ?_⟩) hS ?_
  rotate_left
  · intro w9 t0
    go_simp
    try with_reducible rfl
  try simp only [Act.put, List.getElem_toArray, List.getElem_cons_succ, List.getElem_cons_zero, List.setIfInBounds_toArray, List.set_cons_zero, List.set_cons_succ]
  refine wpAnyH_take (i := 1) (v := ?_) rfl (by kernel_rfl) (by kernel_rfl) (by kernel_rfl) (fun _ _ _ h => h) (Or.inl ⟨by rfl, ?_⟩) hS ?_
  rotate_left
  · intro w9 t0
    go_simp
    try with_reducible rfl
  try simp only [Act.put, List.getElem_toArray, List.getElem_cons_succ, List.getElem_cons_zero, List.setIfInBounds_toArray, List.set_cons_zero, List.set_cons_succ]
  refine wpAnyH_take (i := 2) (v := ?_) rfl (by kernel_rfl) (by kernel_rfl) (by kernel_rfl) (fun _ _ _ h => h) (Or.inl ⟨by rfl, ?_⟩) hS ?_
  rotate_left
  · intro w9 t0
    go_simp
    try with_reducible rfl
  try simp only [Act.put, List.getElem_toArray, List.getElem_cons_succ, List.getElem_cons_zero, List.setIfInBounds_toArray, List.set_cons_zero, List.set_cons_succ]
  refine wpAnyH_take (i := 3) (v := ?_) rfl (by kernel_rfl) (by kernel_rfl) (by kernel_rfl) (fun _ _ _ h => h) (Or.inl ⟨by rfl, ?_⟩) hS ?_
  rotate_left
  · intro w9 t0
    go_simp
    try with_reducible rfl
  try simp only [Act.put, List.getElem_toArray, List.getElem_cons_succ, List.getElem_cons_zero, List.setIfInBounds_toArray, List.set_cons_zero, List.set_cons_succ]
  refine wpAnyH_take (i := 4) (v := ?_) rfl (by kernel_rfl) (by kernel_rfl) (by kernel_rfl) (fun _ _ _ h => h) (Or.inl ⟨by rfl, ?_⟩) hS ?_
  rotate_left
  · intro w9 t0
    go_simp
    try with_reducible rfl
  try simp only [Act.put, List.getElem_toArray, List.getElem_cons_succ, List.getElem_cons_zero, List.setIfInBounds_toArray, List.set_cons_zero, List.set_cons_succ]
  refine wpAnyH_ready (rs := [5]) (by kernel_rfl) (by simp) ?_
  refine AllReadyH.cons rfl (fun K hK => ?_) AllReadyH.nil
  go_simp
  have hSa : ((w6.alloc (.cells (Array.replicate 512 (.int .u8 0)) 5)).drew).cell? ⟨ba, 1, none⟩ = some (.map (some bp)) := ((((Below.refl w6.heap.size w6).alloc (Nat.le_refl _) _)).cell (p := ⟨ba, 1, none⟩) (World.block_lt_of_cell? w6 _ c1)).trans c1
  refine hK.out _ _ hSa (fun _ => ?_)
  clear hK K
  try simp only [Act.put, List.getElem_toArray, List.getElem_cons_succ, List.getElem_cons_zero, List.setIfInBounds_toArray, List.set_cons_zero, List.set_cons_succ]
  refine wpAnyH_ready (rs := [6]) (by kernel_rfl) (by simp) ?_
  refine AllReadyH.cons rfl (fun K hK => ?_) AllReadyH.nil
  go_simp
  refine hK.out _ _ hS7 (fun _ => ?_)
  clear hK K
  try simp only [Act.put, List.getElem_toArray, List.getElem_cons_succ, List.getElem_cons_zero, List.setIfInBounds_toArray, List.set_cons_zero, List.set_cons_succ]
  refine wpAnyH_done (by kernel_rfl) ?_ _
  refine NoPanic.normal ?_
  go_wp2
  go_ret2
  exact ⟨rfl, HS.out⟩
end Go.Proofs.YtddddjpmeegedaaGreat
