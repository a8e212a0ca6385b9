/- The pool's first frame, and a space's bytes, over an empty disk. -/
import Derived.Test.YtddddjpmeegedaaGreatSpH
set_option linter.unusedVariables false
set_option linter.unusedSimpArgs false
namespace Go.Proofs.YtddddjpmeegedaaGreat
open Go.RowKit

abbrev frameO (page : Int) (bb c : Nat) (pins : Int) (ch late : Bool) : Obj := .cells #[.int .i64 page, .slice (some ⟨bb, 0, none⟩) 512 c, .int .i64 pins, .bool ch, .bool late] 225
def onlyF (p : Int) (v : Value) (q : Int) : Option Value := if q = p then some v else none
/-- A pool that holds page 0 in its one frame. -/
structure PoolAt (w : World) (bp bat bf bb c : Nat) (pins : Int) : Prop where
  p1 : w.cell? ⟨bp, 1, none⟩ = some (.int .i64 16)
  p4 : w.cell? ⟨bp, 4, none⟩ = some (.map (some bat))
  m : MapIs w bat (onlyF 0 (.pointer (some ⟨bf, 0, none⟩)))
  f : ∃ ch late, w.heap[bf]? = some (frameO 0 bb c pins ch late)
  pg : PageAt w bb c zeros
  ne : bp ≠ bf
theorem frame5 {w : World} {g : Nat} {page : Int} {bb c : Nat} {pins : Int} {ch late : Bool} (h : w.heap[g]? = some (frameO page bb c pins ch late)) :
    w.cell? ⟨g, 0, none⟩ = some (.int .i64 page) ∧ w.cell? ⟨g, 1, none⟩ = some (.slice (some ⟨bb, 0, none⟩) 512 c) ∧ w.cell? ⟨g, 2, none⟩ = some (.int .i64 pins) ∧ w.cell? ⟨g, 3, none⟩ = some (.bool ch) ∧ w.cell? ⟨g, 4, none⟩ = some (.bool late) ∧ ∀ i, w.frozen? ⟨g, i, none⟩ = false := by
  refine ⟨?_, ?_, ?_, ?_, ?_, fun i => ?_⟩
  · unfold World.cell?; rw [h]; rfl
  · unfold World.cell?; rw [h]; rfl
  · unfold World.cell?; rw [h]; rfl
  · unfold World.cell?; rw [h]; rfl
  · unfold World.cell?; rw [h]; rfl
  · unfold World.frozen?; rw [h]; simp
theorem PoolAt.bf_lt {w : World} {bp bat bf bb c : Nat} {pins : Int} (h : PoolAt w bp bat bf bb c pins) : bf < w.heap.size := by
  obtain ⟨ch, late, hf⟩ := h.f
  exact (Array.getElem?_eq_some_iff.1 hf).1
/-- Only the frame's block turns. -/
theorem PoolAt.turn {w w' : World} {bp bat bf bb c : Nat} {pins pins' : Int} (h : PoolAt w bp bat bf bb c pins) (ho : Off (· = bf) w w') (hf : ∃ ch late, w'.heap[bf]? = some (frameO 0 bb c pins' ch late)) : PoolAt w' bp bat bf bb c pins' := by
  obtain ⟨ch, late, hf0⟩ := h.f
  exact ⟨ho.cell h.p1 h.ne, ho.cell h.p4 h.ne, h.m.keep (ho.block bat h.m.lt (h.m.cells_ne hf0)), hf, h.pg.keep (ho.block bb h.pg.lt (h.pg.ne hf0 (by decide))), h.ne⟩
theorem heap_set {w : World} {g i : Nat} {v : Value} {cs : Array Value} {t : TypeId} {fr : Nat × Nat} (h : w.heap[g]? = some (.cells cs t fr)) : (w.setCell ⟨g, i, none⟩ v).heap[g]? = some (.cells (cs.setIfInBounds i v) t fr) := by
  simp only [World.setCell, Array.getElem?_modify]
  simp only [h]
  rfl

theorem pgiven_any {w : World} {bp : Nat} (h : w.cell? ⟨bp, 1, none⟩ = some (.int .i64 16)) :
    Calls Tryz.prog 142 #[.pointer (some ⟨bp, 0, none⟩)] w fun e w' => e = .returned (.bool true) ∧ Below w.heap.size w w' := by
  go_enter Tryz.func142, Tryz.ntmps142
  go_wp2
  go_ret
  exact ⟨rfl, by first | exact Below.refl _ _ | go_grown⟩

set_option maxRecDepth 100000 in
set_option maxHeartbeats 1000000 in
theorem pinned_any {w : World} {bp bat bf bb c : Nat} {pins : Int} (h : PoolAt w bp bat bf bb c pins) (hp : 0 < pins) :
    Calls Tryz.prog 146 #[.pointer (some ⟨bp, 0, none⟩), .int .i64 0] w fun e w' => e = .returned (.pointer (some ⟨bf, 0, none⟩)) ∧ Below w.heap.size w w' := by
  have hl := h.m.look (t := 172) (e := 222) (z := .pointer none) Tryz.underlying172 (by kernel_rfl) (i := 0) (wfI ⟨by omega, by omega⟩)
  rw [onlyF, if_pos rfl] at hl
  obtain ⟨ch, late, hf⟩ := h.f
  obtain ⟨f0, f1, f2, f3, f4, ff⟩ := frame5 hf
  have p4 := h.p4
  clear h hf
  go_enter Tryz.func146, Tryz.ntmps146
  go_wp2
  go_ret
  exact ⟨rfl, by first | exact Below.refl _ _ | go_grown⟩

set_option maxRecDepth 100000 in
set_option maxHeartbeats 1000000 in
theorem pread_any {w : World} {bp bat bf bb c : Nat} {pins : Int} (h : PoolAt w bp bat bf bb c pins) (hp : 0 < pins) :
    Calls Tryz.prog 106 #[.pointer (some ⟨bp, 0, none⟩), .int .i64 0] w fun e w' => e = .returned (.tuple #[.string ⟨zeros.toArray⟩, .int .i64 0]) ∧ Below w.heap.size w w' := by
  have HG := Lib.hid (pgiven_any h.p1)
  have H := Lib.hid h
  clear h
  go_enter Tryz.func106, Tryz.ntmps106
  go_wp2_with fail
  refine HG.out.mono ?_
  rintro e w1 ⟨rfl, hb1⟩
  obtain ⟨ch, late, hf⟩ := H.out.f
  have h1 : PoolAt w1 bp bat bf bb c pins := H.out.turn (Off.of_below hb1) ⟨ch, late, (hb1.block bf H.out.bf_lt).trans hf⟩
  have HP := Lib.hid (pinned_any h1 hp)
  have HB1 := Lib.hid hb1
  have H1 := Lib.hid h1
  clear hb1 h1 hf HG
  go_wp2_with fail
  refine HP.out.mono ?_
  rintro e w2 ⟨rfl, hb2⟩
  obtain ⟨ch, late, hf⟩ := H1.out.f
  have h2 : PoolAt w2 bp bat bf bb c pins := H1.out.turn (Off.of_below hb2) ⟨ch, late, (hb2.block bf H1.out.bf_lt).trans hf⟩
  obtain ⟨ch2, late2, hf2⟩ := h2.f
  obtain ⟨f0, f1, f2, f3, f4, ff⟩ := frame5 hf2
  have hs := h2.pg.string
  have HB2 := Lib.hid (HB1.out.trans (hb2.mono HB1.out.size))
  clear h2 hf hf2 hb2 HP
  go_wp2
  go_ret2
  exact ⟨rfl, HB2.out⟩

set_option maxRecDepth 100000 in
set_option maxHeartbeats 1000000 in
theorem unpin_any {w : World} {bp bat bf bb c : Nat} (h : PoolAt w bp bat bf bb c 1) :
    Calls Tryz.prog 102 #[.pointer (some ⟨bp, 0, none⟩), .int .i64 0] w fun e w' => e = .returned (.int .i64 0) ∧ PoolAt w' bp bat bf bb c 0 ∧ Off (· = bf) w w' := by
  have HG := Lib.hid (pgiven_any h.p1)
  have H := Lib.hid h
  clear h
  go_enter Tryz.func102, Tryz.ntmps102
  go_wp2_with fail
  refine HG.out.mono ?_
  rintro e w1 ⟨rfl, hb1⟩
  obtain ⟨ch, late, hf⟩ := H.out.f
  have h1 : PoolAt w1 bp bat bf bb c 1 := H.out.turn (Off.of_below hb1) ⟨ch, late, (hb1.block bf H.out.bf_lt).trans hf⟩
  have HP := Lib.hid (pinned_any h1 (by omega))
  have HB1 := Lib.hid hb1
  have H1 := Lib.hid h1
  clear hb1 h1 hf HG
  go_wp2_with fail
  refine HP.out.mono ?_
  rintro e w2 ⟨rfl, hb2⟩
  obtain ⟨ch, late, hf⟩ := H1.out.f
  have hf2 := (hb2.block bf H1.out.bf_lt).trans hf
  have H2 := Lib.hid (And.intro (H1.out.turn (pins' := 1) (Off.of_below hb2) ⟨ch, late, hf2⟩) (And.intro hf2 (HB1.out.trans (hb2.mono HB1.out.size))))
  obtain ⟨f0, f1, f2, f3, f4, ff⟩ := frame5 hf2
  have f2f := ff 2
  clear hf hf2 hb2 HP ff
  go_wp2
  go_ret
  refine ⟨rfl, ?_⟩
  have ho : Off (· = bf) w2 (w2.setCell ⟨bf, 2, none⟩ (.int .i64 0)) := ⟨rfl, rfl, rfl, by simp [World.setCell], fun k hk hne => Below.heap_setCell _ _ _ _ hne⟩
  exact ⟨H2.out.1.turn ho ⟨ch, late, heap_set H2.out.2.1⟩, (Off.of_below H2.out.2.2).trans ho (fun _ _ h => h)⟩

set_option maxRecDepth 100000 in
set_option maxHeartbeats 1000000 in
theorem pin_any {w : World} {bp bat bf bb c : Nat} (h : PoolAt w bp bat bf bb c 0) :
    Calls Tryz.prog 100 #[.pointer (some ⟨bp, 0, none⟩), .int .i64 0] w fun e w' => e = .returned (.int .i64 0) ∧ PoolAt w' bp bat bf bb c 1 ∧ Off (· = bf) w w' := by
  have HG := Lib.hid (pgiven_any h.p1)
  have H := Lib.hid h
  clear h
  go_enter Tryz.func100, Tryz.ntmps100
  go_wp2_with fail
  refine HG.out.mono ?_
  rintro e w1 ⟨rfl, hb1⟩
  obtain ⟨ch, late, hf⟩ := H.out.f
  have hf1 := (hb1.block bf H.out.bf_lt).trans hf
  have h1 : PoolAt w1 bp bat bf bb c 0 := H.out.turn (Off.of_below hb1) ⟨ch, late, hf1⟩
  have hl := h1.m.look (t := 172) (e := 222) (z := .pointer none) Tryz.underlying172 (by kernel_rfl) (i := 0) (wfI ⟨by omega, by omega⟩)
  rw [onlyF, if_pos rfl] at hl
  have H1 := Lib.hid (And.intro h1 (And.intro hf1 hb1))
  have p4 := h1.p4
  obtain ⟨f0, f1, f2, f3, f4, ff⟩ := frame5 hf1
  have f2f := ff 2
  have f4f := ff 4
  clear hf hf1 hb1 h1 HG ff
  go_wp2
  go_ret
  refine ⟨rfl, ?_⟩
  have ho : Off (· = bf) w1 ((w1.setCell ⟨bf, 2, none⟩ (.int .i64 1)).setCell ⟨bf, 4, none⟩ (.bool true)) := ⟨rfl, rfl, rfl, by simp [World.setCell], fun k hk hne => (Below.heap_setCell _ _ _ _ hne).trans (Below.heap_setCell _ _ _ _ hne)⟩
  exact ⟨H1.out.1.turn ho ⟨ch, true, heap_set (heap_set H1.out.2.1)⟩, (Off.of_below H1.out.2.2).trans ho (fun _ _ h => h)⟩
end Go.Proofs.YtddddjpmeegedaaGreat
