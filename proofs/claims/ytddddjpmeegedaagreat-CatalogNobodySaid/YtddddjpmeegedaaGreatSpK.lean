/- An empty disk, its log, its pool. -/
import Derived.Test.YtddddjpmeegedaaGreatSpJ
set_option linter.unusedVariables false
set_option linter.unusedSimpArgs false
namespace Go.Proofs.YtddddjpmeegedaaGreat
open Go.RowKit

theorem hnew (w : World) (o : Obj) : (w.alloc o).heap[w.heap.size]? = some o := by
  show (w.heap.push o)[w.heap.size]? = _
  rw [Array.getElem?_push, if_pos rfl]
abbrev diskO : Obj := .cells #[.bool true, .slice none 0 0, .slice none 0 0, .slice none 0 0, .slice none 0 0, .slice none 0 0] 203
/-- A disk on which nothing stands. -/
structure DiskAt (w : World) (bd : Nat) : Prop where
  c0 : w.cell? ⟨bd, 0, none⟩ = some (.bool true)
  c1 : w.cell? ⟨bd, 1, none⟩ = some (.slice none 0 0)
  c2 : w.cell? ⟨bd, 2, none⟩ = some (.slice none 0 0)
theorem DiskAt.below {w w' : World} {bd : Nat} (h : DiskAt w bd) (hb : Below w.heap.size w w') : DiskAt w' bd :=
  ⟨(hb.cell (World.block_lt_of_cell? w _ h.c0)).trans h.c0, (hb.cell (World.block_lt_of_cell? w _ h.c1)).trans h.c1, (hb.cell (World.block_lt_of_cell? w _ h.c2)).trans h.c2⟩

abbrev logO (bd : Nat) : Obj := .cells #[.pointer (some ⟨bd, 0, none⟩), .int .i64 0, .int .i64 0] 168
theorem diskNew_any (w : World) : Calls Tryz.prog 91 #[] w fun e w' => e = .returned (.pointer (some ⟨w.heap.size, 0, none⟩)) ∧ Below w.heap.size w w' ∧ w'.heap[w.heap.size]? = some diskO := by
  go_enter Tryz.func91, Tryz.ntmps91
  go_wp2
  go_ret
  exact ⟨rfl, by go_grown, hnew w _⟩

theorem dgiven_any {w : World} {bd : Nat} (h : DiskAt w bd) (f : Int) (hf : 0 ≤ f ∧ f < 4) :
    Calls Tryz.prog 140 #[.pointer (some ⟨bd, 0, none⟩), .int .i64 f] w fun e w' => e = .returned (.bool true) ∧ Below w.heap.size w w' := by
  have c0 := h.c0
  clear h
  have f1 : f ≥ 0 := hf.1
  have f2 : f < 4 := hf.2
  go_enter Tryz.func140, Tryz.ntmps140
  go_wp2
  go_ret
  exact ⟨rfl, by first | exact Below.refl _ _ | go_grown⟩

set_option maxHeartbeats 1000000 in
theorem dsize_any {w : World} {bd : Nat} (h : DiskAt w bd) (f : Int) (hf : f = 0 ∨ f = 1) :
    Calls Tryz.prog 104 #[.pointer (some ⟨bd, 0, none⟩), .int .i64 f] w fun e w' => e = .returned (.int .i64 0) ∧ Below w.heap.size w w' := by
  have HG := Lib.hid (dgiven_any h f (by omega))
  have H := Lib.hid h
  clear h
  rcases hf with rfl | rfl <;> (
    go_enter Tryz.func104, Tryz.ntmps104
    go_wp2_with fail
    refine HG.out.mono ?_
    rintro e w1 ⟨rfl, hb1⟩
    obtain ⟨c0, c1, c2⟩ := H.out.below hb1
    have HB := Lib.hid hb1
    clear hb1
    go_wp2
    go_ret
    exact ⟨rfl, HB.out⟩)

set_option maxRecDepth 100000 in
set_option maxHeartbeats 1000000 in
theorem dread_any {w : World} {bd : Nat} (h : DiskAt w bd) (f : Int) (hf : f = 0 ∨ f = 1) :
    Calls Tryz.prog 103 #[.pointer (some ⟨bd, 0, none⟩), .int .i64 f, .int .i64 0, .int .i64 0] w fun e w' => e = .returned (.tuple #[.string ⟨#[]⟩, .int .i64 0]) ∧ Below w.heap.size w w' := by
  have HG := Lib.hid (dgiven_any h f (by omega))
  have H := Lib.hid h
  clear h
  rcases hf with rfl | rfl <;> (
    go_enter Tryz.func103, Tryz.ntmps103
    go_wp2_with fail
    refine HG.out.mono ?_
    rintro e w1 ⟨rfl, hb1⟩
    obtain ⟨c0, c1, c2⟩ := H.out.below hb1
    have HB := Lib.hid hb1
    clear hb1
    have hs : ∀ w, (convert 74 9 (.slice none 0 0)).run Tryz.prog w = .ok (.string ⟨#[]⟩) w := fun w => run_convert_bytes_nil w 74 5 Tryz.underlying74 Tryz.underlying5 0 0 9 Tryz.underlying9
    go_wp2
    go_ret2
    exact ⟨rfl, HB.out⟩)

set_option maxRecDepth 100000 in
set_option maxHeartbeats 1000000 in
theorem poolNew_any {w : World} {bd : Nat} (h : DiskAt w bd) :
    Calls Tryz.prog 55 #[.pointer (some ⟨bd, 0, none⟩), .int .i64 16] w fun e w' =>
      ∃ bp bat, e = .returned (.tuple #[.pointer (some ⟨bp, 0, none⟩), .int .i64 0]) ∧ Below w.heap.size w w' ∧ w.heap.size ≤ bp ∧ w.heap.size ≤ bat ∧ bp ≠ bat ∧
        w'.heap[bp]? = some (.cells #[.pointer (some ⟨bd, 0, none⟩), .int .i64 16, .slice none 0 0, .int .i64 0, .map (some bat)] 175) ∧ MapIs w' bat (fun _ => none) := by
  have HR := Lib.hid (dread_any h 1 (.inr rfl))
  clear h
  go_enter Tryz.func55, Tryz.ntmps55
  go_wp2_with fail
  refine HR.out.mono ?_
  rintro e w1 ⟨rfl, hb1⟩
  have HB := Lib.hid hb1
  clear hb1
  have hmm := @run_makeMap Tryz.prog
  go_wp2
  go_ret2
  have hz := HB.out.size
  refine ⟨w1.heap.size + 1, w1.heap.size, rfl, HB.out.trans (by go_grown : Below w.heap.size w1 _), by omega, by omega, by omega, ?_, (MapIs.made w1).keep (Below.heap_alloc _ _ w1.heap.size (by simp))⟩
  have := hnew (w1.alloc (.map #[] 0)) (.cells #[.pointer (some ⟨bd, 0, none⟩), .int .i64 16, .slice none 0 0, .int .i64 0, .map (some w1.heap.size)] 175)
  simpa using this

set_option maxRecDepth 100000 in
set_option maxHeartbeats 1000000 in
theorem logOpen_any {w : World} {bd : Nat} (h : DiskAt w bd) :
    Calls Tryz.prog 54 #[.pointer (some ⟨bd, 0, none⟩)] w fun e w' =>
      ∃ bl, e = .returned (.tuple #[.pointer (some ⟨bl, 0, none⟩), .slice none 0 0, .int .i64 0]) ∧ Below w.heap.size w w' ∧ w.heap.size ≤ bl ∧ bl < w'.heap.size := by
  have HS := Lib.hid (dsize_any h 0 (.inl rfl))
  have H := Lib.hid h
  clear h
  go_enter Tryz.func54, Tryz.ntmps54
  go_wp2_with fail
  refine HS.out.mono ?_
  rintro e w1 ⟨rfl, hb1⟩
  have HR := Lib.hid (dread_any (H.out.below hb1) 0 (.inl rfl))
  have HB1 := Lib.hid hb1
  clear hb1 HS
  go_wp2_with fail
  refine HR.out.mono ?_
  rintro e w2 ⟨rfl, hb2⟩
  have HB2 := Lib.hid (HB1.out.trans (hb2.mono HB1.out.size))
  clear hb2 HR
  obtain ⟨w3, c3, hconv, hb3⟩ : ∃ w3 c3, (convert 9 74 (.string ⟨#[]⟩)).run Tryz.prog (w2.alloc (logO bd)) = .ok (.slice (some ⟨w2.heap.size + 1, 0, none⟩) 0 c3) w3 ∧ Below (w2.heap.size + 1) (w2.alloc (logO bd)) w3 := by
    have := Lib.run_convert_string_bytes (P := Tryz.prog) (w2.alloc (logO bd)) 9 74 5 ⟨#[]⟩ Tryz.underlying9 Tryz.underlying74 Tryz.underlying5
    rw [show (w2.alloc (logO bd)).heap.size = w2.heap.size + 1 by simp] at this
    exact ⟨Lib.bytesWorld (w2.alloc (logO bd)) 5 ⟨#[]⟩, _, this, (below_conv (w2.alloc (logO bd)) 5 ⟨#[]⟩).mono (by simp)⟩
  have hl3 := (hb3.block w2.heap.size (by omega)).trans (hnew w2 _)
  have l0 : w3.cell? ⟨w2.heap.size, 0, none⟩ = some (.pointer (some ⟨bd, 0, none⟩)) := by unfold World.cell?; rw [hl3]; rfl
  have l1 : w3.cell? ⟨w2.heap.size, 1, none⟩ = some (.int .i64 0) := by unfold World.cell?; rw [hl3]; rfl
  have l2 : w3.cell? ⟨w2.heap.size, 2, none⟩ = some (.int .i64 0) := by unfold World.cell?; rw [hl3]; rfl
  have lf : w3.frozen? ⟨w2.heap.size, 2, none⟩ = false := by unfold World.frozen?; rw [hl3]; rfl
  have HB3 := Lib.hid hb3
  have hlt3 := hb3.size
  simp at hlt3
  clear hb3 hl3
  go_wp2
  go_loopw [8, 9] (fun o r wr => o = .slice none 0 0 ∧ r = .slice (some ⟨w2.heap.size + 1, 0, none⟩) 0 c3 ∧ wr = w3) (fun _ _ _ => 0)
  case atStart => exact ⟨rfl, rfl, rfl⟩
  case round =>
    obtain ⟨rfl, rfl, rfl⟩ := hrel
    go_wp2
    have hbw : Below w.heap.size w (wr.setCell ⟨w2.heap.size, 2, none⟩ (.int .i64 0)).drew := HB2.out.trans ((((Below.refl w2.heap.size w2).alloc (Nat.le_refl _) (logO bd)).trans (((HB3.out.mono (by omega)).setCell (by simp) _).drew)).mono HB2.out.size)
    have l1' : (wr.setCell ⟨w2.heap.size, 2, none⟩ (.int .i64 0)).cell? ⟨w2.heap.size, 1, none⟩ = some (.int .i64 0) := by go_simp
    have hD := H.out.below hbw
    refine wp_region_noPanic ?_
    refine wp_region_held_drew (S := (fun w' => w'.cell? ⟨w2.heap.size, 1, none⟩ = some (.int .i64 0))) (by kernel_rfl) l1' (fun hS => ?_)
    refine wpAnyH_take (i := 0) (v := ?_) rfl (by kernel_rfl) (by kernel_rfl) (by kernel_rfl) (fun _ _ _ h => h) (Or.inl ⟨by rfl, ?_⟩) hS ?_
    rotate_left
    · intro w9 t0
      go_simp
      try with_reducible rfl
    try simp only [Act.put, List.getElem_toArray, List.getElem_cons_succ, List.getElem_cons_zero, List.setIfInBounds_toArray, List.set_cons_zero, List.set_cons_succ]
    refine wpAnyH_take (i := 2) (v := ?_) rfl (by kernel_rfl) (by kernel_rfl) (by kernel_rfl) (fun _ _ _ h => h) (Or.inl ⟨by rfl, ?_⟩) hS ?_
    rotate_left
    · intro w9 t0
      go_simp
      try with_reducible rfl
    try simp only [Act.put, List.getElem_toArray, List.getElem_cons_succ, List.getElem_cons_zero, List.setIfInBounds_toArray, List.set_cons_zero, List.set_cons_succ]
    refine wpAnyH_take (i := 3) (v := ?_) rfl (by kernel_rfl) (by kernel_rfl) (by kernel_rfl) (fun _ _ _ h => h) (Or.inl ⟨by rfl, ?_⟩) hS ?_
    rotate_left
    · intro w9 t0
      go_simp
      try with_reducible rfl
    try simp only [Act.put, List.getElem_toArray, List.getElem_cons_succ, List.getElem_cons_zero, List.setIfInBounds_toArray, List.set_cons_zero, List.set_cons_succ]
    refine wpAnyH_take (i := 4) (v := ?_) rfl (by kernel_rfl) (by kernel_rfl) (by kernel_rfl) (fun _ _ _ h => h) (Or.inl ⟨by rfl, ?_⟩) hS ?_
    rotate_left
    · intro w9 t0
      go_simp
      try with_reducible rfl
    try simp only [Act.put, List.getElem_toArray, List.getElem_cons_succ, List.getElem_cons_zero, List.setIfInBounds_toArray, List.set_cons_zero, List.set_cons_succ]
    refine wpAnyH_take (i := 5) (v := ?_) rfl (by kernel_rfl) (by kernel_rfl) (by kernel_rfl) (fun _ _ _ h => h) (Or.inl ⟨by rfl, ?_⟩) hS ?_
    rotate_left
    · intro w9 t0
      go_simp
      try with_reducible rfl
    try simp only [Act.put, List.getElem_toArray, List.getElem_cons_succ, List.getElem_cons_zero, List.setIfInBounds_toArray, List.set_cons_zero, List.set_cons_succ]
    refine wpAnyH_ready (rs := [1]) (by kernel_rfl) (by simp) ?_
    refine AllReadyH.cons rfl (fun K hK => ?_) AllReadyH.nil
    go_simp
    refine (dsize_any hD 0 (.inl rfl)).mono ?_
    rintro e w4 ⟨rfl, hb4⟩
    have HB4 := Lib.hid (hbw.trans (hb4.mono hbw.size))
    have e4 : (wr.setCell ⟨w2.heap.size, 2, none⟩ (.int .i64 0)).drew.heap.size = wr.heap.size := by simp [World.setCell]
    have hl4 : w2.heap.size < w4.heap.size := by
      have := hb4.size
      omega
    have hS4 : (fun w' => w'.cell? ⟨w2.heap.size, 1, none⟩ = some (.int .i64 0)) w4 := by
      exact (hb4.cell (World.block_lt_of_cell? _ _ hS)).trans hS
    refine hK.out _ _ hS4 (fun _ => ?_)
    clear hK K
    try simp only [Act.put, List.getElem_toArray, List.getElem_cons_succ, List.getElem_cons_zero, List.setIfInBounds_toArray, List.set_cons_zero, List.set_cons_succ]
    refine wpAnyH_take (i := 6) (v := ?_) rfl (by kernel_rfl) (by kernel_rfl) (by kernel_rfl) (fun _ _ _ h => h) (Or.inl ⟨by rfl, ?_⟩) hS4 ?_
    rotate_left
    · intro w9 t0
      go_simp
      try with_reducible rfl
    try simp only [Act.put, List.getElem_toArray, List.getElem_cons_succ, List.getElem_cons_zero, List.setIfInBounds_toArray, List.set_cons_zero, List.set_cons_succ]
    refine wpAnyH_done (by kernel_rfl) ?_ _
    refine NoPanic.normal ?_
    go_wp2
    go_ret3
    exact ⟨w2.heap.size, rfl, HB4.out, HB2.out.size, hl4⟩

set_option maxRecDepth 100000 in
set_option maxHeartbeats 1000000 in
theorem room_first {w : World} {bp bd bat : Nat} (h : w.heap[bp]? = some (.cells #[.pointer (some ⟨bd, 0, none⟩), .int .i64 16, .slice none 0 0, .int .i64 0, .map (some bat)] 175)) :
    Calls Tryz.prog 145 #[.pointer (some ⟨bp, 0, none⟩)] w fun e w' =>
      ∃ bf l, e = .returned (.pointer (some ⟨bf, 0, none⟩)) ∧ w.heap.size ≤ bf ∧ w'.heap[bp]? = some (.cells #[.pointer (some ⟨bd, 0, none⟩), .int .i64 16, l, .int .i64 0, .map (some bat)] 175) ∧
        w'.heap[bf]? = some (.cells #[.int .i64 0, .slice none 0 0, .int .i64 0, .bool false, .bool false] 225) ∧ Off (· = bp) w w' := by
  have c1 : w.cell? ⟨bp, 1, none⟩ = some (.int .i64 16) := by unfold World.cell?; rw [h]; rfl
  have c2 : w.cell? ⟨bp, 2, none⟩ = some (.slice none 0 0) := by unfold World.cell?; rw [h]; rfl
  have f2 : w.frozen? ⟨bp, 2, none⟩ = false := by unfold World.frozen?; rw [h]; rfl
  have H := Lib.hid h
  have hlt : bp < w.heap.size := (Array.getElem?_eq_some_iff.1 h).1
  clear h
  go_enter Tryz.func145, Tryz.ntmps145
  go_wp2
  go_quiet (fail)
  obtain ⟨w1, hw1⟩ : ∃ w1, w1 = w.drewN nq := ⟨_, rfl⟩
  rw [← hw1]
  have c2' : w1.cell? ⟨bp, 2, none⟩ = some (.slice none 0 0) := by rw [hw1]; exact c2
  have f2' : w1.frozen? ⟨bp, 2, none⟩ = false := by rw [hw1]; exact f2
  have hlt' : bp < w1.heap.size := by rw [hw1]; exact hlt
  have hb' : Below w.heap.size w w1 := by rw [hw1]; exact ⟨rfl, rfl, rfl, Nat.le_refl _, fun _ _ => rfl⟩
  have HW := Lib.hid (And.intro hw1 hb')
  clear hw1 hb' c1 c2 f2 hlt
  have hl1 : bp < w1.heap.size + 1 := by omega
  have hl2 : bp < w1.heap.size + 1 + 1 := by omega
  have hl3 : bp < w1.heap.size + 1 + 1 + 1 := by omega
  go_wp2
  go_ret
  have hz := HW.out.2.size
  have hH : w1.heap[bp]? = some (.cells #[.pointer (some ⟨bd, 0, none⟩), .int .i64 16, .slice none 0 0, .int .i64 0, .map (some bat)] 175) := by rw [HW.out.1]; exact H.out
  have hset := heap_set (i := 2) (v := .slice (some ⟨w1.heap.size + 1 + 1, 0, none⟩) 1 ((Question.appendCap 1 0 222).cut (w1.tape w1.drawn (Question.appendCap 1 0 222)))) hH
  generalize hw2 : w1.setCell ⟨bp, 2, none⟩ (.slice (some ⟨w1.heap.size + 1 + 1, 0, none⟩) 1 ((Question.appendCap 1 0 222).cut (w1.tape w1.drawn (Question.appendCap 1 0 222)))) = w2 at *
  have hz2 : w2.heap.size = w1.heap.size := by rw [← hw2]; simp [World.setCell]
  have ho2 : ∀ k, k ≠ bp → w2.heap[k]? = w1.heap[k]? := fun k hk => by rw [← hw2]; exact Below.heap_setCell _ _ _ _ hk
  have hos : w2.os = w1.os ∧ w2.tape = w1.tape ∧ w2.output = w1.output := by rw [← hw2]; exact ⟨rfl, rfl, rfl⟩
  clear hw2
  refine ⟨w1.heap.size, _, rfl, hz, (Below.block (B := w2.heap.size) (w := w2) (by go_grown) bp (by omega)).trans hset, ?_, ?_⟩
  · rw [← hz2]
    exact (Below.block (B := w2.heap.size + 1) (w := w2.alloc (.cells #[.int .i64 0, .slice none 0 0, .int .i64 0, .bool false, .bool false] 225)) (by go_grown) w2.heap.size (by omega)).trans (hnew w2 _)
  · exact ⟨hos.1.trans HW.out.2.os, hos.2.1.trans HW.out.2.tape, hos.2.2.trans HW.out.2.output, by simp; omega, fun k hk hne => (Below.block (B := w2.heap.size) (w := w2) (by go_grown) k (by omega)).trans ((ho2 k hne).trans (HW.out.2.block k hk))⟩
end Go.Proofs.YtddddjpmeegedaaGreat
