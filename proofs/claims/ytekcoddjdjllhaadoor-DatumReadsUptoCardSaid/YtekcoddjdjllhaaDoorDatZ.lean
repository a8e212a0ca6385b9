/- Reading texts: datum.read, Parse. -/
import Derived.Test.YtekcoddjdjllhaaDoorDatY
namespace Go.Proofs.YtekcoddjdjllhaaDoor
open Go.RowKit

theorem da_items (d : Da) (a : Option Addr) (c : Nat) (h : d.l = []) : dv d.k d.n d.s a d.l.length c = dv d.k d.n d.s a 0 c := by rw [h]; rfl

set_option maxRecDepth 100000 in
set_option maxHeartbeats 2000000 in
theorem read_any (s : ByteArray) (w : World) (hs : s.size ≤ 4194304) (hG : Globs w) :
    Calls Tryd.prog 34 #[.string s] w (ReadPost w (readDa s)) := by
  by_cases h2 : 2 ≤ s.size ∧ isOpen s = true
  · obtain ⟨h2, ho⟩ := h2
    have h91 : s[0] = 91 := by rw [isOpen, head_at s (by omega)] at ho; simpa using ho
    by_cases hb : (s.toList == [91, 93]) = true
    · have HD := Lib.hid (show readDa s = ⟨3, 0, ⟨#[]⟩, []⟩ by rw [readDa, if_pos ⟨h2, ho⟩, if_pos hb])
      have hc := u8_beq _ _ h91 91 rfl
      have hc0 := u8_bne s[0] 39 (by rw [h91]; decide) 39 rfl
      have hh : 2 ≤ (s.size : Int) := by omega
      rw [HD.out]
      clear h91 ho
      go_enter Tryd.func34, Tryd.ntmps34
      go_wp2
      (try simp only [Exit.inBlock, Exit.then])
      refine bodyPost_ret (v := dv 3 0 ⟨#[]⟩ none 0 0) ?_ rfl ⟨none, 0, rfl, ⟨.inl rfl, by show In64 0; exact ⟨by omega, by omega⟩, by show 0 ≤ _; omega, by show 0 ≤ _; omega⟩, (by simp), ?_⟩
      · rw [results_cell1 rfl]
        go_simp
        try rfl
      · go_grown
    · replace hb : (s.toList == [91, 93]) = false := by simpa using hb
      exact read_list s w hs hG h2 h91 hb _ rfl _ (Lib.hid (by rw [readDa, if_pos ⟨h2, ho⟩, if_neg (by simp [hb])]))
  · refine (read_simple s w hs hG (fun h h' => h2 ⟨h, by rw [isOpen, h']; rfl⟩)).mono ?_
    rintro e w' ⟨rfl, hb⟩
    have hok := read1_ok s hs
    rw [readDa, if_neg h2]
    exact ⟨none, 0, rfl, ⟨.inl rfl, hok.2.2, by show 0 ≤ _; omega, hok.2.1⟩, (by simp), hb⟩

/-- Parse's answer. -/
def parseDa (s : ByteArray) : Option Da := if (readDa s).may = true ∧ (readDa s).text = s.data.toList then some (readDa s) else none
def ParsePost (w : World) (o : Option Da) (e : Ending) (w' : World) : Prop := ∃ a c, 
  (match o with
   | some d => e = .returned (.tuple #[dv d.k d.n d.s a d.l.length c, .int .i64 0]) ∧ DaIs w' d a
   | none => e = .returned (.tuple #[dv 0 0 ⟨#[]⟩ none 0 0, .int .i64 11])) ∧ Below w.heap.size w w'

set_option maxRecDepth 100000 in
set_option maxHeartbeats 2000000 in
theorem parse_any (s : ByteArray) (w : World) (hs : s.size ≤ 4194304) (hG : Globs w) :
    Calls Tryd.prog 16 #[.string s] w (ParsePost w (parseDa s)) := by
  generalize ho : parseDa s = o
  rw [parseDa] at ho
  generalize hd : readDa s = d at ho
  have HO := Lib.hid ho
  have HD := Lib.hid hd
  clear ho hd
  go_enter Tryd.func16, Tryd.ntmps16
  go_wp2_with fail
  refine (read_any s _ hs (hG.below (by go_grown))).mono ?_
  rintro e w1 ⟨a, c, rfl, hda, hab, hb1⟩
  rw [HD.out] at hda ⊢
  obtain ⟨hc1, hf1⟩ := bcell hb1
  simp only [World.size_alloc] at hc1 hf1
  have hz1 : w.heap.size < w1.heap.size := by have := hb1.size; simp at this; omega
  have hb01 : Below w.heap.size w w1 := ((Below.refl w.heap.size w).alloc (Nat.le_refl _) _).trans (hb1.mono (by simp))
  go_wp2_with fail
  refine (print_any d a c _ (hda.below (by go_grown)) ((hG.below hb01).below (by go_grown))).mono ?_
  rintro e w2 ⟨rfl, hb2⟩
  by_cases hm : d.may = true
  · rw [show printAns d = .tuple #[.string ⟨d.text.toArray⟩, .int .i64 0] by simp [printAns, hm]]
    by_cases ht : d.text = s.data.toList
    · have HC := Lib.hid (show d.may = true ∧ d.text = s.data.toList from ⟨hm, ht⟩)
      rw [show (⟨d.text.toArray⟩ : ByteArray) = s by rw [ht]]
      clear hm ht
      obtain ⟨hc2, hf2⟩ := bcell hb2
      simp only [World.size_alloc] at hc2 hf2
      have hz2 : w1.heap.size < w2.heap.size := by have := hb2.size; simp at this; omega
      have hb02 : Below w.heap.size w w2 := (hb01.alloc (by omega) _).trans (hb2.mono (by simp; omega))
      have e0 : w2.cell? ⟨w.heap.size, 0, none⟩ = some (.int .i64 0) := by rw [hc2 _ _ (by omega), (bcell ((Below.refl w1.heap.size w1).alloc (Nat.le_refl _) _)).1 _ _ (by omega), hc1 _ _ (by omega)]; go_simp
      have g0 : w2.frozen? ⟨w.heap.size, 0, none⟩ = false := by rw [hf2 _ _ (by omega), (bcell ((Below.refl w1.heap.size w1).alloc (Nat.le_refl _) _)).2 _ _ (by omega), hf1 _ _ (by omega)]; go_simp
      have e1 : w2.cell? ⟨w.heap.size, 1, none⟩ = some (.int .i64 0) := by rw [hc2 _ _ (by omega), (bcell ((Below.refl w1.heap.size w1).alloc (Nat.le_refl _) _)).1 _ _ (by omega), hc1 _ _ (by omega)]; go_simp
      have g1 : w2.frozen? ⟨w.heap.size, 1, none⟩ = false := by rw [hf2 _ _ (by omega), (bcell ((Below.refl w1.heap.size w1).alloc (Nat.le_refl _) _)).2 _ _ (by omega), hf1 _ _ (by omega)]; go_simp
      have e2 : w2.cell? ⟨w.heap.size, 2, none⟩ = some (.string ⟨#[]⟩) := by rw [hc2 _ _ (by omega), (bcell ((Below.refl w1.heap.size w1).alloc (Nat.le_refl _) _)).1 _ _ (by omega), hc1 _ _ (by omega)]; go_simp
      have g2 : w2.frozen? ⟨w.heap.size, 2, none⟩ = false := by rw [hf2 _ _ (by omega), (bcell ((Below.refl w1.heap.size w1).alloc (Nat.le_refl _) _)).2 _ _ (by omega), hf1 _ _ (by omega)]; go_simp
      have e3 : w2.cell? ⟨w.heap.size, 3, none⟩ = some (.slice none 0 0) := by rw [hc2 _ _ (by omega), (bcell ((Below.refl w1.heap.size w1).alloc (Nat.le_refl _) _)).1 _ _ (by omega), hc1 _ _ (by omega)]; go_simp
      have g3 : w2.frozen? ⟨w.heap.size, 3, none⟩ = false := by rw [hf2 _ _ (by omega), (bcell ((Below.refl w1.heap.size w1).alloc (Nat.le_refl _) _)).2 _ _ (by omega), hf1 _ _ (by omega)]; go_simp
      have d0 : w2.cell? ⟨w1.heap.size, 0, none⟩ = some (.int .i64 d.k) := by rw [hc2 _ _ (by omega)]; go_simp
      have d1 : w2.cell? ⟨w1.heap.size, 1, none⟩ = some (.int .i64 d.n) := by rw [hc2 _ _ (by omega)]; go_simp
      have d2 : w2.cell? ⟨w1.heap.size, 2, none⟩ = some (.string d.s) := by rw [hc2 _ _ (by omega)]; go_simp
      have d3 : w2.cell? ⟨w1.heap.size, 3, none⟩ = some (.slice a d.l.length c) := by rw [hc2 _ _ (by omega)]; go_simp
      clear hc1 hf1 hc2 hf2
      go_wp2
      (try simp only [Exit.inBlock, Exit.then])
      have ho := HO.out
      rw [if_pos HC.out] at ho
      subst ho
      refine bodyPost_ret (v := .tuple #[dv d.k d.n d.s a d.l.length c, .int .i64 0]) ?_ rfl ⟨a, c, ⟨rfl, ?_⟩, ?_⟩
      · rw [results_cell_tmp rfl]
        go_simp
        try rfl
      · have hR : ∀ b off, a = some ⟨b, off, none⟩ → b ≠ w.heap.size := fun b off e => by have := hab b off e; simp at this; omega
        have hb12 : Below w1.heap.size w1 w2 := ((Below.refl w1.heap.size w1).alloc (Nat.le_refl _) _).trans (hb2.mono (by simp))
        exact ⟨((((hda.row.below hb12).setCell ⟨w.heap.size, 0, none⟩ _ hR).setCell ⟨w.heap.size, 1, none⟩ _ hR).setCell ⟨w.heap.size, 2, none⟩ _ hR).setCell ⟨w.heap.size, 3, none⟩ _ hR, hda.n, hda.l, hda.s⟩
      · exact (((hb02.setCell (p := ⟨w.heap.size, 0, none⟩) (Nat.le_refl _) _).setCell (p := ⟨w.heap.size, 1, none⟩) (Nat.le_refl _) _).setCell (p := ⟨w.heap.size, 2, none⟩) (Nat.le_refl _) _).setCell (p := ⟨w.heap.size, 3, none⟩) (Nat.le_refl _) _
    · have HC := Lib.hid (show ¬ (d.may = true ∧ d.text = s.data.toList) from fun h => ht h.2)
      have htt : ((⟨d.text.toArray⟩ : ByteArray).toList == s.toList) = false := by
        rw [beq_eq_false_iff_ne, Lib.toList_data, Lib.toList_data]; exact ht
      generalize (⟨d.text.toArray⟩ : ByteArray) = T at htt
      clear hm ht
      obtain ⟨hc2, hf2⟩ := bcell hb2
      simp only [World.size_alloc] at hc2 hf2
      have hz2 : w1.heap.size < w2.heap.size := by have := hb2.size; simp at this; omega
      have hb02 : Below w.heap.size w w2 := (hb01.alloc (by omega) _).trans (hb2.mono (by simp; omega))
      have e0 : w2.cell? ⟨w.heap.size, 0, none⟩ = some (.int .i64 0) := by rw [hc2 _ _ (by omega), (bcell ((Below.refl w1.heap.size w1).alloc (Nat.le_refl _) _)).1 _ _ (by omega), hc1 _ _ (by omega)]; go_simp
      have g0 : w2.frozen? ⟨w.heap.size, 0, none⟩ = false := by rw [hf2 _ _ (by omega), (bcell ((Below.refl w1.heap.size w1).alloc (Nat.le_refl _) _)).2 _ _ (by omega), hf1 _ _ (by omega)]; go_simp
      have e1 : w2.cell? ⟨w.heap.size, 1, none⟩ = some (.int .i64 0) := by rw [hc2 _ _ (by omega), (bcell ((Below.refl w1.heap.size w1).alloc (Nat.le_refl _) _)).1 _ _ (by omega), hc1 _ _ (by omega)]; go_simp
      have g1 : w2.frozen? ⟨w.heap.size, 1, none⟩ = false := by rw [hf2 _ _ (by omega), (bcell ((Below.refl w1.heap.size w1).alloc (Nat.le_refl _) _)).2 _ _ (by omega), hf1 _ _ (by omega)]; go_simp
      have e2 : w2.cell? ⟨w.heap.size, 2, none⟩ = some (.string ⟨#[]⟩) := by rw [hc2 _ _ (by omega), (bcell ((Below.refl w1.heap.size w1).alloc (Nat.le_refl _) _)).1 _ _ (by omega), hc1 _ _ (by omega)]; go_simp
      have g2 : w2.frozen? ⟨w.heap.size, 2, none⟩ = false := by rw [hf2 _ _ (by omega), (bcell ((Below.refl w1.heap.size w1).alloc (Nat.le_refl _) _)).2 _ _ (by omega), hf1 _ _ (by omega)]; go_simp
      have e3 : w2.cell? ⟨w.heap.size, 3, none⟩ = some (.slice none 0 0) := by rw [hc2 _ _ (by omega), (bcell ((Below.refl w1.heap.size w1).alloc (Nat.le_refl _) _)).1 _ _ (by omega), hc1 _ _ (by omega)]; go_simp
      have g3 : w2.frozen? ⟨w.heap.size, 3, none⟩ = false := by rw [hf2 _ _ (by omega), (bcell ((Below.refl w1.heap.size w1).alloc (Nat.le_refl _) _)).2 _ _ (by omega), hf1 _ _ (by omega)]; go_simp
      have d0 : w2.cell? ⟨w1.heap.size, 0, none⟩ = some (.int .i64 d.k) := by rw [hc2 _ _ (by omega)]; go_simp
      have d1 : w2.cell? ⟨w1.heap.size, 1, none⟩ = some (.int .i64 d.n) := by rw [hc2 _ _ (by omega)]; go_simp
      have d2 : w2.cell? ⟨w1.heap.size, 2, none⟩ = some (.string d.s) := by rw [hc2 _ _ (by omega)]; go_simp
      have d3 : w2.cell? ⟨w1.heap.size, 3, none⟩ = some (.slice a d.l.length c) := by rw [hc2 _ _ (by omega)]; go_simp
      clear hc1 hf1 hc2 hf2 d0 d1 d2 d3
      go_wp2
      (try simp only [Exit.inBlock, Exit.then])
      have ho := HO.out
      rw [if_neg HC.out] at ho
      subst ho
      refine bodyPost_ret (v := .tuple #[dv 0 0 ⟨#[]⟩ none 0 0, .int .i64 11]) ?_ rfl ⟨none, 0, rfl, ?_⟩
      · rw [results_cell_tmp rfl]
        go_simp
        try rfl
      · exact (((hb02.setCell (p := ⟨w.heap.size, 0, none⟩) (Nat.le_refl _) _).setCell (p := ⟨w.heap.size, 1, none⟩) (Nat.le_refl _) _).setCell (p := ⟨w.heap.size, 2, none⟩) (Nat.le_refl _) _).setCell (p := ⟨w.heap.size, 3, none⟩) (Nat.le_refl _) _
  · rw [show printAns d = .tuple #[.string ⟨#[]⟩, .int .i64 11] by simp [printAns, hm]]
    have HC := Lib.hid (show ¬ (d.may = true ∧ d.text = s.data.toList) from fun h => hm h.1)
    clear hm
    obtain ⟨hc2, hf2⟩ := bcell hb2
    simp only [World.size_alloc] at hc2 hf2
    have hz2 : w1.heap.size < w2.heap.size := by have := hb2.size; simp at this; omega
    have hb02 : Below w.heap.size w w2 := (hb01.alloc (by omega) _).trans (hb2.mono (by simp; omega))
    have e0 : w2.cell? ⟨w.heap.size, 0, none⟩ = some (.int .i64 0) := by rw [hc2 _ _ (by omega), (bcell ((Below.refl w1.heap.size w1).alloc (Nat.le_refl _) _)).1 _ _ (by omega), hc1 _ _ (by omega)]; go_simp
    have g0 : w2.frozen? ⟨w.heap.size, 0, none⟩ = false := by rw [hf2 _ _ (by omega), (bcell ((Below.refl w1.heap.size w1).alloc (Nat.le_refl _) _)).2 _ _ (by omega), hf1 _ _ (by omega)]; go_simp
    have e1 : w2.cell? ⟨w.heap.size, 1, none⟩ = some (.int .i64 0) := by rw [hc2 _ _ (by omega), (bcell ((Below.refl w1.heap.size w1).alloc (Nat.le_refl _) _)).1 _ _ (by omega), hc1 _ _ (by omega)]; go_simp
    have g1 : w2.frozen? ⟨w.heap.size, 1, none⟩ = false := by rw [hf2 _ _ (by omega), (bcell ((Below.refl w1.heap.size w1).alloc (Nat.le_refl _) _)).2 _ _ (by omega), hf1 _ _ (by omega)]; go_simp
    have e2 : w2.cell? ⟨w.heap.size, 2, none⟩ = some (.string ⟨#[]⟩) := by rw [hc2 _ _ (by omega), (bcell ((Below.refl w1.heap.size w1).alloc (Nat.le_refl _) _)).1 _ _ (by omega), hc1 _ _ (by omega)]; go_simp
    have g2 : w2.frozen? ⟨w.heap.size, 2, none⟩ = false := by rw [hf2 _ _ (by omega), (bcell ((Below.refl w1.heap.size w1).alloc (Nat.le_refl _) _)).2 _ _ (by omega), hf1 _ _ (by omega)]; go_simp
    have e3 : w2.cell? ⟨w.heap.size, 3, none⟩ = some (.slice none 0 0) := by rw [hc2 _ _ (by omega), (bcell ((Below.refl w1.heap.size w1).alloc (Nat.le_refl _) _)).1 _ _ (by omega), hc1 _ _ (by omega)]; go_simp
    have g3 : w2.frozen? ⟨w.heap.size, 3, none⟩ = false := by rw [hf2 _ _ (by omega), (bcell ((Below.refl w1.heap.size w1).alloc (Nat.le_refl _) _)).2 _ _ (by omega), hf1 _ _ (by omega)]; go_simp
    have d0 : w2.cell? ⟨w1.heap.size, 0, none⟩ = some (.int .i64 d.k) := by rw [hc2 _ _ (by omega)]; go_simp
    have d1 : w2.cell? ⟨w1.heap.size, 1, none⟩ = some (.int .i64 d.n) := by rw [hc2 _ _ (by omega)]; go_simp
    have d2 : w2.cell? ⟨w1.heap.size, 2, none⟩ = some (.string d.s) := by rw [hc2 _ _ (by omega)]; go_simp
    have d3 : w2.cell? ⟨w1.heap.size, 3, none⟩ = some (.slice a d.l.length c) := by rw [hc2 _ _ (by omega)]; go_simp
    clear hc1 hf1 hc2 hf2 d0 d1 d2 d3
    go_wp2
    (try simp only [Exit.inBlock, Exit.then])
    have ho := HO.out
    rw [if_neg HC.out] at ho
    subst ho
    refine bodyPost_ret (v := .tuple #[dv 0 0 ⟨#[]⟩ none 0 0, .int .i64 11]) ?_ rfl ⟨none, 0, rfl, ?_⟩
    · rw [results_cell_tmp rfl]
      go_simp
      try rfl
    · exact (((hb02.setCell (p := ⟨w.heap.size, 0, none⟩) (Nat.le_refl _) _).setCell (p := ⟨w.heap.size, 1, none⟩) (Nat.le_refl _) _).setCell (p := ⟨w.heap.size, 2, none⟩) (Nat.le_refl _) _).setCell (p := ⟨w.heap.size, 3, none⟩) (Nat.le_refl _) _
end Go.Proofs.YtekcoddjdjllhaaDoor
