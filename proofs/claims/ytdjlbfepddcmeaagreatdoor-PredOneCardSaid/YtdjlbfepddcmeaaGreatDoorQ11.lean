/- Reading texts: datum.read, Parse. The reference's bytes; hashes. vestibulelaw01.DatumBytes: the walk. Calls of Compare; boxed data. The calls of a datum law, each by its answer. A row's bytes: the program's heap.Bytes and the reference's. A row's bytes: the reference's; rows of columns. -/
import Derived.Test.YtdjlbfepddcmeaaGreatDoorQ10
import Derived.Test.YtdjlbfepddcmeaaGreatDoorQ02
import Derived.Test.YtdjlbfepddcmeaaGreatDoorQ03
import Derived.Test.YtdjlbfepddcmeaaGreatDoorQ07
import Derived.Test.YtdjlbfepddcmeaaGreatDoorQ08
set_option linter.unusedVariables false
set_option linter.unusedSimpArgs false
namespace Go.Proofs.YtdjlbfepddcmeaaGreatDoor
open Go.RowKit

theorem da_items (d : Da) (a : Option Addr) (c : Nat) (h : d.l = []) : dv d.k d.n d.s a d.l.length c = dv d.k d.n d.s a 0 c := by rw [h]; rfl

set_option maxRecDepth 100000 in
set_option maxHeartbeats 2000000 in
theorem read_any (s : ByteArray) (w : World) (hs : s.size ≤ 4194304) (hG : Globs w) :
    Calls Tryz.prog 98 #[.string s] w (ReadPost w (readDa s)) := by
  by_cases h2 : 2 ≤ s.size ∧ isOpen s = true
  · obtain ⟨h2, ho⟩ := h2
    have h91 : s[0] = 91 := by rw [isOpen, head_at s (by omega)] at ho; simpa using ho
    by_cases hb : (s.toList == [91, 93]) = true
    · have HD := Lib.hid (show readDa s = ⟨3, 0, ⟨#[]⟩, []⟩ by rw [readDa, if_pos ⟨h2, ho⟩, if_pos hb])
      have hc := u8_beq _ _ h91 91 rfl
      have hc0 := u8_bne s[0] 39 (by rw [h91]; decide) 39 rfl
      have hh : 2 ≤ (s.size : Int) := by omega
      rw [HD.out]
      clear h91 ho
      go_enter Tryz.func98, Tryz.ntmps98
      go_wp2
      (try simp only [Exit.inBlock, Exit.then])
      refine bodyPost_ret (v := dv 3 0 ⟨#[]⟩ none 0 0) ?_ rfl ⟨none, 0, rfl, ⟨.inl rfl, by show In64 0; exact ⟨by omega, by omega⟩, by show 0 ≤ _; omega, by show 0 ≤ _; omega⟩, (by simp), ?_⟩
      · rw [results_cell1 rfl]
        go_simp
        try rfl
      · go_grown
    · replace hb : (s.toList == [91, 93]) = false := by simpa using hb
      exact read_list s w hs hG h2 h91 hb _ rfl _ (Lib.hid (by rw [readDa, if_pos ⟨h2, ho⟩, if_neg (by simp [hb])]))
  · refine (read_simple s w hs hG (fun h h' => h2 ⟨h, by rw [isOpen, h']; rfl⟩)).mono ?_
    rintro e w' ⟨rfl, hb⟩
    have hok := read1_ok s hs
    rw [readDa, if_neg h2]
    exact ⟨none, 0, rfl, ⟨.inl rfl, hok.2.2, by show 0 ≤ _; omega, hok.2.1⟩, (by simp), hb⟩

/-- Parse's answer. -/
def parseDa (s : ByteArray) : Option Da := if (readDa s).may = true ∧ (readDa s).text = s.data.toList then some (readDa s) else none
def ParsePost (w : World) (o : Option Da) (e : Ending) (w' : World) : Prop := ∃ a c, 
  (match o with
   | some d => e = .returned (.tuple #[dv d.k d.n d.s a d.l.length c, .int .i64 0]) ∧ DaIs w' d a
   | none => e = .returned (.tuple #[dv 0 0 ⟨#[]⟩ none 0 0, .int .i64 11])) ∧ Below w.heap.size w w'

set_option maxRecDepth 100000 in
set_option maxHeartbeats 2000000 in
theorem parse_any (s : ByteArray) (w : World) (hs : s.size ≤ 4194304) (hG : Globs w) :
    Calls Tryz.prog 90 #[.string s] w (ParsePost w (parseDa s)) := by
  generalize ho : parseDa s = o
  rw [parseDa] at ho
  generalize hd : readDa s = d at ho
  have HO := Lib.hid ho
  have HD := Lib.hid hd
  clear ho hd
  go_enter Tryz.func90, Tryz.ntmps90
  go_wp2_with fail
  refine (read_any s _ hs (hG.below (by go_grown))).mono ?_
  rintro e w1 ⟨a, c, rfl, hda, hab, hb1⟩
  rw [HD.out] at hda ⊢
  obtain ⟨hc1, hf1⟩ := bcell hb1
  simp only [World.size_alloc] at hc1 hf1
  have hz1 : w.heap.size < w1.heap.size := by have := hb1.size; simp at this; omega
  have hb01 : Below w.heap.size w w1 := ((Below.refl w.heap.size w).alloc (Nat.le_refl _) _).trans (hb1.mono (by simp))
  go_wp2_with fail
  refine (print_any d a c _ (hda.below (by go_grown)) ((hG.below hb01).below (by go_grown))).mono ?_
  rintro e w2 ⟨rfl, hb2⟩
  by_cases hm : d.may = true
  · rw [show printAns d = .tuple #[.string ⟨d.text.toArray⟩, .int .i64 0] by simp [printAns, hm]]
    by_cases ht : d.text = s.data.toList
    · have HC := Lib.hid (show d.may = true ∧ d.text = s.data.toList from ⟨hm, ht⟩)
      rw [show (⟨d.text.toArray⟩ : ByteArray) = s by rw [ht]]
      clear hm ht
      obtain ⟨hc2, hf2⟩ := bcell hb2
      simp only [World.size_alloc] at hc2 hf2
      have hz2 : w1.heap.size < w2.heap.size := by have := hb2.size; simp at this; omega
      have hb02 : Below w.heap.size w w2 := (hb01.alloc (by omega) _).trans (hb2.mono (by simp; omega))
      have e0 : w2.cell? ⟨w.heap.size, 0, none⟩ = some (.int .i64 0) := by rw [hc2 _ _ (by omega), (bcell ((Below.refl w1.heap.size w1).alloc (Nat.le_refl _) _)).1 _ _ (by omega), hc1 _ _ (by omega)]; go_simp
      have g0 : w2.frozen? ⟨w.heap.size, 0, none⟩ = false := by rw [hf2 _ _ (by omega), (bcell ((Below.refl w1.heap.size w1).alloc (Nat.le_refl _) _)).2 _ _ (by omega), hf1 _ _ (by omega)]; go_simp
      have e1 : w2.cell? ⟨w.heap.size, 1, none⟩ = some (.int .i64 0) := by rw [hc2 _ _ (by omega), (bcell ((Below.refl w1.heap.size w1).alloc (Nat.le_refl _) _)).1 _ _ (by omega), hc1 _ _ (by omega)]; go_simp
      have g1 : w2.frozen? ⟨w.heap.size, 1, none⟩ = false := by rw [hf2 _ _ (by omega), (bcell ((Below.refl w1.heap.size w1).alloc (Nat.le_refl _) _)).2 _ _ (by omega), hf1 _ _ (by omega)]; go_simp
      have e2 : w2.cell? ⟨w.heap.size, 2, none⟩ = some (.string ⟨#[]⟩) := by rw [hc2 _ _ (by omega), (bcell ((Below.refl w1.heap.size w1).alloc (Nat.le_refl _) _)).1 _ _ (by omega), hc1 _ _ (by omega)]; go_simp
      have g2 : w2.frozen? ⟨w.heap.size, 2, none⟩ = false := by rw [hf2 _ _ (by omega), (bcell ((Below.refl w1.heap.size w1).alloc (Nat.le_refl _) _)).2 _ _ (by omega), hf1 _ _ (by omega)]; go_simp
      have e3 : w2.cell? ⟨w.heap.size, 3, none⟩ = some (.slice none 0 0) := by rw [hc2 _ _ (by omega), (bcell ((Below.refl w1.heap.size w1).alloc (Nat.le_refl _) _)).1 _ _ (by omega), hc1 _ _ (by omega)]; go_simp
      have g3 : w2.frozen? ⟨w.heap.size, 3, none⟩ = false := by rw [hf2 _ _ (by omega), (bcell ((Below.refl w1.heap.size w1).alloc (Nat.le_refl _) _)).2 _ _ (by omega), hf1 _ _ (by omega)]; go_simp
      have d0 : w2.cell? ⟨w1.heap.size, 0, none⟩ = some (.int .i64 d.k) := by rw [hc2 _ _ (by omega)]; go_simp
      have d1 : w2.cell? ⟨w1.heap.size, 1, none⟩ = some (.int .i64 d.n) := by rw [hc2 _ _ (by omega)]; go_simp
      have d2 : w2.cell? ⟨w1.heap.size, 2, none⟩ = some (.string d.s) := by rw [hc2 _ _ (by omega)]; go_simp
      have d3 : w2.cell? ⟨w1.heap.size, 3, none⟩ = some (.slice a d.l.length c) := by rw [hc2 _ _ (by omega)]; go_simp
      clear hc1 hf1 hc2 hf2
      go_wp2
      (try simp only [Exit.inBlock, Exit.then])
      have ho := HO.out
      rw [if_pos HC.out] at ho
      subst ho
      refine bodyPost_ret (v := .tuple #[dv d.k d.n d.s a d.l.length c, .int .i64 0]) ?_ rfl ⟨a, c, ⟨rfl, ?_⟩, ?_⟩
      · rw [results_cell_tmp rfl]
        go_simp
        try rfl
      · have hR : ∀ b off, a = some ⟨b, off, none⟩ → b ≠ w.heap.size := fun b off e => by have := hab b off e; simp at this; omega
        have hb12 : Below w1.heap.size w1 w2 := ((Below.refl w1.heap.size w1).alloc (Nat.le_refl _) _).trans (hb2.mono (by simp))
        exact ⟨((((hda.row.below hb12).setCell ⟨w.heap.size, 0, none⟩ _ hR).setCell ⟨w.heap.size, 1, none⟩ _ hR).setCell ⟨w.heap.size, 2, none⟩ _ hR).setCell ⟨w.heap.size, 3, none⟩ _ hR, hda.n, hda.l, hda.s⟩
      · exact (((hb02.setCell (p := ⟨w.heap.size, 0, none⟩) (Nat.le_refl _) _).setCell (p := ⟨w.heap.size, 1, none⟩) (Nat.le_refl _) _).setCell (p := ⟨w.heap.size, 2, none⟩) (Nat.le_refl _) _).setCell (p := ⟨w.heap.size, 3, none⟩) (Nat.le_refl _) _
    · have HC := Lib.hid (show ¬ (d.may = true ∧ d.text = s.data.toList) from fun h => ht h.2)
      have htt : ((⟨d.text.toArray⟩ : ByteArray).toList == s.toList) = false := by
        rw [beq_eq_false_iff_ne, Lib.toList_data, Lib.toList_data]; exact ht
      generalize (⟨d.text.toArray⟩ : ByteArray) = T at htt
      clear hm ht
      obtain ⟨hc2, hf2⟩ := bcell hb2
      simp only [World.size_alloc] at hc2 hf2
      have hz2 : w1.heap.size < w2.heap.size := by have := hb2.size; simp at this; omega
      have hb02 : Below w.heap.size w w2 := (hb01.alloc (by omega) _).trans (hb2.mono (by simp; omega))
      have e0 : w2.cell? ⟨w.heap.size, 0, none⟩ = some (.int .i64 0) := by rw [hc2 _ _ (by omega), (bcell ((Below.refl w1.heap.size w1).alloc (Nat.le_refl _) _)).1 _ _ (by omega), hc1 _ _ (by omega)]; go_simp
      have g0 : w2.frozen? ⟨w.heap.size, 0, none⟩ = false := by rw [hf2 _ _ (by omega), (bcell ((Below.refl w1.heap.size w1).alloc (Nat.le_refl _) _)).2 _ _ (by omega), hf1 _ _ (by omega)]; go_simp
      have e1 : w2.cell? ⟨w.heap.size, 1, none⟩ = some (.int .i64 0) := by rw [hc2 _ _ (by omega), (bcell ((Below.refl w1.heap.size w1).alloc (Nat.le_refl _) _)).1 _ _ (by omega), hc1 _ _ (by omega)]; go_simp
      have g1 : w2.frozen? ⟨w.heap.size, 1, none⟩ = false := by rw [hf2 _ _ (by omega), (bcell ((Below.refl w1.heap.size w1).alloc (Nat.le_refl _) _)).2 _ _ (by omega), hf1 _ _ (by omega)]; go_simp
      have e2 : w2.cell? ⟨w.heap.size, 2, none⟩ = some (.string ⟨#[]⟩) := by rw [hc2 _ _ (by omega), (bcell ((Below.refl w1.heap.size w1).alloc (Nat.le_refl _) _)).1 _ _ (by omega), hc1 _ _ (by omega)]; go_simp
      have g2 : w2.frozen? ⟨w.heap.size, 2, none⟩ = false := by rw [hf2 _ _ (by omega), (bcell ((Below.refl w1.heap.size w1).alloc (Nat.le_refl _) _)).2 _ _ (by omega), hf1 _ _ (by omega)]; go_simp
      have e3 : w2.cell? ⟨w.heap.size, 3, none⟩ = some (.slice none 0 0) := by rw [hc2 _ _ (by omega), (bcell ((Below.refl w1.heap.size w1).alloc (Nat.le_refl _) _)).1 _ _ (by omega), hc1 _ _ (by omega)]; go_simp
      have g3 : w2.frozen? ⟨w.heap.size, 3, none⟩ = false := by rw [hf2 _ _ (by omega), (bcell ((Below.refl w1.heap.size w1).alloc (Nat.le_refl _) _)).2 _ _ (by omega), hf1 _ _ (by omega)]; go_simp
      have d0 : w2.cell? ⟨w1.heap.size, 0, none⟩ = some (.int .i64 d.k) := by rw [hc2 _ _ (by omega)]; go_simp
      have d1 : w2.cell? ⟨w1.heap.size, 1, none⟩ = some (.int .i64 d.n) := by rw [hc2 _ _ (by omega)]; go_simp
      have d2 : w2.cell? ⟨w1.heap.size, 2, none⟩ = some (.string d.s) := by rw [hc2 _ _ (by omega)]; go_simp
      have d3 : w2.cell? ⟨w1.heap.size, 3, none⟩ = some (.slice a d.l.length c) := by rw [hc2 _ _ (by omega)]; go_simp
      clear hc1 hf1 hc2 hf2 d0 d1 d2 d3
      go_wp2
      (try simp only [Exit.inBlock, Exit.then])
      have ho := HO.out
      rw [if_neg HC.out] at ho
      subst ho
      refine bodyPost_ret (v := .tuple #[dv 0 0 ⟨#[]⟩ none 0 0, .int .i64 11]) ?_ rfl ⟨none, 0, rfl, ?_⟩
      · rw [results_cell_tmp rfl]
        go_simp
        try rfl
      · exact (((hb02.setCell (p := ⟨w.heap.size, 0, none⟩) (Nat.le_refl _) _).setCell (p := ⟨w.heap.size, 1, none⟩) (Nat.le_refl _) _).setCell (p := ⟨w.heap.size, 2, none⟩) (Nat.le_refl _) _).setCell (p := ⟨w.heap.size, 3, none⟩) (Nat.le_refl _) _
  · rw [show printAns d = .tuple #[.string ⟨#[]⟩, .int .i64 11] by simp [printAns, hm]]
    have HC := Lib.hid (show ¬ (d.may = true ∧ d.text = s.data.toList) from fun h => hm h.1)
    clear hm
    obtain ⟨hc2, hf2⟩ := bcell hb2
    simp only [World.size_alloc] at hc2 hf2
    have hz2 : w1.heap.size < w2.heap.size := by have := hb2.size; simp at this; omega
    have hb02 : Below w.heap.size w w2 := (hb01.alloc (by omega) _).trans (hb2.mono (by simp; omega))
    have e0 : w2.cell? ⟨w.heap.size, 0, none⟩ = some (.int .i64 0) := by rw [hc2 _ _ (by omega), (bcell ((Below.refl w1.heap.size w1).alloc (Nat.le_refl _) _)).1 _ _ (by omega), hc1 _ _ (by omega)]; go_simp
    have g0 : w2.frozen? ⟨w.heap.size, 0, none⟩ = false := by rw [hf2 _ _ (by omega), (bcell ((Below.refl w1.heap.size w1).alloc (Nat.le_refl _) _)).2 _ _ (by omega), hf1 _ _ (by omega)]; go_simp
    have e1 : w2.cell? ⟨w.heap.size, 1, none⟩ = some (.int .i64 0) := by rw [hc2 _ _ (by omega), (bcell ((Below.refl w1.heap.size w1).alloc (Nat.le_refl _) _)).1 _ _ (by omega), hc1 _ _ (by omega)]; go_simp
    have g1 : w2.frozen? ⟨w.heap.size, 1, none⟩ = false := by rw [hf2 _ _ (by omega), (bcell ((Below.refl w1.heap.size w1).alloc (Nat.le_refl _) _)).2 _ _ (by omega), hf1 _ _ (by omega)]; go_simp
    have e2 : w2.cell? ⟨w.heap.size, 2, none⟩ = some (.string ⟨#[]⟩) := by rw [hc2 _ _ (by omega), (bcell ((Below.refl w1.heap.size w1).alloc (Nat.le_refl _) _)).1 _ _ (by omega), hc1 _ _ (by omega)]; go_simp
    have g2 : w2.frozen? ⟨w.heap.size, 2, none⟩ = false := by rw [hf2 _ _ (by omega), (bcell ((Below.refl w1.heap.size w1).alloc (Nat.le_refl _) _)).2 _ _ (by omega), hf1 _ _ (by omega)]; go_simp
    have e3 : w2.cell? ⟨w.heap.size, 3, none⟩ = some (.slice none 0 0) := by rw [hc2 _ _ (by omega), (bcell ((Below.refl w1.heap.size w1).alloc (Nat.le_refl _) _)).1 _ _ (by omega), hc1 _ _ (by omega)]; go_simp
    have g3 : w2.frozen? ⟨w.heap.size, 3, none⟩ = false := by rw [hf2 _ _ (by omega), (bcell ((Below.refl w1.heap.size w1).alloc (Nat.le_refl _) _)).2 _ _ (by omega), hf1 _ _ (by omega)]; go_simp
    have d0 : w2.cell? ⟨w1.heap.size, 0, none⟩ = some (.int .i64 d.k) := by rw [hc2 _ _ (by omega)]; go_simp
    have d1 : w2.cell? ⟨w1.heap.size, 1, none⟩ = some (.int .i64 d.n) := by rw [hc2 _ _ (by omega)]; go_simp
    have d2 : w2.cell? ⟨w1.heap.size, 2, none⟩ = some (.string d.s) := by rw [hc2 _ _ (by omega)]; go_simp
    have d3 : w2.cell? ⟨w1.heap.size, 3, none⟩ = some (.slice a d.l.length c) := by rw [hc2 _ _ (by omega)]; go_simp
    clear hc1 hf1 hc2 hf2 d0 d1 d2 d3
    go_wp2
    (try simp only [Exit.inBlock, Exit.then])
    have ho := HO.out
    rw [if_neg HC.out] at ho
    subst ho
    refine bodyPost_ret (v := .tuple #[dv 0 0 ⟨#[]⟩ none 0 0, .int .i64 11]) ?_ rfl ⟨none, 0, rfl, ?_⟩
    · rw [results_cell_tmp rfl]
      go_simp
      try rfl
    · exact (((hb02.setCell (p := ⟨w.heap.size, 0, none⟩) (Nat.le_refl _) _).setCell (p := ⟨w.heap.size, 1, none⟩) (Nat.le_refl _) _).setCell (p := ⟨w.heap.size, 2, none⟩) (Nat.le_refl _) _).setCell (p := ⟨w.heap.size, 3, none⟩) (Nat.le_refl _) _
end Go.Proofs.YtdjlbfepddcmeaaGreatDoor

namespace Go.Proofs.YtdjlbfepddcmeaaGreatDoor
open Go.RowKit

theorem Buf.built2 (W : World) (B : Nat) (hB : B ≤ W.heap.size) (x y : UInt8) : Buf (W.alloc (.cells #[.int .u8 x.toNat, .int .u8 y.toNat] 5)) B (.slice (some ⟨W.heap.size, 0, none⟩) 2 2) [x, y] := by
  refine ⟨rfl, .inr ⟨W.heap.size, 2, #[.int .u8 x.toNat, .int .u8 y.toNat], rfl, hB, heap_alloc_new W _, Nat.le_refl _, by unfold maxLen; omega, rfl, rfl⟩⟩

set_option maxRecDepth 100000 in
set_option maxHeartbeats 2000000 in
theorem encoded_list (L : List It) (a : Option Addr) (c : Nat) (w : World) (h8 : L.length ≤ 8) (hm : ∀ j (hj : j < L.length), L[j].may = true) (hr : RowIs w a L) :
    Calls Tryz.prog 82 #[dv 3 0 ⟨#[]⟩ a L.length c] w fun e w' => e = .returned (.string ⟨([3, UInt8.ofNat L.length] ++ L.flatMap It.enc).toArray⟩) ∧ Below w.heap.size w w' := by
  have hx' : (L.length : Int) = ((UInt8.ofNat L.length).toNat : Int) := by
    rw [UInt8.toNat_ofNat']; omega
  have HX := Lib.hid hx'
  clear hx'
  have hb0 := Buf.built2 (w.alloc (.cells #[.int .i64 3, .int .i64 0, .string ⟨#[]⟩, .slice a L.length c] 24)) (w.heap.size + 1) (by simp) 3 (UInt8.ofNat L.length)
  have HB0 := Lib.hid hb0
  clear hb0
  go_enter Tryz.func82, Tryz.ntmps82
  go_wp2
  go_loopw [3, 4] (fun o k wr => ∃ j : Nat, j ≤ L.length ∧ k = .int .i64 j ∧ Buf wr (w.heap.size + 1) o ([3, UInt8.ofNat L.length] ++ (L.take j).flatMap It.enc) ∧ wr.heap[w.heap.size]? = some (.cells #[.int .i64 3, .int .i64 0, .string ⟨#[]⟩, .slice a L.length c] 24 (0, 0)) ∧ Below w.heap.size w wr ∧ w.heap.size + 1 ≤ wr.heap.size) (fun _ k _ => L.length - (intOf k).toNat)
  case atStart => 
    refine ⟨0, Nat.zero_le _, rfl, ?_, ?_, ?_, by simp⟩
    · have := HB0.out
      rw [← HX.out] at this
      simpa using this
    · rw [heap_alloc_old _ _ (by simp)]; exact heap_alloc_new w _
    · exact ((Below.refl w.heap.size w).alloc (Nat.le_refl _) _).alloc (by simp) _
  case round =>
    obtain ⟨j, hj, rfl, hb2, hk2, hbl2, hz2⟩ := hrel
    have hcL : wr.cell? ⟨w.heap.size, 3, none⟩ = some (.slice a L.length c) := by rw [Lib.cell_of_heap hk2]; rfl
    by_cases hlt : j < L.length
    · obtain ⟨b, off, a', c', rfl, g0, g1, g2, g3, _, _, hn⟩ := (hr.below hbl2).at_ j hlt
      have hm' : simpleB L[j].k L[j].n L[j].s L[j].ln = true := hm j hlt
      have HL := items_len L hm j
      go_wp2_with fail
      refine (put_simple L[j].k L[j].n L[j].s a' L[j].ln c' (w.heap.size + 1) u3 ([3, UInt8.ofNat L.length] ++ (L.take j).flatMap It.enc) _ hm' hn hb2 hz2 (by simp only [List.length_append, List.length_cons, List.length_nil]; omega)).mono ?_
      rintro e w3 ⟨v3, rfl, hb3, hbl3⟩
      have hz3 := hbl3.size
      go_wp2
      go_roundw
      case rel => exact ⟨j + 1, by omega, by go_num, items_step hlt hb3, by rw [hbl3.block _ (by omega)]; exact hk2, hbl2.trans (hbl3.mono (by omega)), by omega⟩
      case measure => simp [intOf]; omega
    · have hs2 := hb2.string
      rw [List.take_of_length_le (by omega)] at hs2
      go_wp2
      go_ret
      exact ⟨rfl, hbl2⟩

set_option maxRecDepth 100000 in
theorem encoded_any (d : Da) (a : Option Addr) (c : Nat) (w : World) (hm : d.may = true) (hn : In64 d.n) (hr : RowIs w a d.l) :
    Calls Tryz.prog 82 #[dv d.k d.n d.s a d.l.length c] w fun e w' => e = .returned (.string ⟨d.enc.toArray⟩) ∧ Below w.heap.size w w' := by
  by_cases h3 : d.k = 3
  · obtain ⟨h0, hs, h8, hit⟩ := may_items hm h3
    have := encoded_list d.l a c w h8 hit hr
    simpa [Da.enc, h3, h0, hs] using this
  · have hm' : simpleB d.k d.n d.s d.l.length = true := by simpa [Da.may, h3] using hm
    have HE := Lib.hid (show d.enc = enc1 d.k d.n d.s by simp [Da.enc, h3])
    have hk : (d.k != 3) = true := by simpa using h3
    go_enter Tryz.func82, Tryz.ntmps82
    go_wp2_with fail
    refine (put_simple d.k d.n d.s a d.l.length c (w.heap.size + 1) (.slice none 0 0) [] _ hm' hn (Buf.nil _ _) (by simp) (by simp)).mono ?_
    rintro e w2 ⟨v2, rfl, hb2, hbl2⟩
    have hs2 := hb2.string
    go_wp2
    go_ret
    exact ⟨ret_str (by rw [HE.out]), ((Below.refl w.heap.size w).alloc (Nat.le_refl _) _).trans (hbl2.mono (by omega))⟩

set_option maxRecDepth 100000 in
theorem rbytes_any (d : Da) (a : Option Addr) (c : Nat) (w : World) (hd : DaIs w d a) :
    Calls Tryz.prog 69 #[dv d.k d.n d.s a d.l.length c] w fun e w' => e = .returned (bytesAns d) ∧ Below w.heap.size w w' := by
  by_cases hm : d.may = true
  · have HA := Lib.hid (show bytesAns d = .tuple #[.string ⟨d.enc.toArray⟩, .int .i64 0] by simp [bytesAns, hm])
    go_enter Tryz.func69, Tryz.ntmps69
    go_wp2_with fail
    refine (rmay_any d a c _ (hd.row.below (by go_grown)) hd.s hd.l).mono ?_
    rintro e w1 ⟨rfl, hb1⟩
    obtain ⟨hc1, hf1⟩ := bcell hb1
    simp only [World.size_alloc] at hc1 hf1
    have hz1 : w.heap.size < w1.heap.size := by have := hb1.size; simp at this; omega
    have hb01 : Below w.heap.size w w1 := ((Below.refl w.heap.size w).alloc (Nat.le_refl _) _).trans (hb1.mono (by simp))
    have HM := Lib.hid hm
    go_wp2_with fail
    refine (encoded_any d a c _ HM.out hd.n (hd.row.below hb01)).mono ?_
    rintro e w2 ⟨rfl, hb2⟩
    go_wp2
    go_ret2
    exact ⟨ret_val HA.out.symm, hb01.trans (hb2.mono (by omega))⟩
  · have HA := Lib.hid (show bytesAns d = .tuple #[.string ⟨#[]⟩, .int .i64 11] by simp [bytesAns, hm])
    go_enter Tryz.func69, Tryz.ntmps69
    go_wp2_with fail
    refine (rmay_any d a c _ (hd.row.below (by go_grown)) hd.s hd.l).mono ?_
    rintro e w1 ⟨rfl, hb1⟩
    go_wp2
    go_ret2
    exact ⟨ret_val HA.out.symm, ((Below.refl w.heap.size w).alloc (Nat.le_refl _) _).trans (hb1.mono (by simp))⟩

/-- The hash of bytes. -/
def hashStep (h : Nat) (b : UInt8) : Nat := ((h ^^^ b.toNat) * 16777619) % 4294967296
def hashF (h : Nat) : List UInt8 → Nat
  | [] => h
  | b :: l => hashF (hashStep h b) l
theorem hashF_append (l m : List UInt8) (h : Nat) : hashF h (l ++ m) = hashF (hashF h l) m := by
  induction l generalizing h with
  | nil => rfl
  | cons b l ih => exact ih _
theorem hashStep_lt (h : Nat) (b : UInt8) : hashStep h b < 4294967296 := Nat.mod_lt _ (by decide)
theorem hashF_lt (l : List UInt8) (h : Nat) (hh : h < 4294967296) : hashF h l < 4294967296 := by
  induction l generalizing h with
  | nil => exact hh
  | cons b l ih => exact ih _ (hashStep_lt h b)
/-- The hash of bytes. -/
def hashL (l : List UInt8) : Nat := hashF 2166136261 l
theorem hashL_snoc (l : List UInt8) (b : UInt8) : hashL (l ++ [b]) = hashStep (hashL l) b := hashF_append l [b] _
theorem hashL_lt (l : List UInt8) : hashL l < 4294967296 := hashF_lt l _ (by omega)
theorem hashL_nil : ((hashL [] : Nat) : Int) = 2166136261 := by unfold hashL hashF; omega

theorem step_u32 (h : Nat) (hh : h < 4294967296) (b : UInt8) : (bits .xor .u32 (h : Int) ((b.toNat : Int) % 4294967296) * 16777619) % 4294967296 = ((hashStep h b : Nat) : Int) := by
  have hb := b.toNat_lt
  rw [show ((b.toNat : Int) % 4294967296) = (b.toNat : Int) from by omega]
  rw [u32_xor_nat h b.toNat hh (by omega)]
  unfold hashStep
  omega

theorem i64_xor_small (a b : Nat) (ha : a < 4294967296) (hb : b < 4294967296) : bits .xor .i64 (a : Int) (b : Int) = ((a ^^^ b : Nat) : Int) := by
  have hx : a ^^^ b < 2 ^ 32 := Nat.xor_lt_two_pow (by omega) (by omega)
  have e : ∀ x : Nat, x < 4294967296 → (BitVec.ofInt 64 (x : Int)).toNat = x := by
    intro x hx
    rw [BitVec.toNat_ofInt]; omega
  show IntKind.i64.wrap ((BitVec.ofInt 64 (a : Int) ^^^ BitVec.ofInt 64 (b : Int)).toNat : Int) = _
  rw [BitVec.toNat_xor, e a ha, e b hb, IntKind.wrap_i64]
  omega

theorem enc_len {d : Da} (h : d.may = true) : d.enc.length ≤ 640 := by
  by_cases h3 : d.k = 3
  · obtain ⟨_, _, h8, hit⟩ := may_items h h3
    have := items_len d.l hit d.l.length
    rw [List.take_of_length_le (Nat.le_refl _)] at this
    simp only [Da.enc, h3, if_true, List.length_append, List.length_cons, List.length_nil]
    omega
  · have hm' : simpleB d.k d.n d.s d.l.length = true := by simpa [Da.may, h3] using h
    have := enc1_len hm'
    simp only [Da.enc, h3, if_false]
    omega

theorem hash_rel (S : ByteArray) (j : Nat) (hj : j < S.size) : ((hashL (S.data.toList.take (j + 1)) : Nat) : Int) = ((hashStep (hashL (S.data.toList.take j)) S[j] : Nat) : Int) := by
  rw [take_snoc S j hj, hashL_snoc]

def hashAns (d : Da) : Value := if d.may then .tuple #[.int .i64 (hashL d.enc), .int .i64 0] else .tuple #[.int .i64 0, .int .i64 11]

theorem step_i64 (h : Nat) (hh : h < 4294967296) (b : UInt8) : bits .xor .i64 (h : Int) (b.toNat : Int) = ((h ^^^ b.toNat : Nat) : Int) ∧ (h ^^^ b.toNat) < 4294967296 := by
  have hb := b.toNat_lt
  exact ⟨i64_xor_small h b.toNat hh (by omega), Nat.xor_lt_two_pow (n := 32) hh (by omega)⟩

end Go.Proofs.YtdjlbfepddcmeaaGreatDoor

namespace Go.Proofs.YtdjlbfepddcmeaaGreatDoor
open Go.RowKit

def bS (d : Da) : ByteArray := if d.may then ⟨d.enc.toArray⟩ else ⟨#[]⟩
def dE (d : Da) : Int := if d.may then 0 else 11
def tS (d : Da) : ByteArray := if d.may then ⟨d.text.toArray⟩ else ⟨#[]⟩
theorem bytesAns_eq (d : Da) : bytesAns d = .tuple #[.string (bS d), .int .i64 (dE d)] := by unfold bytesAns bS dE; split <;> rfl
theorem printAns_eq (d : Da) : printAns d = .tuple #[.string (tS d), .int .i64 (dE d)] := by unfold printAns tS dE; split <;> rfl

end Go.Proofs.YtdjlbfepddcmeaaGreatDoor

namespace Go.Proofs.YtdjlbfepddcmeaaGreatDoor
open Go.RowKit

theorem DaIs.later {w w1 : World} {B : Nat} {d : Da} {a : Option Addr} (h : DaIs w d a) (hb : Below B w w1) (hB : w.heap.size ≤ B) : DaIs w1 d a := h.below (hb.mono hB)

theorem rcmp_call (x y : Da) (a : Option Addr) (c : Nat) (a' : Option Addr) (c' : Nat) (w : World) (hx : DaIs w x a) (hy : DaIs w y a') :
    Calls Tryz.prog 51 #[dv x.k x.n x.s a x.l.length c, dv y.k y.n y.s a' y.l.length c'] w fun e w' => e = .returned (.tuple #[.int .i64 (cV x y), .int .i64 (cE x y)]) ∧ Below w.heap.size w w' := by
  rw [← cmpAns_eq]
  exact rcompare_any x y a c a' c' w hx.row hx.l hy.row hy.l hx.s hy.s

/-- A boxed datum. -/
structure Bx (w : World) (b : Nat) (x : Da) (a : Option Addr) (c : Nat) : Prop where
  c0 : w.cell? ⟨b, 0, none⟩ = some (.int .i64 x.k)
  c1 : w.cell? ⟨b, 1, none⟩ = some (.int .i64 x.n)
  c2 : w.cell? ⟨b, 2, none⟩ = some (.string x.s)
  c3 : w.cell? ⟨b, 3, none⟩ = some (.slice a x.l.length c)
theorem Bx.later {w w1 : World} {B b : Nat} {x : Da} {a : Option Addr} {c : Nat} (h : Bx w b x a c) (hb : Below B w w1) (hlt : b < B) : Bx w1 b x a c :=
  ⟨(hb.cell (p := ⟨b, 0, none⟩) hlt).trans h.c0, (hb.cell (p := ⟨b, 1, none⟩) hlt).trans h.c1, (hb.cell (p := ⟨b, 2, none⟩) hlt).trans h.c2, (hb.cell (p := ⟨b, 3, none⟩) hlt).trans h.c3⟩
end Go.Proofs.YtdjlbfepddcmeaaGreatDoor

namespace Go.Proofs.YtdjlbfepddcmeaaGreatDoor
open Go.RowKit

theorem Bx.drew {w : World} {b : Nat} {x : Da} {a : Option Addr} {c : Nat} (h : Bx w b x a c) : Bx w.drew b x a c :=
  ⟨by simpa using h.c0, by simpa using h.c1, by simpa using h.c2, by simpa using h.c3⟩

def hV (d : Da) : Int := if d.may then hashL d.enc else 0
theorem hashAns_eq (d : Da) : hashAns d = .tuple #[.int .i64 (hV d), .int .i64 (dE d)] := by unfold hashAns hV dE; split <;> rfl
theorem check_call (d : Da) (a : Option Addr) (c : Nat) (w : World) (hd : DaIs w d a) :
    Calls Tryz.prog 56 #[dv d.k d.n d.s a d.l.length c] w fun e w' => e = .returned (.int .i64 (dE d)) ∧ Below w.heap.size w w' := check_any d a c w hd.row hd.l
theorem bytes_call (d : Da) (a : Option Addr) (c : Nat) (w : World) (hd : DaIs w d a) (hG : GlobsM w) (h16 : 8 ≤ w.heap.size) :
    Calls Tryz.prog 55 #[dv d.k d.n d.s a d.l.length c] w fun e w' => e = .returned (.tuple #[.string (bS d), .int .i64 (dE d)]) ∧ Below w.heap.size w w' := by
  rw [← bytesAns_eq]
  exact bytes_any d a c w hd hG h16
theorem print_call (d : Da) (a : Option Addr) (c : Nat) (w : World) (hd : DaIs w d a) (hG : Globs w) :
    Calls Tryz.prog 60 #[dv d.k d.n d.s a d.l.length c] w fun e w' => e = .returned (.tuple #[.string (tS d), .int .i64 (dE d)]) ∧ Below w.heap.size w w' := by
  rw [← printAns_eq]
  exact print_any d a c w hd hG
end Go.Proofs.YtdjlbfepddcmeaaGreatDoor

namespace Go.Proofs.YtdjlbfepddcmeaaGreatDoor
open Go.RowKit

def rowBy (L : List El) : List UInt8 := [UInt8.ofNat L.length] ++ L.flatMap fun e => e.d.enc
def rowTo (L : List El) (k : Nat) : List UInt8 := [UInt8.ofNat L.length] ++ (L.take k).flatMap fun e => e.d.enc
theorem rowTo_succ (L : List El) (k : Nat) (h : k < L.length) : rowTo L (k + 1) = rowTo L k ++ L[k].d.enc := by
  unfold rowTo
  rw [List.take_succ_eq_append_getElem h, List.flatMap_append]; simp
theorem rowTo_all (L : List El) (k : Nat) (h : L.length ≤ k) : rowTo L k = rowBy L := by
  unfold rowTo rowBy; rw [List.take_of_length_le h]
theorem rowBy_len (L : List El) : (rowBy L).length = rowLen L := by simp [rowBy, rowLen]; omega
def keepS (L : List El) : ByteArray := if keepB L then ⟨(rowBy L).toArray⟩ else ⟨#[]⟩
def keepE (L : List El) : Int := if keepB L then 0 else 70
theorem flat_len (L : List El) (h : L.all (fun e => e.d.may) = true) : (L.flatMap fun e => e.d.enc).length ≤ 640 * L.length := by
  induction L with
  | nil => simp
  | cons x l ih =>
    simp only [List.all_cons, Bool.and_eq_true] at h
    have h1 := enc_len h.1
    have h2 := ih h.2
    simp only [List.flatMap_cons, List.length_append, List.length_cons]
    omega
theorem rowTo_len (L : List El) (k : Nat) (h4 : L.length ≤ 4) (h : (L.take k).all (fun e => e.d.may) = true) : (rowTo L k).length ≤ 2561 := by
  have := flat_len _ h
  have h2 : (L.take k).length ≤ 4 := by simp; omega
  simp only [rowTo, List.length_append, List.length_cons, List.length_nil]
  omega

theorem keep_long {L : List El} (h : ¬ L.length ≤ 4) : keepB L = false := by simp [keepB, h]
theorem keep_bad {L : List El} (k : Nat) (h : k < L.length) (hm : L[k].d.may = false) : keepB L = false := by
  have := all_false_of L (fun e => e.d.may) k h hm
  simp [keepB, this]
theorem keep_is {L : List El} (h4 : L.length ≤ 4) (h : L.all (fun e => e.d.may) = true) : keepB L = decide ((rowBy L).length ≤ 400) := by
  simp [keepB, h4, h, rowBy_len]

set_option maxRecDepth 100000 in
set_option maxHeartbeats 2000000 in
theorem hbytes_any (L : List El) (a : Option Addr) (c : Nat) (w : World) (hr : DeepIs w a L) (hl : L.length ≤ 140737488351232) (hG : GlobsM w) (h16 : 8 ≤ w.heap.size) :
    Calls Tryz.prog 32 #[.slice a L.length c] w fun e w' => e = .returned (.tuple #[.string (keepS L), .int .i64 (keepE L)]) ∧ Below w.heap.size w w' := by
  by_cases h4 : L.length ≤ 4
  · have e4 : decide ((4 : Int) < (L.length : Int)) = false := by simp; omega
    have hx : (L.length : Int) = ((UInt8.ofNat L.length).toNat : Int) := by simp; omega
    have HB0 := Lib.hid (Buf.built1 w w.heap.size (Nat.le_refl _) (UInt8.ofNat L.length))
    rw [← hx] at HB0
    clear hx
    go_enter Tryz.func32, Tryz.ntmps32
    go_wp2
    go_loopw [4, 18] (fun v i wr => ∃ k : Nat, k ≤ L.length ∧ i = .int .i64 k ∧ Buf wr w.heap.size v (rowTo L k) ∧ (L.take k).all (fun e => e.d.may) = true ∧ Below w.heap.size w wr)
      (fun _ i _ => L.length - (intOf i).toNat)
    case atStart => exact ⟨0, Nat.zero_le _, rfl, by have := HB0.out; simpa [rowTo] using this, rfl, (Below.refl _ _).alloc (Nat.le_refl _) _⟩
    case round =>
      obtain ⟨k, hk, rfl, hbuf, hall, hb⟩ := hrel
      have hlen := rowTo_len L k h4 hall
      have HA := Lib.hid hall
      clear hall
      have hz := hb.size
      by_cases hlt : k < L.length
      · obtain ⟨b, off, rfl, g0, g1, g2, g3, hda⟩ := (hr.below hb).at_ k hlt
        have HS := Lib.hid (rowTo_succ L k hlt)
        have HT := Lib.hid (all_take_succ L (fun e => e.d.may) k hlt)
        have HNO := Lib.hid (keep_bad (L := L) k hlt)
        generalize hd : L[k].d = d at *
        generalize L[k].a = a' at *
        generalize L[k].c = c' at *
        clear hd
        have hG' := (hG.below hb)
        cases hm : d.may with
        | false =>
          have HC := Lib.hid (HNO.out hm)
          go_wp2_with fail
          refine (bytes_call d a' c' _ (hda.below (by go_grown)) (hG'.below (by go_grown)) (by simp; omega)).mono ?_
          rintro e w' ⟨rfl, hb'⟩
          rw [show dE d = 11 by simp [dE, hm]]
          go_wp2
          go_ret2
          exact ⟨by rw [keepS, keepE, HC.out]; rfl, (hb.alloc hz _).trans (hb'.mono (by simp; omega))⟩
        | true =>
          have HAN := Lib.hid (show (L.take (k + 1)).all (fun e => e.d.may) = true by rw [HT.out, HA.out, hm]; rfl)
          have hel := enc_len hm
          have hsz : (⟨d.enc.toArray⟩ : ByteArray).size = d.enc.length := by show d.enc.toArray.size = _; simp
          have HBS := Lib.hid (show bS d = ⟨d.enc.toArray⟩ by simp [bS, hm])
          go_wp2_with fail
          refine (bytes_call d a' c' _ (hda.below (by go_grown)) (hG'.below (by go_grown)) (by simp; omega)).mono ?_
          rintro e w' ⟨rfl, hb'⟩
          rw [show dE d = 0 by simp [dE, hm], HBS.out]
          have hle : (⟨d.enc.toArray⟩ : ByteArray).size ≤ 640 := by omega
          have HSZ := Lib.hid hsz
          clear hsz hel
          generalize hT : (⟨d.enc.toArray⟩ : ByteArray) = T at *
          have HTT := Lib.hid hT
          clear hT
          have hbuf' : Buf w' w.heap.size _ (rowTo L k) := (hbuf.alloc _).later hb'
          have hz' := hb'.size
          simp only [World.size_alloc] at hz'
          have hb1 : Below w.heap.size w w' := (hb.alloc hz _).trans (hb'.mono (by simp; omega))
          go_wp2_with (at_builtin; refine wp_appS rfl (.tmp 29) (.tmp 30) rfl w.heap.size _ _ rfl hbuf' T rfl (by omega) (by omega) ?_; intro v3 w3 hb3 hbl3 hg3)
          go_roundw
          case rel => exact ⟨k + 1, by omega, by go_num, by rw [HS.out]; rw [← HTT.out] at hb3; exact hb3, HAN.out, hb1.trans hbl3⟩
          case measure => simp [intOf]; omega
      · have HK := Lib.hid (keep_is h4 (by rw [← HA.out, List.take_of_length_le (by omega)]))
        have HR := Lib.hid (rowTo_all L k (by omega))
        have hstr := hbuf.string
        obtain ⟨A, cc, rfl⟩ := hbuf.slice
        rw [HR.out] at hstr hlen
        rw [HR.out]
        by_cases h400 : (rowBy L).length ≤ 400
        · have e5 : decide ((400 : Int) < ((rowBy L).length : Int)) = false := by simp; omega
          have HKK := Lib.hid (show keepB L = true by rw [HK.out]; simpa using h400)
          go_wp2
          go_ret2
          exact ⟨by rw [keepS, keepE, HKK.out]; rfl, hb⟩
        · have e5 : decide ((400 : Int) < ((rowBy L).length : Int)) = true := by simp; omega
          have HKK := Lib.hid (show keepB L = false by rw [HK.out]; simpa using h400)
          go_wp2
          go_ret2
          exact ⟨by rw [keepS, keepE, HKK.out]; rfl, hb⟩
  · have e4 : decide ((4 : Int) < (L.length : Int)) = true := by simp; omega
    have HK := Lib.hid (keep_long h4)
    go_enter Tryz.func32, Tryz.ntmps32
    go_wp2
    go_ret2
    exact ⟨by rw [keepS, keepE, HK.out]; rfl, Below.refl _ _⟩
end Go.Proofs.YtdjlbfepddcmeaaGreatDoor

namespace Go.Proofs.YtdjlbfepddcmeaaGreatDoor
open Go.RowKit

theorem ba_size' (l : List UInt8) : (⟨l.toArray⟩ : ByteArray).size = l.length := by show l.toArray.size = _; simp

set_option maxRecDepth 100000 in
set_option maxHeartbeats 2000000 in
theorem rhbytes_any (L : List El) (a : Option Addr) (c : Nat) (w : World) (hr : DeepIs w a L) (hl : L.length ≤ 140737488351232) :
    Calls Tryz.prog 48 #[.slice a L.length c] w fun e w' => e = .returned (.tuple #[.string (keepS L), .int .i64 (keepE L)]) ∧ Below w.heap.size w w' := by
  by_cases h4 : L.length ≤ 4
  · have e4 : decide ((4 : Int) < (L.length : Int)) = false := by simp; omega
    have hx : (L.length : Int) = ((UInt8.ofNat L.length).toNat : Int) := by simp; omega
    have HB0 := Buf.built1 w w.heap.size (Nat.le_refl _) (UInt8.ofNat L.length)
    rw [← hx] at HB0
    clear hx
    have hstr := HB0.string
    clear HB0
    rw [show ([UInt8.ofNat L.length] : List UInt8) = rowTo L 0 by simp [rowTo]] at hstr
    go_enter Tryz.func48, Tryz.ntmps48
    go_wp2
    clear hstr
    go_loopw [4, 5] (fun v i wr => ∃ k : Nat, k ≤ L.length ∧ i = .int .i64 k ∧ v = .string ⟨(rowTo L k).toArray⟩ ∧ (L.take k).all (fun e => e.d.may) = true ∧ Below w.heap.size w wr)
      (fun _ i _ => L.length - (intOf i).toNat)
    case atStart => exact ⟨0, Nat.zero_le _, rfl, rfl, rfl, (Below.refl _ _).alloc (Nat.le_refl _) _⟩
    case round =>
      obtain ⟨k, hk, rfl, rfl, hall, hb⟩ := hrel
      have hlen := rowTo_len L k h4 hall
      have HA := Lib.hid hall
      clear hall
      have hz := hb.size
      by_cases hlt : k < L.length
      · obtain ⟨b, off, rfl, g0, g1, g2, g3, hda⟩ := (hr.below hb).at_ k hlt
        have HS := Lib.hid (rowTo_succ L k hlt)
        have HT := Lib.hid (all_take_succ L (fun e => e.d.may) k hlt)
        have HNO := Lib.hid (keep_bad (L := L) k hlt)
        generalize hd : L[k].d = d at *
        generalize L[k].a = a' at *
        generalize L[k].c = c' at *
        clear hd
        cases hm : d.may with
        | false =>
          have HC := Lib.hid (HNO.out hm)
          go_wp2_with fail
          refine (rbytes_any d a' c' _ hda).mono ?_
          rintro e w' ⟨rfl, hb'⟩
          rw [show bytesAns d = .tuple #[.string ⟨#[]⟩, .int .i64 11] by simp [bytesAns, hm]]
          go_wp2
          go_ret2
          exact ⟨by rw [keepS, keepE, HC.out]; rfl, hb.trans (hb'.mono hz)⟩
        | true =>
          have HAN := Lib.hid (show (L.take (k + 1)).all (fun e => e.d.may) = true by rw [HT.out, HA.out, hm]; rfl)
          go_wp2_with fail
          refine (rbytes_any d a' c' _ hda).mono ?_
          rintro e w' ⟨rfl, hb'⟩
          rw [show bytesAns d = .tuple #[.string ⟨d.enc.toArray⟩, .int .i64 0] by simp [bytesAns, hm]]
          have s1 : (⟨(rowTo L k).toArray⟩ : ByteArray).size ≤ 2561 := by rw [ba_size']; exact hlen
          have s2 : (⟨d.enc.toArray⟩ : ByteArray).size ≤ 640 := by rw [ba_size']; exact enc_len hm
          go_wp2
          go_roundw
          case rel => exact ⟨k + 1, by omega, by go_num, by rw [HS.out, ba_append], HAN.out, hb.trans (hb'.mono hz)⟩
          case measure => simp [intOf]; omega
      · have HK := Lib.hid (keep_is h4 (by rw [← HA.out, List.take_of_length_le (by omega)]))
        have HR := Lib.hid (rowTo_all L k (by omega))
        rw [HR.out] at hlen
        rw [HR.out]
        have hsz : (⟨(rowBy L).toArray⟩ : ByteArray).size = (rowBy L).length := by show (rowBy L).toArray.size = _; simp
        by_cases h400 : (rowBy L).length ≤ 400
        · have e5 : decide ((400 : Int) < (((⟨(rowBy L).toArray⟩ : ByteArray).size : Nat) : Int)) = false := by rw [hsz]; simp; omega
          have HKK := Lib.hid (show keepB L = true by rw [HK.out]; simpa using h400)
          clear hsz
          go_wp2
          go_ret2
          exact ⟨by rw [keepS, keepE, HKK.out]; rfl, hb⟩
        · have e5 : decide ((400 : Int) < (((⟨(rowBy L).toArray⟩ : ByteArray).size : Nat) : Int)) = true := by rw [hsz]; simp; omega
          have HKK := Lib.hid (show keepB L = false by rw [HK.out]; simpa using h400)
          clear hsz
          go_wp2
          go_ret2
          exact ⟨by rw [keepS, keepE, HKK.out]; rfl, hb⟩
  · have e4 : decide ((4 : Int) < (L.length : Int)) = true := by simp; omega
    have HK := Lib.hid (keep_long h4)
    go_enter Tryz.func48, Tryz.ntmps48
    go_wp2
    go_ret2
    exact ⟨by rw [keepS, keepE, HK.out]; rfl, Below.refl _ _⟩
end Go.Proofs.YtdjlbfepddcmeaaGreatDoor
