/- Reading texts: datum.read of what is no list. -/
import Derived.Test.YtekcoddjdjllhaaDoorDatQ
import Derived.Deep.RegionLaw
import Derived.Lib.AtoiAll
import Derived.Laws.ResultCell
import Derived.Lib.AtoiErrMem
namespace Go.Proofs.YtekcoddjdjllhaaDoor
open Go.RowKit

theorem results_cell1 {fn : Func} {p : Tmp} {ty : TypeId} (h : fn.results = #[.cell p ty]) (tmps : Array Value) (P : Program) (w : World) :
    (results fn tmps).run P w = ((asAddr (tmps.getD p undef)).run P w).andThen fun a w₁ => (loadVar ty a).run P w₁ := by
  simp only [results, h]
  simp [Sem.run_bind, Result.andThen]
  try (split <;> simp_all)

def atoiV (l : List UInt8) : Int := match Lib.atoiAll l with
  | .ok v => v
  | .syntax => 0
  | .range => Lib.atoiSat l

theorem atoiV_in (l : List UInt8) : In64 (atoiV l) := by
  unfold atoiV
  split
  · next v h =>
    unfold Lib.atoiAll at h
    split at h
    · cases h
    · simp only at h
      split at h
      · cases h
      · cases h
      · split at h
        · cases h
        · split at h
          · cases h
          · injection h with h
            subst h
            unfold In64
            split <;> omega
  · exact ⟨by omega, by omega⟩
  · unfold Lib.atoiSat In64
    split <;> omega

theorem atoi_any (s : ByteArray) (hs : s.size ≤ 4194304) (w : World) (hG : Globs w) :
    Calls Tryd.prog 50 #[.string s] w fun e w' => ∃ ev, e = .returned (.tuple #[.int .i64 (atoiV s.data.toList), ev]) ∧ Below w.heap.size w w' := by
  cases h : Lib.atoiAll s.data.toList with
  | ok v =>
    refine (Tryd.strconv_Atoi_ok s (by omega) v h w).mono ?_
    rintro e w' ⟨rfl, hw⟩
    refine ⟨_, by rw [atoiV, h], ?_⟩
    rcases hw with rfl | ⟨t, rfl⟩
    · exact Below.refl _ _
    · exact Lib.bytesWorld_below _ _ _
  | «syntax» =>
    obtain ⟨tp, p, hv⟩ := hG.syn
    refine (Tryd.strconv_Atoi_syntax s (by omega) h _ w hv (.inr ⟨_, _, rfl⟩)).mono ?_
    rintro e w' ⟨N, rfl, _, _, hb⟩
    exact ⟨_, by rw [atoiV, h], hb⟩
  | range =>
    obtain ⟨tp, p, hv⟩ := hG.rng
    refine (Tryd.strconv_Atoi_range s (by omega) h _ w hv (.inr ⟨_, _, rfl⟩)).mono ?_
    rintro e w' ⟨N, rfl, _, _, hb⟩
    exact ⟨_, by rw [atoiV, h], hb⟩

/-- The datum of a text that is no list. -/
def read1 (s : ByteArray) : It := if 2 ≤ s.size ∧ s.data.toList.head? = some 39 then ⟨2, 0, toBA (unq (sub s 1 (s.size - 1))), 0⟩ else ⟨1, atoiV s.data.toList, ⟨#[]⟩, 0⟩

theorem head_at (s : ByteArray) (h : 0 < s.size) : s.data.toList.head? = some s[0] := by
  have := drop_byte s 0 h
  rw [List.drop_zero] at this
  rw [this]; rfl

theorem not_brackets (s : ByteArray) (h : 0 < s.size) (h0 : ¬ s[0] = 91) : (s.toList == [91, 93]) = false := by
  rw [beq_eq_false_iff_ne]
  intro e
  rw [Lib.toList_data, show s.data.toList = s[0] :: s.data.toList.drop 1 from drop_byte s 0 h] at e
  exact h0 (List.cons.inj e).1

set_option maxRecDepth 100000 in
set_option maxHeartbeats 2000000 in
theorem read_simple (s : ByteArray) (w : World) (hs : s.size ≤ 4194304) (hG : Globs w) (hn : 2 ≤ s.size → s.data.toList.head? ≠ some 91) :
    Calls Tryd.prog 34 #[.string s] w fun e w' => e = .returned (dv (read1 s).k (read1 s).n (read1 s).s none 0 0) ∧ Below w.heap.size w w' := by
  by_cases h2 : 2 ≤ s.size
  · by_cases h39 : s[0] = 39
    · have hR : read1 s = ⟨2, 0, toBA (unq (sub s 1 (s.size - 1))), 0⟩ := by rw [read1, if_pos ⟨h2, by rw [head_at s (by omega), h39]⟩]
      rw [hR]
      have hc := u8_beq _ _ h39 39 rfl
      have hh : 2 ≤ (s.size : Int) := by omega
      have hx : s.extract 1 (s.size - 1) = toBA (sub s 1 (s.size - 1)) := extract_sub s 1 (s.size - 1) (by omega)
      have hxs : (toBA (sub s 1 (s.size - 1))).size ≤ 4194304 := by rw [← hx]; simp; omega
      clear hR h39
      go_enter Tryd.func34, Tryd.ntmps34
      go_wp2_with fail
      refine (unquote_any _ _ hxs).mono ?_
      rintro e w1 ⟨rfl, hb1⟩
      obtain ⟨hc1, hf1⟩ := bcell hb1
      simp only [World.size_alloc] at hc1 hf1
      have hz1 : w.heap.size < w1.heap.size := by have := hb1.size; simp at this; omega
      have hb01 : Below w.heap.size w w1 := ((Below.refl w.heap.size w).alloc (Nat.le_refl _) _).trans (hb1.mono (by simp))
      go_wp2
      (try simp only [Exit.inBlock, Exit.then])
      refine bodyPost_ret (v := dv 2 0 (toBA (unq (sub s 1 (s.size - 1)))) none 0 0) ?_ rfl ⟨rfl, ?_⟩
      · rw [results_cell1 rfl]
        go_simp
        rfl
      · exact (((hb01.setCell (p := ⟨w.heap.size, 0, none⟩) (Nat.le_refl _) _).setCell (p := ⟨w.heap.size, 1, none⟩) (Nat.le_refl _) _).setCell (p := ⟨w.heap.size, 2, none⟩) (Nat.le_refl _) _).setCell (p := ⟨w.heap.size, 3, none⟩) (Nat.le_refl _) _
    · have hR : read1 s = ⟨1, atoiV s.data.toList, ⟨#[]⟩, 0⟩ := by rw [read1, if_neg]; rw [head_at s (by omega)]; simp [h39]
      rw [hR]
      have h91 : ¬ s[0] = 91 := fun h => hn h2 (by rw [head_at s (by omega), h])
      have hc := u8_bne _ _ h39 39 rfl
      have hc2 := u8_bne _ _ h91 91 rfl
      have hbr := not_brackets s (by omega) h91
      have hh : 2 ≤ (s.size : Int) := by omega
      clear hR h39 h91 hn
      go_enter Tryd.func34, Tryd.ntmps34
      go_wp2_with fail
      refine (atoi_any s hs _ (hG.below (by go_grown))).mono ?_
      rintro e w1 ⟨ev, rfl, hb1⟩
      obtain ⟨hc1, hf1⟩ := bcell hb1
      simp only [World.size_alloc] at hc1 hf1
      have hz1 : w.heap.size < w1.heap.size := by have := hb1.size; simp at this; omega
      have hb01 : Below w.heap.size w w1 := ((Below.refl w.heap.size w).alloc (Nat.le_refl _) _).trans (hb1.mono (by simp))
      go_wp2
      (try simp only [Exit.inBlock, Exit.then])
      refine bodyPost_ret (v := dv 1 (atoiV s.data.toList) ⟨#[]⟩ none 0 0) ?_ rfl ⟨rfl, ?_⟩
      · rw [results_cell1 rfl]
        go_simp
        try rfl
      · exact (((hb01.setCell (p := ⟨w.heap.size, 0, none⟩) (Nat.le_refl _) _).setCell (p := ⟨w.heap.size, 1, none⟩) (Nat.le_refl _) _).setCell (p := ⟨w.heap.size, 2, none⟩) (Nat.le_refl _) _).setCell (p := ⟨w.heap.size, 3, none⟩) (Nat.le_refl _) _
  · have hR : read1 s = ⟨1, atoiV s.data.toList, ⟨#[]⟩, 0⟩ := by rw [read1, if_neg]; exact fun h => h2 h.1
    rw [hR]
    have hbr : (s.toList == [91, 93]) = false := by
      rw [beq_eq_false_iff_ne]
      intro e
      rw [Lib.toList_data] at e
      have := congrArg List.length e
      simp at this
      omega
    have hh : ¬ 2 ≤ (s.size : Int) := by omega
    clear hR h2 hn
    go_enter Tryd.func34, Tryd.ntmps34
    go_wp2_with fail
    refine (atoi_any s hs _ (hG.below (by go_grown))).mono ?_
    rintro e w1 ⟨ev, rfl, hb1⟩
    obtain ⟨hc1, hf1⟩ := bcell hb1
    simp only [World.size_alloc] at hc1 hf1
    have hz1 : w.heap.size < w1.heap.size := by have := hb1.size; simp at this; omega
    have hb01 : Below w.heap.size w w1 := ((Below.refl w.heap.size w).alloc (Nat.le_refl _) _).trans (hb1.mono (by simp))
    go_wp2
    (try simp only [Exit.inBlock, Exit.then])
    refine bodyPost_ret (v := dv 1 (atoiV s.data.toList) ⟨#[]⟩ none 0 0) ?_ rfl ⟨rfl, ?_⟩
    · rw [results_cell1 rfl]
      go_simp
      try rfl
    · exact (((hb01.setCell (p := ⟨w.heap.size, 0, none⟩) (Nat.le_refl _) _).setCell (p := ⟨w.heap.size, 1, none⟩) (Nat.le_refl _) _).setCell (p := ⟨w.heap.size, 2, none⟩) (Nat.le_refl _) _).setCell (p := ⟨w.heap.size, 3, none⟩) (Nat.le_refl _) _
end Go.Proofs.YtekcoddjdjllhaaDoor
