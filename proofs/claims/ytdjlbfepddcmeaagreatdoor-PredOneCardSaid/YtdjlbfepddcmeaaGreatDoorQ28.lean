/- Print of predicates: the program's. -/
import Derived.Test.YtdjlbfepddcmeaaGreatDoorQ27
set_option linter.unusedVariables false
set_option linter.unusedSimpArgs false
namespace Go.Proofs.YtdjlbfepddcmeaaGreatDoor
open Go.RowKit

def printE (cols : List Co) (t : PT) : Int := if predE cols t = 0 then (if (textP cols 8 t).length ≤ 1024 then 0 else 4) else predE cols t
def printV (cols : List Co) (t : PT) : ByteArray := if printE cols t = 0 then ⟨(textP cols 8 t).toArray⟩ else ⟨#[]⟩

set_option maxRecDepth 100000 in
set_option maxHeartbeats 4000000 in
theorem Print_any (cols : List Co) (m : Nat) (t : PT) (a : Option Addr) (c : Nat) (pa : Option Addr) (pc : Nat) (ac : Option Addr) (cc : Nat) (w : World)
    (hp : PredIs m w t a pa) (hr : ColIs w ac cols) (hl : cols.length ≤ 140737488351232) (hG : Globs w) :
    Calls Tryz.prog 18 #[pv t a c pa pc, .slice ac cols.length cc] w fun e w' => e = .returned (.tuple #[.string (printV cols t), .int .i64 (printE cols t)]) ∧ Below w.heap.size w w' := by
  have hb0 : Below w.heap.size w (w.alloc (pbox t a c pa pc)) := by go_grown
  have hx := PBx.new w t a c pa pc
  have HC := Lib.hid (checkp_any cols m t a c pa pc ac cc _ (hp.below hb0) (hr.below hb0) hl)
  by_cases h2 : predE cols t = 0
  · rw [h2] at HC
    have hm := predE_may h2
    have hcols : colsB cols = true := by
      unfold predE at h2
      cases h : colsB cols
      · rw [h] at h2; cases h2
      · rfl
    have HE := Lib.hid h2
    clear h2
    go_enter Tryz.func18, Tryz.ntmps18
    go_wp2_with fail
    refine HC.out.mono ?_
    rintro e w1 ⟨rfl, hb1⟩
    have hb01 := hb0.trans (hb1.mono (by simp))
    have hx1 := (hx.below hb1).below ((Below.refl w1.heap.size w1).alloc (Nat.le_refl _) (.cells #[.pointer none, .slice none 0 0] 62))
    obtain ⟨x0, x1, x2, x3, x4, x5, x6⟩ := hx1
    have hbd : BD w1.heap.size w1.heap.size [] (w1.alloc (.cells #[.pointer none, .slice none 0 0] 62)) := Lib.IsBuilderF.of (Lib.fresh_isBuilder 62 5 w1)
    have HK := Lib.hid (write_ok cols ac cc w1 w1.heap.size hcols (hr.below hb01) (hG.below hb01) 8 (by omega) m t a c pa pc [] _ (hp.below hb01) hm ((Below.refl w1.heap.size w1).alloc (Nat.le_refl _) _) hbd (by simp))
    have HB01 := Lib.hid hb01
    clear hbd hb01 hb1 hb0 hx
    go_wp2_with fail
    refine HK.out.mono ?_
    rintro e w2 ⟨rfl, l2, hw2, hr2, hl2⟩
    have hb02 : Below w.heap.size w w2 := (HB01.out.alloc HB01.out.size _).trans (hw2.below.mono (HB01.out.size))
    have HR := Lib.hid hr2
    have HL2 := Lib.hid hl2
    have HBD := Lib.hid hw2.bd
    have HB02 := Lib.hid hb02
    have hzz := hw2.below.size
    simp at hzz
    clear hr2 hl2 hw2 hb02 x0 x1 x2 x3 x4 x5 x6
    by_cases h1024 : l2.length ≤ 1024
    · have HT : Hid (l2 = textP cols 8 t) := Lib.hid (by
        rcases HR.out with h | ⟨h, _⟩
        · simpa using h
        · omega)
      have e1 : decide ((1024 : Int) < (l2.length : Int)) = false := by rw [decide_eq_false_iff_not]; omega
      have HV := Lib.hid (show printE cols t = 0 ∧ printV cols t = ⟨l2.toArray⟩ by
        have hE : printE cols t = 0 := by rw [printE, if_pos HE.out, if_pos (by rw [← HT.out]; exact h1024)]
        exact ⟨hE, by rw [printV, if_pos hE, HT.out]⟩)
      have HLN := Lib.hid (blen_any _ _ _ w2 HBD.out)
      have HST := Lib.hid (Tryz.Builder_String_any_k _ _ _ w2 HBD.out (by omega))
      clear h1024
      generalize hll : l2.length = ll at *
      clear hll
      go_wp2_with fail
      refine HLN.out.mono ?_
      rintro e w' ⟨rfl, rfl⟩
      go_wp2_with fail
      refine HST.out.mono ?_
      rintro e w3 ⟨rfl, _, hb3, _⟩
      go_wp2
      go_ret2
      exact ⟨by rw [HV.out.1, HV.out.2]; rfl, HB02.out.trans (hb3.mono HB01.out.size)⟩
    · have e1 : decide ((1024 : Int) < (l2.length : Int)) = true := by rw [decide_eq_true_iff]; omega
      have HV := Lib.hid (show printE cols t = 4 ∧ printV cols t = ⟨#[]⟩ by
        have ht : ¬ (textP cols 8 t).length ≤ 1024 := by
          rcases HR.out with h | ⟨_, h⟩
          · rw [show l2 = textP cols 8 t by simpa using h] at h1024; exact h1024
          · simp at h; omega
        have hE : printE cols t = 4 := by rw [printE, if_pos HE.out, if_neg ht]
        exact ⟨hE, by rw [printV, if_neg (by rw [hE]; decide)]⟩)
      have HLN := Lib.hid (blen_any _ _ _ w2 HBD.out)
      clear h1024
      generalize hll : l2.length = ll at *
      clear hll
      go_wp2_with fail
      refine HLN.out.mono ?_
      rintro e w' ⟨rfl, rfl⟩
      go_wp2
      go_ret2
      exact ⟨by rw [HV.out.1, HV.out.2]; rfl, HB02.out⟩
  · obtain ⟨E, hE⟩ : ∃ E, predE cols t = E := ⟨_, rfl⟩
    have HV := Lib.hid (show printE cols t = E ∧ printV cols t = ⟨#[]⟩ by
      have h : printE cols t = E := by rw [printE, if_neg h2, hE]
      exact ⟨h, by rw [printV, if_neg (by rw [h, ← hE]; exact h2)]⟩)
    rw [hE] at HC h2
    have e2 : (E != 0) = true := bneI_t h2
    clear hE h2
    go_enter Tryz.func18, Tryz.ntmps18
    go_wp2_with fail
    refine HC.out.mono ?_
    rintro e w1 ⟨rfl, hb1⟩
    go_wp2
    go_ret2
    exact ⟨by rw [HV.out.1, HV.out.2]; rfl, hb0.trans (hb1.mono (by simp))⟩
end Go.Proofs.YtdjlbfepddcmeaaGreatDoor
