/- The reference's Refused. -/
import Derived.Test.YtiakepcgalmjfaaGreatQ20
import Derived.BigQuiet
set_option linter.unusedVariables false
set_option linter.unusedSimpArgs false
namespace Go.Proofs.YtiakepcgalmjfaaGreat
open Go.RowKit

theorem below_drewK {B : Nat} {a w : World} (h : Below B a w) (n : Nat) : Below B a (w.drewN n) := h.trans ⟨rfl, rfl, rfl, Nat.le_refl _, fun _ _ => rfl⟩
/-- Why an index can not be added. -/
def refX (cols : List Co) (l : List Xi) (x : Xi) : Int :=
  if nameX x.name.data.toList = false ∨ 0 ≤ findXi l x.name then 160
  else if (rfor x.meth 0).2 = false ∨ x.col < 0 ∨ (cols.length : Int) ≤ x.col then 3
  else if (rfor x.meth (cols.getD x.col.toNat ⟨⟨#[]⟩, 0⟩).kind).1 = false then 10
  else if x.uniq = true ∧ isK x.meth 1 = false ∧ isK x.meth 2 = false then 90
  else if 6 ≤ l.length then 2 else 0

set_option maxRecDepth 100000 in
set_option maxHeartbeats 8000000 in
theorem refused_any (cols : List Co) (ac : Option Addr) (cc : Nat) (l : List Xi) (al : Option Addr) (cl : Nat) (x : Xi) (w : World) (hc : ColIs w ac cols) (hl : IxR w al l) (hcn : cols.length ≤ 1099511627776) (hln : l.length ≤ 1099511627776) (hs : x.name.size ≤ 9223372036854775807) :
    Calls Tryz.prog 23 #[.slice ac cols.length cc, .slice al l.length cl, xiV x] w fun e w' => e = .returned (.int .i64 (refX cols l x)) ∧ Below w.heap.size w w' := by
  have hb : Below w.heap.size w (w.alloc (xiO x)) := by go_grown
  have hx := hnew w (xiO x)
  obtain ⟨x0, x1, x2, x3, x4⟩ := xi5 hx
  have HN := Lib.hid (fun W => rnamed_any x.name W hs)
  have HFi := Lib.hid (rfind_any l al cl x.name (w.alloc (xiO x)) (hl.below hb) hln)
  have HFo := Lib.hid (fun z W => rfor_any x.meth z W)
  have HC := Lib.hid (hc.below hb)
  have HB := Lib.hid hb
  clear hc hl hb hx
  have e1 : (x.meth.toList != [98, 116, 114, 101, 101]) = !isK x.meth 1 := by
    unfold isK
    rw [show (kname 1).toList = [98, 116, 114, 101, 101] by decide +kernel]
    show (!(x.meth.toList == _)) = _
    rw [BEq.comm]
  have e2 : (x.meth.toList != [104, 97, 115, 104]) = !isK x.meth 2 := by
    unfold isK
    rw [show (kname 2).toList = [104, 97, 115, 104] by decide +kernel]
    show (!(x.meth.toList == _)) = _
    rw [BEq.comm]
  have eq1 : (x.meth.toList == [98, 116, 114, 101, 101]) = isK x.meth 1 := by
    unfold isK
    rw [show (kname 1).toList = [98, 116, 114, 101, 101] by decide +kernel]
    exact BEq.comm
  have eq2 : (x.meth.toList == [104, 97, 115, 104]) = isK x.meth 2 := by
    unfold isK
    rw [show (kname 2).toList = [104, 97, 115, 104] by decide +kernel]
    exact BEq.comm
  cases hn : nameX x.name.data.toList with
  | false =>
    have HR := Lib.hid (show refX cols l x = 160 by unfold refX; rw [if_pos (.inl hn)])
    rw [hn] at HN
    clear hn
    go_enter Tryz.func23, Tryz.ntmps23
    go_wp2_with fail
    refine (HN.out _).mono ?_
    rintro e w1 ⟨rfl, rfl⟩
    go_wp2
    go_ret
    exact ⟨ret_int HR.out.symm, HB.out⟩
  | true =>
    rw [hn] at HN
    obtain ⟨fi, hfi⟩ : ∃ fi, findXi l x.name = fi := ⟨_, rfl⟩
    rw [hfi] at HFi
    by_cases h1 : 0 ≤ fi
    · have HR := Lib.hid (show refX cols l x = 160 by unfold refX; rw [if_pos (.inr (by rw [hfi]; exact h1))])
      clear hn hfi
      go_enter Tryz.func23, Tryz.ntmps23
      go_wp2_with fail
      refine (HN.out _).mono ?_
      rintro e w1 ⟨rfl, rfl⟩
      go_wp2_with fail
      refine HFi.out.mono ?_
      rintro e w1 ⟨rfl, rfl⟩
      go_wp2
      go_ret
      exact ⟨ret_int HR.out.symm, HB.out⟩
    · have HR0 := Lib.hid (show refX cols l x = if (rfor x.meth 0).2 = false ∨ x.col < 0 ∨ (cols.length : Int) ≤ x.col then 3
          else if (rfor x.meth (cols.getD x.col.toNat ⟨⟨#[]⟩, 0⟩).kind).1 = false then 10
          else if x.uniq = true ∧ isK x.meth 1 = false ∧ isK x.meth 2 = false then 90
          else if 6 ≤ l.length then 2 else 0 by
        unfold refX
        rw [if_neg (by rw [hn, hfi]; rintro (h | h); · cases h
                       · exact h1 h)])
      clear hn hfi
      obtain ⟨f1, hf1⟩ : ∃ f, (rfor x.meth 0).1 = f := ⟨_, rfl⟩
      obtain ⟨f2, hf2⟩ : ∃ f, (rfor x.meth 0).2 = f := ⟨_, rfl⟩
      have HF0 := Lib.hid (HFo.out 0 (w.alloc (xiO x)))
      rw [hf1, hf2] at HF0
      rw [hf2] at HR0
      clear hf1 hf2
      cases f2 with
      | false =>
        have HR := Lib.hid (show refX cols l x = 3 by rw [HR0.out, if_pos (.inl rfl)])
        go_enter Tryz.func23, Tryz.ntmps23
        go_wp2_with fail
        refine (HN.out _).mono ?_
        rintro e w1 ⟨rfl, rfl⟩
        go_wp2_with fail
        refine HFi.out.mono ?_
        rintro e w1 ⟨rfl, rfl⟩
        go_wp2_with fail
        refine HF0.out.mono ?_
        rintro e w1 ⟨rfl, rfl⟩
        go_wp2
        go_ret
        exact ⟨ret_int HR.out.symm, HB.out⟩
      | true =>
        by_cases hcol : x.col < 0 ∨ (cols.length : Int) ≤ x.col
        · have HR := Lib.hid (show refX cols l x = 3 by rw [HR0.out, if_pos (.inr hcol)])
          by_cases hc0 : x.col < 0
          · clear hcol
            go_enter Tryz.func23, Tryz.ntmps23
            go_wp2_with fail
            refine (HN.out _).mono ?_
            rintro e w1 ⟨rfl, rfl⟩
            go_wp2_with fail
            refine HFi.out.mono ?_
            rintro e w1 ⟨rfl, rfl⟩
            go_wp2_with fail
            refine HF0.out.mono ?_
            rintro e w1 ⟨rfl, rfl⟩
            go_wp2
            go_ret
            exact ⟨ret_int HR.out.symm, HB.out⟩
          · have hc1 : (cols.length : Int) ≤ x.col := by omega
            clear hcol
            go_enter Tryz.func23, Tryz.ntmps23
            go_wp2_with fail
            refine (HN.out _).mono ?_
            rintro e w1 ⟨rfl, rfl⟩
            go_wp2_with fail
            refine HFi.out.mono ?_
            rintro e w1 ⟨rfl, rfl⟩
            go_wp2_with fail
            refine HF0.out.mono ?_
            rintro e w1 ⟨rfl, rfl⟩
            go_wp2
            go_ret
            exact ⟨ret_int HR.out.symm, HB.out⟩
        · obtain ⟨q, hq⟩ : ∃ q : Nat, x.col = q := ⟨x.col.toNat, by omega⟩
          have hqn : q < cols.length := by omega
          obtain ⟨cb, off, rfl, k0, k1, -, -⟩ := HC.out.at_ q hqn
          have hkd : (cols.getD x.col.toNat ⟨⟨#[]⟩, 0⟩).kind = cols[q].kind := by rw [hq, Int.toNat_natCast, List.getD_eq_getElem?_getD, List.getElem?_eq_getElem hqn]; rfl
          rw [hkd] at HR0
          rw [hq] at x2
          obtain ⟨kd, hkd2⟩ : ∃ kd, cols[q].kind = kd := ⟨_, rfl⟩
          rw [hkd2] at HR0 k1
          obtain ⟨g1, hg1⟩ : ∃ f, (rfor x.meth kd).1 = f := ⟨_, rfl⟩
          obtain ⟨g2, hg2⟩ : ∃ f, (rfor x.meth kd).2 = f := ⟨_, rfl⟩
          have HF1 := Lib.hid (fun W => HFo.out kd W)
          rw [hg1, hg2] at HF1
          have HR1 := Lib.hid (show refX cols l x = if g1 = false then 10 else if x.uniq = true ∧ isK x.meth 1 = false ∧ isK x.meth 2 = false then 90 else if 6 ≤ l.length then 2 else 0 by
            rw [HR0.out, if_neg (by rintro (h | h); · cases h
                                    · exact hcol h), hg1])
          have hqi : (q : Int) < cols.length := by omega
          clear hcol hq hkd hkd2 hg1 hg2 HFo HC hqn k0
          cases g1 with
          | false =>
            have HR := Lib.hid (show refX cols l x = 10 by rw [HR1.out, if_pos rfl])
            go_enter Tryz.func23, Tryz.ntmps23
            go_wp2_with fail
            refine (HN.out _).mono ?_
            rintro e w1 ⟨rfl, rfl⟩
            go_wp2_with fail
            refine HFi.out.mono ?_
            rintro e w1 ⟨rfl, rfl⟩
            go_wp2_with fail
            refine HF0.out.mono ?_
            rintro e w1 ⟨rfl, rfl⟩
            go_wp2
            go_quiet (exact Calls.quiet_of_same (HF1.out _))
            go_wp2
            go_ret
            exact ⟨ret_int HR.out.symm, below_drewK HB.out nq⟩
          | true =>
            obtain ⟨u1, hu1⟩ : ∃ u, isK x.meth 1 = u := ⟨_, rfl⟩
            obtain ⟨u2, hu2⟩ : ∃ u, isK x.meth 2 = u := ⟨_, rfl⟩
            obtain ⟨un, hun⟩ : ∃ u, x.uniq = u := ⟨_, rfl⟩
            rw [hu1] at e1 eq1
            rw [hu2] at e2 eq2
            rw [hun] at x3
            have HR2 := Lib.hid (show refX cols l x = if un = true ∧ u1 = false ∧ u2 = false then 90 else if 6 ≤ l.length then 2 else 0 by rw [HR1.out, if_neg (by decide), hu1, hu2, hun])
            clear hu1 hu2 hun HR1 HR0
            cases un with
            | false =>
              by_cases h6 : 6 ≤ l.length
              · have h6i : (6 : Int) ≤ l.length := by omega
                have HR := Lib.hid (show refX cols l x = 2 by rw [HR2.out, if_neg (by simp), if_pos h6])
                clear h6
                go_enter Tryz.func23, Tryz.ntmps23
                go_wp2_with fail
                refine (HN.out _).mono ?_
                rintro e w1 ⟨rfl, rfl⟩
                go_wp2_with fail
                refine HFi.out.mono ?_
                rintro e w1 ⟨rfl, rfl⟩
                go_wp2_with fail
                refine HF0.out.mono ?_
                rintro e w1 ⟨rfl, rfl⟩
                go_wp2
                go_quiet (exact Calls.quiet_of_same (HF1.out _))
                go_wp2
                go_ret
                exact ⟨ret_int HR.out.symm, below_drewK HB.out nq⟩
              · have h6i : ¬ (6 : Int) ≤ l.length := by omega
                have HR := Lib.hid (show refX cols l x = 0 by rw [HR2.out, if_neg (by simp), if_neg h6])
                clear h6
                go_enter Tryz.func23, Tryz.ntmps23
                go_wp2_with fail
                refine (HN.out _).mono ?_
                rintro e w1 ⟨rfl, rfl⟩
                go_wp2_with fail
                refine HFi.out.mono ?_
                rintro e w1 ⟨rfl, rfl⟩
                go_wp2_with fail
                refine HF0.out.mono ?_
                rintro e w1 ⟨rfl, rfl⟩
                go_wp2
                go_quiet (exact Calls.quiet_of_same (HF1.out _))
                go_wp2
                go_ret
                exact ⟨ret_int HR.out.symm, below_drewK HB.out nq⟩
            | true =>
              cases u1 with
              | true =>
                rw [Bool.not_true] at e1
                by_cases h6 : 6 ≤ l.length
                · have h6i : (6 : Int) ≤ l.length := by omega
                  have HR := Lib.hid (show refX cols l x = 2 by rw [HR2.out, if_neg (by simp), if_pos h6])
                  clear h6
                  go_enter Tryz.func23, Tryz.ntmps23
                  go_wp2_with fail
                  refine (HN.out _).mono ?_
                  rintro e w1 ⟨rfl, rfl⟩
                  go_wp2_with fail
                  refine HFi.out.mono ?_
                  rintro e w1 ⟨rfl, rfl⟩
                  go_wp2_with fail
                  refine HF0.out.mono ?_
                  rintro e w1 ⟨rfl, rfl⟩
                  go_wp2
                  go_quiet (exact Calls.quiet_of_same (HF1.out _))
                  go_wp2
                  go_ret
                  exact ⟨ret_int HR.out.symm, below_drewK HB.out nq⟩
                · have h6i : ¬ (6 : Int) ≤ l.length := by omega
                  have HR := Lib.hid (show refX cols l x = 0 by rw [HR2.out, if_neg (by simp), if_neg h6])
                  clear h6
                  go_enter Tryz.func23, Tryz.ntmps23
                  go_wp2_with fail
                  refine (HN.out _).mono ?_
                  rintro e w1 ⟨rfl, rfl⟩
                  go_wp2_with fail
                  refine HFi.out.mono ?_
                  rintro e w1 ⟨rfl, rfl⟩
                  go_wp2_with fail
                  refine HF0.out.mono ?_
                  rintro e w1 ⟨rfl, rfl⟩
                  go_wp2
                  go_quiet (exact Calls.quiet_of_same (HF1.out _))
                  go_wp2
                  go_ret
                  exact ⟨ret_int HR.out.symm, below_drewK HB.out nq⟩
              | false =>
                rw [Bool.not_false] at e1
                cases u2 with
                | true =>
                  rw [Bool.not_true] at e2
                  by_cases h6 : 6 ≤ l.length
                  · have h6i : (6 : Int) ≤ l.length := by omega
                    have HR := Lib.hid (show refX cols l x = 2 by rw [HR2.out, if_neg (by simp), if_pos h6])
                    clear h6
                    go_enter Tryz.func23, Tryz.ntmps23
                    go_wp2_with fail
                    refine (HN.out _).mono ?_
                    rintro e w1 ⟨rfl, rfl⟩
                    go_wp2_with fail
                    refine HFi.out.mono ?_
                    rintro e w1 ⟨rfl, rfl⟩
                    go_wp2_with fail
                    refine HF0.out.mono ?_
                    rintro e w1 ⟨rfl, rfl⟩
                    go_wp2
                    go_quiet (exact Calls.quiet_of_same (HF1.out _))
                    go_wp2
                    go_ret
                    exact ⟨ret_int HR.out.symm, below_drewK HB.out nq⟩
                  · have h6i : ¬ (6 : Int) ≤ l.length := by omega
                    have HR := Lib.hid (show refX cols l x = 0 by rw [HR2.out, if_neg (by simp), if_neg h6])
                    clear h6
                    go_enter Tryz.func23, Tryz.ntmps23
                    go_wp2_with fail
                    refine (HN.out _).mono ?_
                    rintro e w1 ⟨rfl, rfl⟩
                    go_wp2_with fail
                    refine HFi.out.mono ?_
                    rintro e w1 ⟨rfl, rfl⟩
                    go_wp2_with fail
                    refine HF0.out.mono ?_
                    rintro e w1 ⟨rfl, rfl⟩
                    go_wp2
                    go_quiet (exact Calls.quiet_of_same (HF1.out _))
                    go_wp2
                    go_ret
                    exact ⟨ret_int HR.out.symm, below_drewK HB.out nq⟩
                | false =>
                  rw [Bool.not_false] at e2
                  have HR := Lib.hid (show refX cols l x = 90 by rw [HR2.out, if_pos (by decide)])
                  go_enter Tryz.func23, Tryz.ntmps23
                  go_wp2_with fail
                  refine (HN.out _).mono ?_
                  rintro e w1 ⟨rfl, rfl⟩
                  go_wp2_with fail
                  refine HFi.out.mono ?_
                  rintro e w1 ⟨rfl, rfl⟩
                  go_wp2_with fail
                  refine HF0.out.mono ?_
                  rintro e w1 ⟨rfl, rfl⟩
                  go_wp2
                  go_quiet (exact Calls.quiet_of_same (HF1.out _))
                  go_wp2
                  go_ret
                  exact ⟨ret_int HR.out.symm, below_drewK HB.out nq⟩
end Go.Proofs.YtiakepcgalmjfaaGreat
