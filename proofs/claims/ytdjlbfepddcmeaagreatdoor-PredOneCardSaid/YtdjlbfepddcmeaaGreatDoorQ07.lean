/- Columns: the reference's. -/
import Derived.Test.YtdjlbfepddcmeaaGreatDoorQ06
set_option linter.unusedVariables false
set_option linter.unusedSimpArgs false
namespace Go.Proofs.YtdjlbfepddcmeaaGreatDoor
open Go.RowKit

theorem cols_cell {w : World} {b off : Nat} {l : List Co} (h : ColIs w (some ⟨b, off, none⟩) l) (i : Nat) (hi : i < l.length) : w.cell? ⟨b, off + i * 2, none⟩ = some (.string l[i].name) ∧ w.cell? ⟨b, off + i * 2 + 1, none⟩ = some (.int .i64 l[i].kind) := by
  obtain ⟨b', off', e, h0, h1, _⟩ := h.at_ i hi
  obtain ⟨rfl, rfl⟩ : b = b' ∧ off = off' := by simpa using e
  exact ⟨h0, h1⟩
theorem seenB_of (l : List Co) (k j : Nat) (s : List UInt8) (hj : j < k) (h : j < l.length) (e : (l[j].name.data.toList == s) = true) : seenB (l.take k) s = true := by
  refine any_true_of _ _ j (by simp; omega) ?_
  simpa using e

set_option maxRecDepth 100000 in
set_option maxHeartbeats 2000000 in
theorem rcolumns_any (l : List Co) (a : Option Addr) (c : Nat) (w : World) (hr : ColIs w a l) (hl : l.length ≤ 140737488351232) :
    Calls Tryz.prog 12 #[.slice a l.length c] w fun e w' => e = .returned (.int .i64 (colE l)) ∧ Below w.heap.size w w' := by
  by_cases h1 : 1 ≤ l.length
  · by_cases h4 : l.length ≤ 4
    · have e1 : decide ((l.length : Int) < 1) = false := by simp; omega
      have e4 : decide ((4 : Int) < (l.length : Int)) = false := by simp; omega
      go_enter Tryz.func12, Tryz.ntmps12
      go_wp2
      go_loopw [3] (fun i wr => ∃ k : Nat, k ≤ l.length ∧ i = .int .i64 k ∧ goodTo l k = true ∧ Below w.heap.size w wr)
        (fun i _ => l.length - (intOf i).toNat)
      case atStart => exact ⟨0, Nat.zero_le _, rfl, rfl, Below.refl _ _⟩
      case round =>
        obtain ⟨k, hk, rfl, hgood, hb⟩ := hrel
        have HGD := Lib.hid hgood
        clear hgood
        by_cases hlt : k < l.length
        · obtain ⟨b, off, rfl, g0, g1, hsz, hin⟩ := (hr.below hb).at_ k hlt
          have HK := Lib.hid (cols_cell hr k hlt)
          have HNO := Lib.hid (good_no l k hlt)
          have HYES := Lib.hid (goodTo_succ l k hlt)
          generalize hnm : l[k].name = nm at *
          generalize hkd : l[k].kind = kd at *
          have HOK := Lib.hid (show l[k].ok = (nameB nm.data.toList && kindB kd) by rw [Co.ok, hnm, hkd])
          clear hnm hkd
          have hz := hb.size
          have HNM := Lib.hid (rname_any nm · hsz)
          cases hn : nameB nm.data.toList with
          | false =>
            have HC := Lib.hid (show colsB l = false from HNO.out (.inl (by rw [HOK.out, hn]; rfl)))
            rw [hn] at HNM
            go_wp2_with (go_at_call 29; refine (HNM.out _).mono ?_; rintro e w' ⟨rfl, rfl⟩)
            go_ret
            exact ⟨ret_int (by rw [colE, HC.out]; rfl), hb⟩
          | true =>
            rw [hn] at HNM
            by_cases k1 : 1 ≤ kd
            · by_cases k3 : kd ≤ 3
              · go_wp2_with (go_at_call 29; refine (HNM.out _).mono ?_; rintro e w' ⟨rfl, rfl⟩)
                obtain ⟨wo, rfl⟩ : ∃ wo : World, wo = w' := ⟨_, rfl⟩
                go_loopw [4] (fun i wq => ∃ j : Nat, j ≤ k ∧ i = .int .i64 j ∧ seenB (l.take j) nm.data.toList = false ∧ Below w.heap.size w wq)
                  (fun i _ => k - (intOf i).toNat)
                case atStart => exact ⟨0, Nat.zero_le _, rfl, rfl, hb⟩
                case round =>
                  obtain ⟨j, hj, rfl, hno, hbq⟩ := hrel
                  have HNS := Lib.hid hno
                  clear hno
                  by_cases hjk : j < k
                  · obtain ⟨b', off', hbo, q0, q1, qs, qi⟩ := (hr.below hbq).at_ j (by omega)
                    obtain ⟨rfl, rfl⟩ : b = b' ∧ off = off' := by simpa using hbo
                    have q2 : wr.cell? ⟨b, off + k * 2, none⟩ = some (.string nm) := (hbq.cell (World.block_lt_of_cell? w _ (HK.out).1)).trans (HK.out).1
                    clear hbo g0 g1
                    have HT := Lib.hid (any_take_succ l (fun d => d.name.data.toList == nm.data.toList) j (by omega))
                    have HSN := Lib.hid (seenB_of l k j nm.data.toList hjk (by omega))
                    generalize hjn : l[j].name = mj at *
                    cases hq : (mj.toList == nm.toList) with
                    | true =>
                      have HC := Lib.hid (show colsB l = false from HNO.out (.inr (HSN.out (by rw [← Lib.toList_data, ← Lib.toList_data]; exact hq))))
                      clear hjn
                      go_wp2
                      go_quiet (fail)
                      go_wp2
                      go_ret
                      exact ⟨ret_int (by rw [colE, HC.out]; rfl), hbq.trans ((below_drewNg _ _).mono hbq.size)⟩
                    | false =>
                      have HG := Lib.hid (show seenB (l.take (j + 1)) nm.data.toList = false by
                        rw [seenB, HT.out, ← Lib.toList_data mj, ← Lib.toList_data nm, hq, Bool.or_false]; have := HNS.out; rw [seenB, ← Lib.toList_data nm] at this; exact this)
                      clear hjn
                      go_wp2
                      go_quiet (fail)
                      go_wp2
                      go_roundw
                      case rel => exact ⟨j + 1, by omega, by go_num, HG.out, hbq.trans ((below_drewNg _ _).mono hbq.size)⟩
                      case measure => simp [intOf]; omega
                  · have HG := Lib.hid (show goodTo l (k + 1) = true by
                      rw [HYES.out, HGD.out, HOK.out, hn, show l.take k = l.take j by rw [show j = k by omega], HNS.out]; simp [kindB, k1, k3])
                    go_wp2
                    go_roundw
                    case rel => exact ⟨k + 1, by omega, by go_num, HG.out, hbq⟩
                    case measure => simp [intOf]; omega
              · have HC := Lib.hid (show colsB l = false from HNO.out (.inl (by rw [HOK.out, hn]; simp [kindB, k3])))
                go_wp2_with (go_at_call 29; refine (HNM.out _).mono ?_; rintro e w' ⟨rfl, rfl⟩)
                go_ret
                exact ⟨ret_int (by rw [colE, HC.out]; rfl), hb⟩
            · have HC := Lib.hid (show colsB l = false from HNO.out (.inl (by rw [HOK.out, hn]; simp [kindB, k1])))
              go_wp2_with (go_at_call 29; refine (HNM.out _).mono ?_; rintro e w' ⟨rfl, rfl⟩)
              go_ret
              exact ⟨ret_int (by rw [colE, HC.out]; rfl), hb⟩
        · go_wp2
          go_ret
          exact ⟨ret_int (by rw [colE, colsB_yes l h1 h4 (by have := HGD.out; rwa [show k = l.length by omega] at this)]; rfl), hb⟩
    · have e1 : decide ((l.length : Int) < 1) = false := by simp; omega
      have e4 : decide ((4 : Int) < (l.length : Int)) = true := by simp; omega
      have HC := Lib.hid (show colsB l = false by simp [colsB]; omega)
      go_enter Tryz.func12, Tryz.ntmps12
      go_wp2
      go_ret
      exact ⟨ret_int (by rw [colE, HC.out]; rfl), Below.refl _ _⟩
  · have e1 : decide ((l.length : Int) < 1) = true := by simp; omega
    have HC := Lib.hid (show colsB l = false by simp [colsB]; omega)
    go_enter Tryz.func12, Tryz.ntmps12
    go_wp2
    go_ret
    exact ⟨ret_int (by rw [colE, HC.out]; rfl), Below.refl _ _⟩
end Go.Proofs.YtdjlbfepddcmeaaGreatDoor
