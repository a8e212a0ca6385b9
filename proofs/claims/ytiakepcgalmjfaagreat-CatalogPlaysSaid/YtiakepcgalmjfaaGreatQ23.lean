/- The reference's columns; New and Make that refuse. A catalog's leaf as columns and indexes: plain laws. A catalog's leaf: Set and Drop as the list's. A catalog's leaf: Add as the list's. -/
import Derived.Test.YtiakepcgalmjfaaGreatQ22
import Derived.BigQuiet
set_option linter.unusedVariables false
set_option linter.unusedSimpArgs false
namespace Go.Proofs.YtiakepcgalmjfaaGreat
open Go.RowKit

theorem all_take_succ {α : Type} (l : List α) (p : α → Bool) (k : Nat) (h : k < l.length) : (l.take (k + 1)).all p = ((l.take k).all p && p l[k]) := all_take_K l p k h
theorem all_false_of {α : Type} (l : List α) (p : α → Bool) (k : Nat) (h : k < l.length) (hp : p l[k] = false) : l.all p = false := by
  rw [List.all_eq_false]; exact ⟨_, List.getElem_mem h, by simp [hp]⟩
theorem below_drewNg (w : World) (n : Nat) : Below w.heap.size w (w.drewN n) := ⟨rfl, rfl, rfl, Nat.le_refl _, fun _ _ => rfl⟩


def rnameTo (s : ByteArray) (j : Nat) : Prop := (s.data.toList.take j).all letter = true
theorem letter_byte (b : UInt8) (h : letter b = true) : decide ((b.toNat : Int) < 97) = false ∧ decide ((122 : Int) < (b.toNat : Int)) = false := by
  simp [letter] at h; simp; omega
theorem not_letter (b : UInt8) (h : letter b = false) : decide ((b.toNat : Int) < 97) = true ∨ (decide ((b.toNat : Int) < 97) = false ∧ decide ((122 : Int) < (b.toNat : Int)) = true) := by
  simp [letter] at h; simp; omega

theorem nameB_false_of (s : List UInt8) (j : Nat) (h : j < s.length) (hl : letter s[j] = false) : nameB s = false := by
  have : s.all letter = false := all_false_of s letter j h hl
  simp [nameB, this]

set_option maxHeartbeats 1000000 in
theorem rname_any (s : ByteArray) (w : World) (hs : s.size ≤ 9223372036854775807) :
    Calls Tryz.prog 58 #[.string s] w fun e w' => e = .returned (.bool (nameB s.data.toList)) ∧ w' = w := by
  have hsz : s.data.toList.length = s.size := by simp
  have HS := Lib.hid hsz
  clear hsz
  go_enter Tryz.func58, Tryz.ntmps58
  go_wp2
  go_loop [3] (fun i => ∃ j : Nat, j ≤ s.size ∧ i = .int .i64 j ∧ (s.data.toList.take j).all letter = true) (fun i => s.size - (intOf i).toNat)
  case atStart => exact ⟨0, Nat.zero_le _, rfl, rfl⟩
  case round =>
    obtain ⟨j, hj, rfl, hall⟩ := hrel
    have HA := Lib.hid hall
    clear hall
    by_cases hlt : j < s.size
    · have hj' : j < s.data.toList.length := by rw [HS.out]; exact hlt
      have hg : s.data.toList[j] = s[j] := rfl
      have HG := Lib.hid hg
      clear hg
      cases hl : letter s[j] with
      | true =>
        obtain ⟨b1, b2⟩ := letter_byte _ hl
        have HL := Lib.hid hl
        clear hl
        go_wp2
        go_round
        case rel => exact ⟨j + 1, by omega, by go_num, by rw [all_take_succ _ _ _ hj', HA.out, HG.out, HL.out]; rfl⟩
        case measure => simp [intOf]; omega
      | false =>
        have HN := Lib.hid (nameB_false_of _ j hj' (by rw [HG.out]; exact hl))
        rcases not_letter _ hl with b1 | ⟨b1, b2⟩
        all_goals
          clear hl
          go_wp2
          go_ret
          exact ⟨ret_bool HN.out.symm, rfl⟩
    · have HAll := Lib.hid (show s.data.toList.all letter = true by rw [← List.take_of_length_le (show s.data.toList.length ≤ j by rw [HS.out]; omega)]; exact HA.out)
      by_cases h1 : 1 ≤ s.size
      · by_cases h2 : s.size ≤ 16
        · have e1 : decide ((1 : Int) ≤ (s.size : Int)) = true := by simp; omega
          have e2 : decide ((s.size : Int) ≤ 16) = true := by simp; omega
          have HN := Lib.hid (show nameB s.data.toList = !wordsL.contains s.data.toList by simp [nameB, HAll.out, HS.out, h1, h2])
          have HE := Lib.hid (show s.toList = s.data.toList from Lib.toList_data s)
          cases c0 : (s.toList == [97, 110, 100]) <;> cases c1 : (s.toList == [111, 114]) <;> cases c2 : (s.toList == [110, 111, 116]) <;> cases c3 : (s.toList == [116, 114, 117, 101]) <;> cases c4 : (s.toList == [104, 97, 115])
          all_goals
            have HC := Lib.hid (show wordsL.contains s.data.toList = ((s.toList == [97, 110, 100]) || ((s.toList == [111, 114]) || ((s.toList == [110, 111, 116]) || ((s.toList == [116, 114, 117, 101]) || ((s.toList == [104, 97, 115]) || false))))) by rw [← HE.out]; rfl)
            rw [c0, c1, c2, c3, c4] at HC
            have d0 : (s.toList != [97, 110, 100]) = !(s.toList == [97, 110, 100]) := rfl
            have d1 : (s.toList != [111, 114]) = !(s.toList == [111, 114]) := rfl
            have d2 : (s.toList != [110, 111, 116]) = !(s.toList == [110, 111, 116]) := rfl
            have d3 : (s.toList != [116, 114, 117, 101]) = !(s.toList == [116, 114, 117, 101]) := rfl
            have d4 : (s.toList != [104, 97, 115]) = !(s.toList == [104, 97, 115]) := rfl
            rw [c0] at d0
            rw [c1] at d1
            rw [c2] at d2
            rw [c3] at d3
            rw [c4] at d4
            go_wp2
            go_ret
            exact ⟨ret_bool (by rw [HN.out, HC.out]; rfl), rfl⟩
        · have e2 : decide ((s.size : Int) ≤ 16) = false := by simp; omega
          have HN := Lib.hid (show nameB s.data.toList = false by simp [nameB, HS.out]; omega)
          go_wp2
          go_ret
          exact ⟨ret_bool HN.out.symm, rfl⟩
      · have e1 : decide ((1 : Int) ≤ (s.size : Int)) = false := by simp; omega
        have HN := Lib.hid (show nameB s.data.toList = false by simp [nameB, HS.out]; omega)
        go_wp2
        go_ret
        exact ⟨ret_bool HN.out.symm, rfl⟩


theorem cols_cell {w : World} {b off : Nat} {l : List Co} (h : ColIs w (some ⟨b, off, none⟩) l) (i : Nat) (hi : i < l.length) : w.cell? ⟨b, off + i * 2, none⟩ = some (.string l[i].name) ∧ w.cell? ⟨b, off + i * 2 + 1, none⟩ = some (.int .i64 l[i].kind) := by
  obtain ⟨b', off', e, h0, h1, _⟩ := h.at_ i hi
  obtain ⟨rfl, rfl⟩ : b = b' ∧ off = off' := by simpa using e
  exact ⟨h0, h1⟩
theorem seenB_of (l : List Co) (k j : Nat) (s : List UInt8) (hj : j < k) (h : j < l.length) (e : (l[j].name.data.toList == s) = true) : seenB (l.take k) s = true := by
  refine any_true_of _ _ j (by simp; omega) ?_
  simpa using e

set_option maxRecDepth 100000 in
set_option maxHeartbeats 2000000 in
theorem rcolumns_any (l : List Co) (a : Option Addr) (c : Nat) (w : World) (hr : ColIs w a l) (hl : l.length ≤ 9223372036854775807) :
    Calls Tryz.prog 21 #[.slice a l.length c] w fun e w' => e = .returned (.int .i64 (colE l)) ∧ Below w.heap.size w w' := by
  by_cases h1 : 1 ≤ l.length
  · by_cases h4 : l.length ≤ 4
    · have e1 : decide ((l.length : Int) < 1) = false := by simp; omega
      have e4 : decide ((4 : Int) < (l.length : Int)) = false := by simp; omega
      go_enter Tryz.func21, Tryz.ntmps21
      go_wp2
      go_loopw [3] (fun i wr => ∃ k : Nat, k ≤ l.length ∧ i = .int .i64 k ∧ goodTo l k = true ∧ Below w.heap.size w wr)
        (fun i _ => l.length - (intOf i).toNat)
      case atStart => exact ⟨0, Nat.zero_le _, rfl, rfl, Below.refl _ _⟩
      case round =>
        obtain ⟨k, hk, rfl, hgood, hb⟩ := hrel
        have HGD := Lib.hid hgood
        clear hgood
        by_cases hlt : k < l.length
        · obtain ⟨b, off, rfl, g0, g1, hsz, hin⟩ := (hr.below hb).at_ k hlt
          have HK := Lib.hid (cols_cell hr k hlt)
          have HNO := Lib.hid (good_no l k hlt)
          have HYES := Lib.hid (goodTo_succ l k hlt)
          generalize hnm : l[k].name = nm at *
          generalize hkd : l[k].kind = kd at *
          have HOK := Lib.hid (show l[k].ok = (nameB nm.data.toList && kindB kd) by rw [Co.ok, hnm, hkd])
          clear hnm hkd
          have hz := hb.size
          have HNM := Lib.hid (rname_any nm · hsz)
          cases hn : nameB nm.data.toList with
          | false =>
            have HC := Lib.hid (show colsB l = false from HNO.out (.inl (by rw [HOK.out, hn]; rfl)))
            rw [hn] at HNM
            go_wp2_with (go_at_call 58; refine (HNM.out _).mono ?_; rintro e w' ⟨rfl, rfl⟩)
            go_ret
            exact ⟨ret_int (by rw [colE, HC.out]; rfl), hb⟩
          | true =>
            rw [hn] at HNM
            by_cases k1 : 1 ≤ kd
            · by_cases k3 : kd ≤ 3
              · go_wp2_with (go_at_call 58; refine (HNM.out _).mono ?_; rintro e w' ⟨rfl, rfl⟩)
                obtain ⟨wo, rfl⟩ : ∃ wo : World, wo = w' := ⟨_, rfl⟩
                go_loopw [4] (fun i wq => ∃ j : Nat, j ≤ k ∧ i = .int .i64 j ∧ seenB (l.take j) nm.data.toList = false ∧ Below w.heap.size w wq)
                  (fun i _ => k - (intOf i).toNat)
                case atStart => exact ⟨0, Nat.zero_le _, rfl, rfl, hb⟩
                case round =>
                  obtain ⟨j, hj, rfl, hno, hbq⟩ := hrel
                  have HNS := Lib.hid hno
                  clear hno
                  by_cases hjk : j < k
                  · obtain ⟨b', off', hbo, q0, q1, qs, qi⟩ := (hr.below hbq).at_ j (by omega)
                    obtain ⟨rfl, rfl⟩ : b = b' ∧ off = off' := by simpa using hbo
                    have q2 : wr.cell? ⟨b, off + k * 2, none⟩ = some (.string nm) := (hbq.cell (World.block_lt_of_cell? w _ (HK.out).1)).trans (HK.out).1
                    clear hbo g0 g1
                    have HT := Lib.hid (any_take_succ l (fun d => d.name.data.toList == nm.data.toList) j (by omega))
                    have HSN := Lib.hid (seenB_of l k j nm.data.toList hjk (by omega))
                    generalize hjn : l[j].name = mj at *
                    cases hq : (mj.toList == nm.toList) with
                    | true =>
                      have HC := Lib.hid (show colsB l = false from HNO.out (.inr (HSN.out (by rw [← Lib.toList_data, ← Lib.toList_data]; exact hq))))
                      clear hjn
                      go_wp2
                      go_quiet (fail)
                      go_wp2
                      go_ret
                      exact ⟨ret_int (by rw [colE, HC.out]; rfl), hbq.trans ((below_drewNg _ _).mono hbq.size)⟩
                    | false =>
                      have HG := Lib.hid (show seenB (l.take (j + 1)) nm.data.toList = false by
                        rw [seenB, HT.out, ← Lib.toList_data mj, ← Lib.toList_data nm, hq, Bool.or_false]; have := HNS.out; rw [seenB, ← Lib.toList_data nm] at this; exact this)
                      clear hjn
                      go_wp2
                      go_quiet (fail)
                      go_wp2
                      go_roundw
                      case rel => exact ⟨j + 1, by omega, by go_num, HG.out, hbq.trans ((below_drewNg _ _).mono hbq.size)⟩
                      case measure => simp [intOf]; omega
                  · have HG := Lib.hid (show goodTo l (k + 1) = true by
                      rw [HYES.out, HGD.out, HOK.out, hn, show l.take k = l.take j by rw [show j = k by omega], HNS.out]; simp [kindB, k1, k3])
                    go_wp2
                    go_roundw
                    case rel => exact ⟨k + 1, by omega, by go_num, HG.out, hbq⟩
                    case measure => simp [intOf]; omega
              · have HC := Lib.hid (show colsB l = false from HNO.out (.inl (by rw [HOK.out, hn]; simp [kindB, k3])))
                go_wp2_with (go_at_call 58; refine (HNM.out _).mono ?_; rintro e w' ⟨rfl, rfl⟩)
                go_ret
                exact ⟨ret_int (by rw [colE, HC.out]; rfl), hb⟩
            · have HC := Lib.hid (show colsB l = false from HNO.out (.inl (by rw [HOK.out, hn]; simp [kindB, k1])))
              go_wp2_with (go_at_call 58; refine (HNM.out _).mono ?_; rintro e w' ⟨rfl, rfl⟩)
              go_ret
              exact ⟨ret_int (by rw [colE, HC.out]; rfl), hb⟩
        · go_wp2
          go_ret
          exact ⟨ret_int (by rw [colE, colsB_yes l h1 h4 (by have := HGD.out; rwa [show k = l.length by omega] at this)]; rfl), hb⟩
    · have e1 : decide ((l.length : Int) < 1) = false := by simp; omega
      have e4 : decide ((4 : Int) < (l.length : Int)) = true := by simp; omega
      have HC := Lib.hid (show colsB l = false by simp [colsB]; omega)
      go_enter Tryz.func21, Tryz.ntmps21
      go_wp2
      go_ret
      exact ⟨ret_int (by rw [colE, HC.out]; rfl), Below.refl _ _⟩
  · have e1 : decide ((l.length : Int) < 1) = true := by simp; omega
    have HC := Lib.hid (show colsB l = false by simp [colsB]; omega)
    go_enter Tryz.func21, Tryz.ntmps21
    go_wp2
    go_ret
    exact ⟨ret_int (by rw [colE, HC.out]; rfl), Below.refl _ _⟩

set_option maxRecDepth 100000 in
set_option maxHeartbeats 2000000 in
theorem New_none {bs : Nat} {B : Base bs} {w : World} {ba : Nat} {F : Nat → Prop} {R : Raw} (hA : ActIs B w ba F R) (hf : Fine B R) (hr : R.root 0 = 0) :
    Calls Tryz.prog 18 #[.pointer (some ⟨ba, 0, none⟩)] w fun e w' => e = .returned (.tuple #[.pointer none, .int .i64 3]) ∧ Step B ba w F R w' := by
  have HT := Lib.hid (treeNew_any hA hf.cov 0 (by decide))
  have H := Lib.hid (And.intro hf hr)
  clear hA hf hr
  go_enter Tryz.func18, Tryz.ntmps18
  go_wp2_with fail
  refine HT.out.mono ?_
  rintro e w1 ⟨tb, F1, rfl, ht1, hlt1, htF1, hA1, hF1, ho1⟩
  have HLen := Lib.hid (Len_none ht1 hA1 H.out.1 htF1 (by decide) H.out.2)
  have H1 := Lib.hid (And.intro hF1 ho1)
  clear ht1 hlt1 htF1 hA1 hF1 ho1 HT
  go_wp2_with fail
  refine HLen.out.mono ?_
  rintro e w2 ⟨rfl, hs2⟩
  have HS := Lib.hid (Step.trans H1.out.2 H1.out.1 hs2)
  clear hs2 HLen
  go_wp2
  go_ret2
  exact ⟨rfl, HS.out⟩

set_option maxRecDepth 100000 in
set_option maxHeartbeats 4000000 in
theorem Make_bad {bs : Nat} {B : Base bs} {w : World} {ba : Nat} {F : Nat → Prop} {R : Raw} (hA : ActIs B w ba F R) (hf : Fine B R) (hr : R.root 0 = 0) (l : List Co) (a : Option Addr) (c : Nat) (hci : ColIs w a l) (hl : l.length ≤ 9223372036854775807) (haF : ∀ b off, a = some ⟨b, off, none⟩ → ¬ F b) (hok : colsB l = false) :
    Calls Tryz.prog 20 #[.pointer (some ⟨ba, 0, none⟩), .slice a l.length c] w fun e w' => e = .returned (.int .i64 160) ∧ Step B ba w F R w' := by
  have HT := Lib.hid (treeNew_any hA hf.cov 0 (by decide))
  have H := Lib.hid (And.intro hf (And.intro hr (And.intro hci haF)))
  have hlt : ∀ b off, a = some ⟨b, off, none⟩ → 0 < l.length → b < w.heap.size := fun b off e h0 => hci.lt h0 e
  have HL := Lib.hid hlt
  clear hA hf hr hci haF hlt
  go_enter Tryz.func20, Tryz.ntmps20
  go_wp2_with fail
  refine HT.out.mono ?_
  rintro e w1 ⟨tb, F1, rfl, ht1, hlt1, htF1, hA1, hF1, ho1⟩
  have HLen := Lib.hid (Len_none ht1 hA1 H.out.1 htF1 (by decide) H.out.2.1)
  have H1 := Lib.hid (And.intro hF1 ho1)
  clear ht1 hlt1 htF1 hA1 hF1 ho1 HT
  go_wp2_with fail
  refine HLen.out.mono ?_
  rintro e w2 ⟨rfl, hs2⟩
  have hs := Step.trans H1.out.2 H1.out.1 hs2
  have hci2 : ColIs w2 a l := by
    obtain ⟨F2, _, _, ho⟩ := hs
    exact H.out.2.2.1.off ho H.out.2.2.2
  have HC := Lib.hid (columns_any l a c w2 hci2 hl)
  have HS := Lib.hid hs
  clear hs hs2 hci2 HLen
  go_wp2_with fail
  refine HC.out.mono ?_
  rintro e w3 ⟨rfl, hb3⟩
  have HS3 := Lib.hid (HS.out.below hb3)
  rw [show colE l = 160 by unfold colE; rw [hok]; rfl]
  clear hb3 HC hok
  go_wp2
  go_ret
  exact ⟨rfl, HS3.out⟩

set_option maxRecDepth 100000 in
set_option maxHeartbeats 4000000 in
theorem Make_twice {bs : Nat} {B : Base bs} {w : World} {ba : Nat} {F : Nat → Prop} {R : Raw} (hA : ActIs B w ba F R) (hf : Fine B R) {L : List KV} (hL : Leaf R 0 L) (h0 : L.length ≠ 0) (v : Value) :
    Calls Tryz.prog 20 #[.pointer (some ⟨ba, 0, none⟩), v] w fun e w' => e = .returned (.int .i64 160) ∧ Step B ba w F R w' := by
  have HT := Lib.hid (treeNew_any hA hf.cov 0 (by decide))
  have H := Lib.hid (And.intro hf hL)
  have hpos : (0 : Int) < (L.length : Int) := by omega
  clear hA hf hL
  go_enter Tryz.func20, Tryz.ntmps20
  go_wp2_with fail
  refine HT.out.mono ?_
  rintro e w1 ⟨tb, F1, rfl, ht1, hlt1, htF1, hA1, hF1, ho1⟩
  have HLen := Lib.hid (Len_leaf ht1 hA1 H.out.1 htF1 (by decide) H.out.2)
  have H1 := Lib.hid (And.intro hF1 ho1)
  clear ht1 hlt1 htF1 hA1 hF1 ho1 HT
  go_wp2_with fail
  refine HLen.out.mono ?_
  rintro e w2 ⟨rfl, hs2⟩
  have HS := Lib.hid (Step.trans H1.out.2 H1.out.1 hs2)
  clear hs2 HLen
  generalize L.length = n at *
  go_wp2
  go_ret
  exact ⟨rfl, HS.out⟩
end Go.Proofs.YtiakepcgalmjfaaGreat

namespace Go.Proofs.YtiakepcgalmjfaaGreat
open Go.RowKit

theorem xkey_data (s : ByteArray) : (xkey s).data.toList = 120 :: s.data.toList := by
  unfold xkey
  rw [ByteArray.data_append, Array.toList_append]
  rfl
theorem xname (s : ByteArray) : (xkey s).extract 1 (xkey s).size = s := by
  apply ByteArray.ext
  apply Array.toList_inj.1
  rw [ByteArray.data_extract, Array.toList_extract, xkey_data]
  have e : s.data.toList.length = s.size := by simp
  rw [List.extract_eq_take_drop, xkey_size, List.drop_succ_cons, List.drop_zero]
  exact List.take_of_length_le (by rw [e]; omega)
theorem bytes_eq {a b : ByteArray} (h : a.data.toList = b.data.toList) : a = b := by
  apply ByteArray.ext
  exact Array.toList_inj.1 h
/-- The items of indexes. -/
structure XOk (X : List KV) : Prop where
  ent : ∀ y ∈ X, ∃ s, y.k = xkey s ∧ nameX s.data.toList = true ∧ y.v.size = 5 ∧ byteN y.v 0 < 4 ∧ 2 ≤ byteN y.v 4 ∧ byteN y.v 4 < 8
  rises : Sorted X
  roots : ∀ i j (hi : i < X.length) (hj : j < X.length), i < j → byteN X[i].v 4 ≠ byteN X[j].v 4
theorem XOk.nil : XOk [] := ⟨fun y h => by simp at h, fun i j hi => by simp at hi, fun i j hi => by simp at hi⟩
theorem cmp_xkey (a b : ByteArray) : Go.Lib.compareBytes (xkey a).data.toList (xkey b).data.toList = Go.Lib.compareBytes a.data.toList b.data.toList := by
  rw [xkey_data, xkey_data]
  simp [Go.Lib.compareBytes]
theorem cmp_eq {a b : ByteArray} : Go.Lib.compareBytes a.data.toList b.data.toList = 0 ↔ (a.toList == b.toList) = true := by
  rw [Go.Lib.toList_data, Go.Lib.toList_data]
  constructor
  · intro h
    rw [cb_eq _ _ h]
    simp
  · intro h
    rw [beq_iff_eq] at h
    rw [h]
    exact cb_self _
theorem XOk.name {X : List KV} (h : XOk X) {y : KV} (hy : y ∈ X) : y.k = xkey (xiOf y).name ∧ nameX (xiOf y).name.data.toList = true := by
  obtain ⟨s, hk, hn, _⟩ := h.ent y hy
  have e : (xiOf y).name = s := by
    show y.k.extract 1 y.k.size = s
    rw [hk]
    exact xname s
  rw [e]
  exact ⟨hk, hn⟩
theorem XOk.cmp {X : List KV} (h : XOk X) {y : KV} (hy : y ∈ X) (s : ByteArray) : cmpK y (xkey s) = Go.Lib.compareBytes (xiOf y).name.data.toList s.data.toList := by
  unfold cmpK
  rw [(h.name hy).1, cmp_xkey]
theorem findXi_none (L : List Xi) (s : ByteArray) (h : ∀ t (ht : t < L.length), (L[t].name.toList == s.toList) = false) : findXi L s = -1 := by
  rw [findXi_skip L s L.length (Nat.le_refl _) (fun t ht _ => h t ht), List.drop_of_length_le (Nat.le_refl _), findXi]
  rfl
theorem find_cut {X : List KV} (h : XOk X) {s : ByteArray} {j : Nat} (hc : Cut X (xkey s) j) : findXi (X.map xiOf) s = if isAt X (xkey s) j = true then (j : Int) else -1 := by
  have hne : ∀ t (ht : t < (X.map xiOf).length), cmpK (X[t]'(by simpa using ht)) (xkey s) ≠ 0 → ((X.map xiOf)[t].name.toList == s.toList) = false := fun t ht hz => by
    have ht' : t < X.length := by simpa using ht
    rw [List.getElem_map]
    rw [h.cmp (List.getElem_mem ht')] at hz
    cases hq : ((xiOf X[t]).name.toList == s.toList) with
    | false => rfl
    | true => exact absurd (cmp_eq.2 hq) hz
  by_cases hat : isAt X (xkey s) j = true
  · rw [if_pos hat]
    obtain ⟨hj, hk⟩ := isAt_some hat
    rw [findXi_skip _ s j (by simp; omega) (fun t ht htj => hne t ht (by have := hc.lo t (by simpa using ht) htj; omega))]
    have hd : (X.map xiOf).drop j = xiOf X[j] :: (X.map xiOf).drop (j + 1) := by
      rw [List.drop_eq_getElem_cons (by simpa using hj), List.getElem_map]
    have he : ((xiOf X[j]).name.toList == s.toList) = true := by
      rw [h.cmp (List.getElem_mem hj)] at hk
      exact cmp_eq.1 hk
    rw [hd, findXi, he]
    simp
  · rw [if_neg hat]
    refine findXi_none _ _ fun t ht => hne t ht ?_
    have ht' : t < X.length := by simpa using ht
    by_cases h1 : t < j
    · have := hc.lo t ht' h1
      omega
    · have h2 := hc.hi t ht' (by omega)
      have hz : isAt X (xkey s) j = false := by simpa using hat
      have hjl : j < X.length := by omega
      have h3 := isAt_none hz hjl
      by_cases e : t = j
      · subst e; exact h3
      · have h4 := h.rises j t hjl ht' (by omega)
        have h5 := hc.hi j hjl (Nat.le_refl _)
        intro e0
        have h6 : X[t].k.data.toList = (xkey s).data.toList := cb_eq _ _ e0
        rw [h6] at h4
        unfold cmpK at h5
        omega

theorem colK_xkey (i : Nat) (s : ByteArray) : Go.Lib.compareBytes (colK i).data.toList (xkey s).data.toList < 0 := by
  rw [xkey_data]
  show Go.Lib.compareBytes (99 :: [UInt8.ofNat i]) (120 :: s.data.toList) < 0
  simp [Go.Lib.compareBytes]
/-- A catalog's leaf. -/
def catL (cols : List Co) (X : List KV) : List KV := colL cols cols.length ++ X
theorem catL_length (cols : List Co) (X : List KV) : (catL cols X).length = cols.length + X.length := by unfold catL; rw [List.length_append, colL_length]
theorem catL_col (cols : List Co) (X : List KV) (t : Nat) (ht : t < cols.length) (h : t < (catL cols X).length) : (catL cols X)[t] = colX cols t := by
  have hh : t < (colL cols cols.length ++ X).length := h
  show (colL cols cols.length ++ X)[t]'hh = _
  rw [List.getElem_append_left (by rw [colL_length]; exact ht), colL_at]
theorem catL_ix (cols : List Co) (X : List KV) (t : Nat) (ht : t < X.length) (h : cols.length + t < (catL cols X).length) : (catL cols X)[cols.length + t] = X[t] := by
  have hh : cols.length + t < (colL cols cols.length ++ X).length := h
  show (colL cols cols.length ++ X)[cols.length + t]'hh = _
  rw [List.getElem_append_right (by rw [colL_length]; omega)]
  congr 1
  rw [colL_length]
  omega
theorem cut_cat {cols : List Co} {X : List KV} {s : ByteArray} {i : Nat} (h : Cut (catL cols X) (xkey s) i) : cols.length ≤ i ∧ Cut X (xkey s) (i - cols.length) := by
  have hl := catL_length cols X
  have hle := h.le
  have h1 : cols.length ≤ i := by
    by_cases hh : cols.length ≤ i
    · exact hh
    · have := h.hi i (by omega) (Nat.le_refl _)
      rw [catL_col cols X i (by omega)] at this
      have h2 := colK_xkey i s
      unfold cmpK at this
      change 0 ≤ Go.Lib.compareBytes (colK i).data.toList _ at this
      omega
  refine ⟨h1, ⟨by omega, fun t ht hti => ?_, fun t ht hti => ?_⟩⟩
  · have := h.lo (cols.length + t) (by omega) (by omega)
    rw [catL_ix cols X t ht] at this
    exact this
  · have := h.hi (cols.length + t) (by omega) (by omega)
    rw [catL_ix cols X t ht] at this
    exact this
theorem isAt_cat {cols : List Co} {X : List KV} {s : ByteArray} {i : Nat} (h1 : cols.length ≤ i) : isAt (catL cols X) (xkey s) i = isAt X (xkey s) (i - cols.length) := by
  unfold isAt catL
  rw [List.getElem?_append_right (by rw [colL_length]; exact h1), colL_length]
/-- Is there an index of a name: the catalog's leaf, and the list. -/
theorem has_find {cols : List Co} {X : List KV} (hX : XOk X) {s : ByteArray} {i : Nat} (h : Cut (catL cols X) (xkey s) i) :
    (hasX (catL cols X) s i = true → findXi (X.map xiOf) s = ((i - cols.length : Nat) : Int) ∧ i - cols.length < X.length) ∧ (hasX (catL cols X) s i = false → findXi (X.map xiOf) s = -1) := by
  obtain ⟨h1, hc⟩ := cut_cat h
  have hf := find_cut hX hc
  unfold hasX
  rw [isAt_cat h1]
  refine ⟨fun hh => ?_, fun hh => ?_⟩
  · simp only [Bool.and_eq_true] at hh
    rw [hf, if_pos hh.2]
    exact ⟨rfl, (isAt_some hh.2).1⟩
  · by_cases hat : isAt X (xkey s) (i - cols.length) = true
    · rw [hat, Bool.and_true] at hh
      obtain ⟨hj, hk⟩ := isAt_key hat
      have := hX.name (List.getElem_mem hj)
      have e : (xiOf X[i - cols.length]).name = s := by
        have e1 := bytes_eq hk
        show X[i - cols.length].k.extract 1 X[i - cols.length].k.size = s
        rw [e1]
        exact xname s
      rw [e, hh] at this
      exact absurd this.2 (by decide)
    · rw [hf, if_neg hat]
end Go.Proofs.YtiakepcgalmjfaaGreat

namespace Go.Proofs.YtiakepcgalmjfaaGreat
open Go.RowKit

theorem byteN_list (v : ByteArray) (i : Nat) : byteN v i = ((v.data.toList.getD i 0).toNat : Int) := by
  unfold byteN
  congr 2
  rw [List.getD_eq_getElem?_getD, Array.getD_eq_getD_getElem?, Array.getElem?_toList]
theorem setV_data (v : ByteArray) (k : Int) (h : v.size = 5) : ∃ a b c d e, v.data.toList = [a, b, c, d, e] ∧ (setV v k).data.toList = [a, b, c, UInt8.ofNat k.toNat, e] := by
  have hl : v.data.toList.length = 5 := by
    have : v.data.toList.length = v.size := by simp
    omega
  match hv : v.data.toList, hl with
  | [a, b, c, d, e], _ =>
    refine ⟨a, b, c, d, e, rfl, ?_⟩
    unfold setV
    rw [ByteArray.data_append, ByteArray.data_append, Array.toList_append, Array.toList_append, ByteArray.data_extract, ByteArray.data_extract, Array.toList_extract, Array.toList_extract, hv]
    rfl
theorem setV_bytes (v : ByteArray) (k : Int) (h : v.size = 5) (hk : 1 ≤ k ∧ k ≤ 3) : byteN (setV v k) 0 = byteN v 0 ∧ byteN (setV v k) 1 = byteN v 1 ∧ byteN (setV v k) 2 = byteN v 2 ∧ byteN (setV v k) 3 = k ∧ byteN (setV v k) 4 = byteN v 4 := by
  obtain ⟨a, b, c, d, e, h1, h2⟩ := setV_data v k h
  simp only [byteN_list, h1, h2]
  refine ⟨rfl, rfl, rfl, ?_, rfl⟩
  show ((UInt8.ofNat k.toNat).toNat : Int) = k
  rw [UInt8.toNat_ofNat_of_lt' (by show _ < 256; omega)]
  omega
theorem catL_set (cols : List Co) (X : List KV) (i : Nat) (z : KV) (h : cols.length ≤ i) : (catL cols X).set i z = catL cols (X.set (i - cols.length) z) := by
  unfold catL
  rw [List.set_append_right _ _ (by rw [colL_length]; exact h), colL_length]
theorem catL_erase (cols : List Co) (X : List KV) (i : Nat) (h : cols.length ≤ i) : (catL cols X).eraseIdx i = catL cols (X.eraseIdx (i - cols.length)) := by
  unfold catL
  rw [List.eraseIdx_append_of_length_le (by rw [colL_length]; exact h), colL_length]
theorem XOk.xi {X : List KV} (h : XOk X) {j : Nat} (hj : j < X.length) {s : ByteArray} (hk : X[j].k.data.toList = (xkey s).data.toList) : X[j].k = xkey s ∧ (xiOf X[j]).name = s := by
  have e := bytes_eq hk
  refine ⟨e, ?_⟩
  show X[j].k.extract 1 X[j].k.size = s
  rw [e]
  exact xname s
/-- Set, as the list's. -/
theorem set_laws {X : List KV} (h : XOk X) {s : ByteArray} {j : Nat} (hj : j < X.length) (hk : X[j].k.data.toList = (xkey s).data.toList) (st : Int) (hst : 1 ≤ st ∧ st ≤ 3) :
    XOk (X.set j ⟨xkey s, setV X[j].v st⟩) ∧ (X.set j ⟨xkey s, setV X[j].v st⟩).map xiOf = setXi (X.map xiOf) j st := by
  obtain ⟨e1, e2⟩ := h.xi hj hk
  obtain ⟨s', hs', hn, hv, h0, h2, h8⟩ := h.ent _ (List.getElem_mem hj)
  obtain ⟨b0, b1, b2, b3, b4⟩ := setV_bytes X[j].v st hv hst
  refine ⟨⟨fun y hy => ?_, h.rises.set hj hk, fun a b ha hb hab => ?_⟩, ?_⟩
  · rcases List.mem_or_eq_of_mem_set hy with hy | hy
    · exact h.ent y hy
    · subst hy
      have : xkey s' = xkey s := by rw [← hs', e1]
      have hss : s' = s := by
        have := congrArg (fun k : ByteArray => k.extract 1 k.size) this
        simp only [xname] at this
        exact this
      exact ⟨s, rfl, hss ▸ hn, setV_size _ _ hv, by show byteN (setV X[j].v st) 0 < 4; rw [b0]; exact h0, by show 2 ≤ byteN (setV X[j].v st) 4; rw [b4]; exact h2, by show byteN (setV X[j].v st) 4 < 8; rw [b4]; exact h8⟩
  · have key : ∀ t (ht : t < (X.set j ⟨xkey s, setV X[j].v st⟩).length), byteN ((X.set j ⟨xkey s, setV X[j].v st⟩)[t]).v 4 = byteN (X[t]'(by simpa using ht)).v 4 := fun t ht => by
      rw [List.getElem_set]
      by_cases e : j = t
      · subst e; rw [if_pos rfl]; exact b4
      · rw [if_neg e]
    rw [key a ha, key b hb]
    exact h.roots a b (by simpa using ha) (by simpa using hb) hab
  · unfold setXi
    rw [List.getElem?_map, List.getElem?_eq_getElem hj, List.map_set]
    show (X.map xiOf).set j (xiOf ⟨xkey s, setV X[j].v st⟩) = (X.map xiOf).set j (atState (xiOf X[j]) st)
    congr 1
    unfold xiOf atState
    show Xi.mk ((xkey s).extract 1 (xkey s).size) _ _ _ _ = Xi.mk (X[j].k.extract 1 X[j].k.size) _ _ _ _
    rw [e1]
    simp only [b0, b1, b2, b3]
/-- Drop, as the list's. -/
theorem drop_laws {X : List KV} (h : XOk X) {s : ByteArray} {j : Nat} (hj : j < X.length) (hk : X[j].k.data.toList = (xkey s).data.toList) :
    XOk (X.eraseIdx j) ∧ (X.eraseIdx j).map xiOf = dropXi (X.map xiOf) s := by
  have hne : ∀ t (ht : t < X.length), t ≠ j → ((xiOf X[t]).name.toList == s.toList) = false := fun t ht htj => by
    cases hq : ((xiOf X[t]).name.toList == s.toList) with
    | false => rfl
    | true =>
      have hz := cmp_eq.2 hq
      rw [← h.cmp (List.getElem_mem ht)] at hz
      have e : X[t].k.data.toList = X[j].k.data.toList := by rw [hk]; exact cb_eq _ _ hz
      rcases Nat.lt_trichotomy t j with h1 | h1 | h1
      · have := h.rises t j ht hj h1
        rw [e, cb_self] at this
        omega
      · exact absurd h1 htj
      · have := h.rises j t hj ht h1
        rw [e, cb_self] at this
        omega
  refine ⟨⟨fun y hy => h.ent y (List.mem_of_mem_eraseIdx hy), h.rises.erase j, fun a b ha hb hab => ?_⟩, ?_⟩
  · have hl := List.length_eraseIdx_of_lt hj
    rw [List.getElem_eraseIdx, List.getElem_eraseIdx]
    split <;> split <;> exact h.roots _ _ _ _ (by omega)
  · have hyes : ((xiOf X[j]).name.toList == s.toList) = true := by
      rw [(h.xi hj hk).2]
      simp
    unfold dropXi
    have eX : X = X.take j ++ X[j] :: X.drop (j + 1) := by
      rw [← List.drop_eq_getElem_cons hj, List.take_append_drop]
    have f1 : ((X.take j).map xiOf).filter (fun y => !(y.name.toList == s.toList)) = (X.take j).map xiOf := by
      rw [List.filter_eq_self]
      intro y hy
      obtain ⟨z, hz, rfl⟩ := List.mem_map.1 hy
      obtain ⟨t, ht, rfl⟩ := List.mem_iff_getElem.1 hz
      rw [List.length_take] at ht
      rw [List.getElem_take, hne t (by omega) (by omega)]
      rfl
    have f2 : ((X.drop (j + 1)).map xiOf).filter (fun y => !(y.name.toList == s.toList)) = (X.drop (j + 1)).map xiOf := by
      rw [List.filter_eq_self]
      intro y hy
      obtain ⟨z, hz, rfl⟩ := List.mem_map.1 hy
      obtain ⟨t, ht, rfl⟩ := List.mem_iff_getElem.1 hz
      rw [List.length_drop] at ht
      rw [List.getElem_drop, hne (j + 1 + t) (by omega) (by omega)]
      rfl
    have e3 : (X.map xiOf).filter (fun y => !(y.name.toList == s.toList)) = (X.take j).map xiOf ++ (X.drop (j + 1)).map xiOf := by
      conv => lhs; rw [eX]
      rw [List.map_append, List.filter_append, List.map_cons, f1, List.filter_cons, hyes]
      simp only [Bool.not_true, Bool.false_eq_true, if_false]
      rw [f2]
    rw [e3, List.eraseIdx_eq_take_drop_succ, List.map_append]
end Go.Proofs.YtiakepcgalmjfaaGreat

namespace Go.Proofs.YtiakepcgalmjfaaGreat
open Go.RowKit

theorem less_cmp : ∀ a b : List UInt8, Op.bytesLess a b = decide (Go.Lib.compareBytes a b < 0)
  | [], [] => by simp [Op.bytesLess, Go.Lib.compareBytes]
  | _ :: _, [] => by simp [Op.bytesLess, Go.Lib.compareBytes]
  | [], _ :: _ => by simp [Op.bytesLess, Go.Lib.compareBytes]
  | x :: a, y :: b => by
    have ih := less_cmp a b
    simp only [Op.bytesLess, Go.Lib.compareBytes]
    by_cases h1 : x < y
    · simp [h1]
    · by_cases h2 : y < x
      · have hne : ¬ x = y := fun e => by rw [e] at h2; exact absurd h2 (by rw [UInt8.lt_iff_toNat_lt]; omega)
        simp [h1, h2, hne]
      · have e : x = y := by
          rw [UInt8.lt_iff_toNat_lt] at h1 h2
          exact UInt8.toNat_inj.1 (by omega)
        simp [h1, h2, ih, e]
theorem nmGt_cmp (a b : ByteArray) : nmGt a b = decide (0 < Go.Lib.compareBytes a.data.toList b.data.toList) := by
  unfold nmGt
  rw [less_cmp, Go.Lib.toList_data, Go.Lib.toList_data]
  by_cases h0 : Go.Lib.compareBytes a.data.toList b.data.toList = 0
  · have := cb_eq _ _ h0
    rw [this]
    simp [cb_self]
  · have hne : (a.data.toList == b.data.toList) = false := by
      cases h : (a.data.toList == b.data.toList) with
      | false => rfl
      | true =>
        rw [beq_iff_eq] at h
        rw [h, cb_self] at h0
        exact absurd rfl h0
    rw [hne, Bool.or_false]
    by_cases h1 : Go.Lib.compareBytes a.data.toList b.data.toList < 0
    · have : ¬ 0 < Go.Lib.compareBytes a.data.toList b.data.toList := by omega
      simp [h1, this]
    · have : 0 < Go.Lib.compareBytes a.data.toList b.data.toList := by omega
      simp [h1, this]
theorem addTo_low (l : List Xi) (x : Xi) (j : Nat) (h1 : ∀ t (ht : t < l.length), t < j → nmGt l[t].name x.name = false) : ∀ t, t ≤ j → t ≤ l.length → addTo l x t = (l.take t, false)
  | 0, _, _ => by simp [addTo]
  | t + 1, ht, hl => by
    rw [addTo_succ l x t (by omega), addTo_low l x j h1 t (by omega) (by omega)]
    unfold addF
    rw [if_neg (by simp [h1 t (by omega) (by omega)]), List.take_succ_eq_append_getElem (show t < l.length by omega)]
theorem addTo_high (l : List Xi) (x : Xi) (j : Nat) (hj : j < l.length) (h1 : ∀ t (ht : t < l.length), t < j → nmGt l[t].name x.name = false) (h2 : nmGt l[j].name x.name = true) : ∀ m, j + 1 + m ≤ l.length → addTo l x (j + 1 + m) = (l.take j ++ x :: (l.drop j).take (m + 1), true)
  | 0, hm => by
    rw [Nat.add_zero, addTo_succ l x j hj, addTo_low l x j h1 j (Nat.le_refl _) (by omega)]
    unfold addF
    have e : (l.drop j).take (0 + 1) = [l[j]] := by rw [List.drop_eq_getElem_cons hj]; rfl
    rw [if_pos (by simp [h2]), e]
    simp
  | m + 1, hm => by
    rw [show j + 1 + (m + 1) = (j + 1 + m) + 1 by omega, addTo_succ l x (j + 1 + m) (by omega), addTo_high l x j hj h1 h2 m (by omega)]
    unfold addF
    rw [if_neg (by simp)]
    have e : (l.drop j).take (m + 1 + 1) = (l.drop j).take (m + 1) ++ [l[j + 1 + m]'(by omega)] := by
      rw [List.take_succ_eq_append_getElem (show m + 1 < (l.drop j).length by rw [List.length_drop]; omega), List.getElem_drop]
      congr 2
      congr 1
      omega
    rw [e]
    simp
theorem addXi_eq (l : List Xi) (x : Xi) (j : Nat) (hj : j ≤ l.length) (h1 : ∀ t (ht : t < l.length), t < j → nmGt l[t].name x.name = false) (h2 : ∀ h : j < l.length, nmGt l[j].name x.name = true) : addXi l x = l.take j ++ begun x :: l.drop j := by
  unfold addXi
  by_cases h : j < l.length
  · have := addTo_high l (begun x) j h h1 (h2 h) (l.length - (j + 1)) (by omega)
    rw [show j + 1 + (l.length - (j + 1)) = l.length by omega] at this
    have e : (l.drop j).take (l.length - (j + 1) + 1) = l.drop j := List.take_of_length_le (by rw [List.length_drop]; omega)
    rw [this]
    simp only [if_true, e]
  · have hjl : j = l.length := by omega
    subst hjl
    rw [addTo_low l (begun x) l.length h1 l.length (Nat.le_refl _) (Nat.le_refl _)]
    simp
theorem xent_bytes (k c r : Nat) (u : Bool) (hk : k < 256) (hc : c < 256) (hr : r < 256) : (xent k c u r).size = 5 ∧ byteN (xent k c u r) 0 = k ∧ byteN (xent k c u r) 1 = c ∧ byteN (xent k c u r) 2 = (if u then 1 else 0) ∧ byteN (xent k c u r) 3 = 1 ∧ byteN (xent k c u r) 4 = r := by
  have e : ∀ n : Nat, n < 256 → ((UInt8.ofNat n).toNat : Int) = n := fun n h => by rw [UInt8.toNat_ofNat_of_lt' (by show n < 256; exact h)]
  refine ⟨rfl, ?_, ?_, ?_, rfl, ?_⟩
  · show ((UInt8.ofNat (k : Int).toNat).toNat : Int) = k
    rw [Int.toNat_natCast]; exact e k hk
  · show ((UInt8.ofNat (c : Int).toNat).toNat : Int) = c
    rw [Int.toNat_natCast]; exact e c hc
  · cases u <;> rfl
  · show ((UInt8.ofNat (r : Int).toNat).toNat : Int) = r
    rw [Int.toNat_natCast]; exact e r hr
theorem insL_map (X : List KV) (j : Nat) (z : KV) : (insL X j z).map xiOf = (X.map xiOf).take j ++ xiOf z :: (X.map xiOf).drop j := by
  unfold insL
  rw [List.map_append, List.map_cons, List.map_take, List.map_drop]
theorem catL_ins (cols : List Co) (X : List KV) (i : Nat) (z : KV) (h : cols.length ≤ i) : insL (catL cols X) i z = catL cols (insL X (i - cols.length) z) := by
  unfold insL catL
  rw [List.take_append, List.drop_append, colL_length, List.take_of_length_le (by rw [colL_length]; exact h), List.drop_of_length_le (by rw [colL_length]; exact h)]
  simp
/-- Add, as the list's. -/
theorem add_laws {X : List KV} (h : XOk X) {x : Xi} {j k c r : Nat} (hn : nameX x.name.data.toList = true) (hc : Cut X (xkey x.name) j) (hat : isAt X (xkey x.name) j = false) (hk : k < 4) (hm : isK x.meth k = true) (hcol : x.col = c) (hc8 : c < 256) (hr : 2 ≤ r ∧ r < 8) (hfree : ∀ y ∈ X, byteN y.v 4 ≠ r) :
    XOk (insL X j ⟨xkey x.name, xent k c x.uniq r⟩) ∧ (insL X j ⟨xkey x.name, xent k c x.uniq r⟩).map xiOf = addXi (X.map xiOf) x := by
  obtain ⟨b5, b0, b1, b2, b3, b4⟩ := xent_bytes k c r x.uniq (by omega) hc8 (by omega)
  have hxi : xiOf ⟨xkey x.name, xent k c x.uniq r⟩ = begun x := by
    unfold xiOf begun
    show Xi.mk ((xkey x.name).extract 1 (xkey x.name).size) _ _ _ _ = _
    rw [xname]
    simp only [b0, b1, b2, b3]
    have e1 : kname (k : Int).toNat = x.meth := by
      rw [Int.toNat_natCast]
      unfold isK at hm
      rw [beq_iff_eq, Go.Lib.toList_data, Go.Lib.toList_data] at hm
      exact bytes_eq hm
    rw [e1, hcol]
    cases x.uniq <;> rfl
  refine ⟨⟨fun y hy => ?_, h.rises.ins hc hat, fun a b ha hb hab => ?_⟩, ?_⟩
  · rcases insL_mem hy with hy | hy
    · subst hy
      exact ⟨x.name, rfl, hn, b5, by show byteN (xent k c x.uniq r) 0 < 4; rw [b0]; omega, by show 2 ≤ byteN (xent k c x.uniq r) 4; rw [b4]; omega, by show byteN (xent k c x.uniq r) 4 < 8; rw [b4]; omega⟩
    · exact h.ent y hy
  · have ha2 := ha
    have hb2 := hb
    have hjle := hc.le
    rw [insL_length X j _ hc.le] at ha2 hb2
    rw [insL_at X j _ hc.le a ha, insL_at X j _ hc.le b hb]
    have hz : byteN (KV.mk (xkey x.name) (xent k c x.uniq r)).v 4 = r := b4
    by_cases a1 : a < j
    · rw [dif_pos a1]
      by_cases c1 : b < j
      · rw [dif_pos c1]; exact h.roots a b (by omega) (by omega) hab
      · rw [dif_neg c1]
        by_cases c2 : b = j
        · rw [dif_pos c2, hz]; exact hfree _ (List.getElem_mem _)
        · rw [dif_neg c2]; exact h.roots a (b - 1) (by omega) (by omega) (by omega)
    · rw [dif_neg a1, dif_neg (show ¬ b < j by omega), dif_neg (show ¬ b = j by omega)]
      by_cases a2 : a = j
      · rw [dif_pos a2, hz]; exact fun e => hfree _ (List.getElem_mem _) e.symm
      · rw [dif_neg a2]; exact h.roots (a - 1) (b - 1) (by omega) (by omega) (by omega)
  · rw [insL_map, hxi]
    have hlen : (X.map xiOf).length = X.length := by simp
    have hgt : ∀ t (ht : t < X.length), nmGt (xiOf X[t]).name x.name = decide (0 < cmpK X[t] (xkey x.name)) := fun t ht => by
      rw [nmGt_cmp, h.cmp (List.getElem_mem ht)]
    refine (addXi_eq (X.map xiOf) x j (by rw [hlen]; exact hc.le) (fun t ht htj => ?_) (fun hj => ?_)).symm
    · rw [List.getElem_map, hgt t (by omega)]
      have := hc.lo t (by omega) htj
      exact decide_eq_false (by omega)
    · rw [List.getElem_map, hgt j (by omega)]
      have h1 := hc.hi j (by omega) (Nat.le_refl _)
      have h2 := isAt_none hat (show j < X.length by omega)
      exact decide_eq_true (by omega)
end Go.Proofs.YtiakepcgalmjfaaGreat
