/- The reference's Text and Print. -/
import Derived.Test.YtekcoddjdjllhaaDoorDatV
namespace Go.Proofs.YtekcoddjdjllhaaDoor
open Go.RowKit

set_option maxRecDepth 100000 in
theorem rtext_simple (k n : Int) (s : ByteArray) (a : Option Addr) (ln c : Nat) (w : World) (hm : simpleB k n s ln = true) (hn : In64 n) (hG : Globs w) :
    Calls Tryd.prog 53 #[dv k n s a ln c] w fun e w' => e = .returned (.string ⟨(text1 k n s).toArray⟩) ∧ Below w.heap.size w w' := by
  rcases simple_kinds hm with rfl | ⟨rfl, hs⟩
  · go_enter Tryd.func53, Tryd.ntmps53
    go_wp2_with fail
    refine (itoa_any n hn _ (hG.below (by go_grown))).mono ?_
    rintro e w1 ⟨rfl, hb1⟩
    go_wp2
    go_ret
    exact ⟨rfl, ((Below.refl w.heap.size w).alloc (Nat.le_refl _) _).trans (hb1.mono (by simp))⟩
  · exact rtext_text n s a ln c w hs

/-- '[' and the texts of the first items, with ',' between. -/
def listTo (L : List It) (j : Nat) : List UInt8 := 91 :: Lib.join ((L.take j).map It.text) [44]

theorem join_snoc (ls : List (List UInt8)) (x sep : List UInt8) : Lib.join (ls ++ [x]) sep = if ls = [] then x else Lib.join ls sep ++ sep ++ x := by
  cases ls with
  | nil => simp [Lib.join_one]
  | cons y r =>
    rw [List.cons_append, Lib.join_cons, Lib.join_cons]
    simp [Lib.joinTail]
theorem listTo_zero (L : List It) : listTo L 0 = [91] := by simp [listTo, Lib.join_nil]
theorem listTo_first (L : List It) (h : 0 < L.length) : listTo L 1 = ([91] : List UInt8) ++ L[0].text := by
  simp only [listTo]
  rw [List.take_succ_eq_append_getElem h]
  simp [Lib.join_one]
theorem listTo_first' (L : List It) (j : Nat) (h : j < L.length) (h0 : ¬ 0 < j) : listTo L (j + 1) = ([91] : List UInt8) ++ L[j].text := by
  obtain rfl : j = 0 := by omega
  exact listTo_first L h
theorem listTo_succ (L : List It) (j : Nat) (hj : j < L.length) (h0 : 0 < j) : listTo L (j + 1) = listTo L j ++ [44] ++ L[j].text := by
  simp only [listTo]
  rw [List.take_succ_eq_append_getElem hj, List.map_append, List.map_cons, List.map_nil, join_snoc, if_neg]
  · simp
  · intro e
    have := congrArg List.length e
    simp only [List.length_map, List.length_take, List.length_nil] at this
    omega
theorem listTo_len (L : List It) (h8 : L.length ≤ 8) (hm : ∀ j (hj : j < L.length), L[j].may = true) (hn : ∀ j (hj : j < L.length), In64 L[j].n) (j : Nat) : (listTo L j).length ≤ 793 := by
  have := list_text_len (L.take j) (by rw [List.length_take]; omega) (fun i hi => by simp only [List.getElem_take]; exact hm i (by rw [List.length_take] at hi; omega)) (fun i hi => by simp only [List.getElem_take]; exact hn i (by rw [List.length_take] at hi; omega))
  simp only [listTo, List.length_cons]; omega

theorem ba_size (l : List UInt8) : (⟨l.toArray⟩ : ByteArray).size = l.length := by show l.toArray.size = _; simp

set_option maxRecDepth 100000 in
set_option maxHeartbeats 2000000 in
theorem rText_list (L : List It) (a : Option Addr) (c : Nat) (w : World) (h8 : L.length ≤ 8) (hm : ∀ j (hj : j < L.length), L[j].may = true) (hr : RowIs w a L) (hG : Globs w) :
    Calls Tryd.prog 37 #[dv 3 0 ⟨#[]⟩ a L.length c] w fun e w' => e = .returned (.string ⟨([91] ++ Lib.join (L.map It.text) [44] ++ [93]).toArray⟩) ∧ Below w.heap.size w w' := by
  have hb0 := (Below.refl w.heap.size w).alloc (Nat.le_refl _) (.cells #[.int .i64 3, .int .i64 0, .string ⟨#[]⟩, .slice a L.length c] 24)
  go_enter Tryd.func37, Tryd.ntmps37
  go_wp2
  go_loopw [3, 4] (fun o k wr => ∃ (j : Nat) (S : ByteArray), j ≤ L.length ∧ k = .int .i64 j ∧ o = .string S ∧ Hid (S = ⟨(listTo L j).toArray⟩) ∧ S.size ≤ 793 ∧ wr.cell? ⟨w.heap.size, 3, none⟩ = some (.slice a L.length c) ∧ Below w.heap.size w wr ∧ w.heap.size + 1 ≤ wr.heap.size) (fun _ k _ => L.length - (intOf k).toNat)
  case atStart => exact ⟨0, ⟨#[91]⟩, Nat.zero_le _, rfl, rfl, Lib.hid (by rw [listTo_zero]), by show (1 : Nat) ≤ 793; omega, by go_simp, hb0, by simp⟩
  case round =>
    obtain ⟨j, S, hj, rfl, rfl, HS, hS, hc3, hbl2, hz2⟩ := hrel
    by_cases hlt : j < L.length
    · obtain ⟨b, off, a', c', rfl, g0, g1, g2, g3, _, _, hn⟩ := (hr.below hbl2).at_ j hlt
      have hm' : simpleB L[j].k L[j].n L[j].s L[j].ln = true := hm j hlt
      have HT := text1_len hm' hn
      have hlen := listTo_len L h8 hm hr.n64 (j + 1)
      by_cases h0 : 0 < j
      · have hsucc := listTo_succ L j hlt h0
        have hd : decide ((0 : Int) < (j : Int)) = true := by simp; omega
        have HSU := Lib.hid hsucc
        clear hsucc
        go_wp2_with fail
        refine (rtext_simple L[j].k L[j].n L[j].s a' L[j].ln c' _ hm' hn (hG.below hbl2)).mono ?_
        rintro e w3 ⟨rfl, hb3⟩
        have hz3 := hb3.size
        generalize hT : (⟨(text1 L[j].k L[j].n L[j].s).toArray⟩ : ByteArray) = T
        have hTl : T.size ≤ 98 := by rw [← hT, ba_size]; exact HT
        have HTT := Lib.hid hT
        clear hT
        go_wp2
        go_roundw
        case rel =>
          refine ⟨j + 1, S ++ ⟨#[44]⟩ ++ T, by omega, by go_num, rfl, Lib.hid ?_, ?_, (hb3.cell (p := ⟨w.heap.size, 3, none⟩) (by simp; omega)).trans hc3, hbl2.trans (hb3.mono (by omega)), by omega⟩
          · rw [HS.out, ← HTT.out, HSU.out]; exact ba_three _ [44] _
          · have e : (S ++ ⟨#[44]⟩ ++ T : ByteArray).size = (listTo L (j + 1)).length := by
              rw [HS.out, ← HTT.out, HSU.out, ← ba_size, ← ba_three]; rfl
            rw [e]; exact hlen
        case measure => simp [intOf]; omega
      · have hd : decide ((0 : Int) < (j : Int)) = false := by simp; omega
        have HZ := Lib.hid (show listTo L j = [91] from (by obtain rfl : j = 0 := by omega
                                                            exact listTo_zero L))
        have HSU := Lib.hid (listTo_first' L j hlt h0)
        go_wp2_with fail
        refine (rtext_simple L[j].k L[j].n L[j].s a' L[j].ln c' _ hm' hn (hG.below hbl2)).mono ?_
        rintro e w3 ⟨rfl, hb3⟩
        have hz3 := hb3.size
        generalize hT : (⟨(text1 L[j].k L[j].n L[j].s).toArray⟩ : ByteArray) = T
        have hTl : T.size ≤ 98 := by rw [← hT, ba_size]; exact HT
        have HTT := Lib.hid hT
        clear hT
        go_wp2
        go_roundw
        case rel =>
          refine ⟨j + 1, S ++ T, by omega, by go_num, rfl, Lib.hid ?_, ?_, (hb3.cell (p := ⟨w.heap.size, 3, none⟩) (by simp; omega)).trans hc3, hbl2.trans (hb3.mono (by omega)), by omega⟩
          · rw [HS.out, ← HTT.out, HSU.out, HZ.out]; exact ba_append _ _
          · have e : (S ++ T : ByteArray).size = (listTo L (j + 1)).length := by
              rw [HS.out, ← HTT.out, HSU.out, HZ.out, ← ba_size, ← ba_append]; rfl
            rw [e]; exact hlen
        case measure => simp [intOf]; omega
    · have hfull : listTo L j = [91] ++ Lib.join (L.map It.text) [44] := by
        simp only [listTo]
        rw [List.take_of_length_le (by omega)]; rfl
      have HF := Lib.hid hfull
      clear hfull
      go_wp2
      go_ret
      refine ⟨ret_str ?_, hbl2⟩
      rw [HS.out, HF.out]
      exact ba_append _ [93]

theorem rText_any (d : Da) (a : Option Addr) (c : Nat) (w : World) (hm : d.may = true) (hd : DaIs w d a) (hG : Globs w) :
    Calls Tryd.prog 37 #[dv d.k d.n d.s a d.l.length c] w fun e w' => e = .returned (.string ⟨d.text.toArray⟩) ∧ Below w.heap.size w w' := by
  by_cases h3 : d.k = 3
  · obtain ⟨h0, hs, h8, hit⟩ := may_items hm h3
    have := rText_list d.l a c w h8 hit hd.row hG
    simpa [Da.text, h3, h0, hs] using this
  · have hm' : simpleB d.k d.n d.s d.l.length = true := by simpa [Da.may, h3] using hm
    have HE := Lib.hid (show d.text = text1 d.k d.n d.s by simp [Da.text, h3])
    have hk : (d.k != 3) = true := by simpa using h3
    go_enter Tryd.func37, Tryd.ntmps37
    go_wp2_with fail
    refine (rtext_simple d.k d.n d.s a d.l.length c _ hm' hd.n (hG.below (by go_grown))).mono ?_
    rintro e w2 ⟨rfl, hb2⟩
    go_wp2
    go_ret
    exact ⟨ret_str (by rw [HE.out]), ((Below.refl w.heap.size w).alloc (Nat.le_refl _) _).trans (hb2.mono (by simp))⟩

set_option maxRecDepth 100000 in
theorem rprint_any (d : Da) (a : Option Addr) (c : Nat) (w : World) (hd : DaIs w d a) (hG : Globs w) :
    Calls Tryd.prog 21 #[dv d.k d.n d.s a d.l.length c] w fun e w' => e = .returned (printAns d) ∧ Below w.heap.size w w' := by
  by_cases hm : d.may = true
  · have HA := Lib.hid (show printAns d = .tuple #[.string ⟨d.text.toArray⟩, .int .i64 0] by simp [printAns, hm])
    go_enter Tryd.func21, Tryd.ntmps21
    go_wp2_with fail
    refine (rmay_any d a c _ (hd.row.below (by go_grown)) hd.s hd.l).mono ?_
    rintro e w1 ⟨rfl, hb1⟩
    obtain ⟨hc1, hf1⟩ := bcell hb1
    simp only [World.size_alloc] at hc1 hf1
    have hz1 : w.heap.size < w1.heap.size := by have := hb1.size; simp at this; omega
    have hb01 : Below w.heap.size w w1 := ((Below.refl w.heap.size w).alloc (Nat.le_refl _) _).trans (hb1.mono (by simp))
    have HM := Lib.hid hm
    go_wp2_with fail
    refine (rText_any d a c _ HM.out (hd.below hb01) (hG.below hb01)).mono ?_
    rintro e w2 ⟨rfl, hb2⟩
    go_wp2
    go_ret2
    exact ⟨ret_val HA.out.symm, hb01.trans (hb2.mono (by omega))⟩
  · have HA := Lib.hid (show printAns d = .tuple #[.string ⟨#[]⟩, .int .i64 11] by simp [printAns, hm])
    go_enter Tryd.func21, Tryd.ntmps21
    go_wp2_with fail
    refine (rmay_any d a c _ (hd.row.below (by go_grown)) hd.s hd.l).mono ?_
    rintro e w1 ⟨rfl, hb1⟩
    go_wp2
    go_ret2
    exact ⟨ret_val HA.out.symm, ((Below.refl w.heap.size w).alloc (Nat.le_refl _) _).trans (hb1.mono (by simp))⟩
end Go.Proofs.YtekcoddjdjllhaaDoor
