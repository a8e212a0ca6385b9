/- The reference's Text and Print. Reading texts: datum.unquote, items. Reading texts: datum.items. Reading texts: datum.read of what is no list. Reading texts: lists; datum.read, Parse. -/
import Derived.Test.YtdjlbfepddcmeaaGreatDoorQ08
import Derived.Deep.RegionLaw
import Derived.Lib.AtoiAll
import Derived.Laws.ResultCell
import Derived.Lib.AtoiErrMem
set_option linter.unusedVariables false
set_option linter.unusedSimpArgs false
namespace Go.Proofs.YtdjlbfepddcmeaaGreatDoor
open Go.RowKit

set_option maxRecDepth 100000 in
theorem rtext_simple (k n : Int) (s : ByteArray) (a : Option Addr) (ln c : Nat) (w : World) (hm : simpleB k n s ln = true) (hn : In64 n) (hG : Globs w) :
    Calls Tryz.prog 78 #[dv k n s a ln c] w fun e w' => e = .returned (.string ⟨(text1 k n s).toArray⟩) ∧ Below w.heap.size w w' := by
  rcases simple_kinds hm with rfl | ⟨rfl, hs⟩
  · go_enter Tryz.func78, Tryz.ntmps78
    go_wp2_with fail
    refine (itoa_any n hn _ (hG.below (by go_grown))).mono ?_
    rintro e w1 ⟨rfl, hb1⟩
    go_wp2
    go_ret
    exact ⟨rfl, ((Below.refl w.heap.size w).alloc (Nat.le_refl _) _).trans (hb1.mono (by simp))⟩
  · exact rtext_text n s a ln c w hs

/-- '[' and the texts of the first items, with ',' between. -/
def listTo (L : List It) (j : Nat) : List UInt8 := 91 :: Lib.join ((L.take j).map It.text) [44]

theorem join_snoc (ls : List (List UInt8)) (x sep : List UInt8) : Lib.join (ls ++ [x]) sep = if ls = [] then x else Lib.join ls sep ++ sep ++ x := by
  cases ls with
  | nil => simp [Lib.join_one]
  | cons y r =>
    rw [List.cons_append, Lib.join_cons, Lib.join_cons]
    simp [Lib.joinTail]
theorem listTo_zero (L : List It) : listTo L 0 = [91] := by simp [listTo, Lib.join_nil]
theorem listTo_first (L : List It) (h : 0 < L.length) : listTo L 1 = ([91] : List UInt8) ++ L[0].text := by
  simp only [listTo]
  rw [List.take_succ_eq_append_getElem h]
  simp [Lib.join_one]
theorem listTo_first' (L : List It) (j : Nat) (h : j < L.length) (h0 : ¬ 0 < j) : listTo L (j + 1) = ([91] : List UInt8) ++ L[j].text := by
  obtain rfl : j = 0 := by omega
  exact listTo_first L h
theorem listTo_succ (L : List It) (j : Nat) (hj : j < L.length) (h0 : 0 < j) : listTo L (j + 1) = listTo L j ++ [44] ++ L[j].text := by
  simp only [listTo]
  rw [List.take_succ_eq_append_getElem hj, List.map_append, List.map_cons, List.map_nil, join_snoc, if_neg]
  · simp
  · intro e
    have := congrArg List.length e
    simp only [List.length_map, List.length_take, List.length_nil] at this
    omega
theorem listTo_len (L : List It) (h8 : L.length ≤ 8) (hm : ∀ j (hj : j < L.length), L[j].may = true) (hn : ∀ j (hj : j < L.length), In64 L[j].n) (j : Nat) : (listTo L j).length ≤ 793 := by
  have := list_text_len (L.take j) (by rw [List.length_take]; omega) (fun i hi => by simp only [List.getElem_take]; exact hm i (by rw [List.length_take] at hi; omega)) (fun i hi => by simp only [List.getElem_take]; exact hn i (by rw [List.length_take] at hi; omega))
  simp only [listTo, List.length_cons]; omega

theorem ba_size (l : List UInt8) : (⟨l.toArray⟩ : ByteArray).size = l.length := by show l.toArray.size = _; simp

set_option maxRecDepth 100000 in
set_option maxHeartbeats 2000000 in
theorem rText_list (L : List It) (a : Option Addr) (c : Nat) (w : World) (h8 : L.length ≤ 8) (hm : ∀ j (hj : j < L.length), L[j].may = true) (hr : RowIs w a L) (hG : Globs w) :
    Calls Tryz.prog 63 #[dv 3 0 ⟨#[]⟩ a L.length c] w fun e w' => e = .returned (.string ⟨([91] ++ Lib.join (L.map It.text) [44] ++ [93]).toArray⟩) ∧ Below w.heap.size w w' := by
  have hb0 := (Below.refl w.heap.size w).alloc (Nat.le_refl _) (.cells #[.int .i64 3, .int .i64 0, .string ⟨#[]⟩, .slice a L.length c] 24)
  go_enter Tryz.func63, Tryz.ntmps63
  go_wp2
  go_loopw [3, 4] (fun o k wr => ∃ (j : Nat) (S : ByteArray), j ≤ L.length ∧ k = .int .i64 j ∧ o = .string S ∧ Hid (S = ⟨(listTo L j).toArray⟩) ∧ S.size ≤ 793 ∧ wr.cell? ⟨w.heap.size, 3, none⟩ = some (.slice a L.length c) ∧ Below w.heap.size w wr ∧ w.heap.size + 1 ≤ wr.heap.size) (fun _ k _ => L.length - (intOf k).toNat)
  case atStart => exact ⟨0, ⟨#[91]⟩, Nat.zero_le _, rfl, rfl, Lib.hid (by rw [listTo_zero]), by show (1 : Nat) ≤ 793; omega, by go_simp, hb0, by simp⟩
  case round =>
    obtain ⟨j, S, hj, rfl, rfl, HS, hS, hc3, hbl2, hz2⟩ := hrel
    by_cases hlt : j < L.length
    · obtain ⟨b, off, a', c', rfl, g0, g1, g2, g3, _, _, hn⟩ := (hr.below hbl2).at_ j hlt
      have hm' : simpleB L[j].k L[j].n L[j].s L[j].ln = true := hm j hlt
      have HT := text1_len hm' hn
      have hlen := listTo_len L h8 hm hr.n64 (j + 1)
      by_cases h0 : 0 < j
      · have hsucc := listTo_succ L j hlt h0
        have hd : decide ((0 : Int) < (j : Int)) = true := by simp; omega
        have HSU := Lib.hid hsucc
        clear hsucc
        go_wp2_with fail
        refine (rtext_simple L[j].k L[j].n L[j].s a' L[j].ln c' _ hm' hn (hG.below hbl2)).mono ?_
        rintro e w3 ⟨rfl, hb3⟩
        have hz3 := hb3.size
        generalize hT : (⟨(text1 L[j].k L[j].n L[j].s).toArray⟩ : ByteArray) = T
        have hTl : T.size ≤ 98 := by rw [← hT, ba_size]; exact HT
        have HTT := Lib.hid hT
        clear hT
        go_wp2
        go_roundw
        case rel =>
          refine ⟨j + 1, S ++ ⟨#[44]⟩ ++ T, by omega, by go_num, rfl, Lib.hid ?_, ?_, (hb3.cell (p := ⟨w.heap.size, 3, none⟩) (by simp; omega)).trans hc3, hbl2.trans (hb3.mono (by omega)), by omega⟩
          · rw [HS.out, ← HTT.out, HSU.out]; exact ba_three _ [44] _
          · have e : (S ++ ⟨#[44]⟩ ++ T : ByteArray).size = (listTo L (j + 1)).length := by
              rw [HS.out, ← HTT.out, HSU.out, ← ba_size, ← ba_three]; rfl
            rw [e]; exact hlen
        case measure => simp [intOf]; omega
      · have hd : decide ((0 : Int) < (j : Int)) = false := by simp; omega
        have HZ := Lib.hid (show listTo L j = [91] from (by obtain rfl : j = 0 := by omega
                                                            exact listTo_zero L))
        have HSU := Lib.hid (listTo_first' L j hlt h0)
        go_wp2_with fail
        refine (rtext_simple L[j].k L[j].n L[j].s a' L[j].ln c' _ hm' hn (hG.below hbl2)).mono ?_
        rintro e w3 ⟨rfl, hb3⟩
        have hz3 := hb3.size
        generalize hT : (⟨(text1 L[j].k L[j].n L[j].s).toArray⟩ : ByteArray) = T
        have hTl : T.size ≤ 98 := by rw [← hT, ba_size]; exact HT
        have HTT := Lib.hid hT
        clear hT
        go_wp2
        go_roundw
        case rel =>
          refine ⟨j + 1, S ++ T, by omega, by go_num, rfl, Lib.hid ?_, ?_, (hb3.cell (p := ⟨w.heap.size, 3, none⟩) (by simp; omega)).trans hc3, hbl2.trans (hb3.mono (by omega)), by omega⟩
          · rw [HS.out, ← HTT.out, HSU.out, HZ.out]; exact ba_append _ _
          · have e : (S ++ T : ByteArray).size = (listTo L (j + 1)).length := by
              rw [HS.out, ← HTT.out, HSU.out, HZ.out, ← ba_size, ← ba_append]; rfl
            rw [e]; exact hlen
        case measure => simp [intOf]; omega
    · have hfull : listTo L j = [91] ++ Lib.join (L.map It.text) [44] := by
        simp only [listTo]
        rw [List.take_of_length_le (by omega)]; rfl
      have HF := Lib.hid hfull
      clear hfull
      go_wp2
      go_ret
      refine ⟨ret_str ?_, hbl2⟩
      rw [HS.out, HF.out]
      exact ba_append _ [93]

theorem rText_any (d : Da) (a : Option Addr) (c : Nat) (w : World) (hm : d.may = true) (hd : DaIs w d a) (hG : Globs w) :
    Calls Tryz.prog 63 #[dv d.k d.n d.s a d.l.length c] w fun e w' => e = .returned (.string ⟨d.text.toArray⟩) ∧ Below w.heap.size w w' := by
  by_cases h3 : d.k = 3
  · obtain ⟨h0, hs, h8, hit⟩ := may_items hm h3
    have := rText_list d.l a c w h8 hit hd.row hG
    simpa [Da.text, h3, h0, hs] using this
  · have hm' : simpleB d.k d.n d.s d.l.length = true := by simpa [Da.may, h3] using hm
    have HE := Lib.hid (show d.text = text1 d.k d.n d.s by simp [Da.text, h3])
    have hk : (d.k != 3) = true := by simpa using h3
    go_enter Tryz.func63, Tryz.ntmps63
    go_wp2_with fail
    refine (rtext_simple d.k d.n d.s a d.l.length c _ hm' hd.n (hG.below (by go_grown))).mono ?_
    rintro e w2 ⟨rfl, hb2⟩
    go_wp2
    go_ret
    exact ⟨ret_str (by rw [HE.out]), ((Below.refl w.heap.size w).alloc (Nat.le_refl _) _).trans (hb2.mono (by simp))⟩

end Go.Proofs.YtdjlbfepddcmeaaGreatDoor

namespace Go.Proofs.YtdjlbfepddcmeaaGreatDoor
open Go.RowKit

def digitsL : List UInt8 := [48, 49, 50, 51, 52, 53, 54, 55, 56, 57, 65, 66, 67, 68, 69, 70]
def hexv (c : UInt8) : Int := Lib.indexByte digitsL c
def unhexI (a b : UInt8) : Int := IntKind.u8.wrap (bits .or .i64 (IntKind.i64.wrap (hexv a * 16)) (bits .and .i64 (hexv b) 15))
def unhex (a b : UInt8) : UInt8 := UInt8.ofNat (unhexI a b).toNat

def unq : List UInt8 → List UInt8
  | [] => []
  | [c] => [c]
  | [c, d] => [c, d]
  | c :: a :: b :: r => if c = 37 then unhex a b :: unq r else c :: unq (a :: b :: r)

theorem unhex_nat (a b : UInt8) : unhexI a b = ((unhex a b).toNat : Int) := by
  have h : 0 ≤ unhexI a b ∧ unhexI a b < 256 := by unfold unhexI; rw [IntKind.wrap_u8']; omega
  unfold unhex
  rw [UInt8.toNat_ofNat']; omega

theorem hexv_call (c : UInt8) : Lib.indexByte (⟨#[48, 49, 50, 51, 52, 53, 54, 55, 56, 57, 65, 66, 67, 68, 69, 70]⟩ : ByteArray).data.toList ((c.toNat : Int).toNat.toUInt8) = hexv c := by
  rw [Int.toNat_natCast]
  have : c.toNat.toUInt8 = c := UInt8.ofNat_toNat
  rw [this]; rfl

theorem unq_short (c : UInt8) (r : List UInt8) (h : ¬ (c = 37 ∧ 2 ≤ r.length)) : unq (c :: r) = c :: unq r := by
  rcases r with _ | ⟨a, _ | ⟨b, r⟩⟩
  · rfl
  · rfl
  · have : c ≠ 37 := fun e => h ⟨e, by simp⟩
    rw [unq, if_neg this]

theorem unq_len : ∀ l : List UInt8, (unq l).length ≤ l.length
  | [] => by simp [unq]
  | [c] => by simp [unq]
  | [c, d] => by simp [unq]
  | c :: a :: b :: r => by
    have h1 := unq_len r
    have h2 := unq_len (a :: b :: r)
    rw [unq]
    split
    · simp only [List.length_cons]; omega
    · simp only [List.length_cons] at *; omega

theorem drop_byte (s : ByteArray) (j : Nat) (hj : j < s.size) : s.data.toList.drop j = s[j] :: s.data.toList.drop (j + 1) := by
  have h : j < s.data.toList.length := by simpa using hj
  rw [List.drop_eq_getElem_cons h]
  rfl

theorem unq_hex (s : ByteArray) (j : Nat) (h2 : j + 2 < s.size) (h : s[j] = 37) : unq (s.data.toList.drop j) = unhex s[j + 1] s[j + 2] :: unq (s.data.toList.drop (j + 3)) := by
  rw [drop_byte s j (by omega), drop_byte s (j + 1) (by omega), drop_byte s (j + 2) (by omega), unq, if_pos h]

set_option maxRecDepth 100000 in
set_option maxHeartbeats 2000000 in
theorem unquote_any (s : ByteArray) (w : World) (hs : s.size ≤ 4194304) :
    Calls Tryz.prog 105 #[.string s] w fun e w' => e = .returned (.string ⟨(unq s.data.toList).toArray⟩) ∧ Below w.heap.size w w' := by
  have hfr := Lib.fresh_isBuilder 62 5 w
  go_enter Tryz.func105, Tryz.ntmps105
  go_wp2
  go_loopw [4] (fun i wr => ∃ (j : Nat) (done : List UInt8), j ≤ s.size ∧ i = .int .i64 j ∧ done ++ unq (s.data.toList.drop j) = unq s.data.toList ∧ done.length ≤ j ∧ Lib.IsBuilder 62 5 w.heap.size w.heap.size (Lib.byteCells done) wr ∧ Below w.heap.size w wr) (fun i _ => s.size - (intOf i).toNat)
  case atStart => exact ⟨0, [], Nat.zero_le _, rfl, rfl, by simp, hfr, (Below.refl w.heap.size w).alloc (Nat.le_refl _) _⟩
  case round =>
    obtain ⟨j, done, hj, rfl, hd, hdl, hb2, hbl2⟩ := hrel
    by_cases hlt : j < s.size
    · by_cases he : s[j] = 37 ∧ j + 2 < s.size
      · obtain ⟨he1, he2⟩ := he
        have hc : ((s[j].toNat : Int) == 37) = true := by rw [he1]; rfl
        have HE := Lib.hid he1
        clear he1
        have hw1 : IntKind.i64.wrap ((j : Int) + 1) = (j : Int) + 1 := by rw [IntKind.wrap_i64]; omega
        have hw2 : IntKind.i64.wrap ((j : Int) + 2) = (j : Int) + 2 := by rw [IntKind.wrap_i64]; omega
        have hl1 : (j : Int) + 1 < (s.size : Int) := by omega
        have hl0 : 0 ≤ (j : Int) + 1 := by omega
        have hl2 : 0 ≤ (j : Int) + 2 := by omega
        have hn1 : ((j : Int) + 1).toNat = j + 1 := by omega
        have hn2 : ((j : Int) + 2).toNat = j + 2 := by omega
        go_wp2
        refine wp_region_still_tail 14 (by kernel_rfl) (by kernel_rfl) ?_
        simp only [List.take_succ_cons, List.take_zero, List.drop_succ_cons, List.drop_zero]
        still_step
        still_step
        still_step
        still_step
        still_call (Tryz.strings_IndexByte _ _ _)
        rw [hexv_call]
        generalize hx1 : hexv s[j + 1] = x1
        still_step
        still_step
        still_step
        still_step
        still_step
        still_call (Tryz.strings_IndexByte _ _ _)
        rw [hexv_call]
        generalize hx2 : hexv s[j + 2] = x2
        still_step
        still_step
        still_step
        refine wpStill_nil ?_
        have hU : IntKind.u8.wrap (bits BinOp.or IntKind.i64 (IntKind.i64.wrap (x1 * 16)) (bits BinOp.and IntKind.i64 x2 15)) = ((unhex s[j + 1] s[j + 2]).toNat : Int) := by
          rw [← unhex_nat, unhexI, hx1, hx2]
        rw [hU]
        have hb3 : Lib.IsBuilder 62 5 w.heap.size w.heap.size (Lib.byteCells done) wr.drew := hb2.imp (·.drew) (·.drew)
        go_wp2_with fail
        refine (Tryz.bld_WriteByte w.heap.size w.heap.size _ _ _ hb3 (by rw [byteCells_length]; omega) hbl2.size).mono ?_
        rintro e w4 ⟨rfl, hb4, hbl4⟩
        go_wp2
        go_roundw
        case rel => exact ⟨j + 3, done ++ [unhex s[j + 1] s[j + 2]], by omega, by go_num, by rw [← hd, unq_hex s j he2 HE.out]; simp, by simp; omega, by rw [byteCells_append]; exact .inr hb4, hbl2.drew.trans hbl4⟩
        case measure => simp [intOf]; omega
      · have hcell : Lib.byteCells done ++ [.int .u8 s[j].toNat] = Lib.byteCells (done ++ [s[j]]) := by rw [byteCells_append]; rfl
        have hq : done ++ [s[j]] ++ unq (s.data.toList.drop (j + 1)) = unq s.data.toList := by
          rw [← hd, drop_byte s j hlt, unq_short]
          · simp
          · intro h
            refine he ⟨h.1, ?_⟩
            have := h.2
            simp at this
            omega
        have HQ := Lib.hid hq
        have HC := Lib.hid hcell
        clear hq hcell hd
        by_cases hc1 : s[j] = 37
        · have hc : ((s[j].toNat : Int) == 37) = true := by rw [hc1]; rfl
          have hl : ¬ ((j : Int) + 2 < (s.size : Int)) := fun h => he ⟨hc1, by omega⟩
          have HE := Lib.hid hc1
          clear hc1 he
          go_wp2_with (go_at_call 95; refine (Tryz.bld_WriteByte w.heap.size w.heap.size _ _ _ hb2 (by rw [byteCells_length]; omega) hbl2.size).mono ?_; rintro e w4 ⟨rfl, hb4, hbl4⟩)
          go_roundw
          case rel => exact ⟨j + 1, done ++ [s[j]], by omega, by go_num, HQ.out, by simp; omega, by rw [← HC.out]; exact .inr hb4, hbl2.trans hbl4⟩
          case measure => simp [intOf]; omega
        · have hc : ((s[j].toNat : Int) == 37) = false := by
            simp only [beq_eq_false_iff_ne, ne_eq]
            intro h
            exact hc1 (UInt8.toNat_inj.1 (by simpa using (by omega : s[j].toNat = 37)))
          clear hc1 he
          go_wp2_with (go_at_call 95; refine (Tryz.bld_WriteByte w.heap.size w.heap.size _ _ _ hb2 (by rw [byteCells_length]; omega) hbl2.size).mono ?_; rintro e w4 ⟨rfl, hb4, hbl4⟩)
          go_roundw
          case rel => exact ⟨j + 1, done ++ [s[j]], by omega, by go_num, HQ.out, by simp; omega, by rw [← HC.out]; exact .inr hb4, hbl2.trans hbl4⟩
          case measure => simp [intOf]; omega
    · have hfin : done = unq s.data.toList := by
        rw [← hd, List.drop_of_length_le (by simp; omega)]; simp [unq]
      subst hfin
      go_wp2_with fail
      refine (Tryz.Builder_String_any w.heap.size w.heap.size (unq s.data.toList) _ hb2 (by have := hbl2.size; omega)).mono ?_
      rintro e w5 ⟨rfl, hbl5⟩
      go_wp2
      go_ret
      exact ⟨rfl, hbl2.trans hbl5⟩
end Go.Proofs.YtdjlbfepddcmeaaGreatDoor

namespace Go.Proofs.YtdjlbfepddcmeaaGreatDoor
open Go.RowKit

/-- The parts of a list's text. -/
def itemsL (q : Bool) (cur : List UInt8) : List UInt8 → List (List UInt8)
  | [] => [cur]
  | c :: r => if c = 39 then itemsL (!q) (cur ++ [c]) r else if c = 44 ∧ q = false then cur :: itemsL false [] r else itemsL q (cur ++ [c]) r

def toBA (l : List UInt8) : ByteArray := ⟨l.toArray⟩
def sub (s : ByteArray) (f j : Nat) : List UInt8 := (s.data.toList.take j).drop f

theorem extract_sub (s : ByteArray) (f j : Nat) (hj : j ≤ s.size) : s.extract f j = toBA (sub s f j) := by
  apply ByteArray.ext
  apply Array.toList_inj.1
  rw [ByteArray.data_extract, Array.toList_extract]
  simp [toBA, sub, List.extract_eq_take_drop, List.drop_take]

theorem sub_snoc (s : ByteArray) (f j : Nat) (hf : f ≤ j) (hj : j < s.size) : sub s f (j + 1) = sub s f j ++ [s[j]] := by
  unfold sub
  have h : j < s.data.toList.length := by simpa using hj
  rw [List.take_succ_eq_append_getElem h, List.drop_append_of_le_length (by simp; omega)]
  rfl
theorem sub_nil (s : ByteArray) (j : Nat) : sub s j j = [] := by
  unfold sub
  rw [List.drop_eq_nil_iff]; simp; omega

theorem itemsL_q (q : Bool) (cur r : List UInt8) : itemsL q cur (39 :: r) = itemsL (!q) (cur ++ [39]) r := by rw [itemsL, if_pos rfl]
theorem itemsL_c (cur r : List UInt8) : itemsL false cur (44 :: r) = cur :: itemsL false [] r := by rw [itemsL, if_neg (by decide), if_pos ⟨rfl, rfl⟩]
theorem itemsL_o (q : Bool) (cur r : List UInt8) (c : UInt8) (h1 : c ≠ 39) (h2 : ¬ (c = 44 ∧ q = false)) : itemsL q cur (c :: r) = itemsL q (cur ++ [c]) r := by rw [itemsL, if_neg h1, if_neg h2]

theorem itemsL_len (r : List UInt8) : ∀ q cur, (itemsL q cur r).length ≤ r.length + 1 := by
  induction r with
  | nil => intro q cur; simp [itemsL]
  | cons c r ih =>
    intro q cur
    rw [itemsL]
    split
    · have := ih (!q) (cur ++ [c]); simp only [List.length_cons]; omega
    · split
      · have := ih false []; simp only [List.length_cons]; omega
      · have := ih q (cur ++ [c]); simp only [List.length_cons]; omega

theorem u8_beq (x y : UInt8) (h : x = y) (k : Int) (hk : (y.toNat : Int) = k) : ((x.toNat : Int) == k) = true := by subst h; rw [hk]; simp
theorem u8_bne (x y : UInt8) (h : ¬ x = y) (k : Int) (hk : (y.toNat : Int) = k) : ((x.toNat : Int) == k) = false := by
  simp only [beq_eq_false_iff_ne, ne_eq]
  intro e
  exact h (UInt8.toNat_inj.1 (by omega))

set_option maxRecDepth 100000 in
set_option maxHeartbeats 2000000 in
theorem items_any (s : ByteArray) (w : World) (hs : s.size ≤ 4194304) :
    Calls Tryz.prog 106 #[.string s] w fun e w' => ∃ v, e = .returned v ∧ Strs w' w.heap.size v ((itemsL false [] s.data.toList).map toBA) ∧ Below w.heap.size w w' := by
  go_enter Tryz.func106, Tryz.ntmps106
  go_wp2
  go_loopw [3, 4, 5, 9] (fun o q f k wr => ∃ (j fr : Nat) (b : Bool) (done : List (List UInt8)), j ≤ s.size ∧ fr ≤ j ∧ k = .int .i64 j ∧ f = .int .i64 fr ∧ q = .bool b ∧ done ++ itemsL b (sub s fr j) (s.data.toList.drop j) = itemsL false [] s.data.toList ∧ done.length ≤ j ∧ Strs wr w.heap.size o (done.map toBA) ∧ Below w.heap.size w wr) (fun _ _ _ k _ => s.size - (intOf k).toNat)
  case atStart => exact ⟨0, 0, false, [], Nat.zero_le _, Nat.le_refl _, rfl, rfl, rfl, by simp [sub], by simp, Strs.nil _ _, Below.refl _ _⟩
  case round =>
    obtain ⟨j, fr, b, done, hj, hfr, rfl, rfl, rfl, hd, hdl, hb2, hbl2⟩ := hrel
    by_cases hlt : j < s.size
    · have HD := Lib.hid hd
      clear hd
      by_cases h39 : s[j] = 39
      · have hc := u8_beq _ _ h39 39 rfl
        have HH := Lib.hid h39
        clear h39
        go_wp2
        go_roundw
        case rel => exact ⟨j + 1, fr, !b, done, by omega, by omega, by go_num, rfl, rfl, by rw [← HD.out, drop_byte s j hlt, HH.out, itemsL_q, sub_snoc s fr j hfr hlt, HH.out], by omega, hb2, hbl2⟩
        case measure => simp [intOf]; omega
      · have hc := u8_bne _ _ h39 39 rfl
        by_cases h44 : s[j] = 44 ∧ b = false
        · obtain ⟨h44, rfl⟩ := h44
          have hc2 := u8_beq _ _ h44 44 rfl
          have HH := Lib.hid h44
          clear h44 h39
          have hms : (done.map toBA).length ≤ 1099511627776 := by simp; omega
          go_wp2_with (at_builtin; go_must (refine wp_appT rfl (.tmp 28) (.tmp 33) rfl w.heap.size _ _ rfl hb2 (s.extract fr j) _ 1 rfl (by simp) (by omega) hbl2.size ?_); intro v4 w4 hb4 hbl4 hz4)
          go_roundw
          case rel => exact ⟨j + 1, j + 1, false, done ++ [sub s fr j], by omega, by omega, by go_num, by go_num, rfl, by rw [← HD.out, drop_byte s j hlt, HH.out, itemsL_c, sub_nil]; simp, by simp; omega, by rw [List.map_append, List.map_cons, List.map_nil, ← extract_sub s fr j hj]; exact hb4, hbl2.trans hbl4⟩
          case measure => simp [intOf]; omega
        · have HO := Lib.hid (itemsL_o b (sub s fr j) (s.data.toList.drop (j + 1)) s[j] h39 h44)
          have hcon : ((s[j].toNat : Int) == 44) = false ∨ (((s[j].toNat : Int) == 44) = true ∧ b = true) := by
            by_cases h : s[j] = 44
            · refine .inr ⟨u8_beq _ _ h 44 rfl, ?_⟩
              cases b
              · exact absurd ⟨h, rfl⟩ h44
              · rfl
            · exact .inl (u8_bne _ _ h 44 rfl)
          clear h44 h39
          rcases hcon with hc2 | ⟨hc2, rfl⟩
          all_goals
            go_wp2
            go_roundw
            case rel => exact ⟨j + 1, fr, _, done, by omega, by omega, by go_num, rfl, rfl, by rw [← HD.out, drop_byte s j hlt, HO.out, sub_snoc s fr j hfr hlt], by omega, hb2, hbl2⟩
            case measure => simp [intOf]; omega
    · have hje : j = s.size := by omega
      subst hje
      have hms : (done.map toBA).length ≤ 1099511627776 := by simp; omega
      rw [List.drop_of_length_le (by simp), itemsL] at hd
      go_wp2_with (at_builtin; go_must (refine wp_appT rfl (.tmp 38) (.tmp 42) rfl w.heap.size _ _ rfl hb2 (s.extract fr s.size) _ 1 rfl (by simp) (by omega) hbl2.size ?_); intro v4 w4 hb4 hbl4 hz4)
      go_ret
      exact ⟨_, rfl, by rw [← hd, List.map_append, List.map_cons, List.map_nil, ← extract_sub s fr s.size (Nat.le_refl _)]; exact hb4, hbl2.trans hbl4⟩
end Go.Proofs.YtdjlbfepddcmeaaGreatDoor

namespace Go.Proofs.YtdjlbfepddcmeaaGreatDoor
open Go.RowKit

theorem results_cell1 {fn : Func} {p : Tmp} {ty : TypeId} (h : fn.results = #[.cell p ty]) (tmps : Array Value) (P : Program) (w : World) :
    (results fn tmps).run P w = ((asAddr (tmps.getD p undef)).run P w).andThen fun a w₁ => (loadVar ty a).run P w₁ := by
  simp only [results, h]
  simp [Sem.run_bind, Result.andThen]
  try (split <;> simp_all)

def atoiV (l : List UInt8) : Int := match Lib.atoiAll l with
  | .ok v => v
  | .syntax => 0
  | .range => Lib.atoiSat l

theorem atoiV_in (l : List UInt8) : In64 (atoiV l) := by
  unfold atoiV
  split
  · next v h =>
    unfold Lib.atoiAll at h
    split at h
    · cases h
    · simp only at h
      split at h
      · cases h
      · cases h
      · split at h
        · cases h
        · split at h
          · cases h
          · injection h with h
            subst h
            unfold In64
            split <;> omega
  · exact ⟨by omega, by omega⟩
  · unfold Lib.atoiSat In64
    split <;> omega

theorem atoi_any (s : ByteArray) (hs : s.size ≤ 4194304) (w : World) (hG : Globs w) :
    Calls Tryz.prog 107 #[.string s] w fun e w' => ∃ ev, e = .returned (.tuple #[.int .i64 (atoiV s.data.toList), ev]) ∧ Below w.heap.size w w' := by
  cases h : Lib.atoiAll s.data.toList with
  | ok v =>
    refine (Tryz.strconv_Atoi_ok s (by omega) v h w).mono ?_
    rintro e w' ⟨rfl, hw⟩
    refine ⟨_, by rw [atoiV, h], ?_⟩
    rcases hw with rfl | ⟨t, rfl⟩
    · exact Below.refl _ _
    · exact Lib.bytesWorld_below _ _ _
  | «syntax» =>
    obtain ⟨tp, p, hv⟩ := hG.syn
    refine (Tryz.strconv_Atoi_syntax s (by omega) h _ w hv (.inr ⟨_, _, rfl⟩)).mono ?_
    rintro e w' ⟨N, rfl, _, _, hb⟩
    exact ⟨_, by rw [atoiV, h], hb⟩
  | range =>
    obtain ⟨tp, p, hv⟩ := hG.rng
    refine (Tryz.strconv_Atoi_range s (by omega) h _ w hv (.inr ⟨_, _, rfl⟩)).mono ?_
    rintro e w' ⟨N, rfl, _, _, hb⟩
    exact ⟨_, by rw [atoiV, h], hb⟩

/-- The datum of a text that is no list. -/
def read1 (s : ByteArray) : It := if 2 ≤ s.size ∧ s.data.toList.head? = some 39 then ⟨2, 0, toBA (unq (sub s 1 (s.size - 1))), 0⟩ else ⟨1, atoiV s.data.toList, ⟨#[]⟩, 0⟩

theorem head_at (s : ByteArray) (h : 0 < s.size) : s.data.toList.head? = some s[0] := by
  have := drop_byte s 0 h
  rw [List.drop_zero] at this
  rw [this]; rfl

theorem not_brackets (s : ByteArray) (h : 0 < s.size) (h0 : ¬ s[0] = 91) : (s.toList == [91, 93]) = false := by
  rw [beq_eq_false_iff_ne]
  intro e
  rw [Lib.toList_data, show s.data.toList = s[0] :: s.data.toList.drop 1 from drop_byte s 0 h] at e
  exact h0 (List.cons.inj e).1

set_option maxRecDepth 100000 in
set_option maxHeartbeats 2000000 in
theorem read_simple (s : ByteArray) (w : World) (hs : s.size ≤ 4194304) (hG : Globs w) (hn : 2 ≤ s.size → s.data.toList.head? ≠ some 91) :
    Calls Tryz.prog 98 #[.string s] w fun e w' => e = .returned (dv (read1 s).k (read1 s).n (read1 s).s none 0 0) ∧ Below w.heap.size w w' := by
  by_cases h2 : 2 ≤ s.size
  · by_cases h39 : s[0] = 39
    · have hR : read1 s = ⟨2, 0, toBA (unq (sub s 1 (s.size - 1))), 0⟩ := by rw [read1, if_pos ⟨h2, by rw [head_at s (by omega), h39]⟩]
      rw [hR]
      have hc := u8_beq _ _ h39 39 rfl
      have hh : 2 ≤ (s.size : Int) := by omega
      have hx : s.extract 1 (s.size - 1) = toBA (sub s 1 (s.size - 1)) := extract_sub s 1 (s.size - 1) (by omega)
      have hxs : (toBA (sub s 1 (s.size - 1))).size ≤ 4194304 := by rw [← hx]; simp; omega
      clear hR h39
      go_enter Tryz.func98, Tryz.ntmps98
      go_wp2_with fail
      refine (unquote_any _ _ hxs).mono ?_
      rintro e w1 ⟨rfl, hb1⟩
      obtain ⟨hc1, hf1⟩ := bcell hb1
      simp only [World.size_alloc] at hc1 hf1
      have hz1 : w.heap.size < w1.heap.size := by have := hb1.size; simp at this; omega
      have hb01 : Below w.heap.size w w1 := ((Below.refl w.heap.size w).alloc (Nat.le_refl _) _).trans (hb1.mono (by simp))
      go_wp2
      (try simp only [Exit.inBlock, Exit.then])
      refine bodyPost_ret (v := dv 2 0 (toBA (unq (sub s 1 (s.size - 1)))) none 0 0) ?_ rfl ⟨rfl, ?_⟩
      · rw [results_cell1 rfl]
        go_simp
        rfl
      · exact (((hb01.setCell (p := ⟨w.heap.size, 0, none⟩) (Nat.le_refl _) _).setCell (p := ⟨w.heap.size, 1, none⟩) (Nat.le_refl _) _).setCell (p := ⟨w.heap.size, 2, none⟩) (Nat.le_refl _) _).setCell (p := ⟨w.heap.size, 3, none⟩) (Nat.le_refl _) _
    · have hR : read1 s = ⟨1, atoiV s.data.toList, ⟨#[]⟩, 0⟩ := by rw [read1, if_neg]; rw [head_at s (by omega)]; simp [h39]
      rw [hR]
      have h91 : ¬ s[0] = 91 := fun h => hn h2 (by rw [head_at s (by omega), h])
      have hc := u8_bne _ _ h39 39 rfl
      have hc2 := u8_bne _ _ h91 91 rfl
      have hbr := not_brackets s (by omega) h91
      have hh : 2 ≤ (s.size : Int) := by omega
      clear hR h39 h91 hn
      go_enter Tryz.func98, Tryz.ntmps98
      go_wp2_with fail
      refine (atoi_any s hs _ (hG.below (by go_grown))).mono ?_
      rintro e w1 ⟨ev, rfl, hb1⟩
      obtain ⟨hc1, hf1⟩ := bcell hb1
      simp only [World.size_alloc] at hc1 hf1
      have hz1 : w.heap.size < w1.heap.size := by have := hb1.size; simp at this; omega
      have hb01 : Below w.heap.size w w1 := ((Below.refl w.heap.size w).alloc (Nat.le_refl _) _).trans (hb1.mono (by simp))
      go_wp2
      (try simp only [Exit.inBlock, Exit.then])
      refine bodyPost_ret (v := dv 1 (atoiV s.data.toList) ⟨#[]⟩ none 0 0) ?_ rfl ⟨rfl, ?_⟩
      · rw [results_cell1 rfl]
        go_simp
        try rfl
      · exact (((hb01.setCell (p := ⟨w.heap.size, 0, none⟩) (Nat.le_refl _) _).setCell (p := ⟨w.heap.size, 1, none⟩) (Nat.le_refl _) _).setCell (p := ⟨w.heap.size, 2, none⟩) (Nat.le_refl _) _).setCell (p := ⟨w.heap.size, 3, none⟩) (Nat.le_refl _) _
  · have hR : read1 s = ⟨1, atoiV s.data.toList, ⟨#[]⟩, 0⟩ := by rw [read1, if_neg]; exact fun h => h2 h.1
    rw [hR]
    have hbr : (s.toList == [91, 93]) = false := by
      rw [beq_eq_false_iff_ne]
      intro e
      rw [Lib.toList_data] at e
      have := congrArg List.length e
      simp at this
      omega
    have hh : ¬ 2 ≤ (s.size : Int) := by omega
    clear hR h2 hn
    go_enter Tryz.func98, Tryz.ntmps98
    go_wp2_with fail
    refine (atoi_any s hs _ (hG.below (by go_grown))).mono ?_
    rintro e w1 ⟨ev, rfl, hb1⟩
    obtain ⟨hc1, hf1⟩ := bcell hb1
    simp only [World.size_alloc] at hc1 hf1
    have hz1 : w.heap.size < w1.heap.size := by have := hb1.size; simp at this; omega
    have hb01 : Below w.heap.size w w1 := ((Below.refl w.heap.size w).alloc (Nat.le_refl _) _).trans (hb1.mono (by simp))
    go_wp2
    (try simp only [Exit.inBlock, Exit.then])
    refine bodyPost_ret (v := dv 1 (atoiV s.data.toList) ⟨#[]⟩ none 0 0) ?_ rfl ⟨rfl, ?_⟩
    · rw [results_cell1 rfl]
      go_simp
      try rfl
    · exact (((hb01.setCell (p := ⟨w.heap.size, 0, none⟩) (Nat.le_refl _) _).setCell (p := ⟨w.heap.size, 1, none⟩) (Nat.le_refl _) _).setCell (p := ⟨w.heap.size, 2, none⟩) (Nat.le_refl _) _).setCell (p := ⟨w.heap.size, 3, none⟩) (Nat.le_refl _) _
end Go.Proofs.YtdjlbfepddcmeaaGreatDoor

namespace Go.Proofs.YtdjlbfepddcmeaaGreatDoor
open Go.RowKit

theorem info_datum : (Tryz.prog.info? 24).map (fun i => (i.zero, i.size, i.bytes)) = some (some (.agg #[.int .i64 0, .int .i64 0, .string ⟨#[]⟩, .slice none 0 0]), 4, 56) := by kernel_rfl

def itCells (x : It) : List Value := [.int .i64 x.k, .int .i64 x.n, .string x.s, .slice none 0 0]
/-- v owns just these data, none with a list. -/
def Data (w : World) (B : Nat) (v : Value) (l : List It) : Prop := w.ownsRow B 24 4 v l.length (l.flatMap itCells)
theorem Data.nil (w : World) (B : Nat) : Data w B (.slice none 0 0) [] := World.ownsRow_nil _ _ _ _
theorem Data.alloc {w : World} {B : Nat} {v : Value} {l : List It} (h : Data w B v l) (o : Obj) : Data (w.alloc o) B v l := World.ownsRow.alloc h o
theorem Data.drew {w : World} {B : Nat} {v : Value} {l : List It} (h : Data w B v l) : Data w.drew B v l := World.ownsRow.drew h
theorem Data.later {w w1 : World} {B : Nat} {v : Value} {l : List It} (h : Data w B v l) (hb : Below w.heap.size w w1) : Data w1 B v l :=
  World.ownsRow.kept h (row := none) ⟨hb.os, hb.tape, hb.output, hb.size, fun i hi _ => hb.block i hi⟩ (by cases v.ownBlock <;> simp)
theorem Data.below {w w1 : World} {B : Nat} {v : Value} {l : List It} (h : Data w B v l) (hB : B ≤ w.heap.size) (hg : w.grownBy w1 v.ownBlock) : Below B w w1 :=
  (Below.refl B w).grown hg hB fun k hk => by
    rcases h.2 with ⟨rfl, _⟩ | ⟨g, cap, cur, rfl, hb, _⟩
    · simp [Value.ownBlock] at hk
    · have : g = k := by simpa [Value.ownBlock] using hk
      omega
theorem itCells_len (l : List It) : (l.flatMap itCells).length = l.length * 4 := by
  induction l with
  | nil => rfl
  | cons x l ih => simp only [List.flatMap_cons, List.length_append, List.length_cons, ih, itCells, List.length_nil]; omega

theorem Data.slice {w : World} {B : Nat} {v : Value} {l : List It} (h : Data w B v l) : ∃ A c, v = .slice A l.length c := by
  rcases h.2 with ⟨rfl, h0⟩ | ⟨g, cap, cur, rfl, _⟩
  · rw [h0]; exact ⟨none, 0, rfl⟩
  · exact ⟨_, cap, rfl⟩

theorem Data.base {w : World} {B : Nat} {A : Option Addr} {n c : Nat} {l : List It} (h : Data w B (.slice A n c) l) (b off : Nat) (e : A = some ⟨b, off, none⟩) : B ≤ b := by
  rcases h.2 with ⟨e', _⟩ | ⟨g, cap, cur, e', hB, _⟩
  · simp only [Value.slice.injEq] at e'; rw [e'.1] at e; simp at e
  · simp only [Value.slice.injEq] at e'
    rw [e'.1] at e
    simp only [Option.some.injEq, Addr.mk.injEq] at e
    omega

theorem RowIs.setCell {w : World} {a : Option Addr} {l : List It} (h : RowIs w a l) (p : Addr) (u : Value) (hne : ∀ b off, a = some ⟨b, off, none⟩ → b ≠ p.block) : RowIs (w.setCell p u) a l := by
  rcases h with h | ⟨b, off, ha, h⟩
  · exact .inl h
  · refine .inr ⟨b, off, ha, fun i hi => ?_⟩
    have hb := hne b off ha
    have key : ∀ o, (w.setCell p u).cell? ⟨b, o, none⟩ = w.cell? ⟨b, o, none⟩ := fun o => World.cell?_setCell_other _ _ _ _ (fun e => hb (by rw [e]))
    simp only [key]
    exact h i hi

/-- What an item that was read is. -/
def It.ok (x : It) : Prop := x.ln = 0 ∧ x.s.size ≤ 140737488351232 ∧ In64 x.n

theorem itCells_at (l : List It) (i : Nat) (h : i < l.length) (j : Nat) (hj : j < 4) : (l.flatMap itCells)[i * 4 + j]? = (itCells l[i])[j]? := by
  induction l generalizing i with
  | nil => simp at h
  | cons x l ih =>
    have h4 : (itCells x).length = 4 := rfl
    cases i with
    | zero => simp only [List.flatMap_cons, Nat.zero_mul, Nat.zero_add, List.getElem_cons_zero]; rw [List.getElem?_append_left (by omega)]
    | succ i =>
      simp only [List.flatMap_cons, List.getElem_cons_succ]
      rw [List.getElem?_append_right (by omega), h4, show (i + 1) * 4 + j - 4 = i * 4 + j by omega]
      exact ih i (by simpa using h)

theorem Data.row {w : World} {B : Nat} {A : Option Addr} {n c : Nat} {l : List It} (h : Data w B (.slice A n c) l) (hok : ∀ x ∈ l, x.ok) : RowIs w A l := by
  rcases h.2 with ⟨e, h0⟩ | ⟨g, cap, cur, e, _⟩
  · exact .inl (List.eq_nil_of_length_eq_zero h0)
  · simp only [Value.slice.injEq] at e
    obtain ⟨rfl, rfl, rfl⟩ := e
    refine .inr ⟨g, 0, rfl, fun i hi => ?_⟩
    have hx := hok _ (List.getElem_mem hi)
    have key : ∀ j v, j < 4 → (itCells l[i])[j]? = some v → w.cell? ⟨g, 0 + i * 4 + j, none⟩ = some v := fun j v hj hv => by
      have := World.ownsRow.cells h (g := g) rfl (i * 4 + j) v (by rw [itCells_at l i hi j hj]; exact hv)
      have ha : (⟨g, 0, none⟩ : Addr).add (i * 4 + j) = ⟨g, 0 + i * 4 + j, none⟩ := by unfold Addr.add; split <;> simp_all
      rw [← ha]; exact this
    exact ⟨key 0 _ (by omega) rfl, key 1 _ (by omega) rfl, key 2 _ (by omega) rfl, ⟨none, 0, by rw [hx.1]; exact key 3 _ (by omega) rfl⟩, by rw [hx.1]; omega, hx.2.1, hx.2.2⟩

/-- append of a datum that has just been laid, in a region that draws. -/
theorem step_appD {ops : Array Oper} {o : Oper} {a : Act} {K : Act → World → Prop} {Q : Exit → Act → World → Prop} {E : Prop} {W : World} (hgd : o.guard = none) (s x : Operand)
    (ho : o.op = .call { callee := .builtin .append, args := #[s, x], argTypes := #[22, 22] })
    (B : Nat) (v : Value) (l : List It) (hs : a.eval s = v) (hb : Data W B v l) (y : It) (k c : Nat) (hx : a.eval x = .slice (some ⟨k, 0, none⟩) 1 c) (hk : k = W.heap.size)
    (hlen : l.length ≤ 1099511627776) (hB : B ≤ W.heap.size)
    (h : ∀ v' w', Data w' B v' (l ++ [y]) → Below B W w' → W.grownBy w' v.ownBlock → K (a.put o.dst v') w') : if Region.wanted o (yielded ops a.tmps) = true then Oper.wp Tryz.prog o a (W.alloc (.cells #[.int .i64 y.k, .int .i64 y.n, .string y.s, .slice none 0 0] 24)) K Q else E := by
  have hw : Region.wanted o (yielded ops a.tmps) = true := by simp [Region.wanted, hgd]
  rw [if_pos hw]
  obtain ⟨i0, hi, hz0, hz1, hz2⟩ := info_parts info_datum
  subst hk
  refine wp_append_own _ s x 22 ho B 24 i0 _ 4 56 Tryz.underlying22 hi hz0 hz1 hz2 rfl (by decide) v l.length (l.flatMap itCells) hs (hb.alloc _) ⟨W.heap.size, 0, none⟩ 1 c (itCells y) hx rfl ?_ ?_ (by unfold maxLen; omega) (by omega) (by simp; omega) ?_
  · intro j u hj
    match j, hj with
    | 0, hj => simp [itCells] at hj; subst hj; simp [Addr.add]
    | 1, hj => simp [itCells] at hj; subst hj; simp [Addr.add]
    | 2, hj => simp [itCells] at hj; subst hj; simp [Addr.add]
    | 3, hj => simp [itCells] at hj; subst hj; simp [Addr.add]
  · intro u hu
    simp [itCells] at hu
    rcases hu with rfl | rfl | rfl | rfl <;> rfl
  · intro v' w' hown hg _
    refine h v' w' ?_ (((Below.refl B W).alloc hB _).trans ((hb.alloc _).below (by simp; omega) hg)) (grown_alloc hg)
    unfold Data
    rw [List.length_append, List.flatMap_append]
    simpa using hown
end Go.Proofs.YtdjlbfepddcmeaaGreatDoor
