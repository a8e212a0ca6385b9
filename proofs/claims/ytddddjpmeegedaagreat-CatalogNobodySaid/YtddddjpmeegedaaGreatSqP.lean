/- catalog.Make. -/
import Derived.Test.YtddddjpmeegedaaGreatSqN
set_option linter.unusedVariables false
set_option linter.unusedSimpArgs false
namespace Go.Proofs.YtddddjpmeegedaaGreat
open Go.RowKit

theorem ColIs.off {w w1 : World} {F : Nat → Prop} {a : Option Addr} {l : List Co} (h : ColIs w a l) (ho : Off F w w1) (hn : ∀ b off, a = some ⟨b, off, none⟩ → ¬ F b) : ColIs w1 a l := by
  rcases h with h | ⟨b, off, ha, h⟩
  · exact .inl h
  · refine .inr ⟨b, off, ha, fun i hi => ?_⟩
    obtain ⟨h0, h1, h2⟩ := h i hi
    exact ⟨ho.cell h0 (hn b off ha), ho.cell h1 (hn b off ha), h2⟩
theorem ColIs.lt {w : World} {a : Option Addr} {l : List Co} (h : ColIs w a l) (hl : 0 < l.length) {b off : Nat} (ha : a = some ⟨b, off, none⟩) : b < w.heap.size := by
  obtain ⟨b', off', e, h0, _⟩ := h.at_ 0 hl
  rw [ha] at e
  simp only [Option.some.injEq, Addr.mk.injEq] at e
  obtain ⟨rfl, rfl, _⟩ := e
  exact World.block_lt_of_cell? _ _ h0
/-- While Make goes. -/
structure MK {bs : Nat} (B : Base bs) (w : World) (ba tb : Nat) (F : Nat → Prop) (R : Raw) (a : Option Addr) (l : List Co) (k : Nat) (wr : World) (Fr : Nat → Prop) (R' : Raw) : Prop where
  tree : wr.heap[tb]? = some (treeO ba 0)
  tF : ¬ Fr tb
  act : ActIs B wr ba Fr R'
  made : MadeIs B R l k R'
  cols : ColIs wr a l
  aF : ∀ b off, a = some ⟨b, off, none⟩ → ¬ Fr b
  yF : ∀ k, k < w.heap.size → Fr k → F k
  off : Off F w wr
section
variable {bs : Nat} {B : Base bs} {w wr w' : World} {ba tb k k' : Nat} {F Fr : Nat → Prop} {R R' R2 : Raw} {a : Option Addr} {l : List Co}
theorem MK.below (h : MK B w ba tb F R a l k wr Fr R') (hb : Below wr.heap.size wr w') : MK B w ba tb F R a l k w' Fr R' :=
  ⟨(hb.block tb (Array.getElem?_eq_some_iff.1 h.tree).1).trans h.tree, h.tF, h.act.below hb, h.made, h.cols.below hb, h.aF, h.yF, h.off.trans (Off.of_below hb (F := fun _ => False)) (fun _ _ e => e.elim)⟩
theorem MK.step (h : MK B w ba tb F R a l k wr Fr R') (hl : 0 < l.length) (hs : Step B ba wr Fr R2 w') (hm : MadeIs B R l k' R2) : ∃ F2, MK B w ba tb F R a l k' w' F2 R2 := by
  have ht := hs.block h.tree h.tF
  obtain ⟨F2, hA, hF2, ho⟩ := hs
  refine ⟨F2, ht, fun e => h.tF (hF2 _ (Array.getElem?_eq_some_iff.1 h.tree).1 e), hA, hm, h.cols.off ho h.aF, fun b off e e2 => h.aF b off e (hF2 b (h.cols.lt hl e) e2), fun k hk e => h.yF k hk (hF2 k (Nat.lt_of_lt_of_le hk h.off.size) e), h.off.trans ho (fun k hk e => h.yF k hk e)⟩
theorem MK.out (h : MK B w ba tb F R a l k wr Fr R') : Step B ba w F R' wr := ⟨Fr, h.act, h.yF, h.off⟩
end
theorem conv_one {w : World} {b cap : Nat} {x : Int} (h : w.cell? ⟨b, 0, none⟩ = some (.int .u8 x)) (h0 : 0 ≤ x) (h1 : x < 256) :
    (convert 74 9 (.slice (some ⟨b, 0, none⟩) 1 cap)).run Tryz.prog w = .ok (.string ⟨#[UInt8.ofNat x.toNat]⟩) w := by
  refine conv_row [UInt8.ofNat x.toNat] rfl fun i hi => ?_
  have : i = 0 := by simpa using hi
  subst this
  rw [h]
  congr 2
  show x = ((UInt8.ofNat x.toNat).toNat : Int)
  rw [UInt8.toNat_ofNat_of_lt' (by show _ < 256; omega)]
  omega

set_option maxRecDepth 100000 in
set_option maxHeartbeats 4000000 in
theorem Make_any {bs : Nat} {B : Base bs} {w : World} {ba : Nat} {F : Nat → Prop} {R : Raw} (hA : ActIs B w ba F R) (hf : Fine B R) (hr : R.root 0 = 0) (htot : R.total + 1 < 4096) (l : List Co) (a : Option Addr) (c : Nat) (hci : ColIs w a l) (hl : l.length ≤ 140737488351232) (haF : ∀ b off, a = some ⟨b, off, none⟩ → ¬ F b) (hok : colsB l = true) :
    Calls Tryz.prog 7 #[.pointer (some ⟨ba, 0, none⟩), .slice a l.length c] w fun e w' => e = .returned (.int .i64 0) ∧ ∃ R', MadeIs B R l l.length R' ∧ Step B ba w F R' w' := by
  have HT := Lib.hid (treeNew_any hA hf.cov 0 (by decide))
  obtain ⟨l1, l4, lo⟩ := colsB_facts hok
  have H := Lib.hid (And.intro hA (And.intro hf (And.intro hr (And.intro htot (And.intro hci (And.intro haF (And.intro hok lo)))))))
  clear hA hf hr htot hci haF lo
  go_enter Tryz.func7, Tryz.ntmps7
  go_wp2_with fail
  refine HT.out.mono ?_
  rintro e w1 ⟨tb, F1, rfl, ht1, hlt1, htF1, hA1, hF1, ho1⟩
  have HLen := Lib.hid (Len_none ht1 hA1 H.out.2.1 htF1 (by decide) H.out.2.2.1)
  have H1 := Lib.hid (show MK B w ba tb F R a l 0 w1 F1 R from ⟨ht1, htF1, hA1, .zero H.out.2.1 l, H.out.2.2.2.2.1.off ho1 H.out.2.2.2.2.2.1, fun b off e e2 => H.out.2.2.2.2.2.1 b off e (hF1 b (H.out.2.2.2.2.1.lt l1 e) e2), hF1, ho1⟩)
  clear ht1 hlt1 htF1 hA1 hF1 ho1 HT
  go_wp2_with fail
  refine HLen.out.mono ?_
  rintro e w2 ⟨rfl, hs2⟩
  obtain ⟨F2, h2⟩ := H1.out.step l1 hs2 (.zero H.out.2.1 l)
  have HC := Lib.hid (columns_any l a c w2 h2.cols hl)
  have H2 := Lib.hid h2
  clear h2 hs2 HLen
  go_wp2_with fail
  refine HC.out.mono ?_
  rintro e w3 ⟨rfl, hb3⟩
  have H3 := Lib.hid (H2.out.below hb3)
  rw [show colE l = 0 by unfold colE; rw [hok]; rfl]
  clear hb3 HC hok
  go_wp2
  go_loopw [29] (fun i wr => ∃ (k : Nat) (R' : Raw) (Fr : Nat → Prop), k ≤ l.length ∧ i = .int .i64 k ∧ MK B w ba tb F R a l k wr Fr R')
        (fun i _ => l.length - (intOf i).toNat)
  case atStart => exact ⟨0, R, F2, Nat.zero_le _, rfl, H3.out⟩
  case round =>
    obtain ⟨k, R', Fr, hk, rfl, hMK⟩ := hrel
    by_cases hlt : k < l.length
    · obtain ⟨b, off, rfl, g0, g1, hsz, hin⟩ := hMK.cols.at_ k hlt
      have HM := Lib.hid hMK
      clear hMK
      have HP := Lib.hid fun (W : World) (h : MK B w ba tb F R (some ⟨b, off, none⟩) l k W Fr R') => colPut h.tree h.act h.tF H.out.2.2.1 H.out.2.2.2.1 H.out.2.2.2.2.2.2.1 k hlt h.made
      have HX := Lib.hid (Co.ok_facts (H.out.2.2.2.2.2.2.2 k hlt))
      have hw1 : IntKind.u8.wrap (k : Int) = k := by rw [IntKind.wrap_u8']; omega
      have hw2 : IntKind.u8.wrap l[k].kind = l[k].kind := by rw [IntKind.wrap_u8']; have := HX.out; omega
      have hs17 : ¬ 9223372036854775807 < 1 + l[k].name.size := by have := HX.out; omega
      generalize hnm : l[k].name = nm at *
      generalize hkd : l[k].kind = kd at *
      have HN := Lib.hid (And.intro hnm hkd)
      clear hnm hkd
      have hb1 : Below wr.heap.size wr ((wr.alloc (.cells #[.string nm, .int .i64 kd] 71)).alloc (.cells #[.int .u8 k] 5)) := by go_grown
      have hb2 : Below wr.heap.size wr (((wr.alloc (.cells #[.string nm, .int .i64 kd] 71)).alloc (.cells #[.int .u8 k] 5)).alloc (.cells #[.int .u8 kd] 5)) := by go_grown
      have hconv1 := conv_one (w := (wr.alloc (.cells #[.string nm, .int .i64 kd] 71)).alloc (.cells #[.int .u8 k] 5)) (b := wr.heap.size + 1) (cap := 1) (x := (k : Int)) (by go_simp) (by omega) (by omega)
      have hconv2 := conv_one (w := ((wr.alloc (.cells #[.string nm, .int .i64 kd] 71)).alloc (.cells #[.int .u8 k] 5)).alloc (.cells #[.int .u8 kd] 5)) (b := wr.heap.size + 1 + 1) (cap := 1) (x := kd) (by go_simp) (by have := HX.out; omega) (by have := HX.out; omega)
      have e1 : colK k = ⟨#[99]⟩ ++ (⟨#[UInt8.ofNat (k : Int).toNat]⟩ : ByteArray) := by
        apply ByteArray.ext
        rw [ByteArray.data_append]
        rfl
      have e2 : colV l[k] = (⟨#[UInt8.ofNat kd.toNat]⟩ : ByteArray) ++ nm := by unfold colV; rw [HN.out.1, HN.out.2]
      have HPut := HP.out _ (HM.out.below hb2)
      rw [e1, e2] at HPut
      have hs18 : ¬ 9223372036854775807 < (⟨#[UInt8.ofNat kd.toNat]⟩ : ByteArray).size + nm.size := hs17
      have hs19 : ¬ 9223372036854775807 < 1 + (⟨#[UInt8.ofNat (k : Int).toNat]⟩ : ByteArray).size := by show ¬ _ < 1 + 1; omega
      have HPt := Lib.hid HPut
      have HB := Lib.hid hb2
      generalize (⟨#[UInt8.ofNat (k : Int).toNat]⟩ : ByteArray) = sk at *
      generalize (⟨#[UInt8.ofNat kd.toNat]⟩ : ByteArray) = sd at *
      clear hb1 hb2 e1 e2 HPut
      go_wp2_with fail
      refine HPt.out.mono ?_
      rintro e w4 ⟨rfl, R2, hm2, hs4⟩
      obtain ⟨F4, h4⟩ := (HM.out.below HB.out).step l1 hs4 hm2
      have H4 := Lib.hid h4
      clear hm2 hs4 h4 hconv1 hconv2
      go_wp2
      go_roundw
      case rel => exact ⟨k + 1, R2, F4, by omega, by go_num, H4.out⟩
      case measure => simp [intOf]; omega
    · have hkl : k = l.length := by omega
      subst hkl
      go_wp2
      go_ret
      exact ⟨rfl, R', hMK.made, hMK.out⟩
end Go.Proofs.YtddddjpmeegedaaGreat
