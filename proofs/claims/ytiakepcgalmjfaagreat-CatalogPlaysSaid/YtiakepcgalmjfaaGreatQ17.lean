/- A table's columns as a leaf: plain laws. catalog.Make. catalog's Set. -/
import Derived.Test.YtiakepcgalmjfaaGreatQ16
import Derived.Test.YtiakepcgalmjfaaGreatQ11
set_option linter.unusedVariables false
set_option linter.unusedSimpArgs false
namespace Go.Proofs.YtiakepcgalmjfaaGreat
open Go.RowKit

def colK (i : Nat) : ByteArray := ⟨#[99, UInt8.ofNat i]⟩
def colV (c : Co) : ByteArray := ⟨#[UInt8.ofNat c.kind.toNat]⟩ ++ c.name
def colX (l : List Co) (i : Nat) : KV := ⟨colK i, colV (l.getD i ⟨⟨#[]⟩, 0⟩)⟩
/-- The leaf of the first k columns. -/
def colL (l : List Co) (k : Nat) : List KV := (List.range k).map (colX l)
theorem colL_length (l : List Co) (k : Nat) : (colL l k).length = k := by simp [colL]
theorem colL_at (l : List Co) (k t : Nat) (h : t < (colL l k).length) : (colL l k)[t] = colX l t := by simp [colL]
theorem colL_succ (l : List Co) (k : Nat) : colL l (k + 1) = colL l k ++ [colX l k] := by simp [colL, List.range_succ]
theorem colV_size (c : Co) : (colV c).size = c.name.size + 1 := by
  unfold colV
  rw [ByteArray.size_append]
  show 1 + c.name.size = _
  omega
theorem colsB_facts {l : List Co} (h : colsB l = true) : 1 ≤ l.length ∧ l.length ≤ 4 ∧ ∀ j (hj : j < l.length), l[j].ok = true := by
  simp only [colsB, Bool.and_eq_true, decide_eq_true_eq] at h
  exact ⟨h.1.1, h.1.2, fun j hj => (goodTo_at l l.length h.2 j hj hj).1⟩
theorem Co.ok_facts {c : Co} (h : c.ok = true) : 1 ≤ c.name.size ∧ c.name.size ≤ 16 ∧ 1 ≤ c.kind ∧ c.kind ≤ 3 := by
  have e : c.name.data.toList.length = c.name.size := by simp
  simp only [Co.ok, nameB, kindB, Bool.and_eq_true, decide_eq_true_eq] at h
  omega
theorem colX_ok {l : List Co} (h : colsB l = true) (i : Nat) (hi : i < l.length) : (colX l i).ok ∧ 0 < (colX l i).k.size ∧ (itemB (colX l i)).length ≤ 21 := by
  obtain ⟨h1, h4, ho⟩ := colsB_facts h
  obtain ⟨n1, n16, _⟩ := Co.ok_facts (ho i hi)
  have ek : (colX l i).k.size = 2 := rfl
  have ev : (colX l i).v.size = l[i].name.size + 1 := by
    show (colV (l.getD i _)).size = _
    rw [colV_size]
    simp [List.getD, hi]
  refine ⟨⟨by omega, by omega⟩, by omega, ?_⟩
  rw [itemB_length]
  omega
theorem flat_le (n : Nat) : ∀ L : List KV, (∀ x ∈ L, (itemB x).length ≤ n) → (L.flatMap itemB).length ≤ n * L.length
  | [], _ => by simp
  | x :: L, h => by
    rw [List.flatMap_cons, List.length_append, List.length_cons]
    have h1 := h x (by simp)
    have h2 := flat_le n L (fun y hy => h y (by simp [hy]))
    rw [Nat.mul_succ]
    omega
theorem colL_mem {l : List Co} {k : Nat} {x : KV} (h : x ∈ colL l k) : ∃ i, i < k ∧ x = colX l i := by
  simp only [colL, List.mem_map, List.mem_range] at h
  obtain ⟨i, hi, rfl⟩ := h
  exact ⟨i, hi, rfl⟩
theorem colK_lt {i k : Nat} (h : i < k) (hk : k < 5) : Go.Lib.compareBytes (colK i).data.toList (colK k).data.toList < 0 := by
  have : ∀ k : Fin 5, ∀ i : Fin k.1, Go.Lib.compareBytes (colK i.1).data.toList (colK k.1).data.toList < 0 := by decide +kernel
  exact this ⟨k, hk⟩ ⟨i, h⟩
theorem colL_laws {l : List Co} (h : colsB l = true) (k : Nat) (hk : k ≤ l.length) : (∀ x ∈ colL l k, x.ok) ∧ Sorted (colL l k) ∧ (leafB (colL l k)).length ≤ 512 ∧ (colL l k).length < 256 := by
  obtain ⟨h1, h4, ho⟩ := colsB_facts h
  refine ⟨fun x hx => ?_, fun i j hi hj hij => ?_, ?_, by rw [colL_length]; omega⟩
  · obtain ⟨i, hi, rfl⟩ := colL_mem hx
    exact (colX_ok h i (by omega)).1
  · rw [colL_at, colL_at]
    rw [colL_length] at hi hj
    exact colK_lt hij (by omega)
  · have := flat_le 21 (colL l k) (fun x hx => by
      obtain ⟨i, hi, rfl⟩ := colL_mem hx
      exact (colX_ok h i (by omega)).2.2)
    rw [colL_length] at this
    unfold leafB
    simp only [List.length_cons]
    omega

/-- What an action holds when the first k columns of a table were put into its empty tree. -/
structure MadeIs {bs : Nat} (B : Base bs) (R : Raw) (l : List Co) (k : Nat) (R' : Raw) : Prop where
  fine : Fine B R'
  none : k = 0 → R' = R
  leaf : 0 < k → Leaf R' 0 (colL l k) ∧ R'.root 0 = R.total + 1 ∧ R'.total = R.total + 1 ∧ (∀ j, j < 16 → j ≠ 0 → R'.root j = R.root j) ∧ ∀ p, p ≠ 0 → p ≠ R.total + 1 → R'.page p = R.page p
theorem MadeIs.zero {bs : Nat} {B : Base bs} {R : Raw} (hf : Fine B R) (l : List Co) : MadeIs B R l 0 R := ⟨hf, fun _ => rfl, fun h => absurd h (Nat.lt_irrefl 0)⟩

theorem colPut {bs : Nat} {B : Base bs} {w : World} {tb ba : Nat} {F : Nat → Prop} {R R' : Raw} (ht : w.heap[tb]? = some (treeO ba 0)) (hA : ActIs B w ba F R') (htF : ¬ F tb) (hr : R.root 0 = 0) (htot : R.total + 1 < 4096)
    {l : List Co} (hl : colsB l = true) (k : Nat) (hk : k < l.length) (hM : MadeIs B R l k R') :
    Calls Tryz.prog 48 #[.pointer (some ⟨tb, 0, none⟩), .string (colK k), .string (colV l[k])] w fun e w' => e = .returned (.tuple #[.bool true, .int .i64 0]) ∧ ∃ R2, MadeIs B R l (k + 1) R2 ∧ Step B ba w F R2 w' := by
  have ex : colX l k = ⟨colK k, colV l[k]⟩ := by simp [colX, List.getD, hk]
  obtain ⟨xo, x0, _⟩ := colX_ok hl k hk
  rw [ex] at xo x0
  obtain ⟨h1, h4, ho⟩ := colsB_facts hl
  obtain ⟨a1, a2, a3, a4⟩ := colL_laws hl (k + 1) (by omega)
  have e1 : colL l (k + 1) = colL l k ++ [⟨colK k, colV l[k]⟩] := by rw [colL_succ, ex]
  by_cases h0 : k = 0
  · subst h0
    have hR := hM.none rfl
    subst hR
    refine (Put_first ht hA hM.fine htF (by decide) hr htot ⟨colK 0, colV l[0]⟩ xo x0).mono ?_
    rintro e w' ⟨rfl, hs⟩
    refine ⟨rfl, _, ?_, hs⟩
    obtain ⟨-, -, -, -, f3, l3, r3, t3, o3, p3⟩ := first_laws hM.fine htot 0 (by decide)
    have e0 : colL l (0 + 1) = [⟨colK 0, colV l[0]⟩] := by rw [e1]; rfl
    obtain ⟨n1, n2, n3, n4⟩ := l3.next (L' := colL l 1) f3 a1 a2 a3 a4
    rw [r3, show colL l 1 = [⟨colK 0, colV l[0]⟩] from e0] at n1 n2 n3 n4
    refine ⟨n1, fun h => absurd h (by decide), fun _ => ⟨by rw [e0]; exact n2, ?_, ?_, fun j hj hne => ?_, fun p hp hp' => ?_⟩⟩
    · show num ((fst4 R' 0 _).page 0) _ = _
      rw [show (fst4 R' 0 ⟨colK 0, colV l[0]⟩).page 0 = (fst3 R' 0).page 0 from n3]
      exact r3
    · show num ((fst4 R' 0 _).page 0) _ = _
      rw [show (fst4 R' 0 ⟨colK 0, colV l[0]⟩).page 0 = (fst3 R' 0).page 0 from n3]
      exact t3
    · show num ((fst4 R' 0 _).page 0) _ = _
      rw [show (fst4 R' 0 ⟨colK 0, colV l[0]⟩).page 0 = (fst3 R' 0).page 0 from n3]
      exact o3 j hj hne
    · exact (n4 p hp').trans (p3 p hp hp')
  · obtain ⟨hL, hr0, ht0, hj0, hp0⟩ := hM.leaf (by omega)
    rw [e1] at a1 a2 a3 a4
    refine (Put_end ht hA hM.fine htF (by decide) hL ⟨colK k, colV l[k]⟩ xo x0 (fun t h => ?_) a3 (by rw [List.length_append] at a4; simpa using a4)).mono ?_
    · rw [colL_at]
      rw [colL_length] at h
      exact colK_lt h (by omega)
    · rintro e w' ⟨rfl, hs⟩
      refine ⟨rfl, _, ?_, hs⟩
      obtain ⟨n1, n2, n3, n4⟩ := hL.next hM.fine a1 a2 a3 a4
      refine ⟨n1, fun h => absurd h (by omega), fun _ => ⟨by rw [e1]; exact n2, ?_, ?_, fun j hj hne => ?_, fun p hp hp' => ?_⟩⟩
      · exact (congrArg (fun q => num q (8 + 4 * 0)) n3).trans hr0
      · exact (congrArg (fun q => num q 0) n3).trans ht0
      · exact (congrArg (fun q => num q (8 + 4 * j)) n3).trans (hj0 j hj hne)
      · exact (n4 p (by rw [hr0]; exact hp')).trans (hp0 p hp hp')
end Go.Proofs.YtiakepcgalmjfaaGreat

namespace Go.Proofs.YtiakepcgalmjfaaGreat
open Go.RowKit

theorem ColIs.off {w w1 : World} {F : Nat → Prop} {a : Option Addr} {l : List Co} (h : ColIs w a l) (ho : Off F w w1) (hn : ∀ b off, a = some ⟨b, off, none⟩ → ¬ F b) : ColIs w1 a l := by
  rcases h with h | ⟨b, off, ha, h⟩
  · exact .inl h
  · refine .inr ⟨b, off, ha, fun i hi => ?_⟩
    obtain ⟨h0, h1, h2⟩ := h i hi
    exact ⟨ho.cell h0 (hn b off ha), ho.cell h1 (hn b off ha), h2⟩
theorem ColIs.lt {w : World} {a : Option Addr} {l : List Co} (h : ColIs w a l) (hl : 0 < l.length) {b off : Nat} (ha : a = some ⟨b, off, none⟩) : b < w.heap.size := by
  obtain ⟨b', off', e, h0, _⟩ := h.at_ 0 hl
  rw [ha] at e
  simp only [Option.some.injEq, Addr.mk.injEq] at e
  obtain ⟨rfl, rfl, _⟩ := e
  exact World.block_lt_of_cell? _ _ h0
/-- While Make goes. -/
structure MK {bs : Nat} (B : Base bs) (w : World) (ba tb : Nat) (F : Nat → Prop) (R : Raw) (a : Option Addr) (l : List Co) (k : Nat) (wr : World) (Fr : Nat → Prop) (R' : Raw) : Prop where
  tree : wr.heap[tb]? = some (treeO ba 0)
  tF : ¬ Fr tb
  act : ActIs B wr ba Fr R'
  made : MadeIs B R l k R'
  cols : ColIs wr a l
  aF : ∀ b off, a = some ⟨b, off, none⟩ → ¬ Fr b
  yF : ∀ k, k < w.heap.size → Fr k → F k
  off : Off F w wr
section
variable {bs : Nat} {B : Base bs} {w wr w' : World} {ba tb k k' : Nat} {F Fr : Nat → Prop} {R R' R2 : Raw} {a : Option Addr} {l : List Co}
theorem MK.below (h : MK B w ba tb F R a l k wr Fr R') (hb : Below wr.heap.size wr w') : MK B w ba tb F R a l k w' Fr R' :=
  ⟨(hb.block tb (Array.getElem?_eq_some_iff.1 h.tree).1).trans h.tree, h.tF, h.act.below hb, h.made, h.cols.below hb, h.aF, h.yF, h.off.trans (Off.of_below hb (F := fun _ => False)) (fun _ _ e => e.elim)⟩
theorem MK.step (h : MK B w ba tb F R a l k wr Fr R') (hl : 0 < l.length) (hs : Step B ba wr Fr R2 w') (hm : MadeIs B R l k' R2) : ∃ F2, MK B w ba tb F R a l k' w' F2 R2 := by
  have ht := hs.block h.tree h.tF
  obtain ⟨F2, hA, hF2, ho⟩ := hs
  refine ⟨F2, ht, fun e => h.tF (hF2 _ (Array.getElem?_eq_some_iff.1 h.tree).1 e), hA, hm, h.cols.off ho h.aF, fun b off e e2 => h.aF b off e (hF2 b (h.cols.lt hl e) e2), fun k hk e => h.yF k hk (hF2 k (Nat.lt_of_lt_of_le hk h.off.size) e), h.off.trans ho (fun k hk e => h.yF k hk e)⟩
theorem MK.out (h : MK B w ba tb F R a l k wr Fr R') : Step B ba w F R' wr := ⟨Fr, h.act, h.yF, h.off⟩
end
theorem conv_one {w : World} {b cap : Nat} {x : Int} (h : w.cell? ⟨b, 0, none⟩ = some (.int .u8 x)) (h0 : 0 ≤ x) (h1 : x < 256) :
    (convert 90 9 (.slice (some ⟨b, 0, none⟩) 1 cap)).run Tryz.prog w = .ok (.string ⟨#[UInt8.ofNat x.toNat]⟩) w := by
  refine conv_row [UInt8.ofNat x.toNat] rfl fun i hi => ?_
  have : i = 0 := by simpa using hi
  subst this
  rw [h]
  congr 2
  show x = ((UInt8.ofNat x.toNat).toNat : Int)
  rw [UInt8.toNat_ofNat_of_lt' (by show _ < 256; omega)]
  omega

set_option maxRecDepth 100000 in
set_option maxHeartbeats 4000000 in
theorem Make_any {bs : Nat} {B : Base bs} {w : World} {ba : Nat} {F : Nat → Prop} {R : Raw} (hA : ActIs B w ba F R) (hf : Fine B R) (hr : R.root 0 = 0) (htot : R.total + 1 < 4096) (l : List Co) (a : Option Addr) (c : Nat) (hci : ColIs w a l) (hl : l.length ≤ 9223372036854775807) (haF : ∀ b off, a = some ⟨b, off, none⟩ → ¬ F b) (hok : colsB l = true) :
    Calls Tryz.prog 20 #[.pointer (some ⟨ba, 0, none⟩), .slice a l.length c] w fun e w' => e = .returned (.int .i64 0) ∧ ∃ R', MadeIs B R l l.length R' ∧ Step B ba w F R' w' := by
  have HT := Lib.hid (treeNew_any hA hf.cov 0 (by decide))
  obtain ⟨l1, l4, lo⟩ := colsB_facts hok
  have H := Lib.hid (And.intro hA (And.intro hf (And.intro hr (And.intro htot (And.intro hci (And.intro haF (And.intro hok lo)))))))
  clear hA hf hr htot hci haF lo
  go_enter Tryz.func20, Tryz.ntmps20
  go_wp2_with fail
  refine HT.out.mono ?_
  rintro e w1 ⟨tb, F1, rfl, ht1, hlt1, htF1, hA1, hF1, ho1⟩
  have HLen := Lib.hid (Len_none ht1 hA1 H.out.2.1 htF1 (by decide) H.out.2.2.1)
  have H1 := Lib.hid (show MK B w ba tb F R a l 0 w1 F1 R from ⟨ht1, htF1, hA1, .zero H.out.2.1 l, H.out.2.2.2.2.1.off ho1 H.out.2.2.2.2.2.1, fun b off e e2 => H.out.2.2.2.2.2.1 b off e (hF1 b (H.out.2.2.2.2.1.lt l1 e) e2), hF1, ho1⟩)
  clear ht1 hlt1 htF1 hA1 hF1 ho1 HT
  go_wp2_with fail
  refine HLen.out.mono ?_
  rintro e w2 ⟨rfl, hs2⟩
  obtain ⟨F2, h2⟩ := H1.out.step l1 hs2 (.zero H.out.2.1 l)
  have HC := Lib.hid (columns_any l a c w2 h2.cols hl)
  have H2 := Lib.hid h2
  clear h2 hs2 HLen
  go_wp2_with fail
  refine HC.out.mono ?_
  rintro e w3 ⟨rfl, hb3⟩
  have H3 := Lib.hid (H2.out.below hb3)
  rw [show colE l = 0 by unfold colE; rw [hok]; rfl]
  clear hb3 HC hok
  go_wp2
  go_loopw [29] (fun i wr => ∃ (k : Nat) (R' : Raw) (Fr : Nat → Prop), k ≤ l.length ∧ i = .int .i64 k ∧ MK B w ba tb F R a l k wr Fr R')
        (fun i _ => l.length - (intOf i).toNat)
  case atStart => exact ⟨0, R, F2, Nat.zero_le _, rfl, H3.out⟩
  case round =>
    obtain ⟨k, R', Fr, hk, rfl, hMK⟩ := hrel
    by_cases hlt : k < l.length
    · obtain ⟨b, off, rfl, g0, g1, hsz, hin⟩ := hMK.cols.at_ k hlt
      have HM := Lib.hid hMK
      clear hMK
      have HP := Lib.hid fun (W : World) (h : MK B w ba tb F R (some ⟨b, off, none⟩) l k W Fr R') => colPut h.tree h.act h.tF H.out.2.2.1 H.out.2.2.2.1 H.out.2.2.2.2.2.2.1 k hlt h.made
      have HX := Lib.hid (Co.ok_facts (H.out.2.2.2.2.2.2.2 k hlt))
      have hw1 : IntKind.u8.wrap (k : Int) = k := by rw [IntKind.wrap_u8']; omega
      have hw2 : IntKind.u8.wrap l[k].kind = l[k].kind := by rw [IntKind.wrap_u8']; have := HX.out; omega
      have hs17 : ¬ 9223372036854775807 < 1 + l[k].name.size := by have := HX.out; omega
      generalize hnm : l[k].name = nm at *
      generalize hkd : l[k].kind = kd at *
      have HN := Lib.hid (And.intro hnm hkd)
      clear hnm hkd
      have hb1 : Below wr.heap.size wr ((wr.alloc (.cells #[.string nm, .int .i64 kd] 84)).alloc (.cells #[.int .u8 k] 5)) := by go_grown
      have hb2 : Below wr.heap.size wr (((wr.alloc (.cells #[.string nm, .int .i64 kd] 84)).alloc (.cells #[.int .u8 k] 5)).alloc (.cells #[.int .u8 kd] 5)) := by go_grown
      have hconv1 := conv_one (w := (wr.alloc (.cells #[.string nm, .int .i64 kd] 84)).alloc (.cells #[.int .u8 k] 5)) (b := wr.heap.size + 1) (cap := 1) (x := (k : Int)) (by go_simp) (by omega) (by omega)
      have hconv2 := conv_one (w := ((wr.alloc (.cells #[.string nm, .int .i64 kd] 84)).alloc (.cells #[.int .u8 k] 5)).alloc (.cells #[.int .u8 kd] 5)) (b := wr.heap.size + 1 + 1) (cap := 1) (x := kd) (by go_simp) (by have := HX.out; omega) (by have := HX.out; omega)
      have e1 : colK k = ⟨#[99]⟩ ++ (⟨#[UInt8.ofNat (k : Int).toNat]⟩ : ByteArray) := by
        apply ByteArray.ext
        rw [ByteArray.data_append]
        rfl
      have e2 : colV l[k] = (⟨#[UInt8.ofNat kd.toNat]⟩ : ByteArray) ++ nm := by unfold colV; rw [HN.out.1, HN.out.2]
      have HPut := HP.out _ (HM.out.below hb2)
      rw [e1, e2] at HPut
      have hs18 : ¬ 9223372036854775807 < (⟨#[UInt8.ofNat kd.toNat]⟩ : ByteArray).size + nm.size := hs17
      have hs19 : ¬ 9223372036854775807 < 1 + (⟨#[UInt8.ofNat (k : Int).toNat]⟩ : ByteArray).size := by show ¬ _ < 1 + 1; omega
      have HPt := Lib.hid HPut
      have HB := Lib.hid hb2
      generalize (⟨#[UInt8.ofNat (k : Int).toNat]⟩ : ByteArray) = sk at *
      generalize (⟨#[UInt8.ofNat kd.toNat]⟩ : ByteArray) = sd at *
      clear hb1 hb2 e1 e2 HPut
      go_wp2_with fail
      refine HPt.out.mono ?_
      rintro e w4 ⟨rfl, R2, hm2, hs4⟩
      obtain ⟨F4, h4⟩ := (HM.out.below HB.out).step l1 hs4 hm2
      have H4 := Lib.hid h4
      clear hm2 hs4 h4 hconv1 hconv2
      go_wp2
      go_roundw
      case rel => exact ⟨k + 1, R2, F4, by omega, by go_num, H4.out⟩
      case measure => simp [intOf]; omega
    · have hkl : k = l.length := by omega
      subst hkl
      go_wp2
      go_ret
      exact ⟨rfl, R', hMK.made, hMK.out⟩
end Go.Proofs.YtiakepcgalmjfaaGreat

namespace Go.Proofs.YtiakepcgalmjfaaGreat
open Go.RowKit

theorem catPut {bs : Nat} {B : Base bs} {w : World} {gb ba tb : Nat} {F : Nat → Prop} {R : Raw} {L : List KV} (h : CatIs B w gb ba tb F R L) (x : KV) (hx : x.ok) (hx0 : 0 < x.k.size) (i : Nat) (hcut : Cut L x.k i) (hlen : (leafB (putL L i x)).length ≤ 512) (hn : L.length + 1 < 256) :
    Calls Tryz.prog 48 #[.pointer (some ⟨tb, 0, none⟩), .string x.k, .string x.v] w fun e w' => e = .returned (.tuple #[.bool (!isAt L x.k i), .int .i64 0]) ∧ CStep B gb ba tb w F (R.put (R.root 0) 0 (pageL (leafB (putL L i x)))) (putL L i x) w' := by
  refine (Put_leaf h.tree h.act h.fine h.tF (by decide) h.leaf x hx hx0 i hcut hlen hn).mono ?_
  rintro e w' ⟨rfl, hs⟩
  obtain ⟨q1, q2, q3⟩ := putL_laws h.leaf.ok h.leaf.rises hx hcut
  obtain ⟨n1, n2, _⟩ := h.leaf.next h.fine q1 q2 hlen (by omega)
  exact ⟨rfl, h.step hs n1 n2⟩
theorem set_bytes : ∀ (L : List KV) (i : Nat) (x : KV) (h : i < L.length), (itemB x).length = (itemB L[i]).length → ((L.set i x).flatMap itemB).length = (L.flatMap itemB).length
  | [], i, x, h, _ => by simp at h
  | y :: L, 0, x, h, e => by
    simp only [List.set_cons_zero, List.flatMap_cons, List.length_append]
    rw [e]
    rfl
  | y :: L, i + 1, x, h, e => by
    simp only [List.set_cons_succ, List.flatMap_cons, List.length_append]
    rw [set_bytes L i x (by simpa using h) (by simpa using e)]
/-- An index's value with another state. -/
def setV (v : ByteArray) (k : Int) : ByteArray := v.extract 0 3 ++ (⟨#[UInt8.ofNat k.toNat]⟩ : ByteArray) ++ v.extract 4 5
theorem setV_size (v : ByteArray) (k : Int) (h : v.size = 5) : (setV v k).size = 5 := by
  unfold setV
  rw [ByteArray.size_append, ByteArray.size_append, ByteArray.size_extract, ByteArray.size_extract, h]
  rfl
/-- Is there an index of a name? -/
def hasX (L : List KV) (s : ByteArray) (i : Nat) : Bool := nameX s.data.toList && isAt L (xkey s) i
theorem xkey_size (s : ByteArray) : (xkey s).size = s.size + 1 := by
  unfold xkey
  rw [ByteArray.size_append]
  show 1 + s.size = _
  omega
theorem size_of_data {a b : ByteArray} (h : a.data.toList = b.data.toList) : a.size = b.size := by
  have e : a = b := by
    apply ByteArray.ext
    exact Array.toList_inj.1 h
  rw [e]
theorem pre_of_key {y : KV} {s : ByteArray} (h : y.k.data.toList = (xkey s).data.toList) : pre ⟨#[120]⟩ y = true := by
  unfold pre
  rw [h]
  unfold xkey
  rw [ByteArray.data_append, Array.toList_append]
  rfl

set_option maxRecDepth 100000 in
set_option maxHeartbeats 4000000 in
theorem Set_any {bs : Nat} {B : Base bs} {w : World} {gb ba tb : Nat} {F : Nat → Prop} {R : Raw} {L : List KV} (h : CatIs B w gb ba tb F R L) (s : ByteArray) (k : Int) (h5 : ∀ y ∈ L, pre ⟨#[120]⟩ y = true → y.v.size = 5) (hn : L.length + 1 < 256) :
    Calls Tryz.prog 25 #[.pointer (some ⟨gb, 0, none⟩), .string s, .int .i64 k] w fun e w' => ∃ i, Cut L (xkey s) i ∧
      ((hasX L s i = false ∧ e = .returned (.int .i64 3) ∧ CStep B gb ba tb w F R L w') ∨ (hasX L s i = true ∧ ¬ (1 ≤ k ∧ k ≤ 3) ∧ e = .returned (.int .i64 1) ∧ CStep B gb ba tb w F R L w') ∨
       (hasX L s i = true ∧ 1 ≤ k ∧ k ≤ 3 ∧ e = .returned (.int .i64 0) ∧ CStep B gb ba tb w F (R.put (R.root 0) 0 (pageL (leafB (L.set i ⟨xkey s, setV (yv L i).v k⟩)))) (L.set i ⟨xkey s, setV (yv L i).v k⟩) w')) := by
  have HG := Lib.hid (get_any h s)
  have H := Lib.hid h5
  clear h h5
  go_enter Tryz.func25, Tryz.ntmps25
  go_wp2_with fail
  refine HG.out.mono ?_
  rintro e w1 ⟨i, hcut, rfl, hs1⟩
  have HC := Lib.hid hcut
  have HS := Lib.hid hs1
  unfold getR
  cases hx : nameX s.data.toList with
  | false =>
    have HX := Lib.hid (show hasX L s i = false by unfold hasX; rw [hx]; rfl)
    rw [if_neg (by decide)]
    clear hcut hs1 hx HG
    go_wp2
    go_ret
    exact ⟨i, HC.out, .inl ⟨HX.out, rfl, HS.out⟩⟩
  | true =>
    rw [if_pos rfl]
    cases hat : isAt L (xkey s) i with
    | false =>
      have HX := Lib.hid (show hasX L s i = false by unfold hasX; rw [hx, hat]; rfl)
      rw [show gotR L (xkey s) i = .tuple #[.string ⟨#[]⟩, .int .i64 3] by unfold gotR; rw [hat]; rfl]
      clear hcut hs1 hx hat HG
      go_wp2
      go_ret
      exact ⟨i, HC.out, .inl ⟨HX.out, rfl, HS.out⟩⟩
    | true =>
      have HX := Lib.hid (show hasX L s i = true by unfold hasX; rw [hx, hat]; rfl)
      obtain ⟨hi, hkey⟩ := isAt_key hat
      have hyv : yv L i = L[i] := yv_at L i hi
      have hpre := pre_of_key hkey
      have hv5 : (yv L i).v.size = 5 := by rw [hyv]; exact H.out _ (List.getElem_mem hi) hpre
      rw [show gotR L (xkey s) i = .tuple #[.string (yv L i).v, .int .i64 0] by unfold gotR; rw [hat]; rfl]
      obtain ⟨F1, hc1, hF1, ho1⟩ := hs1
      obtain ⟨c0, c1⟩ := hc1.cells
      obtain ⟨v, hv⟩ : ∃ v, (yv L i).v = v := ⟨_, rfl⟩
      rw [hv] at hv5 ⊢
      by_cases hk1 : k < 1
      · clear hcut hx hat HG hkey hyv hpre
        go_wp2
        go_ret
        exact ⟨i, HC.out, .inr (.inl ⟨HX.out, by omega, rfl, HS.out⟩)⟩
      · by_cases hk3 : 3 < k
        · clear hcut hx hat HG hkey hyv hpre
          go_wp2
          go_ret
          exact ⟨i, HC.out, .inr (.inl ⟨HX.out, by omega, rfl, HS.out⟩)⟩
        · have hb : Below w1.heap.size w1 ((w1.alloc (.cells #[.int .u8 k] 5)).drew) := by go_grown
          have hcW := hc1.below hb
          have hconv := conv_one (w := (w1.alloc (.cells #[.int .u8 k] 5)).drew) (b := w1.heap.size) (cap := 1) (x := k) (by
            have := hnew w1 (.cells #[.int .u8 k] 5)
            unfold World.cell?
            rw [show (w1.alloc (.cells #[.int .u8 k] 5)).drew.heap[w1.heap.size]? = _ from this]
            rfl) (by omega) (by omega)
          have hw1 : IntKind.u8.wrap k = k := by rw [IntKind.wrap_u8']; omega
          have hsz : (itemB ⟨xkey s, setV v k⟩).length = (itemB L[i]).length := by
            rw [itemB_length, itemB_length, ← size_of_data hkey]
            show L[i].k.size + (setV v k).size + 2 = _
            rw [setV_size v k hv5, ← hyv, hv, hv5]
          have hput : putL L i ⟨xkey s, setV v k⟩ = L.set i ⟨xkey s, setV v k⟩ := by unfold putL; rw [if_pos hat]
          have hlen : (leafB (L.set i ⟨xkey s, setV v k⟩)).length ≤ 512 := by
            have := hc1.leaf.len
            unfold leafB at this ⊢
            simp only [List.length_cons] at this ⊢
            rw [set_bytes L i _ hi hsz]
            exact this
          have hs16 : s.size ≤ 16 := by
            have e : s.data.toList.length = s.size := by simp
            have hx' := hx
            simp only [nameX, Bool.and_eq_true, decide_eq_true_eq] at hx'
            omega
          have HPut := Lib.hid (show Calls Tryz.prog 48 #[.pointer (some ⟨tb, 0, none⟩), .string ((⟨#[120]⟩ : ByteArray) ++ s), .string (v.extract 0 3 ++ (⟨#[UInt8.ofNat k.toNat]⟩ : ByteArray) ++ v.extract 4 5)] ((w1.alloc (.cells #[.int .u8 k] 5)).drew) fun e w' => e = .returned (.tuple #[.bool false, .int .i64 0]) ∧ CStep B gb ba tb ((w1.alloc (.cells #[.int .u8 k] 5)).drew) F1 (R.put (R.root 0) 0 (pageL (leafB (L.set i ⟨xkey s, setV v k⟩)))) (L.set i ⟨xkey s, setV v k⟩) w' from by
            have q := catPut hcW ⟨xkey s, setV v k⟩ ⟨by show (xkey s).size ≤ 96; rw [xkey_size]; omega, by show (setV v k).size ≤ 32; rw [setV_size v k hv5]; omega⟩ (by show 0 < (xkey s).size; rw [xkey_size]; omega) i hcut (by rw [hput]; exact hlen) hn
            rw [hput] at q
            have hat' : isAt L (KV.mk (xkey s) (setV v k)).k i = true := hat
            rw [hat'] at q
            exact q)
          have HO := Lib.hid (And.intro (hF1) (And.intro ho1 (Off.of_below hb (F := fun _ => False))))
          have hsv := hcW.cells.2
          have HV := Lib.hid (And.intro hv hsv)
          have hs17 : ¬ 9223372036854775807 < 1 + s.size := by omega
          have he3 : (v.extract 0 3).size = 3 := by rw [ByteArray.size_extract, hv5]; rfl
          have he4 : (v.extract 4 5).size = 1 := by rw [ByteArray.size_extract, hv5]; rfl
          have hsz5 : (v.size : Int) = 5 := by omega
          have hg3 : (3 : Int) ≤ v.size := by omega
          have hg4 : (4 : Int) ≤ v.size := by omega
          clear hcut hx hat HG hkey hyv hpre hc1 hF1 ho1 hb hcW hsz hput hlen hv hsv
          go_wp2
          refine wp_region_noPanic ?_
          refine wp_region_held_drew (S := (fun w' => w'.cell? ⟨gb, 1, none⟩ = some (.pointer (some ⟨tb, 0, none⟩)))) (by kernel_rfl) c1 (fun hS => ?_)
          refine wpAnyH_take (i := 0) (v := ?_) rfl (by kernel_rfl) (by kernel_rfl) (by kernel_rfl) (fun _ _ _ h => h) (Or.inl ⟨by rfl, ?_⟩) hS ?_
          rotate_left
          · intro w9 t0
            go_simp
            try with_reducible rfl
          try simp only [Act.put, List.getElem_toArray, List.getElem_cons_succ, List.getElem_cons_zero, List.setIfInBounds_toArray, List.set_cons_zero, List.set_cons_succ]
          refine wpAnyH_take (i := 1) (v := ?_) rfl (by kernel_rfl) (by kernel_rfl) (by kernel_rfl) (fun _ _ _ h => h) (Or.inl ⟨by rfl, ?_⟩) hS ?_
          rotate_left
          · intro w9 t0
            go_simp
            try with_reducible rfl
          try simp only [Act.put, List.getElem_toArray, List.getElem_cons_succ, List.getElem_cons_zero, List.setIfInBounds_toArray, List.set_cons_zero, List.set_cons_succ]
          refine wpAnyH_take (i := 2) (v := ?_) rfl (by kernel_rfl) (by kernel_rfl) (by kernel_rfl) (fun _ _ _ h => h) (Or.inl ⟨by rfl, ?_⟩) hS ?_
          rotate_left
          · intro w9 t0
            go_simp
            try with_reducible rfl
          try simp only [Act.put, List.getElem_toArray, List.getElem_cons_succ, List.getElem_cons_zero, List.setIfInBounds_toArray, List.set_cons_zero, List.set_cons_succ]
          refine wpAnyH_take (i := 3) (v := ?_) rfl (by kernel_rfl) (by kernel_rfl) (by kernel_rfl) (fun _ _ _ h => h) (Or.inl ⟨by rfl, ?_⟩) hS ?_
          rotate_left
          · intro w9 t0
            go_simp
            try with_reducible rfl
          try simp only [Act.put, List.getElem_toArray, List.getElem_cons_succ, List.getElem_cons_zero, List.setIfInBounds_toArray, List.set_cons_zero, List.set_cons_succ]
          refine wpAnyH_take (i := 4) (v := ?_) rfl (by kernel_rfl) (by kernel_rfl) (by kernel_rfl) (fun _ _ _ h => h) (Or.inl ⟨by rfl, ?_⟩) hS ?_
          rotate_left
          · intro w9 t0
            go_simp
            try with_reducible rfl
          try simp only [Act.put, List.getElem_toArray, List.getElem_cons_succ, List.getElem_cons_zero, List.setIfInBounds_toArray, List.set_cons_zero, List.set_cons_succ]
          refine wpAnyH_take (i := 5) (v := ?_) rfl (by kernel_rfl) (by kernel_rfl) (by kernel_rfl) (fun _ _ _ h => h) (Or.inl ⟨by rfl, ?_⟩) hS ?_
          rotate_left
          · intro w9 t0
            go_simp
            try with_reducible rfl
          try simp only [Act.put, List.getElem_toArray, List.getElem_cons_succ, List.getElem_cons_zero, List.setIfInBounds_toArray, List.set_cons_zero, List.set_cons_succ]
          refine wpAnyH_take (i := 6) (v := ?_) rfl (by kernel_rfl) (by kernel_rfl) (by kernel_rfl) (fun _ _ _ h => h) (Or.inl ⟨by rfl, ?_⟩) hS ?_
          rotate_left
          · intro w9 t0
            go_simp
            try with_reducible rfl
          try simp only [Act.put, List.getElem_toArray, List.getElem_cons_succ, List.getElem_cons_zero, List.setIfInBounds_toArray, List.set_cons_zero, List.set_cons_succ]
          refine wpAnyH_take (i := 7) (v := ?_) rfl (by kernel_rfl) (by kernel_rfl) (by kernel_rfl) (fun _ _ _ h => h) (Or.inl ⟨by rfl, ?_⟩) hS ?_
          rotate_left
          · intro w9 t0
            go_simp
            try with_reducible rfl
          try simp only [Act.put, List.getElem_toArray, List.getElem_cons_succ, List.getElem_cons_zero, List.setIfInBounds_toArray, List.set_cons_zero, List.set_cons_succ]
          refine wpAnyH_take (i := 8) (v := ?_) rfl (by kernel_rfl) (by kernel_rfl) (by kernel_rfl) (fun _ _ _ h => h) (Or.inl ⟨by rfl, ?_⟩) hS ?_
          rotate_left
          · intro w9 t0
            go_simp
            try with_reducible rfl
          try simp only [Act.put, List.getElem_toArray, List.getElem_cons_succ, List.getElem_cons_zero, List.setIfInBounds_toArray, List.set_cons_zero, List.set_cons_succ]
          refine wpAnyH_take (i := 9) (v := ?_) rfl (by kernel_rfl) (by kernel_rfl) (by kernel_rfl) (fun _ _ _ h => h) (Or.inl ⟨by rfl, ?_⟩) hS ?_
          rotate_left
          · intro w9 t0
            go_simp
            try with_reducible rfl
          try simp only [Act.put, List.getElem_toArray, List.getElem_cons_succ, List.getElem_cons_zero, List.setIfInBounds_toArray, List.set_cons_zero, List.set_cons_succ]
          refine wpAnyH_take (i := 13) (v := ?_) rfl (by kernel_rfl) (by kernel_rfl) (by kernel_rfl) (fun _ _ _ h => h) (Or.inl ⟨by rfl, ?_⟩) hS ?_
          rotate_left
          · intro w9 t0
            go_simp
            try with_reducible rfl
          try simp only [Act.put, List.getElem_toArray, List.getElem_cons_succ, List.getElem_cons_zero, List.setIfInBounds_toArray, List.set_cons_zero, List.set_cons_succ]
          refine wpAnyH_take (i := 14) (v := ?_) rfl (by kernel_rfl) (by kernel_rfl) (by kernel_rfl) (fun _ _ _ h => h) (Or.inl ⟨by rfl, ?_⟩) hS ?_
          rotate_left
          · intro w9 t0
            go_simp
            try with_reducible rfl
          try simp only [Act.put, List.getElem_toArray, List.getElem_cons_succ, List.getElem_cons_zero, List.setIfInBounds_toArray, List.set_cons_zero, List.set_cons_succ]
          refine wpAnyH_ready (rs := [10]) (by kernel_rfl) (by simp) ?_
          refine AllReadyH.cons rfl (fun K hK => ?_) AllReadyH.nil
          go_simp
          refine hK.out _ _ HV.out.2 (fun _ => ?_)
          clear hK K
          try simp only [Act.put, List.getElem_toArray, List.getElem_cons_succ, List.getElem_cons_zero, List.setIfInBounds_toArray, List.set_cons_zero, List.set_cons_succ]
          refine wpAnyH_ready (rs := [11]) (by kernel_rfl) (by simp) ?_
          refine AllReadyH.cons rfl (fun K hK => ?_) AllReadyH.nil
          go_simp
          refine hK.out _ _ HV.out.2 (fun _ => ?_)
          clear hK K
          try simp only [Act.put, List.getElem_toArray, List.getElem_cons_succ, List.getElem_cons_zero, List.setIfInBounds_toArray, List.set_cons_zero, List.set_cons_succ]
          refine wpAnyH_take (i := 12) (v := ?_) rfl (by kernel_rfl) (by kernel_rfl) (by kernel_rfl) (fun _ _ _ h => h) (Or.inl ⟨by rfl, ?_⟩) HV.out.2 ?_
          rotate_left
          · intro w9 t0
            go_simp
            try with_reducible rfl
          try simp only [Act.put, List.getElem_toArray, List.getElem_cons_succ, List.getElem_cons_zero, List.setIfInBounds_toArray, List.set_cons_zero, List.set_cons_succ]
          refine wpAnyH_take (i := 15) (v := ?_) rfl (by kernel_rfl) (by kernel_rfl) (by kernel_rfl) (fun _ _ _ h => h) (Or.inl ⟨by rfl, ?_⟩) HV.out.2 ?_
          rotate_left
          · intro w9 t0
            go_simp
            try with_reducible rfl
          try simp only [Act.put, List.getElem_toArray, List.getElem_cons_succ, List.getElem_cons_zero, List.setIfInBounds_toArray, List.set_cons_zero, List.set_cons_succ]
          refine wpAnyH_ready (rs := [16]) (by kernel_rfl) (by simp) ?_
          refine AllReadyH.cons rfl (fun K hK => ?_) AllReadyH.nil
          go_simp
          refine HPut.out.mono ?_
          rintro e w9 ⟨rfl, hs9⟩
          have HS9 := Lib.hid (CStep.of_off (HO.out.2.1.trans HO.out.2.2 (fun _ _ e => e.elim)) HO.out.1 hs9)
          have hS9 : w9.cell? ⟨gb, 1, none⟩ = some (.pointer (some ⟨tb, 0, none⟩)) := by
            obtain ⟨F9, hc9, _, _⟩ := hs9
            exact hc9.cells.2
          clear hs9
          refine hK.out _ _ hS9 (fun _ => ?_)
          clear hK K
          try simp only [Act.put, List.getElem_toArray, List.getElem_cons_succ, List.getElem_cons_zero, List.setIfInBounds_toArray, List.set_cons_zero, List.set_cons_succ]
          refine wpAnyH_take (i := 17) (v := ?_) rfl (by kernel_rfl) (by kernel_rfl) (by kernel_rfl) (fun _ _ _ h => h) (Or.inl ⟨by rfl, ?_⟩) hS9 ?_
          rotate_left
          · intro w9 t0
            go_simp
            try with_reducible rfl
          try simp only [Act.put, List.getElem_toArray, List.getElem_cons_succ, List.getElem_cons_zero, List.setIfInBounds_toArray, List.set_cons_zero, List.set_cons_succ]
          refine wpAnyH_take (i := 18) (v := ?_) rfl (by kernel_rfl) (by kernel_rfl) (by kernel_rfl) (fun _ _ _ h => h) (Or.inl ⟨by rfl, ?_⟩) hS9 ?_
          rotate_left
          · intro w9 t0
            go_simp
            try with_reducible rfl
          try simp only [Act.put, List.getElem_toArray, List.getElem_cons_succ, List.getElem_cons_zero, List.setIfInBounds_toArray, List.set_cons_zero, List.set_cons_succ]
          refine wpAnyH_take (i := 19) (v := ?_) rfl (by kernel_rfl) (by kernel_rfl) (by kernel_rfl) (fun _ _ _ h => h) (Or.inl ⟨by rfl, ?_⟩) hS9 ?_
          rotate_left
          · intro w9 t0
            go_simp
            try with_reducible rfl
          try simp only [Act.put, List.getElem_toArray, List.getElem_cons_succ, List.getElem_cons_zero, List.setIfInBounds_toArray, List.set_cons_zero, List.set_cons_succ]
          refine wpAnyH_take (i := 20) (v := ?_) rfl (by kernel_rfl) (by kernel_rfl) (by kernel_rfl) (fun _ _ _ h => h) (Or.inl ⟨by rfl, ?_⟩) hS9 ?_
          rotate_left
          · intro w9 t0
            go_simp
            try with_reducible rfl
          try simp only [Act.put, List.getElem_toArray, List.getElem_cons_succ, List.getElem_cons_zero, List.setIfInBounds_toArray, List.set_cons_zero, List.set_cons_succ]
          refine wpAnyH_done (by kernel_rfl) ?_ _
          refine NoPanic.normal ?_
          go_wp2
          go_ret
          exact ⟨i, HC.out, .inr (.inr ⟨HX.out, by omega, by omega, rfl, by rw [HV.out.1]; exact HS9.out⟩)⟩
end Go.Proofs.YtiakepcgalmjfaaGreat
