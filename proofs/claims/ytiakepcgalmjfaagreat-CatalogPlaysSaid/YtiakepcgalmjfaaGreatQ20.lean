/- catalog's Drop. The reference's Named, For, Find. -/
import Derived.Test.YtiakepcgalmjfaaGreatQ19
set_option linter.unusedVariables false
set_option linter.unusedSimpArgs false
namespace Go.Proofs.YtiakepcgalmjfaaGreat
open Go.RowKit

/-- A root that was 0 is set to 0. -/
theorem zero_laws {bs : Nat} {B : Base bs} {R : Raw} (hf : Fine B R) {L : List KV} (hL : Leaf R 0 L) (r : Nat) (hr : r < 16) (h1 : r ≠ 0) (h0 : R.root r = 0) :
    Fine B (R.put 0 (8 + 4 * r) (digL 0)) ∧ Leaf (R.put 0 (8 + 4 * r) (digL 0)) 0 L ∧ ∀ j, j < 16 → (R.put 0 (8 + 4 * r) (digL 0)).root j = R.root j := by
  obtain ⟨f1, s1, t1, r1, p1⟩ := Fine.setRoot hf r hr 0 ⟨by omega, by omega⟩
  have e0 := r1 0 (Ne.symm h1)
  have hp : R.root 0 ≠ 0 := by have := hL.top.1; omega
  refine ⟨f1, ⟨by rw [e0, t1]; exact hL.top, by rw [e0, p1 _ hp]; exact hL.page, hL.ok, hL.rises, hL.len, hL.few⟩, fun j hj => ?_⟩
  by_cases e : j = r
  · rw [e, s1, h0]
  · exact r1 j e
set_option maxRecDepth 100000 in
set_option maxHeartbeats 8000000 in
theorem Drop_any {bs : Nat} {B : Base bs} {w : World} {gb ba tb : Nat} {F : Nat → Prop} {R : Raw} {L : List KV} (h : CatIs B w gb ba tb F R L) (s : ByteArray) (h5 : ∀ y ∈ L, pre ⟨#[120]⟩ y = true → xOk y ∧ byteN y.v 4 < 16 ∧ 1 ≤ byteN y.v 4 ∧ R.root (byteN y.v 4).toNat = 0) (h2 : ∀ i, Cut L (xkey s) i → isAt L (xkey s) i = true → 2 ≤ L.length) :
    Calls Tryz.prog 27 #[.pointer (some ⟨gb, 0, none⟩), .string s] w fun e w' => ∃ i, Cut L (xkey s) i ∧
      ((hasX L s i = false ∧ e = .returned (.int .i64 3) ∧ CStep B gb ba tb w F R L w') ∨
       (hasX L s i = true ∧ e = .returned (.int .i64 0) ∧ ∃ R', (∀ j, j < 16 → R'.root j = R.root j) ∧ CStep B gb ba tb w F R' (L.eraseIdx i) w')) := by
  have HO := Lib.hid (Open_any h s (fun y hy hp => ⟨(h5 y hy hp).1, (h5 y hy hp).2.1⟩))
  have H := Lib.hid h5
  clear h h5
  go_enter Tryz.func27, Tryz.ntmps27
  go_wp2_with fail
  refine HO.out.mono ?_
  rintro e w1 ⟨i, hcut, ⟨hx, rfl, hs⟩ | ⟨hx, mb, F1, rfl, hop, hc1, hlt, hF1, ho1⟩⟩
  · have HR := Lib.hid (And.intro hcut (And.intro hx hs))
    clear hcut hx hs HO
    go_wp2
    go_ret
    exact ⟨i, HR.out.1, .inl ⟨HR.out.2.1, rfl, HR.out.2.2⟩⟩
  · have hat : isAt L (xkey s) i = true := by
      unfold hasX at hx
      simp only [Bool.and_eq_true] at hx
      exact hx.2
    have hnx : nameX s.data.toList = true := by
      unfold hasX at hx
      simp only [Bool.and_eq_true] at hx
      exact hx.1
    have hs17 : ¬ 9223372036854775807 < 1 + s.size := by
      have e : s.data.toList.length = s.size := by simp
      simp only [nameX, Bool.and_eq_true, decide_eq_true_eq] at hnx
      omega
    have HX := Lib.hid (And.intro hcut (And.intro hx hat))
    obtain ⟨hi, hkey⟩ := isAt_key hat
    have hyv : yv L i = L[i] := yv_at L i hi
    have hv5 : xOk (yv L i) ∧ byteN (yv L i).v 4 < 16 ∧ 1 ≤ byteN (yv L i).v 4 ∧ R.root (byteN (yv L i).v 4).toNat = 0 := by rw [hyv]; exact H.out _ (List.getElem_mem hi) (pre_of_key hkey)
    obtain ⟨r, hrr⟩ : ∃ r, (byteN (yv L i).v 4).toNat = r := ⟨_, rfl⟩
    have hr16 : r < 16 := by omega
    have hr1 : r ≠ 0 := by omega
    have hr0 : R.root r = 0 := by rw [← hrr]; exact hv5.2.2.2
    rw [hrr] at hop
    have HZ := Lib.hid (zero_laws hc1.fine hc1.leaf r hr16 hr1 hr0)
    have hn4 : (byteN (yv L i).v 0).toNat < 4 := by
      have := hv5.1.2
      have h0 : 0 ≤ byteN (yv L i).v 0 := by unfold byteN; omega
      omega
    clear HO hat hnx hcut hx hkey hyv hv5 hrr hr1
    generalize (byteN (yv L i).v 0).toNat = n0 at *
    unfold methV mtype
    match n0, hn4 with
    | 0, _ =>
      obtain ⟨mt, hop⟩ := (show ∃ tb, MethIs B w1 ba mb tb r (bmO tb) F1 R from hop)
      have HD := Lib.hid (bmDrop hop hc1.fine hr16 hr0)
      have HC1 := Lib.hid (And.intro hc1 (And.intro hF1 ho1))
      clear hop hc1 hF1 ho1 hlt hr0
      go_wp2_with fail
      refine HD.out.mono ?_
      rintro e w2 ⟨rfl, hst⟩
      obtain ⟨F2, hc2, hF2, ho2⟩ := HC1.out.1.step hst HZ.out.1 HZ.out.2.1
      have HDel := Lib.hid (Del_leaf hc2.tree hc2.act hc2.fine hc2.tF (by decide) hc2.leaf (xkey s) i HX.out.1 HX.out.2.2 (h2 i HX.out.1 HX.out.2.2))
      obtain ⟨c0, c1⟩ := hc2.cells
      have H2 := Lib.hid (And.intro hc2 (And.intro (fun k (hk : k < w.heap.size) (e : F2 k) => HC1.out.2.1 k hk (hF2 k (Nat.lt_of_lt_of_le hk HC1.out.2.2.size) e)) (HC1.out.2.2.trans ho2 (fun k hk e => HC1.out.2.1 k hk e))))
      clear hst hc2 hF2 ho2 HD
      rw [show xkey s = (⟨#[120]⟩ : ByteArray) ++ s from rfl] at HDel
      go_wp2_with fail
      refine HDel.out.mono ?_
      rintro e w3 ⟨rfl, R3, hd3, hst⟩
      have HS := Lib.hid (show (∀ j, j < 16 → R3.root j = R.root j) ∧ CStep B gb ba tb w F R3 (L.eraseIdx i) w3 from ⟨fun j hj => (hd3.root j hj).trans (HZ.out.2.2 j hj), CStep.of_off H2.out.2.2 H2.out.2.1 (H2.out.1.step hst hd3.fine hd3.leaf)⟩)
      clear hd3 hst
      go_wp2
      go_ret
      exact ⟨i, HX.out.1, .inr ⟨HX.out.2.1, rfl, R3, HS.out⟩⟩
    | 1, _ =>
      obtain ⟨mt, hop⟩ := (show ∃ tb, MethIs B w1 ba mb tb r (btO tb) F1 R from hop)
      have HD := Lib.hid (btDrop hop hc1.fine hr16 hr0)
      have HC1 := Lib.hid (And.intro hc1 (And.intro hF1 ho1))
      clear hop hc1 hF1 ho1 hlt hr0
      go_wp2_with fail
      refine HD.out.mono ?_
      rintro e w2 ⟨rfl, hst⟩
      obtain ⟨F2, hc2, hF2, ho2⟩ := HC1.out.1.step hst HZ.out.1 HZ.out.2.1
      have HDel := Lib.hid (Del_leaf hc2.tree hc2.act hc2.fine hc2.tF (by decide) hc2.leaf (xkey s) i HX.out.1 HX.out.2.2 (h2 i HX.out.1 HX.out.2.2))
      obtain ⟨c0, c1⟩ := hc2.cells
      have H2 := Lib.hid (And.intro hc2 (And.intro (fun k (hk : k < w.heap.size) (e : F2 k) => HC1.out.2.1 k hk (hF2 k (Nat.lt_of_lt_of_le hk HC1.out.2.2.size) e)) (HC1.out.2.2.trans ho2 (fun k hk e => HC1.out.2.1 k hk e))))
      clear hst hc2 hF2 ho2 HD
      rw [show xkey s = (⟨#[120]⟩ : ByteArray) ++ s from rfl] at HDel
      go_wp2_with fail
      refine HDel.out.mono ?_
      rintro e w3 ⟨rfl, R3, hd3, hst⟩
      have HS := Lib.hid (show (∀ j, j < 16 → R3.root j = R.root j) ∧ CStep B gb ba tb w F R3 (L.eraseIdx i) w3 from ⟨fun j hj => (hd3.root j hj).trans (HZ.out.2.2 j hj), CStep.of_off H2.out.2.2 H2.out.2.1 (H2.out.1.step hst hd3.fine hd3.leaf)⟩)
      clear hd3 hst
      go_wp2
      go_ret
      exact ⟨i, HX.out.1, .inr ⟨HX.out.2.1, rfl, R3, HS.out⟩⟩
    | 2, _ =>
      have HD := Lib.hid (hxDrop (show HashIs B w1 ba mb r F1 R from hop) hc1.fine.cov hr16 hr0)
      have HC1 := Lib.hid (And.intro hc1 (And.intro hF1 ho1))
      clear hop hc1 hF1 ho1 hlt hr0
      go_wp2_with fail
      refine HD.out.mono ?_
      rintro e w2 ⟨rfl, hst⟩
      obtain ⟨F2, hc2, hF2, ho2⟩ := HC1.out.1.step hst HZ.out.1 HZ.out.2.1
      have HDel := Lib.hid (Del_leaf hc2.tree hc2.act hc2.fine hc2.tF (by decide) hc2.leaf (xkey s) i HX.out.1 HX.out.2.2 (h2 i HX.out.1 HX.out.2.2))
      obtain ⟨c0, c1⟩ := hc2.cells
      have H2 := Lib.hid (And.intro hc2 (And.intro (fun k (hk : k < w.heap.size) (e : F2 k) => HC1.out.2.1 k hk (hF2 k (Nat.lt_of_lt_of_le hk HC1.out.2.2.size) e)) (HC1.out.2.2.trans ho2 (fun k hk e => HC1.out.2.1 k hk e))))
      clear hst hc2 hF2 ho2 HD
      rw [show xkey s = (⟨#[120]⟩ : ByteArray) ++ s from rfl] at HDel
      go_wp2_with fail
      refine HDel.out.mono ?_
      rintro e w3 ⟨rfl, R3, hd3, hst⟩
      have HS := Lib.hid (show (∀ j, j < 16 → R3.root j = R.root j) ∧ CStep B gb ba tb w F R3 (L.eraseIdx i) w3 from ⟨fun j hj => (hd3.root j hj).trans (HZ.out.2.2 j hj), CStep.of_off H2.out.2.2 H2.out.2.1 (H2.out.1.step hst hd3.fine hd3.leaf)⟩)
      clear hd3 hst
      go_wp2
      go_ret
      exact ⟨i, HX.out.1, .inr ⟨HX.out.2.1, rfl, R3, HS.out⟩⟩
    | 3, _ =>
      obtain ⟨mt, hop⟩ := (show ∃ tb, MethIs B w1 ba mb tb r (ivO tb) F1 R from hop)
      have HD := Lib.hid (ivDrop hop hc1.fine hr16 hr0)
      have HC1 := Lib.hid (And.intro hc1 (And.intro hF1 ho1))
      clear hop hc1 hF1 ho1 hlt hr0
      go_wp2_with fail
      refine HD.out.mono ?_
      rintro e w2 ⟨rfl, hst⟩
      obtain ⟨F2, hc2, hF2, ho2⟩ := HC1.out.1.step hst HZ.out.1 HZ.out.2.1
      have HDel := Lib.hid (Del_leaf hc2.tree hc2.act hc2.fine hc2.tF (by decide) hc2.leaf (xkey s) i HX.out.1 HX.out.2.2 (h2 i HX.out.1 HX.out.2.2))
      obtain ⟨c0, c1⟩ := hc2.cells
      have H2 := Lib.hid (And.intro hc2 (And.intro (fun k (hk : k < w.heap.size) (e : F2 k) => HC1.out.2.1 k hk (hF2 k (Nat.lt_of_lt_of_le hk HC1.out.2.2.size) e)) (HC1.out.2.2.trans ho2 (fun k hk e => HC1.out.2.1 k hk e))))
      clear hst hc2 hF2 ho2 HD
      rw [show xkey s = (⟨#[120]⟩ : ByteArray) ++ s from rfl] at HDel
      go_wp2_with fail
      refine HDel.out.mono ?_
      rintro e w3 ⟨rfl, R3, hd3, hst⟩
      have HS := Lib.hid (show (∀ j, j < 16 → R3.root j = R.root j) ∧ CStep B gb ba tb w F R3 (L.eraseIdx i) w3 from ⟨fun j hj => (hd3.root j hj).trans (HZ.out.2.2 j hj), CStep.of_off H2.out.2.2 H2.out.2.1 (H2.out.1.step hst hd3.fine hd3.leaf)⟩)
      clear hd3 hst
      go_wp2
      go_ret
      exact ⟨i, HX.out.1, .inr ⟨HX.out.2.1, rfl, R3, HS.out⟩⟩
end Go.Proofs.YtiakepcgalmjfaaGreat

namespace Go.Proofs.YtiakepcgalmjfaaGreat
open Go.RowKit

theorem letter_byteK (b : UInt8) (h : letter b = true) : decide ((b.toNat : Int) < 97) = false ∧ decide ((122 : Int) < (b.toNat : Int)) = false := by
  simp [letter] at h; simp; omega
theorem not_letterK (b : UInt8) (h : letter b = false) : decide ((b.toNat : Int) < 97) = true ∨ (decide ((b.toNat : Int) < 97) = false ∧ decide ((122 : Int) < (b.toNat : Int)) = true) := by
  simp [letter] at h; simp; omega
theorem all_take_K {α : Type} (l : List α) (p : α → Bool) (k : Nat) (h : k < l.length) : (l.take (k + 1)).all p = ((l.take k).all p && p l[k]) := by
  rw [List.take_succ_eq_append_getElem h, List.all_append]; simp
theorem nameX_no (s : List UInt8) (j : Nat) (h : j < s.length) (hl : letter s[j] = false) : nameX s = false := by
  have : s.all letter = false := by
    rw [List.all_eq_false]
    exact ⟨_, List.getElem_mem h, by simp [hl]⟩
  simp [nameX, this]

set_option maxHeartbeats 1000000 in
theorem rnamed_any (s : ByteArray) (w : World) (hs : s.size ≤ 9223372036854775807) :
    Calls Tryz.prog 59 #[.string s] w fun e w' => e = .returned (.bool (nameX s.data.toList)) ∧ w' = w := by
  have hsz : s.data.toList.length = s.size := by simp
  have HS := Lib.hid hsz
  clear hsz
  go_enter Tryz.func59, Tryz.ntmps59
  go_wp2
  go_loop [3] (fun i => ∃ j : Nat, j ≤ s.size ∧ i = .int .i64 j ∧ (s.data.toList.take j).all letter = true) (fun i => s.size - (intOf i).toNat)
  case atStart => exact ⟨0, Nat.zero_le _, rfl, rfl⟩
  case round =>
    obtain ⟨j, hj, rfl, hall⟩ := hrel
    have HA := Lib.hid hall
    clear hall
    by_cases hlt : j < s.size
    · have hj' : j < s.data.toList.length := by rw [HS.out]; exact hlt
      have hg : s.data.toList[j] = s[j] := rfl
      have HG := Lib.hid hg
      clear hg
      cases hl : letter s[j] with
      | true =>
        obtain ⟨b1, b2⟩ := letter_byteK _ hl
        have HL := Lib.hid hl
        clear hl
        go_wp2
        go_round
        case rel => exact ⟨j + 1, by omega, by go_num, by rw [all_take_K _ _ _ hj', HA.out, HG.out, HL.out]; rfl⟩
        case measure => simp [intOf]; omega
      | false =>
        have HN := Lib.hid (nameX_no _ j hj' (by rw [HG.out]; exact hl))
        rcases not_letterK _ hl with b1 | ⟨b1, b2⟩
        all_goals
          clear hl
          go_wp2
          go_ret
          exact ⟨ret_bool HN.out.symm, rfl⟩
    · have HAll := Lib.hid (show s.data.toList.all letter = true by rw [← List.take_of_length_le (show s.data.toList.length ≤ j by rw [HS.out]; omega)]; exact HA.out)
      by_cases h1 : 1 ≤ s.size
      · by_cases h2 : s.size ≤ 16
        · have e1 : decide ((1 : Int) ≤ (s.size : Int)) = true := by simp; omega
          have e2 : decide ((s.size : Int) ≤ 16) = true := by simp; omega
          have HN := Lib.hid (show nameX s.data.toList = true by simp [nameX, HAll.out, HS.out, h1, h2])
          go_wp2
          go_ret
          exact ⟨ret_bool HN.out.symm, rfl⟩
        · have e1 : decide ((1 : Int) ≤ (s.size : Int)) = true := by simp; omega
          have e2 : decide ((s.size : Int) ≤ 16) = false := by simp; omega
          have HN := Lib.hid (show nameX s.data.toList = false by simp [nameX, HS.out]; omega)
          go_wp2
          go_ret
          exact ⟨ret_bool HN.out.symm, rfl⟩
      · have e1 : decide ((1 : Int) ≤ (s.size : Int)) = false := by simp; omega
        have HN := Lib.hid (show nameX s.data.toList = false by simp [nameX, HS.out]; omega)
        go_wp2
        go_ret
        exact ⟨ret_bool HN.out.symm, rfl⟩

/-- A text is a method's name. -/
def rfor (m : ByteArray) (z : Int) : Bool × Bool := if isK m 0 || isK m 1 || isK m 2 then (z == 1 || z == 2, true) else if isK m 3 then (z == 3, true) else (false, false)
set_option maxRecDepth 100000 in
set_option maxHeartbeats 4000000 in
theorem rfor_any (m : ByteArray) (z : Int) (w : World) :
    Calls Tryz.prog 60 #[.string m, .int .i64 z] w fun e w' => e = .returned (.tuple #[.bool (rfor m z).1, .bool (rfor m z).2]) ∧ w' = w := by
  obtain ⟨b0, h0⟩ : ∃ b, isK m 0 = b := ⟨_, rfl⟩
  obtain ⟨b1, h1⟩ : ∃ b, isK m 1 = b := ⟨_, rfl⟩
  obtain ⟨b2, h2⟩ : ∃ b, isK m 2 = b := ⟨_, rfl⟩
  obtain ⟨b3, h3⟩ : ∃ b, isK m 3 = b := ⟨_, rfl⟩
  have HR := Lib.hid (show rfor m z = if b0 || b1 || b2 then (z == 1 || z == 2, true) else if b3 then (z == 3, true) else (false, false) by unfold rfor; rw [h0, h1, h2, h3])
  have e0 : (m.toList == [98, 105, 116, 109, 97, 112]) = b0 := by
    rw [← h0]
    unfold isK
    rw [show (kname 0).toList = [98, 105, 116, 109, 97, 112] by decide +kernel]
    exact BEq.comm
  have e1 : (m.toList == [98, 116, 114, 101, 101]) = b1 := by
    rw [← h1]
    unfold isK
    rw [show (kname 1).toList = [98, 116, 114, 101, 101] by decide +kernel]
    exact BEq.comm
  have e2 : (m.toList == [104, 97, 115, 104]) = b2 := by
    rw [← h2]
    unfold isK
    rw [show (kname 2).toList = [104, 97, 115, 104] by decide +kernel]
    exact BEq.comm
  have e3 : (m.toList == [105, 110, 118, 101, 114, 116, 101, 100]) = b3 := by
    rw [← h3]
    unfold isK
    rw [show (kname 3).toList = [105, 110, 118, 101, 114, 116, 101, 100] by decide +kernel]
    exact BEq.comm
  clear h0 h1 h2 h3
  by_cases z1 : z = 1
  · subst z1
    cases b0 <;> cases b1 <;> cases b2 <;> cases b3
    all_goals
      go_enter Tryz.func60, Tryz.ntmps60
      go_wp2
      go_ret2
      exact ⟨by rw [HR.out]; rfl, rfl⟩
  · have d1 : decide (z = 1) = false := decide_eq_false z1
    cases b0 <;> cases b1 <;> cases b2 <;> cases b3
    all_goals
      go_enter Tryz.func60, Tryz.ntmps60
      go_wp2
      go_ret2
      exact ⟨by rw [HR.out]; rfl, rfl⟩

/-- Indexes at an address. -/
def IxR (w : World) (A : Option Addr) (L : List Xi) : Prop := L = [] ∨ ∃ b off, A = some ⟨b, off, none⟩ ∧ ∀ i (h : i < L.length), w.cell? ⟨b, off + i * 5, none⟩ = some (.string L[i].name) ∧ w.cell? ⟨b, off + i * 5 + 1, none⟩ = some (.string L[i].meth) ∧ w.cell? ⟨b, off + i * 5 + 2, none⟩ = some (.int .i64 L[i].col) ∧ w.cell? ⟨b, off + i * 5 + 3, none⟩ = some (.bool L[i].uniq) ∧ w.cell? ⟨b, off + i * 5 + 4, none⟩ = some (.int .i64 L[i].state)
theorem IxR.below {w w' : World} {A : Option Addr} {L : List Xi} (h : IxR w A L) (hb : Below w.heap.size w w') : IxR w' A L := by
  rcases h with h | ⟨b, off, ha, h⟩
  · exact .inl h
  · have up : ∀ p v, w.cell? ⟨b, p, none⟩ = some v → w'.cell? ⟨b, p, none⟩ = some v := fun p v hv => (hb.cell (World.block_lt_of_cell? w _ hv)).trans hv
    exact .inr ⟨b, off, ha, fun i hi => ⟨up _ _ (h i hi).1, up _ _ (h i hi).2.1, up _ _ (h i hi).2.2.1, up _ _ (h i hi).2.2.2.1, up _ _ (h i hi).2.2.2.2⟩⟩
theorem xiRows.read {w : World} {B n c : Nat} {A : Option Addr} {L : List Xi} (h : xiRows w B (.slice A n c) L) : IxR w A L := by
  cases A with
  | none => exact .inl (xiRows.nonil h)
  | some a =>
    obtain ⟨b, off, sp⟩ := a
    rcases h.2 with ⟨e, h0⟩ | ⟨g', cap, cur, e, hg', _⟩
    · cases e
    · simp only [Value.slice.injEq, Option.some.injEq, Addr.mk.injEq] at e
      obtain ⟨⟨rfl, rfl, rfl⟩, rfl, rfl⟩ := e
      refine .inr ⟨b, 0, rfl, fun i hi => ?_⟩
      have := (xiRows.cells h i hi).2.2
      simpa using this
/-- Where an index of a name stands. -/
def findXi : List Xi → ByteArray → Int
  | [], _ => -1
  | x :: l, s => if x.name.toList == s.toList then 0 else (let r := findXi l s; if r < 0 then -1 else r + 1)
theorem findXi_skip (L : List Xi) (s : ByteArray) (k : Nat) (hk : k ≤ L.length) (h : ∀ t (ht : t < L.length), t < k → (L[t].name.toList == s.toList) = false) : findXi L s = if findXi (L.drop k) s < 0 then -1 else findXi (L.drop k) s + k := by
  induction L generalizing k with
  | nil =>
    have : k = 0 := by simpa using hk
    subst this
    simp [findXi]
  | cons x L ih =>
    cases k with
    | zero =>
      simp only [List.drop_zero]
      have : ∀ l, -1 ≤ findXi l s := fun l => by
        induction l with
        | nil => simp [findXi]
        | cons y l ih =>
          simp only [findXi]
          split
          · omega
          · split <;> omega
      have h1 := this (x :: L)
      split
      · omega
      · simp
    | succ k =>
      have h0 := h 0 (by simp) (by omega)
      simp only [List.getElem_cons_zero] at h0
      rw [List.drop_succ_cons, findXi, h0, ih k (by simpa using hk) (fun t ht htk => by
        have := h (t + 1) (by simpa using ht) (by omega)
        simpa using this)]
      simp only [Bool.false_eq_true, if_false]
      split
      · rfl
      · rename_i h2
        have : ¬ findXi (L.drop k) s + (k : Int) < 0 := by omega
        simp only [this, if_false]
        omega
set_option maxHeartbeats 1000000 in
theorem rfind_any (L : List Xi) (A : Option Addr) (c : Nat) (s : ByteArray) (w : World) (h : IxR w A L) (hl : L.length ≤ 1099511627776) :
    Calls Tryz.prog 11 #[.slice A L.length c, .string s] w fun e w' => e = .returned (.int .i64 (findXi L s)) ∧ w' = w := by
  go_enter Tryz.func11, Tryz.ntmps11
  go_wp2
  go_loop [5] (fun i => ∃ j : Nat, j ≤ L.length ∧ i = .int .i64 j ∧ ∀ t (ht : t < L.length), t < j → (L[t].name.toList == s.toList) = false) (fun i => L.length - (intOf i).toNat)
  case atStart => exact ⟨0, Nat.zero_le _, rfl, fun t _ h => by omega⟩
  case round =>
    obtain ⟨j, hj, rfl, hall⟩ := hrel
    have HA := Lib.hid hall
    have HSk := Lib.hid (findXi_skip L s j hj hall)
    clear hall
    by_cases hlt : j < L.length
    · rcases h with h0 | ⟨b, off, rfl, hc⟩
      · rw [h0] at hlt; simp at hlt
      · have c0 := (hc j hlt).1
        have HD := Lib.hid (show L.drop j = L[j] :: L.drop (j + 1) from List.drop_eq_getElem_cons hlt)
        have HC := Lib.hid hc
        clear hc
        obtain ⟨nm, hnm⟩ : ∃ nm, L[j].name = nm := ⟨_, rfl⟩
        rw [hnm] at c0
        have HN := Lib.hid hnm
        clear hnm
        have hjl : (j : Int) < L.length := by omega
        cases he : (nm.toList == s.toList) with
        | true =>
          have HE := Lib.hid he
          go_wp2
          go_ret
          refine ⟨ret_int ?_, rfl⟩
          rw [HSk.out, HD.out, findXi, HN.out, HE.out]
          simp
        | false =>
          have HE := Lib.hid he
          go_wp2
          go_round
          case rel => exact ⟨j + 1, by omega, by go_num, fun t ht htj => by
            by_cases e : t = j
            · subst e; rw [HN.out]; exact HE.out
            · exact HA.out t ht (by omega)⟩
          case measure => simp [intOf]; omega
    · have hjl : ¬ (j : Int) < L.length := by omega
      go_wp2
      go_ret
      refine ⟨ret_int ?_, rfl⟩
      rw [HSk.out, List.drop_of_length_le (by omega), findXi]
      simp
end Go.Proofs.YtiakepcgalmjfaaGreat
