/- vestibulelaw01.DatumBack: the walk. -/
import Derived.Test.YtekcoddjdjllhaaDoorCal
import Derived.Test.YtekcoddjdjllhaaDoorDeO
import Derived.Test.YtekcoddjdjllhaaDoorTxt
import Derived.Deep.DeepCutAuto
namespace Go.Proofs.YtekcoddjdjllhaaDoor
open Go.RowKit

theorem tS_size2 {w : World} {d : Da} {a : Option Addr} (hd : DaIs w d a) (h : d.may = true) : (tS d).size ≤ 800 := by
  have e : tS d = ⟨d.text.toArray⟩ := by simp [tS, h]
  rw [e, ba_size]
  by_cases h3 : d.k = 3
  · obtain ⟨_, _, h8, hit⟩ := may_items h h3
    have := list_text_len d.l h8 hit hd.row.n64
    simp only [Da.text, h3, if_true, List.length_append, List.length_cons, List.length_nil]
    omega
  · have := text1_len (show simpleB d.k d.n d.s d.l.length = true by simpa [Da.may, h3] using h) hd.n
    simp only [Da.text, h3, if_false]
    omega

theorem of_back (x : Da) (S tail : ByteArray) (w : World) (hm : x.may = true) (hn : In64 x.n) (hl : ∀ j (hj : j < x.l.length), In64 x.l[j].n) (hS : S.data.toList = x.enc) (ht : tail.size ≤ 140737488351232) :
    Calls Tryd.prog 14 #[.string (S ++ tail)] w fun e w' => ∃ a c, e = .returned (.tuple #[dv x.k x.n x.s a x.l.length c, .int .i64 x.enc.length, .int .i64 0]) ∧ DaIs w' x a ∧ Below w.heap.size w w' := by
  have hSl : S.size = x.enc.length := by rw [← hS]; simp
  have h640 := enc_len hm
  refine (of_any (S ++ tail) w (by rw [ByteArray.size_append]; omega)).mono ?_
  intro e w' hp
  have e1 : (S ++ tail).data.toList = x.enc ++ tail.data.toList := by rw [ByteArray.data_append, Array.toList_append, hS]
  rw [e1, ofL_enc x hm hn hl] at hp
  obtain ⟨⟨a, c, rfl, hda⟩, hb⟩ := hp
  exact ⟨a, c, rfl, hda, hb⟩

theorem parse_back (x : Da) (T : ByteArray) (w : World) (hm : x.may = true) (hn : In64 x.n) (hl : ∀ j (hj : j < x.l.length), In64 x.l[j].n) (hT : T = toBA x.text) (hts : T.size ≤ 800) (hG : Globs w) :
    Calls Tryd.prog 16 #[.string T] w fun e w' => ∃ a c, e = .returned (.tuple #[dv x.k x.n x.s a x.l.length c, .int .i64 0]) ∧ DaIs w' x a ∧ Below w.heap.size w w' := by
  refine (parse_any T w (by omega) hG).mono ?_
  intro e w' hp
  rw [hT, parseDa_text x hm hn hl] at hp
  obtain ⟨a, c, ⟨rfl, hda⟩, hb⟩ := hp
  exact ⟨a, c, rfl, hda, hb⟩

theorem same_call (x : Da) (a : Option Addr) (c : Nat) (a' : Option Addr) (c' : Nat) (w : World) (hm : x.may = true) (hx : DaIs w x a) (hy : DaIs w x a') :
    Calls Tryd.prog 13 #[dv x.k x.n x.s a x.l.length c, dv x.k x.n x.s a' x.l.length c'] w fun e w' => e = .returned (.bool true) ∧ Below w.heap.size w w' := by
  have := rsame_any x x a c a' c' w hx.row hy.row hx.l hy.l
  rw [same_refl x hm] at this
  exact this

set_option maxRecDepth 100000 in
set_option maxHeartbeats 8000000 in
theorem back_law (x : Da) (a : Option Addr) (c : Nat) (tail : ByteArray) (w : World) (hx : DaIs w x a) (ht : tail.size ≤ 140737488351232) (hG : GlobsM w) (h16 : 8 ≤ w.heap.size) :
    Calls Tryd.prog 9 #[dv x.k x.n x.s a x.l.length c, .string tail] w fun e w' => e = .returned (.bool true) ∧ Below w.heap.size w w' := by
  have hW : Below w.heap.size w (w.alloc (.cells #[.int .i64 x.k, .int .i64 x.n, .string x.s, .slice a x.l.length c] 24)) := (Below.refl _ _).alloc (Nat.le_refl _) _
  have bx0 : Bx (w.alloc (.cells #[.int .i64 x.k, .int .i64 x.n, .string x.s, .slice a x.l.length c] 24)) (w.heap.size) x a c := ⟨by go_simp, by go_simp, by go_simp, by go_simp⟩
  go_enter Tryd.func9, Tryd.ntmps9
  go_wp2_with fail
  refine (bytes_call x a c _ (hx.below hW) (hG.below hW) (by simp; omega)).mono ?_
  rintro e w1 ⟨rfl, hb1⟩
  have zz := hb1.size
  simp at zz
  have hb01 : Below w.heap.size w w1 := hW.trans (hb1.mono (by simp; try omega))
  have bx1 := bx0.later hb1 (by simp; try omega)
  have hz1 : w.heap.size < w1.heap.size := by omega
  clear zz
  have bq := bx1
  obtain ⟨x0, x1, x2, x3⟩ := bq
  go_wp2_with fail
  refine (print_call x a c _ (hx.below hb01) (hG.toGlobs.below hb01)).mono ?_
  rintro e w2 ⟨rfl, hb2⟩
  have zz := hb2.size
  have hb02 : Below w.heap.size w w2 := hb01.trans (hb2.mono (by omega))
  clear x0 x1 x2 x3
  have bx2 := bx1.later hb2 (by omega)
  have hz2 : w.heap.size < w2.heap.size := by omega
  clear zz bx0 bx1 hb1 hb2 hb01 hW hz1
  have bq := bx2
  obtain ⟨x0, x1, x2, x3⟩ := bq
  by_cases hm : x.may = true
  · have hS : bS x = toBA x.enc := by simp [bS, hm, toBA]
    have hT : tS x = toBA x.text := by simp [tS, hm, toBA]
    have hE : dE x = 0 := by simp [dE, hm]
    have hSd : (bS x).data.toList = x.enc := by rw [hS]; exact toBA_list _
    have hSl : (bS x).size = x.enc.length := by rw [hS, toBA_size]
    have hSs : (bS x).size ≤ 640 := by rw [hSl]; exact enc_len hm
    have hTs : (tS x).size ≤ 800 := tS_size2 hx hm
    rw [hE]
    generalize bS x = S at hS hSd hSl hSs ⊢
    generalize tS x = T at hT hTs ⊢
    have HM := Lib.hid hm
    have HT := Lib.hid hT
    have HSD := Lib.hid hSd
    clear hm hT hSd hS hE
    go_wp2_with fail
    refine (of_back x S tail _ HM.out hx.n hx.row.n64 HSD.out ht).mono ?_
    rintro e w3 ⟨a3, c3, rfl, hx3, hb3⟩
    clear x0 x1 x2 x3
    have zz3 := hb3.size
    have hb03 := hb02.trans (hb3.mono (by omega))
    have bx3 := bx2.later hb3 (by omega)
    have hW3 : Below w3.heap.size w3 (w3.alloc (.cells #[.int .i64 x.k, .int .i64 x.n, .string x.s, .slice a3 x.l.length c3] 24)) := (Below.refl _ _).alloc (Nat.le_refl _) _
    have ba3 : Bx (w3.alloc (.cells #[.int .i64 x.k, .int .i64 x.n, .string x.s, .slice a3 x.l.length c3] 24)) w3.heap.size x a3 c3 := ⟨by go_simp, by go_simp, by go_simp, by go_simp⟩
    have bx3' := bx3.later hW3 (by omega)
    have hb03' := hb03.trans (hW3.mono (by omega))
    go_wp2_with fail
    refine (parse_back x T _ HM.out hx.n hx.row.n64 HT.out hTs (hG.toGlobs.below hb03')).mono ?_
    rintro e w4 ⟨a4, c4, rfl, hx4, hb4⟩
    have zz4 := hb4.size
    simp at zz4
    have hb04 := hb03'.trans (hb4.mono (by simp; omega))
    have ba4 := ba3.later hb4 (by simp)
    have bx4 := bx3'.later hb4 (by simp; omega)
    have hx34 : DaIs w4 x a3 := (hx3.below hW3).below hb4
    have hW4 : Below w4.heap.size w4 (w4.alloc (.cells #[.int .i64 x.k, .int .i64 x.n, .string x.s, .slice a4 x.l.length c4] 24)) := (Below.refl _ _).alloc (Nat.le_refl _) _
    have bb5 : Bx (w4.alloc (.cells #[.int .i64 x.k, .int .i64 x.n, .string x.s, .slice a4 x.l.length c4] 24)) w4.heap.size x a4 c4 := ⟨by go_simp, by go_simp, by go_simp, by go_simp⟩
    have ba5 := ba4.later hW4 (by omega)
    have bx5 := bx4.later hW4 (by omega)
    have hb05 := hb04.trans (hW4.mono (by omega))
    clear ba3 ba4 bx2 bx3 bx3' bx4 hb03 hb03' hW3
    have bq := ba5
    obtain ⟨y0, y1, y2, y3⟩ := bq
    have bq := bx5
    obtain ⟨x0, x1, x2, x3⟩ := bq
    go_wp2_with fail
    refine (same_call x a3 c3 a c _ HM.out (hx34.below hW4) (hx.below hb05)).mono ?_
    rintro e w6 ⟨rfl, hb6⟩
    have zz6 := hb6.size
    simp at zz6
    have hb06 := hb05.trans (hb6.mono (by simp; omega))
    clear x0 x1 x2 x3 y0 y1 y2 y3
    have bb6 := bb5.later hb6 (by simp)
    have bx6 := bx5.later hb6 (by simp; omega)
    have bq := bb6
    obtain ⟨y0, y1, y2, y3⟩ := bq
    have bq := bx6
    obtain ⟨x0, x1, x2, x3⟩ := bq
    go_wp2_with fail
    refine (same_call x a4 c4 a c _ HM.out ((hx4.below hW4).below hb6) (hx.below hb06)).mono ?_
    rintro e w7 ⟨rfl, hb7⟩
    have zz7 := hb7.size
    have hb07 := hb06.trans (hb7.mono (by omega))
    clear x0 x1 x2 x3 y0 y1 y2 y3
    go_wp2_with fail
    refine (awake_any _ (hG.toGlobs.below hb07)).mono ?_
    rintro e w8 ⟨rfl, hb8⟩
    go_wp2
    go_ret
    exact ⟨rfl, hb07.trans (hb8.mono (by omega))⟩
  · have hm' : x.may = false := by simpa using hm
    have hS : bS x = ⟨#[]⟩ := by simp [bS, hm']
    have hT : tS x = ⟨#[]⟩ := by simp [tS, hm']
    have hE : dE x = 11 := by simp [dE, hm']
    rw [hS, hT, hE]
    have HE := Lib.hid hE
    clear hm hm' hS hT hE
    go_wp2_with fail
    refine (rcheck_call x a c _ (hx.below hb02)).mono ?_
    rintro e w5 ⟨rfl, hb5⟩
    rw [HE.out]
    have zz := hb5.size
    have hb05 : Below w.heap.size w w5 := hb02.trans (hb5.mono (by omega))
    go_wp2_with fail
    refine (awake_any _ (hG.toGlobs.below hb05)).mono ?_
    rintro e w8 ⟨rfl, hb8⟩
    go_wp2
    go_ret
    exact ⟨rfl, hb05.trans (hb8.mono (by omega))⟩
end Go.Proofs.YtekcoddjdjllhaaDoor
