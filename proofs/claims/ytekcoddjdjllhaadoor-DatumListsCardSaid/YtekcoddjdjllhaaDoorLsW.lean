/- vestibulelaw01.DatumLists: the walk. -/
import Derived.Test.YtekcoddjdjllhaaDoorCal
import Derived.Test.YtekcoddjdjllhaaDoorOpL
namespace Go.Proofs.YtekcoddjdjllhaaDoor
open Go.RowKit

theorem El.it_may (e : El) : e.it.may = (e.d.may && !decide (e.d.k = 3)) := by
  obtain ⟨⟨k, n, s, l⟩, a, c⟩ := e
  simp only [El.it, It.may, Da.may]
  by_cases h : k = 3
  · subst h; simp [simpleB]
  · simp [h]
theorem El.it_enc {e : El} (h : ¬ e.d.k = 3) : e.it.enc = e.d.enc := by simp [El.it, It.enc, Da.enc, h]
theorem El.it_text {e : El} (h : ¬ e.d.k = 3) : e.it.text = e.d.text := by simp [El.it, It.text, Da.text, h]

def bigDa (L : List El) : Da := ⟨3, 0, ⟨#[]⟩, L.map El.it⟩
theorem big_may (L : List El) : (bigDa L).may = (decide (L.length ≤ 8) && L.all fun e => e.it.may) := by
  simp [bigDa, Da.may, List.all_map, Function.comp_def]

/-- What is gathered of the first j items, all of them simple. -/
structure Gath (L : List El) (j : Nat) (b p : ByteArray) : Prop where
  h8 : L.length ≤ 8
  all : (L.take j).all (fun e => e.it.may) = true
  eb : b = toBA ((L.take j).flatMap fun e => e.it.enc)
  ep : p = toBA (Lib.join ((L.take j).map fun e => e.it.text) [44])
  hb : b.size ≤ 67 * j
  hp : p.size ≤ 99 * j

theorem Gath.zero {L : List El} (h8 : L.length ≤ 8) : Gath L 0 ⟨#[]⟩ ⟨#[]⟩ := ⟨h8, rfl, rfl, rfl, Nat.zero_le _, Nat.zero_le _⟩

theorem bS_of {d : Da} (h : d.may = true) : bS d = toBA d.enc := by simp [bS, h, toBA]
theorem tS_of {d : Da} (h : d.may = true) : tS d = toBA d.text := by simp [tS, h, toBA]
theorem bS_not {d : Da} (h : d.may = false) : bS d = ⟨#[]⟩ := by simp [bS, h]
theorem tS_not {d : Da} (h : d.may = false) : tS d = ⟨#[]⟩ := by simp [tS, h]
theorem dE_of {d : Da} (h : d.may = true) : dE d = 0 := by simp [dE, h]
theorem dE_not {d : Da} (h : d.may = false) : dE d = 11 := by simp [dE, h]
theorem toBA_app (l m : List UInt8) : toBA l ++ toBA m = toBA (l ++ m) := ba_append l m

theorem simple_of {d : Da} (h : d.may = true) (h3 : ¬ d.k = 3) : simpleB d.k d.n d.s d.l.length = true := by simpa [Da.may, h3] using h

theorem Gath.step {L : List El} {j : Nat} {b p : ByteArray} (h : Gath L j b p) (hj : j < L.length) (hm : L[j].d.may = true) (h3 : ¬ L[j].d.k = 3) (hn : In64 L[j].d.n) :
    Gath L (j + 1) (b ++ bS L[j].d) ((if 0 < j then p ++ ⟨#[44]⟩ else p) ++ tS L[j].d) := by
  have hi : L[j].it.may = true := by rw [El.it_may, hm]; simp [h3]
  have he := El.it_enc h3
  have ht := El.it_text h3
  have l1 := enc1_len (simple_of hm h3)
  have l2 := text1_len (simple_of hm h3) hn
  have e1 : L[j].d.enc = enc1 L[j].d.k L[j].d.n L[j].d.s := by simp [Da.enc, h3]
  have e2 : L[j].d.text = text1 L[j].d.k L[j].d.n L[j].d.s := by simp [Da.text, h3]
  have hb := h.hb
  have hp := h.hp
  refine ⟨h.h8, ?_, ?_, ?_, ?_, ?_⟩
  · rw [all_take_succ _ _ _ hj, h.all, hi]; rfl
  · rw [h.eb, bS_of hm, toBA_app, List.take_succ_eq_append_getElem hj, List.flatMap_append]
    simp [he]
  · rw [List.take_succ_eq_append_getElem hj, List.map_append, List.map_cons, List.map_nil, join_snoc, tS_of hm, h.ep, ht]
    by_cases h0 : 0 < j
    · rw [if_pos h0, if_neg (fun e => by have := congrArg List.length e; rw [List.length_map, List.length_take, List.length_nil] at this; omega)]
      rw [show (⟨#[44]⟩ : ByteArray) = toBA [44] from rfl, toBA_app, toBA_app]
    · obtain rfl : j = 0 := by omega
      simp [toBA_app, Lib.join_nil]
  · rw [ByteArray.size_append, bS_of hm, toBA_size, e1]; omega
  · rw [ByteArray.size_append, tS_of hm, toBA_size, e2]
    split
    · rw [ByteArray.size_append, show (⟨#[44]⟩ : ByteArray).size = 1 from rfl]; omega
    · omega

theorem bS_size {d : Da} : (bS d).size ≤ 640 := by
  by_cases h : d.may = true
  · rw [bS_of h, toBA_size]; exact enc_len h
  · rw [bS_not (by simpa using h)]; exact Nat.zero_le _
theorem tS_size {w : World} {d : Da} {a : Option Addr} (hd : DaIs w d a) : (tS d).size ≤ 800 := by
  by_cases h : d.may = true
  · rw [tS_of h, toBA_size]
    by_cases h3 : d.k = 3
    · obtain ⟨_, _, h8, hit⟩ := may_items h h3
      have := list_text_len d.l h8 hit hd.row.n64
      simp only [Da.text, h3, if_true, List.length_append, List.length_cons, List.length_nil]
      omega
    · have := text1_len (simple_of h h3) hd.n
      simp only [Da.text, h3, if_false]
      omega
  · rw [tS_not (by simpa using h)]; exact Nat.zero_le _

theorem big_is {w : World} {L : List El} {a : Option Addr} (h : DeepIs w a L) (hl : L.length ≤ 140737488351232) : DaIs w (bigDa L) a :=
  ⟨h.row, ⟨by show _ ≤ (0 : Int); omega, by show (0 : Int) ≤ _; omega⟩, by simpa [bigDa] using hl, by show 0 ≤ _; omega⟩
theorem bytes_big (L : List El) (a : Option Addr) (c : Nat) (w : World) (hd : DaIs w (bigDa L) a) (hG : GlobsM w) (h16 : 8 ≤ w.heap.size) :
    Calls Tryd.prog 18 #[dv 3 0 ⟨#[]⟩ a L.length c] w fun e w' => e = .returned (.tuple #[.string (bS (bigDa L)), .int .i64 (dE (bigDa L))]) ∧ Below w.heap.size w w' := by
  have := bytes_call (bigDa L) a c w hd hG h16
  rw [show (bigDa L).l.length = L.length by simp [bigDa]] at this
  exact this
theorem print_big (L : List El) (a : Option Addr) (c : Nat) (w : World) (hd : DaIs w (bigDa L) a) (hG : Globs w) :
    Calls Tryd.prog 20 #[dv 3 0 ⟨#[]⟩ a L.length c] w fun e w' => e = .returned (.tuple #[.string (tS (bigDa L)), .int .i64 (dE (bigDa L))]) ∧ Below w.heap.size w w' := by
  have := print_call (bigDa L) a c w hd hG
  rw [show (bigDa L).l.length = L.length by simp [bigDa]] at this
  exact this
theorem rcheck_big (L : List El) (a : Option Addr) (c : Nat) (w : World) (hd : DaIs w (bigDa L) a) :
    Calls Tryd.prog 22 #[dv 3 0 ⟨#[]⟩ a L.length c] w fun e w' => e = .returned (.int .i64 (dE (bigDa L))) ∧ Below w.heap.size w w' := by
  have := rcheck_call (bigDa L) a c w hd
  rw [show (bigDa L).l.length = L.length by simp [bigDa]] at this
  exact this

/-- The end, where all items are simple. -/
theorem Gath.whole {L : List El} {j : Nat} {b p : ByteArray} (h : Gath L j b p) (hj : L.length ≤ j) :
    dE (bigDa L) = 0 ∧ bS (bigDa L) = toBA [3, UInt8.ofNat L.length] ++ b ∧ tS (bigDa L) = ⟨#[91]⟩ ++ p ++ ⟨#[93]⟩ := by
  have ha := h.all
  rw [List.take_of_length_le hj] at ha
  have hm : (bigDa L).may = true := by rw [big_may, ha]; simp [h.h8]
  refine ⟨dE_of hm, ?_, ?_⟩
  · rw [bS_of hm, h.eb, toBA_app, List.take_of_length_le hj]
    congr 1
    simp [bigDa, Da.enc, List.flatMap_map]
  · rw [tS_of hm, h.ep, List.take_of_length_le hj, show (⟨#[91]⟩ : ByteArray) = toBA [91] from rfl, show (⟨#[93]⟩ : ByteArray) = toBA [93] from rfl, toBA_app, toBA_app]
    congr 1
    simp [bigDa, Da.text, Function.comp_def]

theorem bad_item {L : List El} {j : Nat} (hj : j < L.length) (h : L[j].it.may = false) : (bigDa L).may = false := by
  rw [big_may, all_false_of L _ j hj h]; simp

theorem conv_two (W : World) (n : Nat) (hn : n ≤ 8) : (convert 40 9 (.slice (some ⟨W.heap.size, 0, none⟩) 2 2)).run Tryd.prog (W.alloc (.cells #[.int .u8 3, .int .u8 (n : Int)] 5)) = .ok (.string (toBA [3, UInt8.ofNat n])) (W.alloc (.cells #[.int .u8 3, .int .u8 (n : Int)] 5)) := by
  have := (Buf.built2 W 0 (Nat.zero_le _) 3 (UInt8.ofNat n)).string
  have e : ((UInt8.ofNat n).toNat : Int) = (n : Int) := by rw [UInt8.toNat_ofNat']; omega
  rw [e] at this
  exact this

/-- A variable that holds a list. -/
structure Lx (w : World) (b : Nat) (a : Option Addr) (n c : Nat) : Prop where
  c0 : w.cell? ⟨b, 0, none⟩ = some (.int .i64 3)
  c1 : w.cell? ⟨b, 1, none⟩ = some (.int .i64 0)
  c2 : w.cell? ⟨b, 2, none⟩ = some (.string ⟨#[]⟩)
  c3 : w.cell? ⟨b, 3, none⟩ = some (.slice a n c)
theorem Lx.later {w w1 : World} {B b : Nat} {a : Option Addr} {n c : Nat} (h : Lx w b a n c) (hb : Below B w w1) (hlt : b < B) : Lx w1 b a n c :=
  ⟨(hb.cell (p := ⟨b, 0, none⟩) hlt).trans h.c0, (hb.cell (p := ⟨b, 1, none⟩) hlt).trans h.c1, (hb.cell (p := ⟨b, 2, none⟩) hlt).trans h.c2, (hb.cell (p := ⟨b, 3, none⟩) hlt).trans h.c3⟩

set_option maxRecDepth 100000 in
set_option maxHeartbeats 8000000 in
theorem lists_law (L : List El) (a : Option Addr) (c : Nat) (w : World) (hL : DeepIs w a L) (hl : L.length ≤ 140737488351232) (hG : GlobsM w) (h16 : 8 ≤ w.heap.size) :
    Calls Tryd.prog 7 #[.slice a L.length c] w fun e w' => e = .returned (.bool true) ∧ Below w.heap.size w w' := by
  have hD := big_is hL hl
  go_enter Tryd.func7, Tryd.ntmps7
  go_wp2_with fail
  refine (bytes_big L a c _ (hD.below (by go_grown)) (hG.below (by go_grown)) (by simp; omega)).mono ?_
  rintro e w1 ⟨rfl, hb1⟩
  have hW : Below w.heap.size w (w.alloc (.cells #[.int .i64 3, .int .i64 0, .string ⟨#[]⟩, .slice a L.length c] 24)) := (Below.refl _ _).alloc (Nat.le_refl _) _
  have lx0 : Lx (w.alloc (.cells #[.int .i64 3, .int .i64 0, .string ⟨#[]⟩, .slice a L.length c] 24)) w.heap.size a L.length c := ⟨by go_simp, by go_simp, by go_simp, by go_simp⟩
  have zz := hb1.size
  simp at zz
  have hb01 : Below w.heap.size w w1 := hW.trans (hb1.mono (by simp; try omega))
  have lx1 := lx0.later hb1 (by simp; try omega)
  have bq := lx1
  obtain ⟨x0, x1, x2, x3⟩ := bq
  go_wp2_with fail
  refine (print_big L a c _ (hD.below hb01) (hG.toGlobs.below hb01)).mono ?_
  rintro e w2 ⟨rfl, hb2⟩
  have zz2 := hb2.size
  have hb02 : Below w.heap.size w w2 := hb01.trans (hb2.mono (by omega))
  clear x0 x1 x2 x3
  have lx2 := lx1.later hb2 (by omega)
  have hz2 : w.heap.size < w2.heap.size := by omega
  clear zz zz2 lx0 lx1 hb1 hb2 hb01 hW
  generalize hS : bS (bigDa L) = S
  generalize hT : tS (bigDa L) = T
  generalize hE : dE (bigDa L) = E
  have HS := Lib.hid hS
  have HT := Lib.hid hT
  have HE := Lib.hid hE
  clear hS hT hE
  go_wp2
  go_loopw [8, 9, 10, 11] (fun b p f i wr => ∃ (j : Nat) (B P : ByteArray), j ≤ L.length ∧ i = .int .i64 j ∧ b = .string B ∧ p = .string P ∧ ((f = .bool true ∧ Gath L j B P) ∨ (f = .bool false ∧ (bigDa L).may = false)) ∧ Below w.heap.size w wr ∧ Lx wr w.heap.size a L.length c ∧ w.heap.size < wr.heap.size) (fun _ _ _ i _ => L.length - (intOf i).toNat)
  case atStart =>
    refine ⟨0, ⟨#[]⟩, ⟨#[]⟩, Nat.zero_le _, rfl, rfl, rfl, ?_, hb02, lx2, hz2⟩
    by_cases h8 : L.length ≤ 8
    · exact .inl ⟨by simp; omega, Gath.zero h8⟩
    · exact .inr ⟨by simp; omega, by rw [big_may]; simp [h8]⟩
  case round =>
    obtain ⟨j, B, P, hj, rfl, rfl, rfl, hf, hbl, hx, hz⟩ := hrel
    rcases hf with ⟨rfl, hg⟩ | ⟨rfl, hno⟩
    · have h8 := hg.h8
      have hBs : B.size ≤ 536 := by have := hg.hb; omega
      have hPs : P.size ≤ 792 := by have := hg.hp; omega
      by_cases hlt : j < L.length
      · obtain ⟨b, off, rfl, g0, g1, g2, g3, hd⟩ := (hL.below hbl).at_ j hlt
        have hbk : b < wr.heap.size := World.block_lt_of_cell? wr _ g0
        have HG := Lib.hid hg
        clear hg
        go_wp2_with fail
        refine (bytes_call L[j].d L[j].a L[j].c _ hd (hG.below hbl) (by omega)).mono ?_
        rintro e w3 ⟨rfl, hb3⟩
        have zz3 := hb3.size
        have hbl3 : Below w.heap.size w w3 := hbl.trans (hb3.mono (by omega))
        have k0 := (hb3.cell (p := ⟨b, off + j * 4, none⟩) hbk).trans g0
        have k1 := (hb3.cell (p := ⟨b, off + j * 4 + 1, none⟩) hbk).trans g1
        have k2 := (hb3.cell (p := ⟨b, off + j * 4 + 2, none⟩) hbk).trans g2
        have k3 := (hb3.cell (p := ⟨b, off + j * 4 + 3, none⟩) hbk).trans g3
        clear g0 g1 g2 g3
        go_wp2_with fail
        refine (print_call L[j].d L[j].a L[j].c _ (hd.below hb3) (hG.toGlobs.below hbl3)).mono ?_
        rintro e w4 ⟨rfl, hb4⟩
        have zz4 := hb4.size
        have hbl4 : Below w.heap.size w w4 := hbl3.trans (hb4.mono (by omega))
        have m0 := (hb4.cell (p := ⟨b, off + j * 4, none⟩) (by show b < _; omega)).trans k0
        clear k0 k1 k2 k3
        have hx4 := (hx.later hb3 (by omega)).later hb4 (by omega)
        have hXs : (bS L[j].d).size ≤ 640 := bS_size
        have hYs : (tS L[j].d).size ≤ 800 := tS_size hd
        have hn := hd.n
        by_cases hm : L[j].d.may = true
        · have hde := dE_of hm
          by_cases h3 : L[j].d.k = 3
          · have hno := Lib.hid (bad_item hlt (by rw [El.it_may, hm]; simp [h3]))
            rw [h3] at m0
            clear h3 hm
            generalize bS L[j].d = X at hXs ⊢
            generalize tS L[j].d = Y at hYs ⊢
            rw [hde]
            by_cases h0 : 0 < j
            · go_wp2
              go_roundw
              case rel => exact ⟨j + 1, _, _, by omega, by go_num, rfl, rfl, .inr ⟨rfl, hno.out⟩, hbl4, hx4, by omega⟩
              case measure => simp [intOf]; omega
            · go_wp2
              go_roundw
              case rel => exact ⟨j + 1, _, _, by omega, by go_num, rfl, rfl, .inr ⟨rfl, hno.out⟩, hbl4, hx4, by omega⟩
              case measure => simp [intOf]; omega
          · have hst := HG.out.step hlt hm h3 hn
            have hk : (L[j].d.k != 3) = true := by simpa using h3
            clear h3 hm
            generalize bS L[j].d = X at hXs hst ⊢
            generalize tS L[j].d = Y at hYs hst ⊢
            rw [hde]
            by_cases h0 : 0 < j
            · rw [if_pos h0] at hst
              have HST := Lib.hid hst
              clear hst
              go_wp2
              go_roundw
              case rel => exact ⟨j + 1, _, _, by omega, by go_num, rfl, rfl, .inl ⟨rfl, HST.out⟩, hbl4, hx4, by omega⟩
              case measure => simp [intOf]; omega
            · rw [if_neg h0] at hst
              have HST := Lib.hid hst
              clear hst
              go_wp2
              go_roundw
              case rel => exact ⟨j + 1, _, _, by omega, by go_num, rfl, rfl, .inl ⟨rfl, HST.out⟩, hbl4, hx4, by omega⟩
              case measure => simp [intOf]; omega
        · have hm' : L[j].d.may = false := by simpa using hm
          have hde := dE_not hm'
          have hno := Lib.hid (bad_item hlt (by rw [El.it_may, hm']; simp))
          clear hm hm'
          generalize bS L[j].d = X at hXs ⊢
          generalize tS L[j].d = Y at hYs ⊢
          rw [hde]
          by_cases h0 : 0 < j
          · go_wp2
            go_roundw
            case rel => exact ⟨j + 1, _, _, by omega, by go_num, rfl, rfl, .inr ⟨rfl, hno.out⟩, hbl4, hx4, by omega⟩
            case measure => simp [intOf]; omega
          · go_wp2
            go_roundw
            case rel => exact ⟨j + 1, _, _, by omega, by go_num, rfl, rfl, .inr ⟨rfl, hno.out⟩, hbl4, hx4, by omega⟩
            case measure => simp [intOf]; omega
      · obtain ⟨eE, eS, eT⟩ := hg.whole (by omega)
        rw [HE.out] at eE
        rw [HS.out] at eS
        rw [HT.out] at eT
        clear HE HS HT hg
        have hs2 := conv_two wr L.length h8
        have hb5 : Below w.heap.size w (wr.alloc (.cells #[.int .u8 3, .int .u8 L.length] 5)) := hbl.alloc (by omega) _
        have hqs : (toBA [3, UInt8.ofNat L.length]).size = 2 := rfl
        generalize toBA [3, UInt8.ofNat L.length] = Q at *
        subst eE eS eT
        go_wp2_with fail
        refine (awake_any _ (hG.toGlobs.below hb5)).mono ?_
        rintro e w8 ⟨rfl, hb8⟩
        go_wp2
        go_ret
        exact ⟨rfl, hb5.trans (hb8.mono (by simp; try omega))⟩
    · have eE := HE.out
      rw [dE_not hno] at eE
      have eS := HS.out
      rw [bS_not hno] at eS
      have eT := HT.out
      rw [tS_not hno] at eT
      clear HE HS HT
      subst eE eS eT
      have H11 := dE_not hno
      have bq := hx
      obtain ⟨x0, x1, x2, x3⟩ := bq
      clear hno
      by_cases hlt : j < L.length
      all_goals
        go_wp2_with fail
        refine (rcheck_big L a c _ (hD.below hbl)).mono ?_
        rintro e w5 ⟨rfl, hb5⟩
        rw [H11]
        have zz5 := hb5.size
        have hbl5 : Below w.heap.size w w5 := hbl.trans (hb5.mono (by omega))
        have hx5 := hx.later hb5 (by omega)
        have bq := hx5
        obtain ⟨y0, y1, y2, y3⟩ := bq
        go_wp2_with fail
        refine (rcheck_big L a c _ (hD.below hbl5)).mono ?_
        rintro e w6 ⟨rfl, hb6⟩
        rw [H11]
        have zz6 := hb6.size
        have hbl6 : Below w.heap.size w w6 := hbl5.trans (hb6.mono (by omega))
        go_wp2_with fail
        refine (awake_any _ (hG.toGlobs.below hbl6)).mono ?_
        rintro e w8 ⟨rfl, hb8⟩
        go_wp2
        go_ret
        exact ⟨rfl, hbl6.trans (hb8.mono (by omega))⟩
end Go.Proofs.YtekcoddjdjllhaaDoor
