/- The shared statement of a method that nobody made: a bitmap index. (Printed by gennob.py.) A bitmap index: where an entry's bit stands. A bitmap index: Insert. A catalog's memory; going; each. -/
import Derived.Test.YtoejgkcaamkanaaGreatDoorQ13
import Derived.Test.YtoejgkcaamkanaaGreatDoorQ14
import Derived.BigQuiet
import Derived.BigRegion
import Derived.Test.YtoejgkcaamkanaaGreatDoorQ11
import Derived.Test.YtoejgkcaamkanaaGreatDoorShelf
import Derived.Deep.LoopGhost
set_option linter.unusedVariables false
set_option linter.unusedSimpArgs false
namespace Go.Proofs.YtoejgkcaamkanaaGreatDoor
open Go.RowKit

theorem en5 {w : World} {g : Nat} {k n : Int} {s : ByteArray} {a : Option Addr} {l c : Nat} {t : Int} (h : w.heap[g]? = some (enO k n s a l c t)) :
    w.cell? ⟨g, 0, none⟩ = some (.int .i64 k) ∧ w.cell? ⟨g, 1, none⟩ = some (.int .i64 n) ∧ w.cell? ⟨g, 2, none⟩ = some (.string s) ∧ w.cell? ⟨g, 3, none⟩ = some (.slice a l c) ∧ w.cell? ⟨g, 4, none⟩ = some (.int .i64 t) := by
  refine ⟨?_, ?_, ?_, ?_, ?_⟩ <;> (unfold World.cell?; rw [h]; rfl)

set_option maxRecDepth 100000 in
set_option maxHeartbeats 4000000 in
theorem noBmNobody {w : World} {v : Value} (h : NoBm w v) (k n : Int) (s : ByteArray) (a : Option Addr) (l c : Nat) (t : Int) :
    Calls Tryz.prog 26 #[.iface 27 v, env k n s a l c t] w fun e w' => e = .returned (.bool true) ∧ Below w.heap.size w w' := by
  have hb0 : Below w.heap.size w (w.alloc (enO k n s a l c t)) := by go_grown
  have hx0 := hnew w (enO k n s a l c t)
  have hlt0 : w.heap.size < (w.alloc (enO k n s a l c t)).heap.size := by simp
  have HC := Lib.hid (fun (W : World) (hb : Below (w.alloc (enO k n s a l c t)).heap.size (w.alloc (enO k n s a l c t)) W) => en5 ((hb.block w.heap.size hlt0).trans hx0))
  have HN := Lib.hid (fun (W : World) (hb : Below (w.alloc (enO k n s a l c t)).heap.size (w.alloc (enO k n s a l c t)) W) => (h.below hb0).below hb)
  obtain ⟨c0, c1, c2, c3, c4⟩ := en5 hx0
  have H0 := Lib.hid (And.intro hb0 (Below.refl (w.alloc (enO k n s a l c t)).heap.size (w.alloc (enO k n s a l c t))))
  clear hb0 hx0 hlt0 h
  go_enter Tryz.func26, Tryz.ntmps26

  go_wp2_with fail
  refine (noBmFind (HN.out _ H0.out.2) k n s a l c).mono ?_
  rintro e w1 ⟨rfl, hb1⟩
  have H1 := Lib.hid (And.intro H0.out.1 (H0.out.2.trans (hb1.mono H0.out.2.size)))
  obtain ⟨c0, c1, c2, c3, c4⟩ := HC.out _ H1.out.2
  clear hb1

  go_wp2_with fail
  refine (noBmInsert (HN.out _ H1.out.2) k n s a l c t).mono ?_
  rintro e w2 ⟨rfl, hb2⟩
  have H2 := Lib.hid (And.intro H0.out.1 (H1.out.2.trans (hb2.mono H1.out.2.size)))
  obtain ⟨c0, c1, c2, c3, c4⟩ := HC.out _ H2.out.2
  clear hb2

  go_wp2_with fail
  refine (noBmDelete (HN.out _ H2.out.2) k n s a l c t).mono ?_
  rintro e w3 ⟨rfl, hb3⟩
  have H3 := Lib.hid (And.intro H0.out.1 (H2.out.2.trans (hb3.mono H2.out.2.size)))
  obtain ⟨c0, c1, c2, c3, c4⟩ := HC.out _ H3.out.2
  clear hb3

  go_wp2_with fail
  refine (noBmEntries (HN.out _ H3.out.2) ).mono ?_
  rintro e w4 ⟨rfl, hb4⟩
  have H4 := Lib.hid (And.intro H0.out.1 (H3.out.2.trans (hb4.mono H3.out.2.size)))
  obtain ⟨c0, c1, c2, c3, c4⟩ := HC.out _ H4.out.2
  clear hb4

  go_wp2_with fail
  refine (noBmPages (HN.out _ H4.out.2) ).mono ?_
  rintro e w5 ⟨rfl, hb5⟩
  have H5 := Lib.hid (And.intro H0.out.1 (H4.out.2.trans (hb5.mono H4.out.2.size)))
  obtain ⟨c0, c1, c2, c3, c4⟩ := HC.out _ H5.out.2
  clear hb5

  go_wp2_with fail
  refine (noBmCheck (HN.out _ H5.out.2) ).mono ?_
  rintro e w6 ⟨rfl, hb6⟩
  have H6 := Lib.hid (And.intro H0.out.1 (H5.out.2.trans (hb6.mono H5.out.2.size)))
  obtain ⟨c0, c1, c2, c3, c4⟩ := HC.out _ H6.out.2
  clear hb6

  go_wp2_with fail
  refine (noBmDrop (HN.out _ H6.out.2) ).mono ?_
  rintro e w7 ⟨rfl, hb7⟩
  have H7 := Lib.hid (And.intro H0.out.1 (H6.out.2.trans (hb7.mono H6.out.2.size)))
  obtain ⟨c0, c1, c2, c3, c4⟩ := HC.out _ H7.out.2
  clear hb7

  go_wp2
  go_ret
  exact ⟨rfl, H7.out.1.trans (H7.out.2.mono (by simp))⟩
end Go.Proofs.YtoejgkcaamkanaaGreatDoor

namespace Go.Proofs.YtoejgkcaamkanaaGreatDoor
open Go.RowKit

def keyL (d : Da) (t : Nat) : List UInt8 := d.enc ++ [UInt8.ofNat (t / 65536 % 256), UInt8.ofNat (t / 256 % 256)]
def keyB (d : Da) (t : Nat) : ByteArray := ⟨(keyL d t).toArray⟩
def rowC (r : List UInt8) : Array Value := (Lib.byteCells r).toArray
def z32L : List UInt8 := List.replicate 32 0
theorem z32_row : z32 = rowC z32L := by kernel_rfl
def rowAt (L : List KV) (key : ByteArray) (i : Nat) : List UInt8 := if isAt L key i then (L.getD i ⟨⟨#[]⟩, ⟨#[]⟩⟩).v.data.toList else z32L

abbrev rowO (c : Array Value) : Obj := .cells c 77
set_option maxRecDepth 100000 in
set_option maxHeartbeats 2000000 in
theorem bmGo {bs : Nat} {B : Base bs} {w : World} {ba mb tb k : Nat} {F : Nat → Prop} {R : Raw} {L : List KV} (h : BIs B w ba mb tb k (bmO tb) F R L) :
    Calls Tryz.prog 40 #[.pointer (some ⟨mb, 0, none⟩)] w fun e w' => e = .returned (.int .i64 0) ∧ BStep B ba mb tb k (bmO tb) w F R L w' := by
  have HG := Lib.hid (h.m.Get ⟨#[120]⟩)
  have c0 : w.cell? ⟨mb, 0, none⟩ = some (.pointer (some ⟨tb, 0, none⟩)) := by unfold World.cell?; rw [h.m.m.meth]; rfl
  have H := Lib.hid h
  clear h
  go_enter Tryz.func40, Tryz.ntmps40
  go_wp2_with fail
  refine HG.out.mono ?_
  rintro e w1 ⟨i, hcut, rfl, hst⟩
  have HS := Lib.hid (H.out.step hst)
  clear hst hcut HG
  unfold gotR
  by_cases ha : isAt L ⟨#[120]⟩ i = true
  · rw [if_pos ha]
    clear ha
    go_wp2
    go_ret
    exact ⟨rfl, HS.out⟩
  · rw [if_neg ha]
    clear ha
    go_wp2
    go_ret
    exact ⟨rfl, HS.out⟩

theorem simple_may {d : Da} (hm : d.may = true) (h3 : d.k ≠ 3) : simpleB d.k d.n d.s d.l.length = true ∧ d.l = [] := by
  unfold Da.may at hm
  rw [if_neg h3] at hm
  refine ⟨hm, ?_⟩
  unfold simpleB at hm
  simp only [Bool.and_eq_true, decide_eq_true_eq] at hm
  exact List.length_eq_zero_iff.1 hm.1
theorem DaIs.any {w w' : World} {d : Da} {a : Option Addr} (h : DaIs w d a) (hl : d.l = []) : DaIs w' d a := ⟨.inl hl, h.n, h.l, h.s⟩

def twoB (t : Nat) : ByteArray := ⟨#[UInt8.ofNat (t / 65536 % 256), UInt8.ofNat (t / 256 % 256)]⟩
theorem key_two (d : Da) (t : Nat) : (⟨d.enc.toArray⟩ : ByteArray) ++ twoB t = keyB d t := by
  unfold keyB keyL twoB
  apply ByteArray.ext
  simp [ByteArray.data_append]
theorem conv_two (t : Nat) (ht : t < 16777216) (w : World) : (convert 84 9 (.slice (some ⟨w.heap.size, 0, none⟩) 2 2)).run Tryz.prog (w.alloc (.cells #[.int .u8 ((t : Int) / 256 / 256), .int .u8 ((t : Int) / 256 % 256)] 5)) = .ok (.string (twoB t)) (w.alloc (.cells #[.int .u8 ((t : Int) / 256 / 256), .int .u8 ((t : Int) / 256 % 256)] 5)) := by
  have e0 : ((UInt8.ofNat (t / 65536 % 256)).toNat : Int) = (t : Int) / 256 / 256 := by
    rw [UInt8.toNat_ofNat_of_lt' (by show t / 65536 % 256 < 256; omega)]
    omega
  have e1 : ((UInt8.ofNat (t / 256 % 256)).toNat : Int) = (t : Int) / 256 % 256 := by
    rw [UInt8.toNat_ofNat_of_lt' (by show t / 256 % 256 < 256; omega)]
    omega
  rw [← e0, ← e1]
  have := run_convert_bytes_arg (w.alloc (.cells #[.int .u8 (UInt8.ofNat (t / 65536 % 256)).toNat, .int .u8 (UInt8.ofNat (t / 256 % 256)).toNat] 5)) 84 5 Tryz.underlying84 Tryz.underlying5 w.heap.size 0 2 2 ([UInt8.ofNat (t / 65536 % 256), UInt8.ofNat (t / 256 % 256)].map fun b => (b.toNat : Int)) (by rfl) (fun i hi => by
    match i, hi with
    | 0, _ => go_simp
    | 1, _ => go_simp) 9 Tryz.underlying9
  rw [this, strOf_bytes]
  rfl
theorem rowC_size (r : List UInt8) : (rowC r).size = r.length := by simp [rowC, Lib.byteCells]
theorem rowC_one (r : List UInt8) : (rowC r).all (·.oneCell') = true := by
  rw [Array.all_eq_true_iff_forall_mem]
  intro v hv
  simp only [rowC, Lib.byteCells, List.mem_toArray, List.mem_map] at hv
  obtain ⟨b, _, rfl⟩ := hv
  rfl
/-- A text of 32 bytes, or none, over a row of noughts. -/
theorem copy_row {w : World} {g : Nat} (hg : w.heap[g]? = some (rowO z32)) (v : ByteArray) (r : List UInt8) (hv : (v.size = 32 ∧ r = v.data.toList) ∨ (v.size = 0 ∧ r = z32L)) :
    (Builtin.copy_ #[84, 9] 3 #[.slice (some ⟨g, 0, none⟩) 32 32, .string v]).run Tryz.prog w = .ok (goInt v.size) (w.setRow g (rowC r)) := by
  have hs : v.size ≤ 32 := by rcases hv with h | h <;> omega
  have := run_copy_str Tryz.prog w 84 9 3 5 g 0 32 32 v z32 77 (0, 0) Tryz.underlying84 (by have := info_u8; cases hq : Tryz.prog.info? 5 with | none => rw [hq] at this; cases this | some i => rw [hq] at this; simp at this; simp [this]) hg hs (by simpa using hs) (.inl rfl)
  have e : (splice z32.toList 0 (Lib.byteCells v.data.toList)).toArray = rowC r := by
    rw [z32_row]
    unfold rowC
    rw [List.toList_toArray]
    rcases hv with ⟨h1, h2⟩ | ⟨h1, h2⟩
    · subst h2
      have hl : (Lib.byteCells v.data.toList).length = 32 := by rw [byteCells_length]; simpa using h1
      have hz : (Lib.byteCells z32L).length = 32 := by rw [byteCells_length]; rfl
      unfold splice
      rw [hl, List.drop_eq_nil_of_le (by rw [hz]; omega)]
      simp
    · subst h2
      have he : v.data.toList = [] := by
        apply List.eq_nil_of_length_eq_zero
        simpa using h1
      rw [he]
      simp [splice, Lib.byteCells]
  rw [e] at this
  exact this

theorem got_row {L : List KV} {key : ByteArray} {i : Nat} (hv : ∀ x ∈ L, x.v.size = 32) : ∃ (v : ByteArray) (er : Int), gotR L key i = .tuple #[.string v, .int .i64 er] ∧ ((v.size = 32 ∧ rowAt L key i = v.data.toList) ∨ (v.size = 0 ∧ rowAt L key i = z32L)) := by
  unfold gotR rowAt
  by_cases ha : isAt L key i = true
  · rw [if_pos ha, if_pos ha]
    obtain ⟨hi, _⟩ := isAt_some ha
    refine ⟨_, _, rfl, .inl ⟨hv _ ?_, rfl⟩⟩
    rw [List.getD_eq_getElem?_getD, List.getElem?_eq_getElem hi]
    exact List.getElem_mem hi
  · rw [if_neg ha, if_neg ha]
    exact ⟨_, _, rfl, .inr ⟨rfl, rfl⟩⟩
theorem rowAt_len {L : List KV} {key : ByteArray} {i : Nat} (hv : ∀ x ∈ L, x.v.size = 32) : (rowAt L key i).length = 32 := by
  obtain ⟨v, er, _, ⟨h1, h2⟩ | ⟨h1, h2⟩⟩ := got_row (key := key) (i := i) hv
  · rw [h2]; simpa using h1
  · rw [h2]; rfl
def RowOf (w : World) (g : Nat) : Prop := ∃ c, w.heap[g]? = some (rowO c) ∧ c.size = 32
theorem info_row : (Tryz.prog.info? 77).map (·.size) = some 32 := by kernel_rfl

set_option maxRecDepth 100000 in
set_option maxHeartbeats 4000000 in
theorem bmPlace {bs : Nat} {B : Base bs} {w : World} {ba mb tb k : Nat} {F : Nat → Prop} {R : Raw} {L : List KV} (h : BIs B w ba mb tb k (bmO tb) F R L) (d : Da) (a : Option Addr) (c : Nat) (hd : DaIs w d a) (hm : d.may = true) (h3 : d.k ≠ 3)
    (t : Nat) (ht : t < 16777216) (hv : ∀ x ∈ L, x.v.size = 32) :
    Calls Tryz.prog 37 #[.pointer (some ⟨mb, 0, none⟩), env d.k d.n d.s a d.l.length c t] w fun e w' => ∃ i, Cut L (keyB d t) i ∧ e = .returned (.tuple #[.string (keyB d t), .agg (rowC (rowAt L (keyB d t) i)), .int .i64 0]) ∧ BStep B ba mb tb k (bmO tb) w F R L w' := by
  obtain ⟨w0, hw0⟩ : ∃ w0, w0 = ((w.alloc (enO d.k d.n d.s a d.l.length c t)).alloc (rowO z32)).alloc (rowO z32) := ⟨_, rfl⟩
  have hb0 : Below w.heap.size w w0 := by rw [hw0]; go_grown
  have hz0 : w0.heap.size = w.heap.size + 1 + 1 + 1 := by rw [hw0]; simp
  have hx0 : w0.heap[w.heap.size]? = some (enO d.k d.n d.s a d.l.length c t) := by
    rw [hw0]
    exact ((Below.heap_alloc _ _ _ (by simp; omega)).trans (Below.heap_alloc _ _ _ (by simp))).trans (hnew w _)
  have hy0 : w0.heap[w.heap.size + 1]? = some (rowO z32) := by
    have h1 := hnew (w.alloc (enO d.k d.n d.s a d.l.length c t)) (rowO z32)
    have e1 : (w.alloc (enO d.k d.n d.s a d.l.length c t)).heap.size = w.heap.size + 1 := by simp
    rw [e1] at h1
    rw [hw0]
    exact (Below.heap_alloc _ _ _ (by simp)).trans h1
  have hr0 : w0.heap[w.heap.size + 1 + 1]? = some (rowO z32) := by
    have h2 := hnew ((w.alloc (enO d.k d.n d.s a d.l.length c t)).alloc (rowO z32)) (rowO z32)
    have e2 : ((w.alloc (enO d.k d.n d.s a d.l.length c t)).alloc (rowO z32)).heap.size = w.heap.size + 1 + 1 := by simp
    rw [e2] at h2
    rw [hw0]
    exact h2
  have hnF : ∀ j, w.heap.size ≤ j → ¬ F j := fun j hj e => by have := h.m.m.act.1 _ e; omega
  have HG := bmGo (h.below hb0)
  rw [hw0] at HG
  have HGh := Lib.hid HG
  have hda : DaIs w d a ∧ d.l = [] := ⟨hd, (simple_may hm h3).2⟩
  have hel : d.enc.length ≤ 67 := by
    unfold Da.enc
    rw [if_neg h3]
    exact enc1_len (simple_may hm h3).1
  have hans : bmBytesAns d = .tuple #[.string ⟨d.enc.toArray⟩, .int .i64 0] := by unfold bmBytesAns; rw [if_pos hm, if_neg h3]
  have H := Lib.hid (And.intro hb0 (And.intro hz0 (And.intro hx0 (And.intro hy0 (And.intro hr0 (And.intro hnF (And.intro hda (And.intro hans (And.intro hv (And.intro h (And.intro hm h3)))))))))))
  have HW0 := Lib.hid hw0
  clear HG hb0 hz0 hx0 hy0 hr0 hnF hda hans hv hd hm h3 h hw0
  go_enter Tryz.func37, Tryz.ntmps37
  go_wp2_with fail
  refine HGh.out.mono ?_
  rw [← HW0.out]
  rintro e w1 ⟨rfl, hst⟩
  obtain ⟨hb0, hz0, hx0, hy0, hr0, hnF, hda, hans, hv, h, hm, h3⟩ := H.out
  have hx1 := hst.block hx0 (hnF _ (by omega))
  have hy1 := hst.block hy0 (hnF _ (by omega))
  have hr1 := hst.block hr0 (hnF _ (by omega))
  obtain ⟨F1, h1, hnF1, hthen⟩ := hst.next
  obtain ⟨c0, c1, c2, c3, c4⟩ := en5 hx1
  have ht0 : (0 : Int) ≤ (t : Int) := by omega
  have HB := bmBytes d a c w1 (hda.1.any hda.2) h1.G h1.h8
  rw [hans] at HB
  have HBh := Lib.hid HB
  have hn1 : ∀ j, w.heap.size ≤ j → j < w0.heap.size → ¬ F1 j := fun j hj hlt => hnF1 j hlt (hnF j hj)
  have hl1 : w.heap.size + 1 + 1 < w1.heap.size := (Array.getElem?_eq_some_iff.1 hr1).1
  have H1 := Lib.hid (And.intro hx1 (And.intro hy1 (And.intro hr1 (And.intro h1 (And.intro hn1 hthen)))))
  clear hst hx1 hy1 hr1 h1 hnF1 hthen hn1 HB hb0 hz0 hx0 hy0 hr0 hnF hda hans hv h hm h3
  go_wp2_with fail
  refine HBh.out.mono ?_
  rintro e w2 ⟨rfl, hb2⟩
  have hx2 := (hb2.block w.heap.size (by omega)).trans H1.out.1
  have hy2 := (hb2.block (w.heap.size + 1) (by omega)).trans H1.out.2.1
  have hr2 := (hb2.block (w.heap.size + 1 + 1) (by omega)).trans H1.out.2.2.1
  have h2 := H1.out.2.2.2.1.below hb2
  obtain ⟨c0, c1, c2, c3, c4⟩ := en5 hx2
  have hl2 : w.heap.size + 1 + 1 < w2.heap.size := (Array.getElem?_eq_some_iff.1 hr2).1
  have H2 := Lib.hid (And.intro hx2 (And.intro hy2 (And.intro hr2 (And.intro h2 hb2))))
  have hba : Below w2.heap.size w2 (w2.alloc (.cells #[.int .u8 ((t : Int) / 256 / 256), .int .u8 ((t : Int) / 256 % 256)] 5)) := by go_grown
  have hconv := conv_two t ht w2
  have hm3 : (w2.alloc (.cells #[.int .u8 ((t : Int) / 256 / 256), .int .u8 ((t : Int) / 256 % 256)] 5)).cell? ⟨mb, 0, none⟩ = some (.pointer (some ⟨tb, 0, none⟩)) := by
    have hmm := (hba.block mb h2.m.m.lt.1).trans h2.m.m.meth
    unfold World.cell?
    rw [hmm]
    rfl
  have H3 := Lib.hid (And.intro ((hba.block (w.heap.size + 1) (by omega)).trans hy2) (And.intro ((hba.block (w.heap.size + 1 + 1) (by omega)).trans hr2) (And.intro (h2.below hba) (hb2.trans (hba.mono hb2.size)))))
  clear hx2 hy2 hr2 h2 hb2 HBh hba
  obtain ⟨w3, hw3⟩ : ∃ w3, w3 = w2.alloc (.cells #[.int .u8 ((t : Int) / 256 / 256), .int .u8 ((t : Int) / 256 % 256)] 5) := ⟨_, rfl⟩
  have HW3 := Lib.hid hw3
  rw [← hw3] at H3
  have HGet := Lib.hid (H3.out.2.2.1.m.Get (keyB d t))
  have hkt := key_two d t
  have hts : (twoB t).size = 2 := rfl
  clear hw3
  go_wp2_with fail
  rw [← HW3.out]
  refine HGet.out.mono ?_
  rintro e w4 ⟨i, hcut, rfl, hst⟩
  obtain ⟨v, er, hgot, hrow⟩ := got_row (key := keyB d t) (i := i) H.out.2.2.2.2.2.2.2.2.1
  rw [hgot]
  obtain ⟨r, hr⟩ : ∃ r, rowAt L (keyB d t) i = r := ⟨_, rfl⟩
  rw [hr] at hrow
  have hrl : r.length = 32 := by rw [← hr]; exact rowAt_len H.out.2.2.2.2.2.2.2.2.1
  have hcs : (rowC r).size = 32 := by rw [rowC_size]; exact hrl
  have hy4 := hst.block H3.out.1 (H1.out.2.2.2.2.1 _ (by omega) (by have := H.out.2.1; omega))
  have hr4 := hst.block H3.out.2.1 (H1.out.2.2.2.2.1 _ (by omega) (by have := H.out.2.1; omega))
  have hcp := copy_row hr4 v r hrow
  obtain ⟨w5, hw5⟩ : ∃ w5, w5 = w4.setRow (w.heap.size + 1 + 1) (rowC r) := ⟨_, rfl⟩
  rw [← hw5] at hcp
  have ho5 : Off (· = w.heap.size + 1 + 1) w4 w5 := by rw [hw5]; exact setRow_off _ _ _
  have hr5 : w5.heap[w.heap.size + 1 + 1]? = some (rowO (rowC r)) := by rw [hw5]; exact setRow_heap _ _ _ _ _ _ hr4
  have hy5 : w5.heap[w.heap.size + 1]? = some (rowO z32) := (ho5.block _ (Array.getElem?_eq_some_iff.1 hy4).1 (fun e => by have e' : w.heap.size + 1 = w.heap.size + 1 + 1 := e; omega)).trans hy4
  have HS := Lib.hid (show BStep B ba mb tb k (bmO tb) (((w.alloc (enO d.k d.n d.s a d.l.length c t)).alloc (rowO z32)).alloc (rowO z32)) F R L w4 from by
    rw [← HW0.out]
    exact H1.out.2.2.2.2.2 w4 R L (BStep.old H3.out.2.2.2 (H3.out.2.2.1.step hst)))
  have HE := Lib.hid (And.intro hcut (And.intro hr (And.intro ho5 hcs)))
  have HYR := Lib.hid (And.intro hy5 hr5)
  clear hgot hrow hrl hcs hy4 hr4 hst ho5 hr5 hy5 hw5 hr hcut hkt hconv HGet hm3
  go_wp2
  refine wp_region_noPanic ?_
  refine wp_region_held_drew (S := (fun w' => RowOf w' (w.heap.size + 1) ∧ w'.heap[w.heap.size + 1 + 1]? = some (rowO (rowC r)))) (by kernel_rfl) ⟨⟨_, HYR.out.1, rfl⟩, HYR.out.2⟩ (fun hS => ?_)
  refine wpAnyH_take (i := 0) (v := ?_) rfl (by kernel_rfl) (by kernel_rfl) (by kernel_rfl) (fun _ _ _ h => h) (Or.inl ⟨by rfl, ?_⟩) hS ?_
  rotate_left
  · rintro w9 ⟨t0, t1⟩
    go_simp
    try with_reducible rfl
  try simp only [Act.put, List.getElem_toArray, List.getElem_cons_succ, List.getElem_cons_zero, List.setIfInBounds_toArray, List.set_cons_zero, List.set_cons_succ]
  refine wpAnyH_take (i := 2) (v := ?_) rfl (by kernel_rfl) (by kernel_rfl) (by kernel_rfl) (fun _ _ _ h => h) (Or.inl ⟨by rfl, ?_⟩) hS ?_
  rotate_left
  · rintro w9 ⟨t0, t1⟩
    go_simp
    try with_reducible rfl
  try simp only [Act.put, List.getElem_toArray, List.getElem_cons_succ, List.getElem_cons_zero, List.setIfInBounds_toArray, List.set_cons_zero, List.set_cons_succ]
  refine wpAnyH_ready (rs := [1]) (by kernel_rfl) (by simp) ?_
  refine AllReadyH.cons rfl (fun K hK => ?_) AllReadyH.nil
  refine step_loadRow rfl 77 _ rfl _ (rowC r) _ rfl hS.2 _ _ Tryz.underlying77 (by rw [info_row, HE.out.2.2.2]) ?_
  refine hK.out _ _ hS (fun _ => ?_)
  clear hK K
  try simp only [Act.put, List.getElem_toArray, List.getElem_cons_succ, List.getElem_cons_zero, List.setIfInBounds_toArray, List.set_cons_zero, List.set_cons_succ]
  refine wpAnyH_ready (rs := [3]) (by kernel_rfl) (by simp) ?_
  refine AllReadyH.cons rfl (fun K hK => ?_) AllReadyH.nil
  refine step_storeRow rfl 77 _ _ rfl _ z32 (rowC r) rfl rfl (show w5.drew.heap[w.heap.size + 1]? = some (rowO z32) from HYR.out.1) (by rw [info_row, HE.out.2.2.2]) (by rw [HE.out.2.2.2]; rfl) (rowC_one r) ?_
  have ho6 := setRow_off w5.drew (w.heap.size + 1) (rowC r)
  have hS4 := setRow_heap w5.drew (w.heap.size + 1) z32 (rowC r) _ _ (show w5.drew.heap[w.heap.size + 1]? = some (rowO z32) from HYR.out.1)
  have hS3 : RowOf (w5.drew.setRow (w.heap.size + 1) (rowC r)) (w.heap.size + 1) ∧ (w5.drew.setRow (w.heap.size + 1) (rowC r)).heap[w.heap.size + 1 + 1]? = some (rowO (rowC r)) := ⟨⟨_, hS4, HE.out.2.2.2⟩, (ho6.block (w.heap.size + 1 + 1) (Array.getElem?_eq_some_iff.1 hS.2).1 (fun e => by have e' : w.heap.size + 1 + 1 = w.heap.size + 1 := e; omega)).trans hS.2⟩
  refine hK.out _ _ hS3 (fun _ => ?_)
  clear hK K
  try simp only [Act.put, List.getElem_toArray, List.getElem_cons_succ, List.getElem_cons_zero, List.setIfInBounds_toArray, List.set_cons_zero, List.set_cons_succ]
  refine wpAnyH_take (i := 4) (v := ?_) rfl (by kernel_rfl) (by kernel_rfl) (by kernel_rfl) (fun _ _ _ h => h) (Or.inl ⟨by rfl, ?_⟩) hS3 ?_
  rotate_left
  · rintro w9 ⟨t0, t1⟩
    go_simp
    try with_reducible rfl
  try simp only [Act.put, List.getElem_toArray, List.getElem_cons_succ, List.getElem_cons_zero, List.setIfInBounds_toArray, List.set_cons_zero, List.set_cons_succ]
  refine wpAnyH_done (by kernel_rfl) ?_ _
  refine NoPanic.normal ?_
  go_wp2
  obtain ⟨hb0, hz0, hx0, hy0, hr0, hnF, hda, hans, hv, h, hm, h3⟩ := H.out
  refine bodyPost_ret (v := .tuple #[.string (keyB d t), .agg (rowC r), .int .i64 0]) ?_ rfl ⟨i, HE.out.1, by rw [HE.out.2.1], ?_⟩
  · exact (results_trt rfl rfl hS4 _ _ Tryz.underlying77 (by rw [info_row, HE.out.2.2.2])).trans rfl
  · have hS' := HS.out
    rw [← HW0.out] at hS'
    refine BStep.young (G := fun j => j = w.heap.size + 1 ∨ j = w.heap.size + 1 + 1) hb0 hS' ⟨h.m.lt.1, h.m.lt.2, h.h8⟩ ?_ ?_
    · exact ((HE.out.2.2.1.mono (fun j e => Or.inr e)).trans (Off.of_below ((Below.refl _ _).drew) (F := fun j => j = w.heap.size + 1 ∨ j = w.heap.size + 1 + 1)) (fun _ _ e => e)).trans (ho6.mono (fun j e => Or.inl e)) (fun _ _ e => e)
    · rintro j (rfl | rfl)
      · exact ⟨by omega, by omega, hnF _ (by omega)⟩
      · exact ⟨by omega, by omega, hnF _ (by omega)⟩
end Go.Proofs.YtoejgkcaamkanaaGreatDoor

namespace Go.Proofs.YtoejgkcaamkanaaGreatDoor
open Go.RowKit

theorem ofInt_u8 (a : UInt8) : BitVec.ofInt 8 (a.toNat : Int) = a.toBitVec := by
  apply BitVec.eq_of_toNat_eq
  rw [BitVec.toNat_ofInt]
  have := a.toNat_lt
  show ((a.toNat : Int) % ((2 ^ 8 : Nat) : Int)).toNat = a.toNat
  omega
theorem wrap_u8 (a : UInt8) : IntKind.u8.wrap ((a.toNat : Nat) : Int) = (a.toNat : Int) := by
  have := a.toNat_lt
  rw [IntKind.wrap_u8]
  omega
theorem u8_and (a b : UInt8) : bits .and .u8 (a.toNat : Int) (b.toNat : Int) = ((a &&& b).toNat : Int) := by
  show IntKind.u8.wrap (((BitVec.ofInt 8 (a.toNat : Int) &&& BitVec.ofInt 8 (b.toNat : Int)).toNat : Nat) : Int) = _
  rw [ofInt_u8, ofInt_u8]
  exact wrap_u8 (a &&& b)
theorem u8_or (a b : UInt8) : bits .or .u8 (a.toNat : Int) (b.toNat : Int) = ((a ||| b).toNat : Int) := by
  show IntKind.u8.wrap (((BitVec.ofInt 8 (a.toNat : Int) ||| BitVec.ofInt 8 (b.toNat : Int)).toNat : Nat) : Int) = _
  rw [ofInt_u8, ofInt_u8]
  exact wrap_u8 (a ||| b)

/-- Whether a first page comes. -/
def pageOf (L : List KV) : Int := if L = [] then 1 else 0
def bitOn (r : List UInt8) (t : Nat) : Bool := (r.getD (t % 256 / 8) 0 &&& bitB t) != 0
def setBit (r : List UInt8) (t : Nat) : List UInt8 := r.set (t % 256 / 8) (r.getD (t % 256 / 8) 0 ||| bitB t)
theorem bitOn_int (r : List UInt8) (t : Nat) : (bits .and .u8 ((r.getD (t % 256 / 8) 0).toNat : Int) ((bitB t).toNat : Int) != 0) = bitOn r t := by
  rw [u8_and]
  unfold bitOn
  generalize r.getD (t % 256 / 8) 0 &&& bitB t = x
  by_cases h : x = 0
  · subst h; rfl
  · have h1 : x.toNat ≠ 0 := fun e => h (UInt8.toNat_inj.1 (by simpa using e))
    have h2 : ((x.toNat : Nat) : Int) ≠ 0 := by omega
    rw [bne_iff_ne.2 h2, bne_iff_ne.2 h]
theorem row_cell {w : World} {g : Nat} {r : List UInt8} (h : w.heap[g]? = some (rowO (rowC r))) (i : Nat) (hi : i < r.length) : w.cell? ⟨g, i, none⟩ = some (.int .u8 ((r.getD i 0).toNat : Int)) ∧ w.frozen? ⟨g, i, none⟩ = false := by
  refine ⟨?_, ?_⟩
  · rw [cell_of_row w g i _ _ _ h]
    simp [rowC, Lib.byteCells, List.getD_eq_getElem?_getD, hi]
  · unfold World.frozen?; rw [h]; simp
theorem row_set {w : World} {g : Nat} {r : List UInt8} (h : w.heap[g]? = some (rowO (rowC r))) (i : Nat) (b : UInt8) : (w.setCell ⟨g, i, none⟩ (.int .u8 (b.toNat : Int))).heap[g]? = some (rowO (rowC (r.set i b))) := by
  rw [heap_set h]
  congr 2
  unfold rowC Lib.byteCells
  rw [List.map_set]
  simp
theorem row_str {w : World} {g : Nat} {r : List UInt8} (h : w.heap[g]? = some (rowO (rowC r))) (hl : r.length = 32) : (convert 84 9 (.slice (some ⟨g, 0, none⟩) 32 32)).run Tryz.prog w = .ok (.string ⟨r.toArray⟩) w := by
  have := run_convert_bytes_arg w 84 5 Tryz.underlying84 Tryz.underlying5 g 0 32 32 (r.map fun b => (b.toNat : Int)) (by simp [hl]) (fun i hi => by
    have hc := (row_cell h i (by omega)).1
    rw [show (0 + i) = i by omega]
    rw [hc]
    simp [List.getD, hl, hi]) 9 Tryz.underlying9
  rw [this, strOf_bytes]

theorem keyB_size (d : Da) (t : Nat) : (keyB d t).size = d.enc.length + 2 := by
  show (keyL d t).toArray.size = _
  simp [keyL]

set_option maxRecDepth 100000 in
set_option maxHeartbeats 4000000 in
theorem bmInsert {bs : Nat} {B : Base bs} {w : World} {ba mb tb k : Nat} {F : Nat → Prop} {R : Raw} {L : List KV} (h : BIs B w ba mb tb k (bmO tb) F R L) (d : Da) (a : Option Addr) (c : Nat) (hd : DaIs w d a) (hm : d.may = true) (h3 : d.k ≠ 3)
    (t : Nat) (ht : t < 16777216) (hv : ∀ x ∈ L, x.v.size = 32) (hfit : ∀ i, Cut L (keyB d t) i → ∀ v : ByteArray, v.size = 32 → (leafB (putL L i ⟨keyB d t, v⟩)).length ≤ 512) (hn : L.length + 1 < 256) (htot : R.total + 1 < 4096) :
    Calls Tryz.prog 10 #[.pointer (some ⟨mb, 0, none⟩), env d.k d.n d.s a d.l.length c t] w fun e w' => ∃ i, Cut L (keyB d t) i ∧
      ((bitOn (rowAt L (keyB d t) i) t = true ∧ e = .returned (.int .i64 160) ∧ BStep B ba mb tb k (bmO tb) w F R L w') ∨
       (bitOn (rowAt L (keyB d t) i) t = false ∧ e = .returned (.int .i64 0) ∧ ∃ R', R'.total ≤ R.total + pageOf L ∧ BStep B ba mb tb k (bmO tb) w F R' (putL L i ⟨keyB d t, ⟨(setBit (rowAt L (keyB d t) i) t).toArray⟩⟩) w')) := by
  have hb0 : Below w.heap.size w (w.alloc (enO d.k d.n d.s a d.l.length c t)) := by go_grown
  have hx0 := hnew w (enO d.k d.n d.s a d.l.length c t)
  have hlt0 : w.heap.size < (w.alloc (enO d.k d.n d.s a d.l.length c t)).heap.size := by simp
  have hnF : ∀ j, w.heap.size ≤ j → ¬ F j := fun j hj e => by have := h.m.m.act.1 _ e; omega
  have HP := Lib.hid (bmPlace (h.below hb0) d a c (hd.below hb0) hm h3 t ht hv)
  have H := Lib.hid (And.intro hb0 (And.intro hx0 (And.intro hlt0 (And.intro hnF (And.intro hv (And.intro hfit (And.intro h (And.intro hm h3))))))))
  have hel : d.enc.length ≤ 67 := by
    unfold Da.enc
    rw [if_neg h3]
    exact enc1_len (simple_may hm h3).1
  have HL := Lib.hid hel
  obtain ⟨c0, c1, c2, c3, c4⟩ := en5 hx0
  clear hb0 hx0 hlt0 hnF hv hfit hd hm h3 h hel
  go_enter Tryz.func10, Tryz.ntmps10
  go_wp2_with fail
  refine HP.out.mono ?_
  rintro e w1 ⟨i, hcut, rfl, hst⟩
  obtain ⟨hb0, hx0, hlt0, hnF, hv, hfit, h, hm, h3⟩ := H.out
  obtain ⟨r, hr⟩ : ∃ r, rowAt L (keyB d t) i = r := ⟨_, rfl⟩
  rw [hr]
  have hrl : r.length = 32 := by rw [← hr]; exact rowAt_len hv
  have hx1 := hst.block hx0 (hnF _ (Nat.le_refl _))
  obtain ⟨F1, h1, hnF1, hthen⟩ := hst.next
  have hb2 : Below w1.heap.size w1 (w1.alloc (rowO (rowC r))) := by go_grown
  have hl1 : w.heap.size < w1.heap.size := (Array.getElem?_eq_some_iff.1 hx1).1
  have hx2 := (hb2.block w.heap.size hl1).trans hx1
  obtain ⟨c0, c1, c2, c3, c4⟩ := en5 hx2
  have hr2 := hnew w1 (rowO (rowC r))
  have HBit := Lib.hid (bit_any t ht (w1.alloc (rowO (rowC r))))
  have H1 := Lib.hid (And.intro hcut (And.intro hr (And.intro hrl (And.intro h1 (And.intro (hnF1 _ hlt0 (hnF _ (Nat.le_refl _))) (And.intro hthen (And.intro hb2 (And.intro hx2 hr2))))))))
  have HI := Lib.hid (show (Tryz.prog.info? 77).map (·.size) = some (rowC r).size by rw [info_row, rowC_size, hrl])
  have HZ := Lib.hid (show z32.size = (rowC r).size by rw [rowC_size, hrl]; rfl)
  clear hcut hr hrl hx1 hst h1 hnF1 hthen hb2 hx2 hr2 HP hb0 hx0 hlt0 hnF hv hfit h hm h3
  go_wp2_with (first | (refine wpList_storeNew (w1 := w1) (by rfl) 77 _ _ (by rfl) z32 (rowC r) (by rfl) (by rfl) HI.out HZ.out (rowC_one r) ?_) | (fail))
  refine HBit.out.mono ?_
  rintro e w3 ⟨rfl, hb3⟩
  obtain ⟨hcut, hr, hrl, h1, hnF1, hthen, hb2, hx2, hr2⟩ := H1.out
  have hs2 : (w1.alloc (rowO (rowC r))).heap.size = w1.heap.size + 1 := by simp
  have hr3 := (hb3.block w1.heap.size (by omega)).trans hr2
  have hb13 : Below w1.heap.size w1 w3 := hb2.trans (hb3.mono (by omega))
  obtain ⟨at_, hat⟩ : ∃ q, t % 256 / 8 = q := ⟨_, rfl⟩
  have hlt : at_ < 32 := by omega
  obtain ⟨q0, q1⟩ := row_cell hr3 at_ (by omega)
  have htest := bitOn_int r t
  obtain ⟨x, hx⟩ : ∃ x, r.getD at_ 0 = x := ⟨_, rfl⟩
  rw [hat] at htest
  rw [hx] at htest q0
  rw [hat]
  have ha0 : (0 : Int) ≤ (at_ : Int) := by omega
  have ha1 : (at_ : Int) < 32 := by omega
  have hor := u8_or x (bitB t)
  have HQ := Lib.hid (And.intro hat (And.intro hx (And.intro hr3 hb13)))
  clear hcut hr hrl h1 hnF1 hthen hb2 hx2 hr2 hs2 hr3 hb13 hb3 hat hx HBit HI HZ
  cases hon : bitOn r t with
  | true =>
    rw [hon] at htest
    have HO := Lib.hid hon
    clear hon
    go_wp2
    go_ret
    obtain ⟨hcut, hr, hrl, h1, hnF1, hthen, hb2, hx2, hr2⟩ := H1.out
    refine ⟨i, hcut, ?_⟩
    rw [hr]
    exact .inl ⟨HO.out, rfl, BStep.old H.out.1 (hthen w3 R L ((BStep.refl h1).below HQ.out.2.2.2))⟩
  | false =>
    rw [hon] at htest
    have HO := Lib.hid hon
    clear hon
    obtain ⟨nb, hnb⟩ : ∃ nb, x ||| bitB t = nb := ⟨_, rfl⟩
    rw [hnb] at hor
    go_wp2
    obtain ⟨w4, hw4⟩ : ∃ w4, w4 = w3.setCell ⟨w1.heap.size, at_, none⟩ (.int .u8 (nb.toNat : Int)) := ⟨_, rfl⟩
    rw [← hw4]
    have hb14 : Below w1.heap.size w1 w4.drew := by rw [hw4]; exact (HQ.out.2.2.2.setCell (Nat.le_refl _) _).drew
    have hr4 : w4.heap[w1.heap.size]? = some (rowO (rowC (r.set at_ nb))) := by rw [hw4]; exact row_set HQ.out.2.2.1 at_ nb
    obtain ⟨hcut, hr, hrl, h1, hnF1, hthen, hb2, hx2, hr2⟩ := H1.out
    have hrl' : (r.set at_ nb).length = 32 := by rw [List.length_set]; exact hrl
    have h4 := h1.below hb14
    have hr4d : w4.drew.heap[w1.heap.size]? = some (rowO (rowC (r.set at_ nb))) := hr4
    have hs4 := row_str hr4d hrl'
    have hm4 : w4.drew.cell? ⟨mb, 0, none⟩ = some (.pointer (some ⟨tb, 0, none⟩)) := by unfold World.cell?; rw [h4.m.m.meth]; rfl
    have hvs : (⟨(r.set at_ nb).toArray⟩ : ByteArray).size = 32 := by show (r.set at_ nb).toArray.size = 32; simpa using hrl'
    have hxok : KV.ok ⟨keyB d t, ⟨(r.set at_ nb).toArray⟩⟩ := ⟨by rw [keyB_size]; have := HL.out; omega, by rw [hvs]; exact Nat.le_refl _⟩
    have HPut := Lib.hid (h4.m.Put ⟨keyB d t, ⟨(r.set at_ nb).toArray⟩⟩ hxok (by rw [keyB_size]; omega) i hcut (H.out.2.2.2.2.2.1 i hcut _ hvs) hn htot)
    have hgF : ¬ F1 w1.heap.size := fun e => by have := h1.m.m.act.1 _ e; omega
    have H4 := Lib.hid (And.intro h4 (And.intro hr4d (And.intro hrl' (And.intro hb14 hgF))))
    have hS0 := And.intro hm4 hs4
    clear hcut hr hrl h1 hnF1 hthen hb2 hx2 hr2 hw4 hb14 hr4 hrl' h4 hr4d hs4 hm4 hvs hxok hgF hor htest
    refine wp_region_noPanic ?_
    refine wp_region_held_drew (S := (fun w' => w'.cell? ⟨mb, 0, none⟩ = some (.pointer (some ⟨tb, 0, none⟩)) ∧ (convert 84 9 (.slice (some ⟨w1.heap.size, 0, none⟩) 32 32)).run Tryz.prog w' = .ok (.string ⟨(r.set at_ nb).toArray⟩) w')) (by kernel_rfl) hS0 (fun hS => ?_)
    refine wpAnyH_take (i := 0) (v := ?_) rfl (by kernel_rfl) (by kernel_rfl) (by kernel_rfl) (fun _ _ _ h => h) (Or.inl ⟨by rfl, ?_⟩) hS ?_
    rotate_left
    · rintro w9 ⟨t0, t1⟩
      go_simp
      try with_reducible rfl
    try simp only [Act.put, List.getElem_toArray, List.getElem_cons_succ, List.getElem_cons_zero, List.setIfInBounds_toArray, List.set_cons_zero, List.set_cons_succ]
    refine wpAnyH_take (i := 1) (v := ?_) rfl (by kernel_rfl) (by kernel_rfl) (by kernel_rfl) (fun _ _ _ h => h) (Or.inl ⟨by rfl, ?_⟩) hS ?_
    rotate_left
    · rintro w9 ⟨t0, t1⟩
      go_simp
      try with_reducible rfl
    try simp only [Act.put, List.getElem_toArray, List.getElem_cons_succ, List.getElem_cons_zero, List.setIfInBounds_toArray, List.set_cons_zero, List.set_cons_succ]
    refine wpAnyH_take (i := 2) (v := ?_) rfl (by kernel_rfl) (by kernel_rfl) (by kernel_rfl) (fun _ _ _ h => h) (Or.inl ⟨by rfl, ?_⟩) hS ?_
    rotate_left
    · rintro w9 ⟨t0, t1⟩
      go_simp
      try with_reducible rfl
    try simp only [Act.put, List.getElem_toArray, List.getElem_cons_succ, List.getElem_cons_zero, List.setIfInBounds_toArray, List.set_cons_zero, List.set_cons_succ]
    refine wpAnyH_take (i := 3) (v := ?_) rfl (by kernel_rfl) (by kernel_rfl) (by kernel_rfl) (fun _ _ _ h => h) (Or.inl ⟨by rfl, ?_⟩) hS ?_
    rotate_left
    · rintro w9 ⟨t0, t1⟩
      go_simp
      try with_reducible rfl
    try simp only [Act.put, List.getElem_toArray, List.getElem_cons_succ, List.getElem_cons_zero, List.setIfInBounds_toArray, List.set_cons_zero, List.set_cons_succ]
    refine wpAnyH_take (i := 4) (v := ?_) rfl (by kernel_rfl) (by kernel_rfl) (by kernel_rfl) (fun _ _ _ h => h) (Or.inl ⟨by rfl, ?_⟩) hS ?_
    rotate_left
    · rintro w9 ⟨t0, t1⟩
      go_simp
      try with_reducible rfl
    try simp only [Act.put, List.getElem_toArray, List.getElem_cons_succ, List.getElem_cons_zero, List.setIfInBounds_toArray, List.set_cons_zero, List.set_cons_succ]
    refine wpAnyH_take (i := 5) (v := ?_) rfl (by kernel_rfl) (by kernel_rfl) (by kernel_rfl) (fun _ _ _ h => h) (Or.inl ⟨by rfl, ?_⟩) hS ?_
    rotate_left
    · rintro w9 ⟨t0, t1⟩
      go_simp
      try with_reducible rfl
    try simp only [Act.put, List.getElem_toArray, List.getElem_cons_succ, List.getElem_cons_zero, List.setIfInBounds_toArray, List.set_cons_zero, List.set_cons_succ]
    refine wpAnyH_take (i := 6) (v := ?_) rfl (by kernel_rfl) (by kernel_rfl) (by kernel_rfl) (fun _ _ _ h => h) (Or.inl ⟨by rfl, ?_⟩) hS ?_
    rotate_left
    · rintro w9 ⟨t0, t1⟩
      go_simp
      try with_reducible rfl
    try simp only [Act.put, List.getElem_toArray, List.getElem_cons_succ, List.getElem_cons_zero, List.setIfInBounds_toArray, List.set_cons_zero, List.set_cons_succ]
    refine wpAnyH_ready (rs := [7]) (by kernel_rfl) (by simp) ?_
    refine AllReadyH.cons rfl (fun K hK => ?_) AllReadyH.nil
    go_simp
    refine HPut.out.mono ?_
    rintro e w5 ⟨rfl, R', hR', hroot, hst⟩
    have hr5 := hst.block H4.out.2.1 H4.out.2.2.2.2
    have hbs := H4.out.1.step hst
    have hm5 : w5.cell? ⟨mb, 0, none⟩ = some (.pointer (some ⟨tb, 0, none⟩)) := by
      have := hst.block H4.out.1.m.m.meth H4.out.1.m.m.mF
      unfold World.cell?
      rw [this]
      rfl
    have hS5 := And.intro hm5 (row_str hr5 H4.out.2.2.1)
    have H5 := Lib.hid (And.intro hR' hbs)
    clear hR' hroot hst hr5 hbs hm5
    refine hK.out _ _ hS5 (fun _ => ?_)
    clear hK K
    try simp only [Act.put, List.getElem_toArray, List.getElem_cons_succ, List.getElem_cons_zero, List.setIfInBounds_toArray, List.set_cons_zero, List.set_cons_succ]
    refine wpAnyH_take (i := 8) (v := ?_) rfl (by kernel_rfl) (by kernel_rfl) (by kernel_rfl) (fun _ _ _ h => h) (Or.inl ⟨by rfl, ?_⟩) hS5 ?_
    rotate_left
    · rintro w9 ⟨t0, t1⟩
      go_simp
      try with_reducible rfl
    try simp only [Act.put, List.getElem_toArray, List.getElem_cons_succ, List.getElem_cons_zero, List.setIfInBounds_toArray, List.set_cons_zero, List.set_cons_succ]
    refine wpAnyH_take (i := 9) (v := ?_) rfl (by kernel_rfl) (by kernel_rfl) (by kernel_rfl) (fun _ _ _ h => h) (Or.inl ⟨by rfl, ?_⟩) hS5 ?_
    rotate_left
    · rintro w9 ⟨t0, t1⟩
      go_simp
      try with_reducible rfl
    try simp only [Act.put, List.getElem_toArray, List.getElem_cons_succ, List.getElem_cons_zero, List.setIfInBounds_toArray, List.set_cons_zero, List.set_cons_succ]
    refine wpAnyH_take (i := 10) (v := ?_) rfl (by kernel_rfl) (by kernel_rfl) (by kernel_rfl) (fun _ _ _ h => h) (Or.inl ⟨by rfl, ?_⟩) hS5 ?_
    rotate_left
    · rintro w9 ⟨t0, t1⟩
      go_simp
      try with_reducible rfl
    try simp only [Act.put, List.getElem_toArray, List.getElem_cons_succ, List.getElem_cons_zero, List.setIfInBounds_toArray, List.set_cons_zero, List.set_cons_succ]
    refine wpAnyH_take (i := 11) (v := ?_) rfl (by kernel_rfl) (by kernel_rfl) (by kernel_rfl) (fun _ _ _ h => h) (Or.inl ⟨by rfl, ?_⟩) hS5 ?_
    rotate_left
    · rintro w9 ⟨t0, t1⟩
      go_simp
      try with_reducible rfl
    try simp only [Act.put, List.getElem_toArray, List.getElem_cons_succ, List.getElem_cons_zero, List.setIfInBounds_toArray, List.set_cons_zero, List.set_cons_succ]
    refine wpAnyH_done (by kernel_rfl) ?_ _
    refine NoPanic.normal ?_
    go_wp2
    go_ret
    obtain ⟨hcut, hr, hrl, h1, hnF1, hthen, hb2, hx2, hr2⟩ := H1.out
    have hsb : setBit r t = r.set at_ nb := by
      unfold setBit
      rw [HQ.out.1, HQ.out.2.1, hnb]
    refine ⟨i, hcut, ?_⟩
    rw [hr]
    refine .inr ⟨HO.out, rfl, R', H5.out.1, ?_⟩
    rw [hsb]
    exact BStep.old H.out.1 (hthen w5 R' _ (BStep.old H4.out.2.2.2.1 H5.out.2))
end Go.Proofs.YtoejgkcaamkanaaGreatDoor

namespace Go.Proofs.YtoejgkcaamkanaaGreatDoor
open Go.RowKit

section
variable {bs : Nat} {B : Base bs} {w w' : World} {gb ba tb : Nat} {F G : Nat → Prop} {R R' : Raw} {L L' : List KV}
end
/-- What a closure keeps, and which blocks are its own. -/
structure Clo (fn : Nat) (c : Value) (Ok : KV → Prop) (Inv : List KV → (Nat → Prop) → World → Prop) : Prop where
  enters : ∀ args w, (callFunc fn args).run Tryz.prog w = .ok (.enter fn args) w
  own : ∀ l G w, Inv l G w → ∀ k, G k → k < w.heap.size
  keep : ∀ l G w w', Inv l G w → (∀ k, G k → w'.heap[k]? = w.heap[k]?) → w.heap.size ≤ w'.heap.size → Inv l G w'
  does : ∀ l x G w, Inv l G w → Ok x → l.length < 256 → Calls Tryz.prog fn #[.string (x.k.extract 1 x.k.size), .string x.v, c] w fun e w' => e = .returned (.tuple #[]) ∧ ∃ G', Inv (l ++ [x]) G' w' ∧ (∀ k, k < w.heap.size → G' k → G k) ∧ Off G w w'
def pre (begin_ : ByteArray) (x : KV) : Bool := Lib.hasPrefix x.k.data.toList begin_.data.toList

section
variable {bs : Nat} {B : Base bs} {w : World} {gb ba tb : Nat} {F G : Nat → Prop} {R : Raw} {L : List KV} {fn : Nat} {c : Value} {Ok : KV → Prop} {Inv : List KV → (Nat → Prop) → World → Prop} {wr w' : World} {F' G' : Nat → Prop} {gx : Nat} {x : KV} {l : List KV}
end
def yv (L : List KV) (j : Nat) : KV := L.getD j ⟨⟨#[]⟩, ⟨#[]⟩⟩
theorem yv_at (L : List KV) (j : Nat) (h : j < L.length) : yv L j = L[j] := by
  rw [yv, List.getD_eq_getElem?_getD, List.getElem?_eq_getElem h]; rfl
theorem itemR_eq (L : List KV) (j : Nat) : itemR L[j]? = .tuple #[.agg #[.string (yv L j).k, .string (yv L j).v], .bool (decide (j < L.length))] := by
  by_cases h : j < L.length
  · rw [yv_at L j h, List.getElem?_eq_getElem h, decide_eq_true h]; rfl
  · rw [yv, List.getD_eq_getElem?_getD, List.getElem?_eq_none (by omega), decide_eq_false h]; rfl
theorem cb_self : ∀ l : List UInt8, Go.Lib.compareBytes l l = 0
  | [] => by simp [Go.Lib.compareBytes]
  | x :: l => by simp [Go.Lib.compareBytes, UInt8.lt_iff_toNat_lt, cb_self l]
/-- A key of the leaf stands at its own place. -/
theorem cut_own {L : List KV} (hs : Sorted L) {j i : Nat} (hj : j < L.length) (h : Cut L L[j].k i) : i = j ∧ isAt L L[j].k i = true := by
  have hself : cmpK L[j] L[j].k = 0 := cb_self _
  have e : i = j := by
    rcases Nat.lt_trichotomy i j with hl | he | hg
    · have h1 := h.hi i (by omega) (Nat.le_refl _)
      have := hs i j (by omega) hj hl
      unfold cmpK at h1
      omega
    · exact he
    · have := h.lo j hj hg
      omega
  subst e
  exact ⟨rfl, by rw [isAt, List.getElem?_eq_getElem hj]; simp [hself]⟩

end Go.Proofs.YtoejgkcaamkanaaGreatDoor
