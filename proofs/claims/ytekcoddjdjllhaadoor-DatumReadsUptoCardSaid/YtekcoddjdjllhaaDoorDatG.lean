/- datum.encode of whatever may be; Bytes. -/
import Derived.Test.YtekcoddjdjllhaaDoorDatF
namespace Go.Proofs.YtekcoddjdjllhaaDoor
open Go.RowKit

/-- The bytes of what is no list. -/
def enc1 (k n : Int) (s : ByteArray) : List UInt8 := if k = 1 then [1] ++ be8 n else [2] ++ esc s.data.toList ++ [0, 0]
def It.enc (x : It) : List UInt8 := enc1 x.k x.n x.s
/-- The bytes of a datum. -/
def Da.enc (d : Da) : List UInt8 := if d.k = 3 then [3, UInt8.ofNat d.l.length] ++ d.l.flatMap It.enc else enc1 d.k d.n d.s

theorem simple_kinds {k n : Int} {s : ByteArray} {l : Nat} (h : simpleB k n s l = true) : k = 1 ∨ (k = 2 ∧ s.size ≤ 32) := by
  simp only [simpleB, Bool.and_eq_true, Bool.or_eq_true, decide_eq_true_eq] at h
  rcases h.2 with h | h
  · exact .inl h.1
  · exact .inr ⟨h.1.1, h.2⟩

theorem enc1_len {k n : Int} {s : ByteArray} {l : Nat} (h : simpleB k n s l = true) : (enc1 k n s).length ≤ 67 := by
  rcases simple_kinds h with rfl | ⟨rfl, hs⟩
  · simp [enc1, be8_length]
  · have h1 := esc_len s.data.toList
    have h2 : s.data.toList.length = s.size := by simp
    simp only [enc1, List.length_append, List.length_cons, List.length_nil]
    rw [if_neg (by decide)]
    simp only [List.length_append, List.length_cons, List.length_nil]
    omega

theorem encode_simple (k n : Int) (s : ByteArray) (a : Option Addr) (ln c : Nat) (B : Nat) (v : Value) (l : List UInt8) (w : World) (hm : simpleB k n s ln = true) (hn : In64 n) (hG : GlobsM w) (hb : Buf w B v l) (hB : B ≤ w.heap.size) (hB8 : 8 ≤ B) (hlen : l.length ≤ 17592186044416) :
    Calls Tryd.prog 38 #[v, dv k n s a ln c] w (PutPost B w (l ++ enc1 k n s)) := by
  rcases simple_kinds hm with rfl | ⟨rfl, hs⟩
  · have := encode_int n s a ln c B v l w hb hB hlen hn
    rw [List.append_assoc] at this
    exact this
  · have := encode_text n s a ln c B v l w hG hb hB hB8 hlen hs
    rw [List.append_assoc, List.append_assoc] at this
    simpa [enc1] using this

theorem put_simple (k n : Int) (s : ByteArray) (a : Option Addr) (ln c : Nat) (B : Nat) (v : Value) (l : List UInt8) (w : World) (hm : simpleB k n s ln = true) (hn : In64 n) (hb : Buf w B v l) (hB : B ≤ w.heap.size) (hlen : l.length ≤ 17592186044416) :
    Calls Tryd.prog 55 #[v, dv k n s a ln c] w (PutPost B w (l ++ enc1 k n s)) := by
  rcases simple_kinds hm with rfl | ⟨rfl, hs⟩
  · have := put_int n s a ln c B v l w hb hB hlen hn
    rw [List.append_assoc] at this
    exact this
  · have := put_text n s a ln c B v l w hb hB hlen hs
    rw [List.append_assoc, List.append_assoc] at this
    simpa [enc1] using this

/-- A list's items that may be. -/
theorem may_items {d : Da} (h : d.may = true) (h3 : d.k = 3) : d.n = 0 ∧ d.s = ⟨#[]⟩ ∧ d.l.length ≤ 8 ∧ ∀ j (hj : j < d.l.length), d.l[j].may = true := by
  simp only [Da.may, h3, if_true, Bool.and_eq_true, decide_eq_true_eq, List.isEmpty_iff, List.all_eq_true] at h
  exact ⟨h.1.1.1, isEmpty_of h.1.1.2, h.1.2, fun j hj => h.2 _ (List.getElem_mem hj)⟩

theorem items_len (l : List It) (h : ∀ j (hj : j < l.length), l[j].may = true) (j : Nat) : ((l.take j).flatMap It.enc).length ≤ 67 * l.length := by
  induction l generalizing j with
  | nil => simp
  | cons x l ih =>
    cases j with
    | zero => simp
    | succ j =>
      have h0 : (It.enc x).length ≤ 67 := enc1_len (k := x.k) (n := x.n) (s := x.s) (l := x.ln) (h 0 (by simp))
      have := ih (fun i hi => h (i + 1) (by simp; omega)) j
      simp only [List.take_succ_cons, List.flatMap_cons, List.length_append, List.length_cons]
      omega

theorem items_step {w : World} {B : Nat} {v : Value} {l : List UInt8} {L : List It} {j : Nat} (hj : j < L.length) (h : Buf w B v (l ++ (L.take j).flatMap It.enc ++ L[j].enc)) : Buf w B v (l ++ (L.take (j + 1)).flatMap It.enc) := by
  rw [List.take_succ_eq_append_getElem hj, List.flatMap_append]
  simpa using h

set_option maxRecDepth 100000 in
set_option maxHeartbeats 2000000 in
theorem encode_list (L : List It) (a : Option Addr) (c : Nat) (B : Nat) (v : Value) (l : List UInt8) (w : World) (h8 : L.length ≤ 8) (hm : ∀ j (hj : j < L.length), L[j].may = true) (hG : GlobsM w) (hb : Buf w B v l) (hB : B ≤ w.heap.size) (hB8 : 8 ≤ B)
    (hlen : l.length ≤ 17592186040000) (hr : RowIs w a L) (ha : ∀ b off, 0 < L.length → a = some ⟨b, off, none⟩ → b < B) :
    Calls Tryd.prog 38 #[v, dv 3 0 ⟨#[]⟩ a L.length c] w (PutPost B w (l ++ ([3, UInt8.ofNat L.length] ++ L.flatMap It.enc))) := by
  have hx : IntKind.u8.wrap (L.length : Int) = ((UInt8.ofNat L.length).toNat : Int) := by
    rw [IntKind.wrap_u8', UInt8.toNat_ofNat']; omega
  have hx' : (L.length : Int) = ((UInt8.ofNat L.length).toNat : Int) := by
    rw [UInt8.toNat_ofNat']; omega
  have HX := Lib.hid hx
  have HX' := Lib.hid hx'
  clear hx hx'
  go_enter Tryd.func38, Tryd.ntmps38
  go_wp2_with (at_builtin; go_must (refine wp_app2 rfl (.tmp 46) (.tmp 51) rfl B v l rfl (hb.alloc _) _ _ 3 (UInt8.ofNat L.length) rfl (by first | exact HX.out | exact HX'.out) _ 2 rfl (by simp) (by omega) (by simp; omega) ?_); intro v1 w1 hb1 hbl1 hg1 hz1; have hk1 := (hb.alloc (.cells #[.int .i64 3, .int .i64 0, .string ⟨#[]⟩, .slice a L.length c] 24)).keep hg1 (heap_alloc_new w _) rfl; have hcN : w1.cell? ⟨w.heap.size, 3, none⟩ = some (.slice a L.length c) := (by rw [Lib.cell_of_heap hk1]; rfl))
  simp only [World.size_alloc] at hz1
  have hbase : Below B w w1 := ((Below.refl B w).alloc hB _).trans hbl1
  go_loopw [0, 56] (fun o k wr => ∃ j : Nat, j ≤ L.length ∧ k = .int .i64 j ∧ Buf wr B o (l ++ [3, UInt8.ofNat L.length] ++ (L.take j).flatMap It.enc) ∧ Below B w wr ∧ B ≤ wr.heap.size) (fun _ k _ => L.length - (intOf k).toNat)
  case atStart => exact ⟨0, Nat.zero_le _, rfl, by simpa using hb1, hbase, by omega⟩
  case round =>
    obtain ⟨j, hj, rfl, hb2, hbl2, hz2⟩ := hrel
    by_cases hlt : j < L.length
    · obtain ⟨b, off, a', c', rfl, g0, g1, g2, g3, _, _, hn⟩ := hr.at_ j hlt
      have hab := ha _ _ (by omega) rfl
      have q0 := (hbl2.cell (p := ⟨b, off + j * 4, none⟩) hab).trans g0
      have q1 := (hbl2.cell (p := ⟨b, off + j * 4 + 1, none⟩) hab).trans g1
      have q2 := (hbl2.cell (p := ⟨b, off + j * 4 + 2, none⟩) hab).trans g2
      have q3 := (hbl2.cell (p := ⟨b, off + j * 4 + 3, none⟩) hab).trans g3
      have hG2 : GlobsM wr := hG.belowB hbl2 hB8
      have hm' : simpleB L[j].k L[j].n L[j].s L[j].ln = true := hm j hlt
      have HL := items_len L hm j
      clear g0 g1 g2 g3
      go_wp2_with fail
      refine (encode_simple L[j].k L[j].n L[j].s a' L[j].ln c' B u0 (l ++ [3, UInt8.ofNat L.length] ++ (L.take j).flatMap It.enc) _ hm' hn ((hG2.below (by go_grown))) (hb2.alloc _) (by simp; omega) hB8 (by simp only [List.length_append, List.length_cons, List.length_nil]; omega)).mono ?_
      rintro e w3 ⟨v3, rfl, hb3, hbl3⟩
      have hz3 := hbl3.size
      simp only [World.size_alloc] at hz3
      go_wp2
      go_roundw
      case rel => exact ⟨j + 1, by omega, by go_num, items_step hlt hb3, (hbl2.alloc (by omega) _).trans hbl3, by omega⟩
      case measure => simp [intOf]; omega
    · go_wp2
      go_ret
      exact ⟨u0, rfl, by rw [List.take_of_length_le (by omega), List.append_assoc] at hb2; exact hb2, hbl2⟩

theorem encode_any (d : Da) (a : Option Addr) (c : Nat) (B : Nat) (v : Value) (l : List UInt8) (w : World) (hm : d.may = true) (hn : In64 d.n) (hG : GlobsM w) (hb : Buf w B v l) (hB : B ≤ w.heap.size) (hB8 : 8 ≤ B)
    (hlen : l.length ≤ 17592186040000) (hr : RowIs w a d.l) (ha : ∀ b off, 0 < d.l.length → a = some ⟨b, off, none⟩ → b < B) :
    Calls Tryd.prog 38 #[v, dv d.k d.n d.s a d.l.length c] w (PutPost B w (l ++ d.enc)) := by
  by_cases h3 : d.k = 3
  · obtain ⟨h0, hs, h8, hit⟩ := may_items hm h3
    have := encode_list d.l a c B v l w h8 hit hG hb hB hB8 hlen hr ha
    simpa [Da.enc, h3, h0, hs] using this
  · have hm' : simpleB d.k d.n d.s d.l.length = true := by simpa [Da.may, h3] using hm
    have := encode_simple d.k d.n d.s a d.l.length c B v l w hm' hn hG hb hB hB8 (by omega)
    simpa [Da.enc, h3] using this

structure DaIs (w : World) (d : Da) (a : Option Addr) : Prop where
  row : RowIs w a d.l
  n : In64 d.n
  l : d.l.length ≤ 140737488351232
  s : d.s.size ≤ 140737488351232

theorem DaIs.below {w w1 : World} {d : Da} {a : Option Addr} (h : DaIs w d a) (hb : Below w.heap.size w w1) : DaIs w1 d a := ⟨h.row.below hb, h.n, h.l, h.s⟩

theorem RowIs.lt {w : World} {a : Option Addr} {l : List It} (h : RowIs w a l) (b off : Nat) (hl : 0 < l.length) (ha : a = some ⟨b, off, none⟩) : b < w.heap.size := by
  obtain ⟨b', off', a', c', ha', g0, _⟩ := h.at_ 0 hl
  rw [ha] at ha'
  simp only [Option.some.injEq, Addr.mk.injEq] at ha'
  obtain ⟨rfl, rfl, _⟩ := ha'
  exact World.block_lt_of_cell? w _ g0

def bytesAns (d : Da) : Value := if d.may then .tuple #[.string ⟨d.enc.toArray⟩, .int .i64 0] else .tuple #[.string ⟨#[]⟩, .int .i64 11]

set_option maxRecDepth 100000 in
theorem bytes_any (d : Da) (a : Option Addr) (c : Nat) (w : World) (hd : DaIs w d a) (hG : GlobsM w) (h16 : 8 ≤ w.heap.size) :
    Calls Tryd.prog 18 #[dv d.k d.n d.s a d.l.length c] w fun e w' => e = .returned (bytesAns d) ∧ Below w.heap.size w w' := by
  by_cases hm : d.may = true
  · have HA := Lib.hid (show bytesAns d = .tuple #[.string ⟨d.enc.toArray⟩, .int .i64 0] by simp [bytesAns, hm])
    go_enter Tryd.func18, Tryd.ntmps18
    go_wp2_with fail
    refine (check_any d a c _ (hd.row.below (by go_grown)) hd.l).mono ?_
    rintro e w1 ⟨rfl, hb1⟩
    rw [hm, if_pos rfl]
    obtain ⟨hc1, hf1⟩ := bcell hb1
    simp only [World.size_alloc] at hc1 hf1
    have hz1 : w.heap.size < w1.heap.size := by have := hb1.size; simp at this; omega
    have hb01 : Below w.heap.size w w1 := ((Below.refl w.heap.size w).alloc (Nat.le_refl _) _).trans (hb1.mono (by simp))
    have HM := Lib.hid hm
    clear hm
    go_wp2_with fail
    refine (encode_any d a c w1.heap.size (.slice none 0 0) [] _ HM.out hd.n (hG.below hb01) (Buf.nil _ _) (Nat.le_refl _) (by omega) (by simp) (hd.row.below hb01) (fun b off hl ha => by have := (hd.row.below hb01).lt b off hl ha; omega)).mono ?_
    rintro e w2 ⟨v2, rfl, hb2, hbl2⟩
    have hs2 := hb2.string
    go_wp2
    go_ret2
    exact ⟨ret_val HA.out.symm, hb01.trans (hbl2.mono (by omega))⟩
  · have HA := Lib.hid (show bytesAns d = .tuple #[.string ⟨#[]⟩, .int .i64 11] by simp [bytesAns, hm])
    go_enter Tryd.func18, Tryd.ntmps18
    go_wp2_with fail
    refine (check_any d a c _ (hd.row.below (by go_grown)) hd.l).mono ?_
    rintro e w1 ⟨rfl, hb1⟩
    rw [if_neg hm]
    go_wp2
    go_ret2
    exact ⟨ret_val HA.out.symm, ((Below.refl w.heap.size w).alloc (Nat.le_refl _) _).trans (hb1.mono (by simp))⟩
end Go.Proofs.YtekcoddjdjllhaaDoor
