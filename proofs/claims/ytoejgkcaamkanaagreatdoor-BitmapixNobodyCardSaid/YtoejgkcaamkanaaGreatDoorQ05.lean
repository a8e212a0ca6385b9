/- Where a key stands among items. A tree's leaf is read. Sorted items; where a key stands in a node. -/
import Derived.Test.YtoejgkcaamkanaaGreatDoorQ04
set_option linter.unusedVariables false
set_option linter.unusedSimpArgs false
namespace Go.Proofs.YtoejgkcaamkanaaGreatDoor
open Go.RowKit

def cmpK (x : KV) (key : ByteArray) : Int := Go.Lib.compareBytes x.k.data.toList key.data.toList
/-- Items as they lie. -/
def ItemsR (w : World) (A : Option Addr) (L : List KV) : Prop := L = [] ∨ ∃ b off, A = some ⟨b, off, none⟩ ∧ ∀ i (h : i < L.length), w.cell? ⟨b, off + i * 2, none⟩ = some (.string L[i].k) ∧ w.cell? ⟨b, off + i * 2 + 1, none⟩ = some (.string L[i].v)
theorem ItemsR.below {w w' : World} {A : Option Addr} {L : List KV} (h : ItemsR w A L) (hb : Below w.heap.size w w') : ItemsR w' A L := by
  rcases h with h | ⟨b, off, ha, h⟩
  · exact .inl h
  · exact .inr ⟨b, off, ha, fun i hi => ⟨(hb.cell (World.block_lt_of_cell? w _ (h i hi).1)).trans (h i hi).1, (hb.cell (World.block_lt_of_cell? w _ (h i hi).2)).trans (h i hi).2⟩⟩
theorem Items.read {w : World} {B n c : Nat} {A : Option Addr} {L : List KV} (h : Items w B (.slice A n c) L) : ItemsR w A L := by
  by_cases h0 : L = []
  · exact .inl h0
  · have hp : 0 < L.length := List.length_pos_iff.2 h0
    cases A with
    | none =>
      rcases h.2 with ⟨e, e0⟩ | ⟨g, cap, cur, e, _⟩
      · exact absurd (List.eq_nil_of_length_eq_zero e0) h0
      · cases e
    | some a =>
      obtain ⟨g, o, sp⟩ := a
      rcases h.2 with ⟨e, e0⟩ | ⟨g', cap, cur, e, _⟩
      · exact absurd (List.eq_nil_of_length_eq_zero e0) h0
      · simp only [Value.slice.injEq, Option.some.injEq, Addr.mk.injEq] at e
        obtain ⟨⟨rfl, rfl, rfl⟩, rfl, rfl⟩ := e
        exact .inr ⟨g, 0, rfl, fun i hi => by
          obtain ⟨_, _, h1, h2, _⟩ := h.cells i hi
          exact ⟨by simpa using h1, by simpa using h2⟩⟩

set_option maxHeartbeats 1000000 in
theorem findc_any (x : KV) (key : ByteArray) (w : World) :
    Calls Tryz.prog 177 #[.agg #[.string x.k, .string x.v], .string key] w fun e w' => e = .returned (.int .i64 (cmpK x key)) ∧ Below w.heap.size w w' := by
  have HC := Lib.hid (Tryz.strings_Compare x.k key (w.alloc (itemO x)))
  go_enter Tryz.func177, Tryz.ntmps177
  go_wp2_with fail
  refine HC.out.mono ?_
  rintro e w1 ⟨rfl, rfl⟩
  go_wp2
  go_ret
  exact ⟨rfl, by go_grown⟩

def isAt (L : List KV) (key : ByteArray) (i : Nat) : Bool := match L[i]? with
  | some x => decide (cmpK x key = 0)
  | none => false
/-- i of the items are below a key. -/
structure Cut (L : List KV) (key : ByteArray) (i : Nat) : Prop where
  le : i ≤ L.length
  lo : ∀ t (h : t < L.length), t < i → cmpK L[t] key < 0
  hi : ∀ t (h : t < L.length), i ≤ t → 0 ≤ cmpK L[t] key

set_option maxRecDepth 100000 in
set_option maxHeartbeats 2000000 in
theorem search_any (L : List KV) (key : ByteArray) (A : Option Addr) (c : Nat) (w : World) (h : ItemsR w A L) (hn : L.length ≤ 1099511627776) (hmono : ∀ s t (hs : s < L.length) (ht : t < L.length), s ≤ t → cmpK L[t] key < 0 → cmpK L[s] key < 0) :
    Calls Tryz.prog 176 #[.slice A L.length c, .string key, .func (.func 177) #[] #[]] w fun e w' => ∃ i : Nat, e = .returned (.tuple #[.int .i64 i, .bool (isAt L key i)]) ∧ Cut L key i ∧ Below w.heap.size w w' := by
  go_enter Tryz.func176, Tryz.ntmps176
  go_wp2
  go_loopw [9, 10] (fun i j wr => ∃ a b : Nat, a ≤ b ∧ b ≤ L.length ∧ i = .int .i64 a ∧ j = .int .i64 b ∧ (∀ t (h : t < L.length), t < a → cmpK L[t] key < 0) ∧ (∀ t (h : t < L.length), b ≤ t → 0 ≤ cmpK L[t] key) ∧ Below w.heap.size w wr) (fun i j _ => (intOf j).toNat - (intOf i).toNat)
  case atStart => exact ⟨0, L.length, Nat.zero_le _, Nat.le_refl _, rfl, rfl, fun t _ h => by omega, fun t h h' => by omega, Below.refl _ _⟩
  case round =>
    obtain ⟨a, b, hab, hb, rfl, rfl, hlo, hhi, hbel⟩ := hrel
    have HH := Lib.hid (And.intro hlo (And.intro hhi hbel))
    clear hlo hhi hbel
    by_cases hlt : a < b
    · have hm1 : a ≤ (a + b) / 2 ∧ (a + b) / 2 < b := by omega
      rcases h.below HH.out.2.2 with h0 | ⟨g, off, rfl, hc⟩
      · subst h0; simp at hb; omega
      · obtain ⟨k0, k1⟩ := hc ((a + b) / 2) (by omega)
        have HC := Lib.hid (findc_any (L[(a + b) / 2]'(by omega)) key wr)
        have HM := Lib.hid (And.intro (fun t (ht : t < L.length) (hle : t ≤ (a + b) / 2) => hmono t ((a + b) / 2) ht (by omega) hle) (fun t (ht : t < L.length) (hle : (a + b) / 2 ≤ t) => hmono ((a + b) / 2) t (by omega) ht hle))
        generalize hx : (L[(a + b) / 2]'(by omega)) = x at *
        have HX := Lib.hid hx
        clear hc hx
        have h5 : ((a : Int) + (b : Int)) / 2 = (((a + b) / 2 : Nat) : Int) := by omega
        have H5 := Lib.hid h5
        clear h5
        go_wp2_with fail
        refine HC.out.mono ?_
        rintro e w2 ⟨rfl, hb2⟩
        have hbw := HH.out.2.2.trans (hb2.mono HH.out.2.2.size)
        by_cases hneg : cmpK x key < 0
        · have hall : ∀ t (h : t < L.length), t < (a + b) / 2 + 1 → cmpK L[t] key < 0 := fun t ht hlt' => HM.out.1 t ht (by omega) (by rw [HX.out]; exact hneg)
          have HA := Lib.hid (And.intro hall hbw)
          clear hall hbw hb2
          go_wp2
          go_roundw
          case rel => exact ⟨(a + b) / 2 + 1, b, by omega, hb, by rw [H5.out]; go_num, rfl, HA.out.1, HH.out.2.1, HA.out.2⟩
          case measure => rw [H5.out]; simp [intOf]; omega
        · have hall : ∀ t (h : t < L.length), (a + b) / 2 ≤ t → 0 ≤ cmpK L[t] key := fun t ht hle => by
            by_cases h9 : cmpK L[t] key < 0
            · exact absurd (HM.out.2 t ht hle h9) (by rw [HX.out]; exact hneg)
            · omega
          have HA := Lib.hid (And.intro hall hbw)
          clear hall hbw hb2
          go_wp2
          go_roundw
          case rel => exact ⟨a, (a + b) / 2, by omega, by omega, rfl, by rw [H5.out], HH.out.1, HA.out.1, HA.out.2⟩
          case measure => rw [H5.out]; simp [intOf]; omega
    · obtain rfl : a = b := by omega
      have HCut := Lib.hid (show Cut L key a from ⟨hb, HH.out.1, HH.out.2.1⟩)
      by_cases hend : a < L.length
      · rcases h.below HH.out.2.2 with h0 | ⟨g, off, rfl, hc⟩
        · subst h0; simp at hend
        · obtain ⟨k0, k1⟩ := hc a hend
          have HI := Lib.hid (show isAt L key a = decide (cmpK L[a] key = 0) from by rw [isAt, List.getElem?_eq_getElem hend])
          have HC := Lib.hid (findc_any L[a] key wr)
          generalize L[a] = x at *
          clear hc
          go_wp2_with fail
          refine HC.out.mono ?_
          rintro e w2 ⟨rfl, hb2⟩
          have HA := Lib.hid (HH.out.2.2.trans (hb2.mono HH.out.2.2.size))
          clear hb2
          go_wp2
          go_ret2
          refine ⟨a, ret_two rfl ?_, HCut.out, HA.out⟩
          rw [HI.out]
          rfl
      · have HI := Lib.hid (show isAt L key a = false from by rw [isAt, List.getElem?_eq_none (by omega)])
        go_wp2
        go_ret2
        exact ⟨a, ret_two rfl (by rw [HI.out]; rfl), HCut.out, HH.out.2.2⟩
end Go.Proofs.YtoejgkcaamkanaaGreatDoor

namespace Go.Proofs.YtoejgkcaamkanaaGreatDoor
open Go.RowKit

abbrev treeO (ba root : Nat) : Obj := .cells #[.pointer (some ⟨ba, 0, none⟩), .int .i64 root] 154
abbrev nodeO (leaf : Bool) (v k : Value) : Obj := .cells #[.bool leaf, v, k] 161
theorem tree2 {w : World} {g ba root : Nat} (h : w.heap[g]? = some (treeO ba root)) : w.cell? ⟨g, 0, none⟩ = some (.pointer (some ⟨ba, 0, none⟩)) ∧ w.cell? ⟨g, 1, none⟩ = some (.int .i64 root) := by
  refine ⟨?_, ?_⟩ <;> (unfold World.cell?; rw [h]; rfl)
theorem node3 {w : World} {g : Nat} {leaf : Bool} {v k : Value} (h : w.heap[g]? = some (nodeO leaf v k)) : w.cell? ⟨g, 0, none⟩ = some (.bool leaf) ∧ w.cell? ⟨g, 1, none⟩ = some v ∧ w.cell? ⟨g, 2, none⟩ = some k ∧ ∀ i, w.frozen? ⟨g, i, none⟩ = false := by
  refine ⟨?_, ?_, ?_, fun i => ?_⟩
  · unfold World.cell?; rw [h]; rfl
  · unfold World.cell?; rw [h]; rfl
  · unfold World.cell?; rw [h]; rfl
  · unfold World.frozen?; rw [h]; simp
/-- Where the j-th item's bytes begin. -/
def offs (L : List KV) (j : Nat) : Nat := 2 + ((L.take j).flatMap itemB).length
theorem leaf_head (L : List KV) (hl : L.length < 256) : (pageL (leafB L)).getD 0 0 = 1 ∧ ((pageL (leafB L)).getD 1 0).toNat = L.length := by
  refine ⟨rfl, ?_⟩
  show (UInt8.ofNat L.length).toNat = _
  rw [UInt8.toNat_ofNat_of_lt' (by show L.length < 256; omega)]
theorem drop_leaf (L : List KV) (j : Nat) (h : j < L.length) : (pageL (leafB L)).drop (offs L j) = itemB L[j] ++ ((L.drop (j + 1)).flatMap itemB ++ List.replicate (512 - (leafB L).length) 0) := by
  have e : L = L.take j ++ L[j] :: L.drop (j + 1) := by
    rw [List.getElem_cons_drop, List.take_append_drop]
  have e2 : L.flatMap itemB = (L.take j).flatMap itemB ++ (itemB L[j] ++ (L.drop (j + 1)).flatMap itemB) := by
    have := congrArg (List.flatMap itemB) e
    rw [List.flatMap_append, List.flatMap_cons] at this
    exact this
  show ((1 :: UInt8.ofNat L.length :: L.flatMap itemB) ++ List.replicate (512 - (leafB L).length) 0).drop (2 + ((L.take j).flatMap itemB).length) = _
  generalize List.replicate (512 - (leafB L).length) (0 : UInt8) = Z
  rw [e2, Nat.add_comm]
  simp only [List.cons_append, List.drop_succ_cons]
  rw [List.append_assoc, List.drop_append_of_le_length (Nat.le_refl _), List.drop_length, List.nil_append, List.append_assoc]
theorem offs_succ (L : List KV) (j : Nat) (h : j < L.length) : offs L (j + 1) = offs L j + (itemB L[j]).length := by
  unfold offs
  rw [List.take_succ_eq_append_getElem h, List.flatMap_append]
  simp
  omega
theorem offs_le (L : List KV) (j : Nat) (h : j ≤ L.length) : offs L j ≤ (leafB L).length := by
  unfold offs leafB
  have e : L.flatMap itemB = (L.take j).flatMap itemB ++ (L.drop j).flatMap itemB := by rw [← List.flatMap_append, List.take_append_drop]
  rw [e]
  simp
  omega
theorem getD_drop {l : List UInt8} {a : Nat} {x : UInt8} {r : List UInt8} (h : l.drop a = x :: r) : l.getD a 0 = x ∧ l.drop (a + 1) = r := by
  have h0 : l[a]? = some x := by
    have : (l.drop a)[0]? = some x := by rw [h]; rfl
    simpa using this
  refine ⟨by simp [List.getD, h0], ?_⟩
  rw [← List.drop_drop, h]
  rfl
/-- A text that stands in bytes. -/
theorem text_at {l : List UInt8} {a : Nat} {s : ByteArray} {r : List UInt8} (h : l.drop a = lenB s ++ r) (hs : s.size < 256) : (l.getD a 0).toNat = s.size ∧ (l.drop (a + 1)).take s.size = s.data.toList ∧ l.drop (a + 1 + s.size) = r := by
  have h' : l.drop a = UInt8.ofNat s.size :: (s.data.toList ++ r) := h
  obtain ⟨h1, h2⟩ := getD_drop h'
  refine ⟨?_, ?_, ?_⟩
  · rw [h1, UInt8.toNat_ofNat_of_lt' (by show s.size < 256; omega)]
  · rw [h2, List.take_append_of_le_length (by simp), List.take_of_length_le (by simp)]
  · rw [← List.drop_drop, h2, List.drop_append_of_le_length (by simp), List.drop_of_length_le (by simp)]
    rfl

/-- A leaf under way. -/
structure RI (g bb cap : Nat) (w2 wr : World) (a : Nat) (v : Value) (M : List KV) : Prop where
  bel : Below g w2 wr
  vb : wr.heap[g]? = some (.cells #[.slice (some ⟨bb, 0, none⟩) 512 cap] 84)
  nb : wr.heap[g + 1]? = some (nodeO true v (.slice none 0 0))
  vn : wr.heap[g + 1 + 1]? = some (.cells #[.pointer (some ⟨g + 1, 0, none⟩)] 158)
  va : wr.heap[g + 1 + 1 + 1]? = some (.cells #[.int .i64 a] 3)
  it : Items wr (g + 4) v M
  sz : g + 4 ≤ wr.heap.size
theorem RI.move {g bb cap : Nat} {w2 wr w' : World} {a a' : Nat} {v : Value} {M : List KV} (h : RI g bb cap w2 wr a v M) (ho : w'.os = wr.os ∧ w'.tape = wr.tape ∧ w'.output = wr.output) (hz : wr.heap.size ≤ w'.heap.size)
    (e : ∀ k, k < wr.heap.size → k ≠ g + 1 + 1 + 1 → w'.heap[k]? = wr.heap[k]?) (hv : w'.heap[g + 1 + 1 + 1]? = some (.cells #[.int .i64 a'] 3)) : RI g bb cap w2 w' a' v M := by
  have hs := h.sz
  exact ⟨⟨ho.1.trans h.bel.os, ho.2.1.trans h.bel.tape, ho.2.2.trans h.bel.output, Nat.le_trans h.bel.size hz, fun k hk => (e k (by omega) (by omega)).trans (h.bel.block k hk)⟩,
    (e g (by omega) (by omega)).trans h.vb, (e (g + 1) (by omega) (by omega)).trans h.nb, (e (g + 1 + 1) (by omega) (by omega)).trans h.vn, hv, h.it.keep fun k hk hlt => e k hlt (by omega), by omega⟩

theorem RI.cells {g bb cap : Nat} {w2 wr : World} {a : Nat} {v : Value} {M : List KV} (h : RI g bb cap w2 wr a v M) :
    wr.cell? ⟨g, 0, none⟩ = some (.slice (some ⟨bb, 0, none⟩) 512 cap) ∧ wr.cell? ⟨g + 1, 0, none⟩ = some (.bool true) ∧ wr.cell? ⟨g + 1, 1, none⟩ = some v ∧ wr.cell? ⟨g + 1 + 1, 0, none⟩ = some (.pointer (some ⟨g + 1, 0, none⟩)) ∧ wr.cell? ⟨g + 1 + 1 + 1, 0, none⟩ = some (.int .i64 a) ∧
    wr.frozen? ⟨g + 1 + 1 + 1, 0, none⟩ = false ∧ wr.frozen? ⟨g + 1, 1, none⟩ = false := by
  refine ⟨?_, ?_, ?_, ?_, ?_, ?_, ?_⟩
  · unfold World.cell?; rw [h.vb]; rfl
  · unfold World.cell?; rw [h.nb]; rfl
  · unfold World.cell?; rw [h.nb]; rfl
  · unfold World.cell?; rw [h.vn]; rfl
  · unfold World.cell?; rw [h.va]; rfl
  · unfold World.frozen?; rw [h.va]; rfl
  · unfold World.frozen?; rw [h.nb]; simp
theorem RI.text {g bb cap : Nat} {w2 wr : World} {a : Nat} {v : Value} {M : List KV} (h : RI g bb cap w2 wr a v M) {l : List UInt8} (hp : PageAt w2 bb cap l) (hbb : bb < g) (s : ByteArray) {r : List UInt8} (hd : l.drop a = lenB s ++ r) (hs : s.size < 256) :
    Calls Tryz.prog 141 #[.pointer (some ⟨g, 0, none⟩), .pointer (some ⟨g + 1 + 1 + 1, 0, none⟩)] wr fun e w' =>
      e = .returned (.string s) ∧ RI g bb cap w2 w' (a + 1 + s.size) v M ∧ w'.heap.size = wr.heap.size ∧ ∀ k, k ≠ g + 1 + 1 + 1 → w'.heap[k]? = wr.heap[k]? := by
  obtain ⟨c0, _, _, _, c4, f4, _⟩ := h.cells
  obtain ⟨t1, t2, t3⟩ := text_at hd hs
  have hlen : a + 1 + s.size + r.length = 512 := by
    have h1 := congrArg List.length hd
    rw [List.length_append, lenB_length, List.length_drop, hp.1] at h1
    omega
  refine (text_any c0 a c4 f4 (by omega) (hp.keep (h.bel.block bb hbb)) (by omega) (by omega) s.size t1 (by omega)).mono ?_
  rintro e w' ⟨rfl, rfl⟩
  have e1 : (⟨((l.drop (a + 1)).take s.size).toArray⟩ : ByteArray) = s := by rw [t2]
  refine ⟨by rw [e1], ?_, by simp [World.setCell], fun k hk => Below.heap_setCell _ _ _ _ hk⟩
  exact h.move ⟨rfl, rfl, rfl⟩ (by simp [World.setCell]) (fun k _ hk => Below.heap_setCell _ _ _ _ hk) (heap_set h.va)

theorem RI.app {g bb cap : Nat} {w2 W w8 : World} {a : Nat} {v v' : Value} {M M' : List KV} (h : RI g bb cap w2 W a v M) (hit : Items w8 (g + 4) v' M') (hb : Below (g + 4) W.drew w8) : RI g bb cap w2 (w8.setCell ⟨g + 1, 1, none⟩ v') a v' M' := by
  have hs := h.sz
  have hz : W.heap.size ≤ w8.heap.size := hb.size
  have e : ∀ k, k < g + 4 → w8.heap[k]? = W.heap[k]? := fun k hk => hb.block k hk
  have o : ∀ k, k ≠ g + 1 → (w8.setCell ⟨g + 1, 1, none⟩ v').heap[k]? = w8.heap[k]? := fun k hk => Below.heap_setCell _ _ _ _ hk
  refine ⟨⟨hb.os.trans h.bel.os, hb.tape.trans h.bel.tape, hb.output.trans h.bel.output, by have := h.bel.size; simp [World.setCell]; omega, fun k hk => (o k (by omega)).trans ((e k (by omega)).trans (h.bel.block k hk))⟩,
    (o g (by omega)).trans ((e g (by omega)).trans h.vb), heap_set ((e (g + 1) (by omega)).trans h.nb), (o _ (by omega)).trans ((e _ (by omega)).trans h.vn), (o _ (by omega)).trans ((e _ (by omega)).trans h.va), hit.keep fun k hk hlt => o k (by omega), by simp [World.setCell]; omega⟩
theorem Items.mono {w : World} {B B' : Nat} {v : Value} {L : List KV} (h : Items w B v L) (hB : B' ≤ B) : Items w B' v L := by
  obtain ⟨h1, h2⟩ := h
  refine ⟨h1, ?_⟩
  rcases h2 with h2 | ⟨g, cap, cur, hv, hg, r⟩
  · exact .inl h2
  · exact .inr ⟨g, cap, cur, hv, by omega, r⟩

set_option maxRecDepth 100000 in
set_option maxHeartbeats 2000000 in
theorem read_leaf {bs : Nat} {B : Base bs} {w : World} {tb ba root : Nat} {F : Nat → Prop} {R : Raw} (ht : w.heap[tb]? = some (treeO ba root)) (hA : ActIs B w ba F R) (hc : Cov B R) (htF : ¬ F tb) (p : Int) (hp : thereE R p = 0) (L : List KV) (hL : R.page p = pageL (leafB L)) (hok : ∀ x ∈ L, x.ok) (hlen : (leafB L).length ≤ 512) (hn : L.length < 256) :
    Calls Tryz.prog 96 #[.pointer (some ⟨tb, 0, none⟩), .int .i64 p] w fun e w' =>
      ∃ nb v F' M, e = .returned (.pointer (some ⟨nb, 0, none⟩)) ∧ w'.heap[nb]? = some (nodeO true v (.slice none 0 0)) ∧ Items w' M v L ∧ w.heap.size ≤ M ∧ M ≤ nb ∧ ActIs B w' ba F' R ∧ (∀ k, F' k → k < M) ∧ (∀ k, k < w.heap.size → F' k → F k) ∧ Off F w w' := by
  have hrng := thereE_rng hp
  have hpt : R.total < 4096 := hc.2
  obtain ⟨t0, t1⟩ := tree2 ht
  have HR := read_any hA hc p ⟨by omega, by omega⟩
  rw [readS, if_pos hp, hp, hL] at HR
  have HRh := Lib.hid HR
  have HL := Lib.hid (And.intro hL (And.intro hok (And.intro hlen hn)))
  clear HR hA hc ht hp hL hok hlen
  go_enter Tryz.func96, Tryz.ntmps96
  go_wp2_with fail
  refine HRh.out.mono ?_
  rintro e w1 ⟨rfl, F1, h1, hF1, ho1⟩
  have hpl : (pageL (leafB L)).length = 512 := pageL_length HL.out.2.2.1
  obtain ⟨w2, bb, cap, hconv, hb2, hpg2, hyb, hlt2⟩ : ∃ w2 bb cap, (convert 9 84 (.string ⟨(pageL (leafB L)).toArray⟩)).run Tryz.prog w1 = .ok (.slice (some ⟨bb, 0, none⟩) 512 cap) w2 ∧ Below w1.heap.size w1 w2 ∧ PageAt w2 bb cap (pageL (leafB L)) ∧ w1.heap.size ≤ bb ∧ bb < w2.heap.size := by
    have := Lib.run_convert_string_bytes (P := Tryz.prog) w1 9 84 5 ⟨(pageL (leafB L)).toArray⟩ Tryz.underlying9 Tryz.underlying84 Tryz.underlying5
    have hz : (⟨(pageL (leafB L)).toArray⟩ : ByteArray).size = 512 := by show (pageL (leafB L)).toArray.size = 512; simpa using hpl
    rw [hz] at this
    exact ⟨_, _, _, this, below_conv w1 _ _, page_conv w1 _ hpl, Nat.le_refl _, by rw [Lib.bytesWorld_size]; omega⟩
  have p0 := hpg2.cell 0 (by omega)
  have p1 := hpg2.cell 1 (by omega)
  rw [(leaf_head L hn).1] at p0
  rw [(leaf_head L hn).2] at p1
  have hcap : 512 ≤ cap := by obtain ⟨_, _, _, _, _, h, _⟩ := hpg2; exact h
  have hbb2 : bb < w2.heap.size + 1 := by omega
  have hbb3 : bb < w2.heap.size + 1 + 1 := by omega
  have hbb4 : bb < w2.heap.size + 1 + 1 + 1 := by omega
  have hbb5 : bb < w2.heap.size + 1 + 1 + 1 + 1 := by omega
  have H1 := Lib.hid (And.intro h1 (And.intro hF1 (And.intro ho1 (And.intro hb2 hpg2))))
  clear h1 hF1 ho1 hb2 hpg2 HRh
  have hg : w1.heap.size ≤ w2.heap.size := H1.out.2.2.2.1.size
  have HI0 := Lib.hid (show RI w2.heap.size bb cap w2 ((((w2.alloc (.cells #[.slice (some ⟨bb, 0, none⟩) 512 cap] 84)).alloc (nodeO true (.slice none 0 0) (.slice none 0 0))).alloc (.cells #[.pointer (some ⟨w2.heap.size + 1, 0, none⟩)] 158)).alloc (.cells #[.int .i64 (2 : Nat)] 3)) 2 (.slice none 0 0) [] from by
    have up : ∀ (w : World) (o : Obj) (k : Nat), k < w.heap.size → (w.alloc o).heap[k]? = w.heap[k]? := fun w o k hk => Below.heap_alloc _ _ k hk
    refine ⟨by go_grown, ?_, ?_, ?_, ?_, Items.nil _ _, by simp⟩
    · rw [up _ _ _ (by simp; omega), up _ _ _ (by simp; omega), up _ _ _ (by simp)]; exact hnew w2 _
    · rw [up _ _ _ (by simp), up _ _ _ (by simp)]
      have := hnew (w2.alloc (.cells #[.slice (some ⟨bb, 0, none⟩) 512 cap] 84)) (nodeO true (.slice none 0 0) (.slice none 0 0))
      simpa using this
    · rw [up _ _ _ (by simp)]
      have := hnew ((w2.alloc (.cells #[.slice (some ⟨bb, 0, none⟩) 512 cap] 84)).alloc (nodeO true (.slice none 0 0) (.slice none 0 0))) (.cells #[.pointer (some ⟨w2.heap.size + 1, 0, none⟩)] 158)
      simpa using this
    · have := hnew (((w2.alloc (.cells #[.slice (some ⟨bb, 0, none⟩) 512 cap] 84)).alloc (nodeO true (.slice none 0 0) (.slice none 0 0))).alloc (.cells #[.pointer (some ⟨w2.heap.size + 1, 0, none⟩)] 158)) (.cells #[.int .i64 (2 : Nat)] 3)
      simpa using this)
  generalize hgg : w2.heap.size = g at *
  go_wp2
  go_loopw [45] (fun i wr => ∃ (j : Nat) (v : Value), j ≤ L.length ∧ i = .int .i64 j ∧ RI g bb cap w2 wr (offs L j) v (L.take j)) (fun i _ => L.length - (intOf i).toNat)
  case atStart => exact ⟨0, .slice none 0 0, Nat.zero_le _, rfl, HI0.out⟩
  case round =>
    clear p0 p1 HI0 hconv t0 t1
    obtain ⟨j, v, hj, rfl, hI⟩ := hrel
    by_cases hlt : j < L.length
    · have hx := drop_leaf L j hlt
      have hok := HL.out.2.1 L[j] (List.getElem_mem hlt)
      have hsucc := offs_succ L j hlt
      rw [itemB_length] at hsucc
      have htake := List.take_succ_eq_append_getElem hlt
      generalize hxx : L[j] = x at *
      rw [itemB, List.append_assoc] at hx
      have HT1 := Lib.hid (hI.text H1.out.2.2.2.2 hlt2 x.k hx (by have := hok.1; omega))
      have hx2 := (text_at hx (by have := hok.1; omega)).2.2
      have HX := Lib.hid (And.intro hx2 (And.intro hok (And.intro hsucc htake)))
      clear hI hx hx2 hok hsucc htake hxx
      go_wp2_with fail
      refine HT1.out.mono ?_
      rintro e w3 ⟨rfl, hI3, hz3, he3⟩
      have hI4 : RI g bb cap w2 (w3.alloc (itemO ⟨x.k, ⟨#[]⟩⟩)) (offs L j + 1 + x.k.size) v (L.take j) := hI3.move ⟨rfl, rfl, rfl⟩ (by simp) (fun k hk _ => Below.heap_alloc _ _ k hk) ((Below.heap_alloc _ _ _ (by have := hI3.sz; omega)).trans hI3.va)
      have HT2 := Lib.hid (hI4.text H1.out.2.2.2.2 hlt2 x.v HX.out.1 (by have := HX.out.2.1.2; omega))
      obtain ⟨c0, c1, c2, c3, c4, f4, f1⟩ := hI3.cells
      have hsz3 := hI3.sz
      have HI3 := Lib.hid (And.intro hI3 (And.intro hz3 he3))
      clear hI3 hI4 HT1 hz3 he3
      have hl1 : g + 1 + 1 < w3.heap.size := by omega
      have hl2 : g + 1 < w3.heap.size := by omega
      have hl3 : g < w3.heap.size := by omega
      go_wp2_with fail
      refine HT2.out.mono ?_
      rintro e w5 ⟨rfl, hI5, hz5, he5⟩
      have hz45 : (w3.alloc (itemO ⟨x.k, ⟨#[]⟩⟩)).heap.size = w3.heap.size + 1 := by simp
      have hx5 : w5.heap[w3.heap.size]? = some (itemO ⟨x.k, ⟨#[]⟩⟩) := (he5 _ (by omega)).trans (hnew w3 _)
      have x0 : w5.cell? ⟨w3.heap.size, 0, none⟩ = some (.string x.k) := by unfold World.cell?; rw [hx5]; rfl
      have x1 : w5.cell? ⟨w3.heap.size, 1, none⟩ = some (.string ⟨#[]⟩) := by unfold World.cell?; rw [hx5]; rfl
      have xf : w5.frozen? ⟨w3.heap.size, 1, none⟩ = false := by unfold World.frozen?; rw [hx5]; rfl
      have hsz5 : w3.heap.size < w5.heap.size := by omega
      obtain ⟨W, hW⟩ : ∃ W, W = w5.setCell ⟨w3.heap.size, 1, none⟩ (.string x.v) := ⟨_, rfl⟩
      have hxW : W.heap[w3.heap.size]? = some (itemO x) := by rw [hW]; exact heap_set hx5
      have hoW : ∀ k, k ≠ w3.heap.size → W.heap[k]? = w5.heap[k]? := fun k hk => by rw [hW]; exact Below.heap_setCell _ _ _ _ hk
      have hzW : W.heap.size = w5.heap.size := by rw [hW]; simp [World.setCell]
      have hosW : W.os = w5.os ∧ W.tape = w5.tape ∧ W.output = w5.output := by rw [hW]; exact ⟨rfl, rfl, rfl⟩
      have hI6 : RI g bb cap w2 W (offs L (j + 1)) v (L.take j) := by
        rw [HX.out.2.2.1, show offs L j + (x.k.size + x.v.size + 2) = offs L j + 1 + x.k.size + 1 + x.v.size by omega]
        exact HI3.out.1.move (by rw [hosW.1, hosW.2.1, hosW.2.2, hI5.bel.os, hI5.bel.tape, hI5.bel.output, HI3.out.1.bel.os, HI3.out.1.bel.tape, HI3.out.1.bel.output]; exact ⟨rfl, rfl, rfl⟩) (by omega)
          (fun k hk hne => (hoW k (by omega)).trans ((he5 k hne).trans (Below.heap_alloc _ _ k hk))) ((hoW _ (by omega)).trans hI5.va)
      have HI6 := Lib.hid (And.intro hI6 (And.intro hxW (And.intro hzW hz5)))
      have HWh := Lib.hid hW
      have hyI : ∀ k, w3.heap.size ≤ k → v.ownBlock ≠ some k := fun k hk => HI3.out.1.it.young hk
      have HY := Lib.hid hyI
      clear hI5 hz5 he5 hz45 hx5 hW hxW hoW hzW hosW hI6 HT2 hyI c0 c1 c2 c3 c4 f4 f1 hl1 hl2 hl3
      go_wp2
      rw [← HWh.out]
      obtain ⟨c0, c1, c2, c3, c4, f4, f1⟩ := HI6.out.1.cells
      have y0 : W.cell? ⟨w3.heap.size, 0, none⟩ = some (.string x.k) := by unfold World.cell?; rw [HI6.out.2.1]; rfl
      have y1 : W.cell? ⟨w3.heap.size, 1, none⟩ = some (.string x.v) := by unfold World.cell?; rw [HI6.out.2.1]; rfl
      clear x0 x1 xf
      have hszW : g + 4 ≤ W.heap.size := HI6.out.1.sz
      have hl1 : g + 1 + 1 < W.heap.size := by omega
      have hl2 : g + 1 < W.heap.size := by omega
      have hl4 : w3.heap.size < W.heap.size := (Array.getElem?_eq_some_iff.1 HI6.out.2.1).1
      have hlenj : (L.take j).length ≤ 1099511627776 := by rw [List.length_take]; omega
      have hl5 : w3.heap.size < W.heap.size + 1 := by omega
      have upW : ∀ k i u, W.cell? ⟨k, i, none⟩ = some u → ((W.alloc (itemO x)).drew).cell? ⟨k, i, none⟩ = some u := fun k i u hu => (((Below.refl W.heap.size W).alloc (Nat.le_refl _) (itemO x)).cell (p := ⟨k, i, none⟩) (World.block_lt_of_cell? W _ hu)).trans hu
      have hSa := And.intro (upW (g + 1 + 1) 0 _ c3) (And.intro (upW w3.heap.size 0 _ y0) (upW w3.heap.size 1 _ y1))
      have d2 := upW (g + 1) 1 _ c2
      have HSa := Lib.hid hSa
      clear hSa upW
      refine wp_region_noPanic ?_
      refine wp_region_held_drew (S := (fun w' => w'.cell? ⟨g + 1 + 1, 0, none⟩ = some (.pointer (some ⟨g + 1, 0, none⟩)) ∧ w'.cell? ⟨w3.heap.size, 0, none⟩ = some (.string x.k) ∧ w'.cell? ⟨w3.heap.size, 1, none⟩ = some (.string x.v))) (by kernel_rfl) ⟨c3, y0, y1⟩ (fun hS => ?_)
      refine wpAnyH_take (i := 0) (v := ?_) rfl (by kernel_rfl) (by kernel_rfl) (by kernel_rfl) (fun _ _ _ h => h) (Or.inl ⟨by rfl, ?_⟩) hS ?_
      rotate_left
      · rintro w9 ⟨t0, t1, t2⟩
        go_simp
        try with_reducible rfl
      try simp only [Act.put, List.getElem_toArray, List.getElem_cons_succ, List.getElem_cons_zero, List.setIfInBounds_toArray, List.set_cons_zero, List.set_cons_succ]
      refine wpAnyH_take (i := 1) (v := ?_) rfl (by kernel_rfl) (by kernel_rfl) (by kernel_rfl) (fun _ _ _ h => h) (Or.inl ⟨by rfl, ?_⟩) hS ?_
      rotate_left
      · rintro w9 ⟨t0, t1, t2⟩
        go_simp
        try with_reducible rfl
      try simp only [Act.put, List.getElem_toArray, List.getElem_cons_succ, List.getElem_cons_zero, List.setIfInBounds_toArray, List.set_cons_zero, List.set_cons_succ]
      refine wpAnyH_take (i := 2) (v := ?_) rfl (by kernel_rfl) (by kernel_rfl) (by kernel_rfl) (fun _ _ _ h => h) (Or.inl ⟨by rfl, ?_⟩) hS ?_
      rotate_left
      · rintro w9 ⟨t0, t1, t2⟩
        go_simp
        try with_reducible rfl
      try simp only [Act.put, List.getElem_toArray, List.getElem_cons_succ, List.getElem_cons_zero, List.setIfInBounds_toArray, List.set_cons_zero, List.set_cons_succ]
      refine wpAnyH_take (i := 3) (v := ?_) rfl (by kernel_rfl) (by kernel_rfl) (by kernel_rfl) (fun _ _ _ h => h) (Or.inl ⟨by rfl, ?_⟩) hS ?_
      rotate_left
      · rintro w9 ⟨t0, t1, t2⟩
        go_simp
        try with_reducible rfl
      try simp only [Act.put, List.getElem_toArray, List.getElem_cons_succ, List.getElem_cons_zero, List.setIfInBounds_toArray, List.set_cons_zero, List.set_cons_succ]
      refine wpAnyH_take (i := 5) (v := ?_) rfl (by kernel_rfl) (by kernel_rfl) (by kernel_rfl) (fun _ _ _ h => h) (Or.inl ⟨by rfl, ?_⟩) hS ?_
      rotate_left
      · rintro w9 ⟨t0, t1, t2⟩
        go_simp
        try with_reducible rfl
      try simp only [Act.put, List.getElem_toArray, List.getElem_cons_succ, List.getElem_cons_zero, List.setIfInBounds_toArray, List.set_cons_zero, List.set_cons_succ]
      refine wpAnyH_ready (rs := [4, 6]) (by kernel_rfl) (by simp) ?_
      refine AllReadyH.cons rfl (fun K hK => ?_) (AllReadyH.cons rfl (fun K hK => ?_) AllReadyH.nil)
      · go_simp
        refine hK.out _ _ hS (fun _ => ?_)
        clear hK K
        try simp only [Act.put, List.getElem_toArray, List.getElem_cons_succ, List.getElem_cons_zero, List.setIfInBounds_toArray, List.set_cons_zero, List.set_cons_succ]
        refine wpAnyH_ready (rs := [6]) (by kernel_rfl) (by simp) ?_
        refine AllReadyH.cons rfl (fun K hK => ?_) AllReadyH.nil
        go_simp
        refine hK.out _ _ HSa.out (fun _ => ?_)
        clear hK K
        try simp only [Act.put, List.getElem_toArray, List.getElem_cons_succ, List.getElem_cons_zero, List.setIfInBounds_toArray, List.set_cons_zero, List.set_cons_succ]
        refine wpAnyH_ready (rs := [7]) (by kernel_rfl) (by simp) ?_
        refine AllReadyH.cons rfl (fun K hK => ?_) AllReadyH.nil
        refine step_appI (W := W.drew) (by rfl) (.tmp 63) (.tmp 65) (by rfl) (g + 4) v (L.take j) (by rfl) (show Items W.drew (g + 4) v (L.take j) from HI6.out.1.it) x _ 1 (by rfl) (by rfl) hlenj hszW ?_
        intro v' w8 hit8 hb8 hg8
        obtain ⟨A8, c8, e8⟩ := hit8.slice
        rw [show (L.take j ++ [x]).length = j + 1 by simp; omega] at e8
        subst e8
        have z1 : w8.cell? ⟨g + 1, 1, none⟩ = some v := (hb8.cell (p := ⟨g + 1, 1, none⟩) (show g + 1 < g + 4 by omega)).trans c2
        have z2 : w8.frozen? ⟨g + 1, 1, none⟩ = false := (hb8.frozen (p := ⟨g + 1, 1, none⟩) (show g + 1 < g + 4 by omega)).trans f1
        have z3 : w8.cell? ⟨g + 1 + 1, 0, none⟩ = some (.pointer (some ⟨g + 1, 0, none⟩)) := (hb8.cell (p := ⟨g + 1 + 1, 0, none⟩) (show g + 1 + 1 < g + 4 by omega)).trans c3
        have far : ∀ i u, W.cell? ⟨w3.heap.size, i, none⟩ = some u → w8.cell? ⟨w3.heap.size, i, none⟩ = some u := fun i u hu => (World.cell?_of_block (w := W.drew) (hg8.block w3.heap.size hl4 (fun e => HY.out _ (Nat.le_refl _) e.symm))).trans hu
        have hSb := And.intro z3 (And.intro (far 0 _ y0) (far 1 _ y1))
        have H8 := Lib.hid (And.intro hit8 hb8)
        have oth : ∀ k i u, k ≠ g + 1 → w8.cell? ⟨k, i, none⟩ = some u → (w8.setCell ⟨g + 1, 1, none⟩ (.slice A8 (j + 1) c8)).cell? ⟨k, i, none⟩ = some u := fun k i u hk hu => by
          rw [World.cell?_setCell_other _ _ _ _ (fun e => hk (by simpa using (congrArg Addr.block e).symm))]; exact hu
        have hSc := And.intro (oth (g + 1 + 1) 0 _ (by omega) z3) (And.intro (oth w3.heap.size 0 _ (by omega) (far 0 _ y0)) (oth w3.heap.size 1 _ (by omega) (far 1 _ y1)))
        have HSc := Lib.hid hSc
        clear hit8 hb8 hg8 far oth hSc
        refine hK.out _ _ hSb (fun _ => ?_)
        clear hK K
        try simp only [Act.put, List.getElem_toArray, List.getElem_cons_succ, List.getElem_cons_zero, List.setIfInBounds_toArray, List.set_cons_zero, List.set_cons_succ]
        refine wpAnyH_take (i := 8) (v := ?_) rfl (by kernel_rfl) (by kernel_rfl) (by kernel_rfl) (fun _ _ _ h => h) (Or.inl ⟨by rfl, ?_⟩) hSb ?_
        rotate_left
        · rintro w9 ⟨t0, t1, t2⟩
          go_simp
          try with_reducible rfl
        try simp only [Act.put, List.getElem_toArray, List.getElem_cons_succ, List.getElem_cons_zero, List.setIfInBounds_toArray, List.set_cons_zero, List.set_cons_succ]
        refine wpAnyH_take (i := 9) (v := ?_) rfl (by kernel_rfl) (by kernel_rfl) (by kernel_rfl) (fun _ _ _ h => h) (Or.inl ⟨by rfl, ?_⟩) hSb ?_
        rotate_left
        · rintro w9 ⟨t0, t1, t2⟩
          go_simp
          try with_reducible rfl
        try simp only [Act.put, List.getElem_toArray, List.getElem_cons_succ, List.getElem_cons_zero, List.setIfInBounds_toArray, List.set_cons_zero, List.set_cons_succ]
        refine wpAnyH_ready (rs := [10]) (by kernel_rfl) (by simp) ?_
        refine AllReadyH.cons rfl (fun K hK => ?_) AllReadyH.nil
        go_simp
        refine hK.out _ _ HSc.out (fun _ => ?_)
        clear hK K
        try simp only [Act.put, List.getElem_toArray, List.getElem_cons_succ, List.getElem_cons_zero, List.setIfInBounds_toArray, List.set_cons_zero, List.set_cons_succ]
        refine wpAnyH_done (by kernel_rfl) ?_ _
        refine NoPanic.normal ?_
        go_wp2
        go_roundw
        case rel =>
          refine ⟨j + 1, .slice A8 (j + 1) c8, by omega, by go_num, ?_⟩
          rw [HX.out.2.2.2]
          exact HI6.out.1.app H8.out.1 H8.out.2
        case measure => simp [intOf]; omega
      · go_simp
        refine hK.out _ _ HSa.out (fun _ => ?_)
        clear hK K
        try simp only [Act.put, List.getElem_toArray, List.getElem_cons_succ, List.getElem_cons_zero, List.setIfInBounds_toArray, List.set_cons_zero, List.set_cons_succ]
        refine wpAnyH_ready (rs := [4]) (by kernel_rfl) (by simp) ?_
        refine AllReadyH.cons rfl (fun K hK => ?_) AllReadyH.nil
        go_simp
        refine hK.out _ _ HSa.out (fun _ => ?_)
        clear hK K
        try simp only [Act.put, List.getElem_toArray, List.getElem_cons_succ, List.getElem_cons_zero, List.setIfInBounds_toArray, List.set_cons_zero, List.set_cons_succ]
        refine wpAnyH_ready (rs := [7]) (by kernel_rfl) (by simp) ?_
        refine AllReadyH.cons rfl (fun K hK => ?_) AllReadyH.nil
        refine step_appI (W := W.drew) (by rfl) (.tmp 63) (.tmp 65) (by rfl) (g + 4) v (L.take j) (by rfl) (show Items W.drew (g + 4) v (L.take j) from HI6.out.1.it) x _ 1 (by rfl) (by rfl) hlenj hszW ?_
        intro v' w8 hit8 hb8 hg8
        obtain ⟨A8, c8, e8⟩ := hit8.slice
        rw [show (L.take j ++ [x]).length = j + 1 by simp; omega] at e8
        subst e8
        have z1 : w8.cell? ⟨g + 1, 1, none⟩ = some v := (hb8.cell (p := ⟨g + 1, 1, none⟩) (show g + 1 < g + 4 by omega)).trans c2
        have z2 : w8.frozen? ⟨g + 1, 1, none⟩ = false := (hb8.frozen (p := ⟨g + 1, 1, none⟩) (show g + 1 < g + 4 by omega)).trans f1
        have z3 : w8.cell? ⟨g + 1 + 1, 0, none⟩ = some (.pointer (some ⟨g + 1, 0, none⟩)) := (hb8.cell (p := ⟨g + 1 + 1, 0, none⟩) (show g + 1 + 1 < g + 4 by omega)).trans c3
        have far : ∀ i u, W.cell? ⟨w3.heap.size, i, none⟩ = some u → w8.cell? ⟨w3.heap.size, i, none⟩ = some u := fun i u hu => (World.cell?_of_block (w := W.drew) (hg8.block w3.heap.size hl4 (fun e => HY.out _ (Nat.le_refl _) e.symm))).trans hu
        have hSb := And.intro z3 (And.intro (far 0 _ y0) (far 1 _ y1))
        have H8 := Lib.hid (And.intro hit8 hb8)
        have oth : ∀ k i u, k ≠ g + 1 → w8.cell? ⟨k, i, none⟩ = some u → (w8.setCell ⟨g + 1, 1, none⟩ (.slice A8 (j + 1) c8)).cell? ⟨k, i, none⟩ = some u := fun k i u hk hu => by
          rw [World.cell?_setCell_other _ _ _ _ (fun e => hk (by simpa using (congrArg Addr.block e).symm))]; exact hu
        have hSc := And.intro (oth (g + 1 + 1) 0 _ (by omega) z3) (And.intro (oth w3.heap.size 0 _ (by omega) (far 0 _ y0)) (oth w3.heap.size 1 _ (by omega) (far 1 _ y1)))
        have HSc := Lib.hid hSc
        clear hit8 hb8 hg8 far oth hSc
        refine hK.out _ _ hSb (fun _ => ?_)
        clear hK K
        try simp only [Act.put, List.getElem_toArray, List.getElem_cons_succ, List.getElem_cons_zero, List.setIfInBounds_toArray, List.set_cons_zero, List.set_cons_succ]
        refine wpAnyH_take (i := 8) (v := ?_) rfl (by kernel_rfl) (by kernel_rfl) (by kernel_rfl) (fun _ _ _ h => h) (Or.inl ⟨by rfl, ?_⟩) hSb ?_
        rotate_left
        · rintro w9 ⟨t0, t1, t2⟩
          go_simp
          try with_reducible rfl
        try simp only [Act.put, List.getElem_toArray, List.getElem_cons_succ, List.getElem_cons_zero, List.setIfInBounds_toArray, List.set_cons_zero, List.set_cons_succ]
        refine wpAnyH_take (i := 9) (v := ?_) rfl (by kernel_rfl) (by kernel_rfl) (by kernel_rfl) (fun _ _ _ h => h) (Or.inl ⟨by rfl, ?_⟩) hSb ?_
        rotate_left
        · rintro w9 ⟨t0, t1, t2⟩
          go_simp
          try with_reducible rfl
        try simp only [Act.put, List.getElem_toArray, List.getElem_cons_succ, List.getElem_cons_zero, List.setIfInBounds_toArray, List.set_cons_zero, List.set_cons_succ]
        refine wpAnyH_ready (rs := [10]) (by kernel_rfl) (by simp) ?_
        refine AllReadyH.cons rfl (fun K hK => ?_) AllReadyH.nil
        go_simp
        refine hK.out _ _ HSc.out (fun _ => ?_)
        clear hK K
        try simp only [Act.put, List.getElem_toArray, List.getElem_cons_succ, List.getElem_cons_zero, List.setIfInBounds_toArray, List.set_cons_zero, List.set_cons_succ]
        refine wpAnyH_done (by kernel_rfl) ?_ _
        refine NoPanic.normal ?_
        go_wp2
        go_roundw
        case rel =>
          refine ⟨j + 1, .slice A8 (j + 1) c8, by omega, by go_num, ?_⟩
          rw [HX.out.2.2.2]
          exact HI6.out.1.app H8.out.1 H8.out.2
        case measure => simp [intOf]; omega
    · obtain rfl : j = L.length := by omega
      rw [List.take_of_length_le (Nat.le_refl _)] at hI
      obtain ⟨c0, c1, c2, c3, c4, f4, f1⟩ := hI.cells
      have HI := Lib.hid hI
      clear hI
      go_wp2
      go_ret
      have hb : Below w1.heap.size w1 wr := H1.out.2.2.2.1.trans (HI.out.bel.mono hg)
      have hw1 := H1.out.2.2.1.size
      exact ⟨g + 1, v, F1, g, rfl, HI.out.nb, HI.out.it.mono (by omega), by omega, by omega, H1.out.1.below hb, fun k hk => by have := H1.out.1.1 k hk; omega, H1.out.2.1, H1.out.2.2.1.trans (Off.of_below hb (F := fun _ => False)) (fun _ _ h => h.elim)⟩
end Go.Proofs.YtoejgkcaamkanaaGreatDoor

namespace Go.Proofs.YtoejgkcaamkanaaGreatDoor
open Go.RowKit

theorem cbl_trans : ∀ a b c : List UInt8, Go.Lib.compareBytes a b < 0 → Go.Lib.compareBytes b c < 0 → Go.Lib.compareBytes a c < 0
  | [], [], _, h, _ => by simp [Go.Lib.compareBytes] at h
  | [], _ :: _, [], _, h => by simp [Go.Lib.compareBytes] at h
  | [], _ :: _, _ :: _, _, _ => by simp [Go.Lib.compareBytes]
  | _ :: _, [], _, h, _ => by simp [Go.Lib.compareBytes] at h
  | _ :: _, _ :: _, [], _, h => by simp [Go.Lib.compareBytes] at h
  | a :: al, b :: bl, c :: cl, h1, h2 => by
    have ih := cbl_trans al bl cl
    simp only [Go.Lib.compareBytes] at *
    simp only [UInt8.lt_iff_toNat_lt] at *
    generalize a.toNat = x at *
    generalize b.toNat = y at *
    generalize c.toNat = z at *
    split at h1
    · split at h2
      · rw [if_pos (by omega)]; omega
      · split at h2
        · omega
        · rw [if_pos (by omega)]; omega
    · split at h1
      · omega
      · split at h2
        · rw [if_pos (by omega)]; omega
        · split at h2
          · omega
          · rw [if_neg (by omega), if_neg (by omega)]
            exact ih h1 h2
/-- Items rise. -/
def Sorted (L : List KV) : Prop := ∀ i j (hi : i < L.length) (hj : j < L.length), i < j → Go.Lib.compareBytes L[i].k.data.toList L[j].k.data.toList < 0
theorem Sorted.mono {L : List KV} (h : Sorted L) (key : ByteArray) : ∀ s t (hs : s < L.length) (ht : t < L.length), s ≤ t → cmpK L[t] key < 0 → cmpK L[s] key < 0 := fun s t hs ht hst hc => by
  by_cases e : s = t
  · subst e; exact hc
  · exact cbl_trans _ _ _ (h s t hs ht (by omega)) hc

set_option maxHeartbeats 1000000 in
theorem find_any {w : World} {nb : Nat} {leaf : Bool} {A : Option Addr} {c : Nat} {kv : Value} {L : List KV} (h : w.heap[nb]? = some (nodeO leaf (.slice A L.length c) kv)) (hr : ItemsR w A L) (hn : L.length ≤ 1099511627776) (hs : Sorted L) (key : ByteArray) :
    Calls Tryz.prog 131 #[.pointer (some ⟨nb, 0, none⟩), .string key] w fun e w' => ∃ i : Nat, e = .returned (.tuple #[.int .i64 i, .bool (isAt L key i)]) ∧ Cut L key i ∧ Below w.heap.size w w' := by
  obtain ⟨c0, c1, c2, _⟩ := node3 h
  have HS := Lib.hid (search_any L key A c w hr hn (hs.mono key))
  clear h hr hs
  go_enter Tryz.func131, Tryz.ntmps131
  go_wp2_with fail
  refine HS.out.mono ?_
  rintro e w1 ⟨i, rfl, hcut, hb⟩
  have HC := Lib.hid (And.intro hcut hb)
  clear hcut hb
  go_wp2
  go_ret2
  exact ⟨i, rfl, HC.out.1, HC.out.2⟩
end Go.Proofs.YtoejgkcaamkanaaGreatDoor
