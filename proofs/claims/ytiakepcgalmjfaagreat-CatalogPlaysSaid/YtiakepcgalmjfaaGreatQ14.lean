/- A root at which no index stands. Whether columns may be: the program's (from the texts of the predicates). Whether a text may be an index's name; what is held of an index. -/
import Derived.Test.YtiakepcgalmjfaaGreatQ13
set_option linter.unusedVariables false
set_option linter.unusedSimpArgs false
namespace Go.Proofs.YtiakepcgalmjfaaGreat
open Go.RowKit
open Go.Maps (Keyed)

def taken (l : List KV) (t : Int) : Bool := l.any fun x => byteN x.v 4 == t
def takenF (l : List KV) (i : Int) : Option Value := if taken l i then some (.bool true) else none
def rtInv (cb bm : Nat) (l : List KV) (G : Nat → Prop) (w : World) : Prop := w.heap[cb]? = some (.cells #[.map (some bm)] 86) ∧ MapIs w bm (takenF l) ∧ (∀ k, G k ↔ k = cb ∨ k = bm) ∧ (∀ x ∈ l, x.v.size = 5)
theorem takenF_rng {l : List KV} (hl : ∀ x ∈ l, x.v.size = 5) (i : Int) (h : takenF l i ≠ none) : 0 ≤ i ∧ i < 65536 := by
  unfold takenF at h
  by_cases ht : taken l i = true
  · unfold taken at ht
    obtain ⟨x, hx, he⟩ := List.any_eq_true.1 ht
    have := byteN_of x.v 4 (by rw [hl x hx]; omega)
    have e : byteN x.v 4 = i := by simpa using he
    omega
  · rw [if_neg ht] at h; exact absurd rfl h
theorem takenF_snoc (l : List KV) (x : KV) : takenF (l ++ [x]) = fun j => if j = byteN x.v 4 then some (.bool true) else takenF l j := by
  funext j
  unfold takenF taken
  rw [List.any_append]
  by_cases h : j = byteN x.v 4
  · subst h; simp
  · rw [if_neg h]
    have : (byteN x.v 4 == j) = false := by simpa using Ne.symm h
    simp [this]

set_option maxRecDepth 100000 in
set_option maxHeartbeats 2000000 in
theorem rtc_any {cb bm : Nat} {l : List KV} {x : KV} {G : Nat → Prop} {w : World} (h : rtInv cb bm l G w) (hx : xOk x) (s : ByteArray) :
    Calls Tryz.prog 89 #[.string s, .string x.v, .pointer (some ⟨cb, 0, none⟩)] w fun e w' => e = .returned (.tuple #[]) ∧ ∃ G', rtInv cb bm (l ++ [x]) G' w' ∧ (∀ k, k < w.heap.size → G' k → G k) ∧ Off G w w' := by
  obtain ⟨hcb, hm, hG, hl⟩ := h
  have hx5 := hx.1
  obtain ⟨q4, r4, s4⟩ := byteN_of x.v 4 (by omega)
  have t4 : IntKind.i64.wrap ((x.v[4]'(by omega)).toNat : Int) = byteN x.v 4 := by rw [q4, IntKind.wrap_i64]; omega
  have c0 : w.cell? ⟨cb, 0, none⟩ = some (.map (some bm)) := cell0 hcb
  have hd : MapIs w.drew bm (takenF l) := hm.keep rfl
  obtain ⟨w2, hrun, hm2, ho2, hz2⟩ := hd.set (takenF_rng hl) (t := 86) (e := 4) Tryz.underlying86 (i := byteN x.v 4) (wfI ⟨by omega, by omega⟩) (.bool true)
  have hs5 : (x.v.size : Int) = 5 := by omega
  have hE := Lib.hid (show ∃ G', rtInv cb bm (l ++ [x]) G' w2 ∧ (∀ k, k < w.heap.size → G' k → G k) ∧ Off G w w2 from by
    have hne : cb ≠ bm := fun e => MapIs.cells_ne hm hcb e.symm
    refine ⟨G, ⟨(ho2.block cb (Array.getElem?_eq_some_iff.1 hcb).1 hne).trans hcb, ?_, hG, ?_⟩, fun _ _ h => h, ?_⟩
    · rw [takenF_snoc]; exact hm2
    · intro y hy
      rcases List.mem_append.1 hy with hy | hy
      · exact hl y hy
      · obtain rfl := List.mem_singleton.1 hy; exact hx5
    · exact ⟨ho2.os, ho2.tape, ho2.output, ho2.size, fun k hk hn => ho2.block k hk (fun e => hn ((hG k).2 (.inr e)))⟩)
  clear hcb hm hG hl hx q4 r4 s4 hd hm2 ho2 hz2
  go_enter Tryz.func89, Tryz.ntmps89
  go_wp2
  refine wp_region_noPanic ?_
  refine wp_region_held_drew (S := (fun w' => True)) (by kernel_rfl) trivial (fun hS => ?_)
  refine wpAnyH_take (i := 1) (v := ?_) rfl (by kernel_rfl) (by kernel_rfl) (by kernel_rfl) (fun _ _ _ h => h) (Or.inl ⟨by rfl, ?_⟩) hS ?_
  rotate_left
  · intro w9 t0
    go_simp
    try with_reducible rfl
  try simp only [Act.put, List.getElem_toArray, List.getElem_cons_succ, List.getElem_cons_zero, List.setIfInBounds_toArray, List.set_cons_zero, List.set_cons_succ]
  refine wpAnyH_take (i := 2) (v := ?_) rfl (by kernel_rfl) (by kernel_rfl) (by kernel_rfl) (fun _ _ _ h => h) (Or.inl ⟨by rfl, ?_⟩) hS ?_
  rotate_left
  · intro w9 t0
    go_simp
    try with_reducible rfl
  try simp only [Act.put, List.getElem_toArray, List.getElem_cons_succ, List.getElem_cons_zero, List.setIfInBounds_toArray, List.set_cons_zero, List.set_cons_succ]
  refine wpAnyH_take (i := 3) (v := ?_) rfl (by kernel_rfl) (by kernel_rfl) (by kernel_rfl) (fun _ _ _ h => h) (Or.inl ⟨by rfl, ?_⟩) hS ?_
  rotate_left
  · intro w9 t0
    go_simp
    try with_reducible rfl
  try simp only [Act.put, List.getElem_toArray, List.getElem_cons_succ, List.getElem_cons_zero, List.setIfInBounds_toArray, List.set_cons_zero, List.set_cons_succ]
  refine wpAnyH_ready (rs := [0]) (by kernel_rfl) (by simp) ?_
  refine AllReadyH.cons rfl (fun K hK => ?_) AllReadyH.nil
  go_simp
  refine hK.out _ _ trivial (fun _ => ?_)
  clear hK K
  try simp only [Act.put, List.getElem_toArray, List.getElem_cons_succ, List.getElem_cons_zero, List.setIfInBounds_toArray, List.set_cons_zero, List.set_cons_succ]
  refine wpAnyH_ready (rs := [4]) (by kernel_rfl) (by simp) ?_
  refine AllReadyH.cons rfl (fun K hK => ?_) AllReadyH.nil
  go_simp
  refine hK.out _ _ trivial (fun _ => ?_)
  clear hK K
  try simp only [Act.put, List.getElem_toArray, List.getElem_cons_succ, List.getElem_cons_zero, List.setIfInBounds_toArray, List.set_cons_zero, List.set_cons_succ]
  refine wpAnyH_done (by kernel_rfl) ?_ _
  refine NoPanic.normal ?_
  go_wp2
  exact Great.bodyPost_end0 rfl rfl ⟨rfl, hE.out⟩
theorem rtc_clo (cb bm : Nat) : Clo 89 (.pointer (some ⟨cb, 0, none⟩)) xOk (rtInv cb bm) where
  enters := fun _ _ => by kernel_rfl
  own := fun l G w ⟨hcb, hm, hG, _⟩ k hk => by
    rcases (hG k).1 hk with rfl | rfl
    · exact (Array.getElem?_eq_some_iff.1 hcb).1
    · exact hm.lt
  keep := fun l G w w' ⟨hcb, hm, hG, hl⟩ e _ => ⟨(e cb ((hG cb).2 (.inl rfl))).trans hcb, hm.keep (e bm ((hG bm).2 (.inr rfl))), hG, hl⟩
  does := fun l x G w h hx hl => rtc_any h hx _
/-- The first root that is free. -/
def IsRoot (l : List KV) (r : Int) : Prop := (r = 0 ∧ ∀ t, 2 ≤ t → t < 8 → taken l t = true) ∨ (2 ≤ r ∧ r < 8 ∧ taken l r = false ∧ ∀ t, 2 ≤ t → t < r → taken l t = true)

set_option maxRecDepth 100000 in
set_option maxHeartbeats 2000000 in
theorem croot_any {bs : Nat} {B : Base bs} {w : World} {gb ba tb : Nat} {F : Nat → Prop} {R : Raw} {L : List KV} (h : CatIs B w gb ba tb F R L) (hok : ∀ x ∈ L, pre ⟨#[120]⟩ x = true → xOk x) :
    Calls Tryz.prog 47 #[.pointer (some ⟨gb, 0, none⟩)] w fun e w' => ∃ r i n, e = .returned (.int .i64 r) ∧ Span L 120 i n ∧ IsRoot ((L.drop i).take n) r ∧ CStep B gb ba tb w F R L w' := by
  have hb0 : Below w.heap.size w ((w.alloc (.map #[] 0)).alloc (.cells #[.map (some w.heap.size)] 86)) := by go_grown
  have hnF : ∀ k, w.heap.size ≤ k → ¬ F k := fun k hk e => by have := h.act.1 _ e; omega
  have hlt := h.lt
  have hcb0 := hnew (w.alloc (.map #[] 0)) (.cells #[.map (some w.heap.size)] 86)
  simp only [World.size_alloc] at hcb0
  have HE := Lib.hid (each_any (h.below hb0) (rtc_clo (w.heap.size + 1) w.heap.size) (G := fun k => k = w.heap.size + 1 ∨ k = w.heap.size) (show rtInv (w.heap.size + 1) w.heap.size [] _ _ from ⟨hcb0, (MapIs.made w).keep (Below.heap_alloc _ _ _ (by simp)), fun k => Iff.rfl, by simp⟩) (fun k hk => ⟨hnF k (by omega), by omega, by omega⟩) 120 hok)
  have hmm := @run_makeMap Tryz.prog
  have H := Lib.hid hb0
  clear h hok hb0 hnF hlt hcb0
  go_enter Tryz.func47, Tryz.ntmps47
  go_wp2_with fail
  refine HE.out.mono ?_
  rintro e w2 ⟨rfl, i, n, G2, F2, hcut, hin, hp1, hp2, ⟨hcb, hm, hG, hl5⟩, hcat, hdis, hF2, hG2, ho⟩
  have c0 : w2.cell? ⟨w.heap.size + 1, 0, none⟩ = some (.map (some w.heap.size)) := cell0 hcb
  obtain ⟨l, hl⟩ : ∃ l, (L.drop i).take n = l := ⟨_, rfl⟩
  rw [hl] at hm
  have HF := Lib.hid (show Span L 120 i n ∧ CStep B gb ba tb w F R L w2 from by
    refine ⟨⟨hcut, hin, hp1, hp2⟩, F2, hcat, fun k hk e => hF2 k (by simp; omega) e, ?_⟩
    refine ⟨ho.os, ho.tape, ho.output, Nat.le_trans (by simp; omega) ho.size, fun k hk hn => (ho.block k (by simp; omega) ?_).trans (H.out.block k hk)⟩
    rintro (e | e)
    · exact hn e
    · omega)
  have HL := Lib.hid hl
  have HM := Lib.hid hm
  clear hcut hin hp1 hp2 hcb hG hcat hdis hF2 hG2 ho HE hl hm hl5
  go_wp2
  go_loopw [4] (fun r wr => wr = w2 ∧ ∃ z : Nat, r = .int .i64 z ∧ 2 ≤ z ∧ z ≤ 8 ∧ ∀ t : Int, 2 ≤ t → t < z → taken l t = true) (fun r _ => 8 - (intOf r).toNat)
  case atStart => exact ⟨rfl, 2, rfl, by omega, by omega, fun t h1 h2 => by omega⟩
  case round =>
    obtain ⟨rfl, z, rfl, hz2, hz8, hall⟩ := hrel
    have HA := Lib.hid hall
    have hz2' : 2 ≤ (z : Int) := by omega
    clear hall
    by_cases hz : z < 8
    · have hz' : (z : Int) < 8 := by omega
      have hlk := HM.out.look (t := 86) (e := 4) Tryz.underlying86 (z := .bool false) (by kernel_rfl) (i := (z : Int)) (wfI ⟨by omega, by omega⟩)
      cases ht : taken l z with
      | true =>
        rw [show (takenF l z).getD (.bool false) = .bool true by simp [takenF, ht]] at hlk
        have HT := Lib.hid ht
        clear ht
        go_wp2
        go_roundw
        case rel => exact ⟨trivial, z + 1, by go_num, by omega, by omega, fun t h1 h2 => by
          by_cases e : t = z
          · subst e; exact HT.out
          · exact HA.out t h1 (by omega)⟩
        case measure => simp [intOf]; omega
      | false =>
        rw [show (takenF l z).getD (.bool false) = .bool false by simp [takenF, ht]] at hlk
        have HT := Lib.hid ht
        clear ht
        go_wp2
        go_ret
        refine ⟨z, i, n, rfl, HF.out.1, ?_, HF.out.2⟩
        rw [HL.out]
        exact .inr ⟨hz2', hz', HT.out, HA.out⟩
    · have hz' : ¬ (z : Int) < 8 := by omega
      go_wp2
      go_ret
      first | refine ⟨0, i, n, rfl, HF.out.1, ?_, HF.out.2⟩ | refine ⟨0, rfl, i, n, HF.out.1, ?_, HF.out.2⟩
      rw [HL.out]
      exact .inl ⟨rfl, fun t h1 h2 => HA.out t h1 (by omega)⟩
end Go.Proofs.YtiakepcgalmjfaaGreat

namespace Go.Proofs.YtiakepcgalmjfaaGreat
open Go.RowKit
open Go.Maps (Keyed IsMap Tidy)

def In64 (n : Int) : Prop := -9223372036854775808 ≤ n ∧ n ≤ 9223372036854775807
theorem bcell {W w1 : World} (hb : Below W.heap.size W w1) : (∀ b o, b < W.heap.size → w1.cell? ⟨b, o, none⟩ = W.cell? ⟨b, o, none⟩) ∧ (∀ b o, b < W.heap.size → w1.frozen? ⟨b, o, none⟩ = W.frozen? ⟨b, o, none⟩) :=
  ⟨fun b o h => hb.cell (p := ⟨b, o, none⟩) h, fun b o h => hb.frozen (p := ⟨b, o, none⟩) h⟩
theorem ret_bool {a b : Bool} (h : a = b) : Ending.returned (.bool a) = .returned (.bool b) := by rw [h]
theorem ret_int {k : IntKind} {a b : Int} (h : a = b) : Ending.returned (.int k a) = .returned (.int k b) := by rw [h]
theorem any_take_succ {α : Type} (l : List α) (p : α → Bool) (k : Nat) (h : k < l.length) : (l.take (k + 1)).any p = ((l.take k).any p || p l[k]) := by
  rw [List.take_succ_eq_append_getElem h, List.any_append]; simp
theorem any_true_of {α : Type} (l : List α) (p : α → Bool) (k : Nat) (h : k < l.length) (hp : p l[k] = true) : l.any p = true := by
  rw [List.any_eq_true]; exact ⟨_, List.getElem_mem h, hp⟩
def idxOr (b : Bool) (e : Ending) : Prop := if b = true then ∃ n : Int, 0 ≤ n ∧ e = .returned (.int .i64 n) else e = .returned (.int .i64 (-1))

def ColIs (w : World) (a : Option Addr) (l : List Co) : Prop :=
  l = [] ∨ ∃ b off, a = some ⟨b, off, none⟩ ∧ ∀ i (h : i < l.length),
    w.cell? ⟨b, off + i * 2, none⟩ = some (.string l[i].name) ∧ w.cell? ⟨b, off + i * 2 + 1, none⟩ = some (.int .i64 l[i].kind) ∧ l[i].name.size ≤ 9223372036854775807 ∧ In64 l[i].kind
theorem ColIs.below {w w1 : World} {a : Option Addr} {l : List Co} (h : ColIs w a l) (hb : Below w.heap.size w w1) : ColIs w1 a l := by
  rcases h with h | ⟨b, off, ha, h⟩
  · exact .inl h
  · refine .inr ⟨b, off, ha, fun i hi => ?_⟩
    obtain ⟨h0, h1, h2⟩ := h i hi
    exact ⟨(hb.cell (World.block_lt_of_cell? w _ h0)).trans h0, (hb.cell (World.block_lt_of_cell? w _ h1)).trans h1, h2⟩
theorem ColIs.at_ {w : World} {a : Option Addr} {l : List Co} (h : ColIs w a l) (i : Nat) (hi : i < l.length) : ∃ b off, a = some ⟨b, off, none⟩ ∧
    w.cell? ⟨b, off + i * 2, none⟩ = some (.string l[i].name) ∧ w.cell? ⟨b, off + i * 2 + 1, none⟩ = some (.int .i64 l[i].kind) ∧ l[i].name.size ≤ 9223372036854775807 ∧ In64 l[i].kind := by
  rcases h with h | ⟨b, off, ha, h⟩
  · subst h; simp at hi
  · exact ⟨b, off, ha, h i hi⟩
def letter (b : UInt8) : Bool := decide (97 ≤ b.toNat) && decide (b.toNat ≤ 122)
def wordsL : List (List UInt8) := [[97, 110, 100], [111, 114], [110, 111, 116], [116, 114, 117, 101], [104, 97, 115]]
/-- May a text be a column's name? -/
def nameB (s : List UInt8) : Bool := decide (1 ≤ s.length) && decide (s.length ≤ 16) && s.all letter && !wordsL.contains s
def kindB (k : Int) : Bool := decide (1 ≤ k) && decide (k ≤ 3)
def Co.ok (c : Co) : Bool := nameB c.name.data.toList && kindB c.kind
def seenB (l : List Co) (s : List UInt8) : Bool := l.any fun d => d.name.data.toList == s
/-- The first k of columns may be. -/
def goodTo (l : List Co) : Nat → Bool
  | 0 => true
  | k + 1 => goodTo l k && (match l[k]? with
    | some c => c.ok && !seenB (l.take k) c.name.data.toList
    | none => true)
def colsB (l : List Co) : Bool := decide (1 ≤ l.length) && decide (l.length ≤ 4) && goodTo l l.length
def colE (l : List Co) : Int := if colsB l then 0 else 160

theorem goodTo_succ (l : List Co) (k : Nat) (h : k < l.length) : goodTo l (k + 1) = (goodTo l k && (l[k].ok && !seenB (l.take k) l[k].name.data.toList)) := by
  simp [goodTo, h]
theorem goodTo_down (l : List Co) (k : Nat) (hk : goodTo l k = false) : ∀ j, goodTo l (k + j) = false
  | 0 => hk
  | j + 1 => by rw [← Nat.add_assoc, goodTo, goodTo_down l k hk j]; rfl
theorem colsB_no (l : List Co) (k : Nat) (h : k < l.length) (hn : (l[k].ok && !seenB (l.take k) l[k].name.data.toList) = false) : colsB l = false := by
  have h1 : goodTo l (k + 1) = false := by rw [goodTo_succ l k h, hn]; simp
  have := goodTo_down l (k + 1) h1 (l.length - (k + 1))
  rw [show k + 1 + (l.length - (k + 1)) = l.length by omega] at this
  simp [colsB, this]
theorem colsB_yes (l : List Co) (h1 : 1 ≤ l.length) (h4 : l.length ≤ 4) (h : goodTo l l.length = true) : colsB l = true := by simp [colsB, h1, h4, h]
theorem goodTo_at (l : List Co) : ∀ k, goodTo l k = true → ∀ j (h : j < l.length), j < k → l[j].ok = true ∧ seenB (l.take j) l[j].name.data.toList = false
  | 0, _, _, _, hj => by omega
  | k + 1, hg, j, h, hj => by
    rw [goodTo, Bool.and_eq_true] at hg
    by_cases e : j = k
    · subst e
      have := hg.2
      rw [List.getElem?_eq_getElem h] at this
      simpa using this
    · exact goodTo_at l k hg.1 j h (by omega)


/-- Strings in a row. -/
def StrsAt (w : World) (a : Option Addr) (l : List ByteArray) : Prop := ∃ b off, a = some ⟨b, off, none⟩ ∧ ∀ i (h : i < l.length), w.cell? ⟨b, off + i, none⟩ = some (.string l[i])

theorem sindex_any (L : List ByteArray) (a : Option Addr) (c : Nat) (s : ByteArray) (w : World) (hr : StrsAt w a L) (hl : L.length ≤ 1000) :
    Calls Tryz.prog 163 #[.slice a L.length c, .string s] w fun e w' => idxOr (L.any fun x => x.toList == s.toList) e ∧ w' = w := by
  obtain ⟨b, off, rfl, hc⟩ := hr
  have HC := Lib.hid hc
  clear hc
  go_enter Tryz.func163, Tryz.ntmps163
  go_wp2
  go_loop [8] (fun i => ∃ j : Nat, j ≤ L.length ∧ i = .int .i64 j ∧ (L.take j).any (fun x => x.toList == s.toList) = false) (fun i => L.length - (intOf i).toNat)
  case atStart => exact ⟨0, Nat.zero_le _, rfl, rfl⟩
  case round =>
    obtain ⟨j, hj, rfl, hall⟩ := hrel
    have HA := Lib.hid hall
    clear hall
    by_cases hlt : j < L.length
    · have g0 := HC.out j hlt
      by_cases he : (s.toList == L[j].toList) = true
      · have he' : (L[j].toList == s.toList) = true := by rw [beq_iff_eq] at he ⊢; exact he.symm
        have HE := Lib.hid he'
        clear he'
        go_wp2
        go_ret
        refine ⟨?_, rfl⟩
        rw [any_true_of L (fun x => x.toList == s.toList) j hlt HE.out]
        exact ⟨j, by omega, rfl⟩
      · have he' : (L[j].toList == s.toList) = false := by
          rw [beq_iff_eq] at he; rw [beq_eq_false_iff_ne]; exact fun e => he e.symm
        have HE := Lib.hid he'
        have he2 : (s.toList == L[j].toList) = false := by simpa using he
        clear he' he
        go_wp2
        go_round
        case rel => exact ⟨j + 1, by omega, by go_num, by rw [any_take_succ _ _ _ hlt, HA.out, HE.out]; rfl⟩
        case measure => simp [intOf]; omega
    · go_wp2
      go_ret
      refine ⟨?_, rfl⟩
      have : L.any (fun x => x.toList == s.toList) = false := by rw [← HA.out, List.take_of_length_le (by omega)]
      rw [this]; rfl

theorem scontains_any (L : List ByteArray) (a : Option Addr) (c : Nat) (s : ByteArray) (w : World) (hr : StrsAt w a L) (hl : L.length ≤ 1000) :
    Calls Tryz.prog 138 #[.slice a L.length c, .string s] w fun e w' => e = .returned (.bool (L.any fun x => x.toList == s.toList)) ∧ w' = w := by
  cases hq : L.any fun x => x.toList == s.toList with
  | true =>
    go_enter Tryz.func138, Tryz.ntmps138
    go_wp2_with fail
    refine (sindex_any L a c s _ hr hl).mono ?_
    rintro e w' ⟨he, rfl⟩
    rw [hq] at he
    obtain ⟨n, hn, rfl⟩ := he
    go_wp2
    go_ret
    exact ⟨ret_bool (by simp), rfl⟩
  | false =>
    go_enter Tryz.func138, Tryz.ntmps138
    go_wp2_with fail
    refine (sindex_any L a c s _ hr hl).mono ?_
    rintro e w' ⟨he, rfl⟩
    rw [hq] at he
    obtain rfl : e = .returned (.int .i64 (-1)) := he
    go_wp2
    go_ret
    exact ⟨rfl, rfl⟩

-- runes and letters

def oddR (x : Nat) : Bool := decide (x < 97) || decide (122 < x)
theorem odd_pays (w : World) : PredGrows Tryz.prog 137 #[] oddR w := fun W x _ _ => by
  by_cases h1 : x < 97
  · go_enter Tryz.func137, Tryz.ntmps137
    go_wp2
    go_ret
    exact ⟨ret_bool (by simp [oddR, h1]), Below.refl _ _⟩
  · by_cases h2 : 122 < x
    all_goals
      go_enter Tryz.func137, Tryz.ntmps137
      go_wp2
      go_ret
      exact ⟨ret_bool (by simp [oddR, h1, h2] <;> omega), Below.refl _ _⟩

theorem get_at (s : ByteArray) (i : Nat) (hi : i < s.size) : s.get! i = s[i] := by
  obtain ⟨d⟩ := s
  exact getElem!_pos d i hi
theorem decode_ascii (s : ByteArray) (i : Nat) (hi : i < s.size) (h : s[i].toNat < 128) : Utf8.decode s i = (s[i].toNat, 1) := by
  unfold Utf8.decode
  simp only [Nat.add_zero, get_at s i hi]
  rw [if_pos (by omega)]
theorem decode_wide (s : ByteArray) (i : Nat) (hi : i < s.size) (h : ¬ s[i].toNat < 128) : 128 ≤ (Utf8.decode s i).1 := by
  unfold Utf8.decode
  simp only [Nat.add_zero, get_at s i hi]
  rw [if_neg (by omega)]
  unfold Utf8.runeError
  repeat' split
  all_goals simp_all
  all_goals omega

theorem drop_at (s : ByteArray) (j : Nat) (hj : j < s.size) : s.data.toList.drop j = s[j] :: s.data.toList.drop (j + 1) := by
  rw [List.drop_eq_getElem_cons (by simpa using hj)]; rfl
theorem odd_from (s : ByteArray) : ∀ f pos, s.size ≤ pos + f → decide (0 ≤ Lib.idxFuncFrom oddR true s f pos) = !((s.data.toList.drop pos).all letter)
  | 0, pos, h => by
    rw [Lib.idxFuncFrom, List.drop_of_length_le (by simpa using h)]
    rfl
  | f + 1, pos, h => by
    rw [Lib.idxFuncFrom]
    by_cases hp : pos < s.size
    · rw [if_pos hp, drop_at s pos hp, List.all_cons]
      by_cases ha : s[pos].toNat < 128
      · rw [decode_ascii s pos hp ha]
        by_cases hl : letter s[pos] = true
        · have hl' := hl
          simp only [letter, Bool.and_eq_true, decide_eq_true_eq] at hl'
          rw [if_neg (by simp [oddR]; omega), odd_from s f (pos + 1) (by omega), hl, Bool.true_and]
        · have hl' : letter s[pos] = false := by simpa using hl
          rw [if_pos, hl', Bool.false_and]
          · simp
          · simp [letter] at hl'
            simp [oddR]; omega
      · have hd := decode_wide s pos hp ha
        rw [if_pos (by simp [oddR]; omega)]
        have hl' : letter s[pos] = false := by simp [letter]; omega
        rw [hl', Bool.false_and]
        simp
    · rw [if_neg hp, List.drop_of_length_le (by simp; omega)]
      rfl
theorem odd_any (s : ByteArray) : decide (0 ≤ Lib.idxFunc oddR true s) = !(s.data.toList.all letter) := by
  unfold Lib.idxFunc
  rw [odd_from s s.size 0 (by omega)]; rfl

def wordsB : List ByteArray := [⟨#[97, 110, 100]⟩, ⟨#[111, 114]⟩, ⟨#[110, 111, 116]⟩, ⟨#[116, 114, 117, 101]⟩, ⟨#[104, 97, 115]⟩]
theorem words_any (s : ByteArray) : (wordsB.any fun x => x.toList == s.toList) = wordsL.contains s.data.toList := by
  rw [Lib.toList_data s]
  simp only [wordsB, wordsL, List.any_cons, List.any_nil, Lib.toList_data, List.contains_cons, List.contains_nil]
  simp only [Bool.beq_comm (a := s.data.toList)]

theorem odd_call (s : ByteArray) (w : World) (b : Bool) (hb : s.data.toList.all letter = b) :
    Calls Tryz.prog 86 #[.string s, .func (.func 137) #[] #[]] w fun e w' => e = .returned (.bool (!b)) ∧ Below w.heap.size w w' := by
  rw [← hb, ← odd_any]
  exact Tryz.strings_ContainsFunc_grows 137 #[] (fun _ _ => by kernel_rfl) oddR s w (odd_pays w)

theorem words_call (s : ByteArray) (w : World) (g : Nat) (c : Nat) (b : Bool) (hb : wordsL.contains s.data.toList = b)
    (h0 : w.cell? ⟨g, 0, none⟩ = some (.string ⟨#[97, 110, 100]⟩)) (h1 : w.cell? ⟨g, 1, none⟩ = some (.string ⟨#[111, 114]⟩)) (h2 : w.cell? ⟨g, 2, none⟩ = some (.string ⟨#[110, 111, 116]⟩))
    (h3 : w.cell? ⟨g, 3, none⟩ = some (.string ⟨#[116, 114, 117, 101]⟩)) (h4 : w.cell? ⟨g, 4, none⟩ = some (.string ⟨#[104, 97, 115]⟩)) :
    Calls Tryz.prog 138 #[.slice (some ⟨g, 0, none⟩) 5 c, .string s] w fun e w' => e = .returned (.bool b) ∧ w' = w := by
  rw [← hb, ← words_any]
  refine scontains_any wordsB _ c s w ⟨g, 0, rfl, fun i hi => ?_⟩ (by decide)
  match i, hi with
  | 0, _ => simpa [wordsB] using h0
  | 1, _ => simpa [wordsB] using h1
  | 2, _ => simpa [wordsB] using h2
  | 3, _ => simpa [wordsB] using h3
  | 4, _ => simpa [wordsB] using h4

set_option maxHeartbeats 1000000 in
theorem name_any (s : ByteArray) (w : World) (hs : s.size ≤ 9223372036854775807) :
    Calls Tryz.prog 102 #[.string s] w fun e w' => e = .returned (.bool (nameB s.data.toList)) ∧ Below w.heap.size w w' := by
  have hsz : s.data.toList.length = s.size := by simp
  have HS := Lib.hid hsz
  clear hsz
  by_cases h1 : 1 ≤ s.size
  · have e1 : s.toList.isEmpty = false := by rw [Lib.toList_data, List.isEmpty_eq_false_iff]; intro e; have := HS.out; rw [e] at this; simp at this; omega
    have e1' : ¬ s.toList = [] := by simpa using e1
    by_cases h2 : s.size ≤ 16
    · have e2 : decide ((s.size : Int) ≤ 16) = true := by simp; omega
      cases h3 : s.data.toList.all letter with
      | false =>
        have HN := Lib.hid (show nameB s.data.toList = false by simp [nameB, h3])
        have HC := Lib.hid (odd_call s · false h3)
        clear h3
        go_enter Tryz.func102, Tryz.ntmps102
        go_wp2_with (go_at_call 86; refine (HC.out _).mono ?_; rintro e w' ⟨rfl, hb⟩)
        go_ret
        exact ⟨ret_bool HN.out.symm, hb⟩
      | true =>
        have HC := Lib.hid (odd_call s · true h3)
        cases h4 : wordsL.contains s.data.toList with
        | true =>
          have HN := Lib.hid (show nameB s.data.toList = false by simp [nameB]; intro _ _ _; simpa using h4)
          have HW := Lib.hid (words_call s · · · true h4)
          clear h3 h4
          go_enter Tryz.func102, Tryz.ntmps102
          go_wp2_with (go_at_call 86; refine (HC.out _).mono ?_; rintro e w' ⟨rfl, hb⟩)
          refine (HW.out _ _ _ ?_ ?_ ?_ ?_ ?_).mono ?_
          · go_simp
          · go_simp
          · go_simp
          · go_simp
          · go_simp
          rintro e w2 ⟨rfl, rfl⟩
          go_wp2
          go_ret
          exact ⟨ret_bool HN.out.symm, hb.alloc (by have := hb.size; omega) _⟩
        | false =>
          have HN := Lib.hid (show nameB s.data.toList = true by simp [nameB, h3, HS.out, h1, h2]; simpa using h4)
          have HW := Lib.hid (words_call s · · · false h4)
          clear h3 h4
          go_enter Tryz.func102, Tryz.ntmps102
          go_wp2_with (go_at_call 86; refine (HC.out _).mono ?_; rintro e w' ⟨rfl, hb⟩)
          refine (HW.out _ _ _ ?_ ?_ ?_ ?_ ?_).mono ?_
          · go_simp
          · go_simp
          · go_simp
          · go_simp
          · go_simp
          rintro e w2 ⟨rfl, rfl⟩
          go_wp2
          go_ret
          exact ⟨ret_bool HN.out.symm, hb.alloc (by have := hb.size; omega) _⟩
    · have e2 : decide ((s.size : Int) ≤ 16) = false := by simp; omega
      have HN := Lib.hid (show nameB s.data.toList = false by simp [nameB, HS.out]; omega)
      go_enter Tryz.func102, Tryz.ntmps102
      go_wp2
      go_ret
      exact ⟨ret_bool HN.out.symm, by go_grown⟩
  · have e1 : s.toList.isEmpty = true := by rw [Lib.toList_data, List.isEmpty_iff, ← List.length_eq_zero_iff, HS.out]; omega
    have e1' : s.toList = [] := by simpa using e1
    have HN := Lib.hid (show nameB s.data.toList = false by simp [nameB, HS.out]; omega)
    go_enter Tryz.func102, Tryz.ntmps102
    go_wp2
    go_ret
    exact ⟨ret_bool HN.out.symm, by go_grown⟩

theorem plainElem_bool_back {H : Type} {P : Program} {e : TypeId} (he : P.underlying e = some .bool) {v : Value} {z : DataW H × List MemPlace} (h : plainElem P e v = some z) : ∃ x, v = .bool x ∧ z = (.lit (.bool x), []) := by
  unfold plainElem at h
  rw [he] at h
  cases v <;> simp at h
  rename_i x
  exact ⟨x, rfl, h.symm⟩
theorem ownsMap_lookup_bool {H : Type} {P : Program} {k : TypeId} {w : World} {b n : Nat} {D : DataW H} {t e : TypeId} (h : w.ownsMap P k (plainElem P e) b n D) (K : Keyed P k) (ht : P.underlying t = some (.map k e)) (he : P.underlying e = some .bool) (hz : (zeroValue e).run P w = .ok (.bool false) w)
    {key : Value} {kl : Lit} (hkey : keyOf P k key = some kl) : ∃ c, (Instr.lookup t (.map (some b)) key false).run P w = .ok (.bool c) w ∧ D.atKey kl (.lit (.bool false)) = .lit (.bool c) := by
  obtain ⟨v, ps, hrun, hv⟩ := h.lookup K ht hz (plainElem_bool he false) hkey
  obtain ⟨c, rfl, hc⟩ := plainElem_bool_back he hv
  simp only [Prod.mk.injEq] at hc
  exact ⟨c, hrun, hc.1⟩

def keysN (l : List Co) (k : Nat) : List Lit := (l.take k).map fun c => .string c.name.data.toList
def seenN {H : Type} (l : List Co) (k : Nat) : DataW H := Maps.setOf (.lit (.bool true)) (keysN l k)
theorem keysN_succ (l : List Co) (k : Nat) (hk : k < l.length) : keysN l (k + 1) = keysN l k ++ [.string l[k].name.data.toList] := by
  unfold keysN
  rw [List.take_succ_eq_append_getElem hk, List.map_append]; rfl
theorem seenN_succ {H : Type} (l : List Co) (k : Nat) (hk : k < l.length) : seenN (H := H) l (k + 1) = (seenN l k).put (.string l[k].name.data.toList) (.lit (.bool true)) := by
  unfold seenN
  rw [keysN_succ l k hk, Maps.setOf_snoc]
theorem seenN_zero {H : Type} (l : List Co) : seenN (H := H) l 0 = .map [] := by simp [seenN, keysN, Maps.setOf]

theorem seenN_isMap {H : Type} (l : List Co) (k : Nat) : IsMap (seenN (H := H) l k) := by
  unfold seenN Maps.setOf
  have : ∀ (acc : List Lit) (m : DataW H), IsMap m → IsMap (acc.foldl (fun m x => m.put x (.lit (.bool true))) m) := fun acc => by
    induction acc with
    | nil => exact fun m h => h
    | cons x r ih => exact fun m h => ih _ (h.put x _)
  exact this _ _ Maps.isMap_empty

theorem seenN_at {H : Type} (l : List Co) (s : List UInt8) : ∀ k, k ≤ l.length → (seenN (H := H) l k).atKey (.string s) (.lit (.bool false)) = .lit (.bool (seenB (l.take k) s))
  | 0, _ => by rw [seenN_zero]; rfl
  | k + 1, hk => by
    have hk' : k < l.length := by omega
    rw [seenN_succ l k hk', seenB, any_take_succ _ _ _ hk']
    by_cases e : l[k].name.data.toList = s
    · subst e
      rw [Maps.atKey_put_same (seenN_isMap l k) (by simp [WideAt.IsKeyLit])]
      simp
    · rw [Maps.atKey_put_other (by simpa using fun h => e h.symm), seenN_at l s k (by omega)]
      have : (l[k].name.data.toList == s) = false := by simpa using e
      rw [this, Bool.or_false]; rfl

theorem lawS : Keyed Tryz.prog 9 := Maps.string_keyed Tryz.underlying9

theorem only_of_below {a w : World} (h : Below a.heap.size a w) (row : Option Nat) : a.grownBy w row := ⟨h.os, h.tape, h.output, h.size, fun i hi _ => h.block i hi⟩
def okB (nm kd sn : Bool) : Bool := nm && kd && !sn

theorem good_no (l : List Co) (k : Nat) (h : k < l.length) (hn : l[k].ok = false ∨ seenB (l.take k) l[k].name.data.toList = true) : colsB l = false := by
  refine colsB_no l k h ?_
  rcases hn with h | h <;> simp [h]

set_option maxRecDepth 100000 in
set_option maxHeartbeats 2000000 in
theorem columns_any (l : List Co) (a : Option Addr) (c : Nat) (w : World) (hr : ColIs w a l) (hl : l.length ≤ 9223372036854775807) :
    Calls Tryz.prog 57 #[.slice a l.length c] w fun e w' => e = .returned (.int .i64 (colE l)) ∧ Below w.heap.size w w' := by
  have hmm := @run_makeMap Tryz.prog
  by_cases h1 : 1 ≤ l.length
  · by_cases h4 : l.length ≤ 4
    · have e1 : decide ((l.length : Int) < 1) = false := by simp; omega
      have e4 : decide ((4 : Int) < (l.length : Int)) = false := by simp; omega
      go_enter Tryz.func57, Tryz.ntmps57
      go_wp2
      go_loopw [17] (fun i wr => ∃ k : Nat, k ≤ l.length ∧ i = .int .i64 k ∧ goodTo l k = true ∧ wr.ownsMap Tryz.prog 9 (plainElem Tryz.prog 4) w.heap.size k (seenN (H := Unit) l k) ∧ Below w.heap.size w wr)
        (fun i _ => l.length - (intOf i).toNat)
      case atStart => exact ⟨0, Nat.zero_le _, rfl, rfl, by rw [seenN_zero]; exact World.ownsMap_made _ _ _ _, (Below.refl _ _).alloc (Nat.le_refl _) _⟩
      case round =>
        obtain ⟨k, hk, rfl, hgood, hown, hb⟩ := hrel
        have HGD := Lib.hid hgood
        clear hgood
        by_cases hlt : k < l.length
        · obtain ⟨b, off, rfl, g0, g1, hsz, hin⟩ := (hr.below hb).at_ k hlt
          have hkey : keyOf Tryz.prog 9 (.string l[k].name) = some (.string l[k].name.data.toList) := WideMaps.keyOf_string_mk Tryz.underlying9 (by unfold maxLen; omega)
          have HAT := Lib.hid (seenN_at (H := Unit) l l[k].name.data.toList k hk)
          have HNO := Lib.hid (good_no l k hlt)
          have HYES := Lib.hid (goodTo_succ l k hlt)
          have HPUT := Lib.hid (seenN_succ (H := Unit) l k hlt)
          generalize hnm : l[k].name = nm at *
          generalize hkd : l[k].kind = kd at *
          have HOK := Lib.hid (show l[k].ok = (nameB nm.data.toList && kindB kd) by rw [Co.ok, hnm, hkd])
          clear hnm hkd
          have hlo := hown.lt
          have hz := hb.size
          cases hn : nameB nm.data.toList with
          | false =>
            have HC := Lib.hid (show colsB l = false from HNO.out (.inl (by rw [HOK.out, hn]; rfl)))
            have HNM := Lib.hid (name_any nm · hsz)
            rw [hn] at HNM
            go_wp2_with (go_at_call 102; refine (HNM.out _).mono ?_; rintro e w' ⟨rfl, hb'⟩)
            go_ret
            exact ⟨ret_int (by rw [colE, HC.out]; rfl), (hb.alloc hz _).trans (hb'.mono (by simp; omega))⟩
          | true =>
            have HNM := Lib.hid (name_any nm · hsz)
            rw [hn] at HNM
            go_wp2_with fail
            refine (HNM.out _).mono ?_
            rintro e w' ⟨rfl, hb'⟩
            have hb0 : Below w.heap.size w w' := (hb.alloc hz _).trans (hb'.mono (by simp; omega))
            obtain ⟨hc1, hf1⟩ := bcell hb'
            simp only [World.size_alloc] at hc1 hf1
            have d0 : w'.cell? ⟨wr.heap.size, 0, none⟩ = some (.string nm) := by rw [hc1 _ _ (by omega)]; go_simp
            have d1 : w'.cell? ⟨wr.heap.size, 1, none⟩ = some (.int .i64 kd) := by rw [hc1 _ _ (by omega)]; go_simp
            clear hc1 hf1
            have hown' : w'.ownsMap Tryz.prog 9 (plainElem Tryz.prog 4) w.heap.size k (seenN (H := Unit) l k) :=
              (hown.alloc _).kept (row := none) (only_of_below hb' none) (by simp)
            obtain ⟨sn, hrun, hat⟩ := ownsMap_lookup_bool hown' lawS Tryz.underlying176 Tryz.underlying4 (by kernel_rfl) hkey
            rw [HAT.out] at hat
            obtain rfl : seenB (l.take k) nm.data.toList = sn := by injection hat with h; injection h
            by_cases k1 : 1 ≤ kd
            · by_cases k3 : kd ≤ 3
              · cases hs : seenB (l.take k) nm.data.toList with
                | true =>
                  rw [hs] at hrun
                  have HC := Lib.hid (show colsB l = false from HNO.out (.inr hs))
                  clear hs
                  go_wp2
                  go_ret
                  exact ⟨ret_int (by rw [colE, HC.out]; rfl), hb0⟩
                | false =>
                  rw [hs] at hrun
                  have HG := Lib.hid (show goodTo l (k + 1) = true by rw [HYES.out, HGD.out, HOK.out, hn, hs]; simp [kindB, k1, k3])
                  clear hs hn
                  go_wp2_with (at_mapUpdate; refine wpList_mapUpdate_own _ rfl _ _ _ 176 rfl 9 4 lawS Tryz.underlying176 (plainElem (H := Unit) Tryz.prog 4) w.heap.size k _ rfl hown' (by unfold maxLen; omega) _ _ _ rfl rfl hkey _ [] (plainElem_bool Tryz.underlying4 true) ?_; intro w1 hown1 hgrow1)
                  go_roundw
                  case rel => exact ⟨k + 1, by omega, by go_num, HG.out, by rw [HPUT.out]; exact hown1, hb0.grown hgrow1 hb0.size (fun j hj => by cases hj; exact Nat.le_refl _)⟩
                  case measure => simp [intOf]; omega
              · have HC := Lib.hid (show colsB l = false from HNO.out (.inl (by rw [HOK.out, hn]; simp [kindB, k3])))
                go_wp2
                go_ret
                exact ⟨ret_int (by rw [colE, HC.out]; rfl), hb0⟩
            · have HC := Lib.hid (show colsB l = false from HNO.out (.inl (by rw [HOK.out, hn]; simp [kindB, k1])))
              go_wp2
              go_ret
              exact ⟨ret_int (by rw [colE, HC.out]; rfl), hb0⟩
        · go_wp2
          go_ret
          exact ⟨ret_int (by rw [colE, colsB_yes l h1 h4 (by have := HGD.out; rwa [show k = l.length by omega] at this)]; rfl), hb⟩
    · have e1 : decide ((l.length : Int) < 1) = false := by simp; omega
      have e4 : decide ((4 : Int) < (l.length : Int)) = true := by simp; omega
      have HC := Lib.hid (show colsB l = false by simp [colsB]; omega)
      go_enter Tryz.func57, Tryz.ntmps57
      go_wp2
      go_ret
      exact ⟨ret_int (by rw [colE, HC.out]; rfl), Below.refl _ _⟩
  · have e1 : decide ((l.length : Int) < 1) = true := by simp; omega
    have HC := Lib.hid (show colsB l = false by simp [colsB]; omega)
    go_enter Tryz.func57, Tryz.ntmps57
    go_wp2
    go_ret
    exact ⟨ret_int (by rw [colE, HC.out]; rfl), Below.refl _ _⟩
end Go.Proofs.YtiakepcgalmjfaaGreat

namespace Go.Proofs.YtiakepcgalmjfaaGreat
open Go.RowKit

theorem codd_pays (w : World) : PredGrows Tryz.prog 87 #[] oddR w := fun W x _ _ => by
  by_cases h1 : x < 97
  · go_enter Tryz.func87, Tryz.ntmps87
    go_wp2
    go_ret
    exact ⟨ret_bool (by simp [oddR, h1]), Below.refl _ _⟩
  · by_cases h2 : 122 < x
    all_goals
      go_enter Tryz.func87, Tryz.ntmps87
      go_wp2
      go_ret
      exact ⟨ret_bool (by simp [oddR, h1, h2] <;> omega), Below.refl _ _⟩
theorem codd_call (s : ByteArray) (w : World) (b : Bool) (hb : s.data.toList.all letter = b) :
    Calls Tryz.prog 86 #[.string s, .func (.func 87) #[] #[]] w fun e w' => e = .returned (.bool (!b)) ∧ Below w.heap.size w w' := by
  rw [← hb, ← odd_any]
  exact Tryz.strings_ContainsFunc_grows 87 #[] (fun _ _ => by kernel_rfl) oddR s w (codd_pays w)
/-- May a text be an index's name? -/
def nameX (s : List UInt8) : Bool := decide (1 ≤ s.length) && decide (s.length ≤ 16) && s.all letter

set_option maxHeartbeats 1000000 in
theorem named_any (s : ByteArray) (w : World) :
    Calls Tryz.prog 43 #[.string s] w fun e w' => e = .returned (.bool (nameX s.data.toList)) ∧ Below w.heap.size w w' := by
  have hsz : s.data.toList.length = s.size := by simp
  have HS := Lib.hid hsz
  clear hsz
  by_cases h1 : 1 ≤ s.size
  · have e1 : s.toList.isEmpty = false := by rw [Lib.toList_data, List.isEmpty_eq_false_iff]; intro e; have := HS.out; rw [e] at this; simp at this; omega
    have e1' : ¬ s.toList = [] := by simpa using e1
    by_cases h2 : s.size ≤ 16
    · have e2 : decide ((s.size : Int) ≤ 16) = true := by simp; omega
      cases h3 : s.data.toList.all letter with
      | false =>
        have HN := Lib.hid (show nameX s.data.toList = false by simp [nameX, h3])
        have HC := Lib.hid (codd_call s · false h3)
        clear h3
        go_enter Tryz.func43, Tryz.ntmps43
        go_wp2_with (go_at_call 86; refine (HC.out _).mono ?_; rintro e w' ⟨rfl, hb⟩)
        go_ret
        exact ⟨ret_bool HN.out.symm, hb⟩
      | true =>
        have HC := Lib.hid (codd_call s · true h3)
        have HN := Lib.hid (show nameX s.data.toList = true by simp [nameX, h3, HS.out, h1, h2])
        clear h3
        go_enter Tryz.func43, Tryz.ntmps43
        go_wp2_with (go_at_call 86; refine (HC.out _).mono ?_; rintro e w' ⟨rfl, hb⟩)
        go_ret
        exact ⟨ret_bool HN.out.symm, hb⟩
    · have e2 : decide ((s.size : Int) ≤ 16) = false := by simp; omega
      have HN := Lib.hid (show nameX s.data.toList = false by simp [nameX, HS.out]; omega)
      go_enter Tryz.func43, Tryz.ntmps43
      go_wp2
      go_ret
      exact ⟨ret_bool HN.out.symm, by go_grown⟩
  · have e1 : s.toList.isEmpty = true := by rw [Lib.toList_data, List.isEmpty_iff, ← List.length_eq_zero_iff, HS.out]; omega
    have e1' : s.toList = [] := by simpa using e1
    have HN := Lib.hid (show nameX s.data.toList = false by simp [nameX, HS.out]; omega)
    go_enter Tryz.func43, Tryz.ntmps43
    go_wp2
    go_ret
    exact ⟨ret_bool HN.out.symm, by go_grown⟩

theorem cut_from {L : List KV} (hs : Sorted L) (key : ByteArray) : ∀ n, n ≤ L.length → (∀ t (h : t < L.length), n ≤ t → 0 ≤ cmpK L[t] key) → ∃ i, Cut L key i
  | 0, _, h => ⟨0, Nat.zero_le _, fun _ _ h => by omega, h⟩
  | n + 1, hn, h => by
    by_cases hc : cmpK (L[n]'hn) key < 0
    · exact ⟨n + 1, hn, fun t ht hl => hs.mono key t n ht hn (by omega) hc, h⟩
    · exact cut_from hs key n (by omega) (fun t ht hl => by
        by_cases e : t = n
        · subst e; omega
        · exact h t ht (by omega))
theorem cut_any {L : List KV} (hs : Sorted L) (key : ByteArray) : ∃ i, Cut L key i := cut_from hs key L.length (Nat.le_refl _) (fun t h h' => by omega)
/-- The key of an index. -/
def xkey (s : ByteArray) : ByteArray := ⟨#[120]⟩ ++ s
/-- What get answers. -/
def getR (L : List KV) (s : ByteArray) (i : Nat) : Value := if nameX s.data.toList then gotR L (xkey s) i else .tuple #[.string ⟨#[]⟩, .int .i64 3]

theorem got_two (L : List KV) (key : ByteArray) (i : Nat) : (∃ v, gotR L key i = .tuple #[.string v, .int .i64 0] ∧ isAt L key i = true) ∨ (gotR L key i = .tuple #[.string ⟨#[]⟩, .int .i64 3] ∧ isAt L key i = false) := by
  unfold gotR
  cases h : isAt L key i with
  | true => exact .inl ⟨_, rfl, rfl⟩
  | false => exact .inr ⟨rfl, rfl⟩

set_option maxRecDepth 100000 in
set_option maxHeartbeats 2000000 in
theorem get_any {bs : Nat} {B : Base bs} {w : World} {gb ba tb : Nat} {F : Nat → Prop} {R : Raw} {L : List KV} (h : CatIs B w gb ba tb F R L) (s : ByteArray) :
    Calls Tryz.prog 32 #[.pointer (some ⟨gb, 0, none⟩), .string s] w fun e w' => ∃ i, Cut L (xkey s) i ∧ e = .returned (getR L s i) ∧ CStep B gb ba tb w F R L w' := by
  have HG := Lib.hid (cgoing_any h)
  have HC0 := Lib.hid h
  clear h
  go_enter Tryz.func32, Tryz.ntmps32
  go_wp2_with fail
  refine HG.out.mono ?_
  rintro e w1 ⟨rfl, F1, h1, hF1, ho1⟩
  have HN := Lib.hid (named_any s w1)
  have H1 := Lib.hid (And.intro h1 (And.intro hF1 ho1))
  clear h1 hF1 ho1
  go_wp2_with fail
  refine HN.out.mono ?_
  rintro e w2 ⟨rfl, hb2⟩
  have h2 := H1.out.1.below hb2
  have HS2 := Lib.hid (show CStep B gb ba tb w F R L w2 from ⟨F1, h2, H1.out.2.1, H1.out.2.2.trans (Off.of_below hb2 (F := fun _ => False)) (fun _ _ e => e.elim)⟩)
  have HGt := Lib.hid (Get_leaf h2.tree h2.act h2.fine h2.tF (by decide) h2.leaf (xkey s))
  obtain ⟨c0, c1⟩ := h2.cells
  have H2 := Lib.hid h2
  have HB2 := Lib.hid hb2
  clear h2 hb2
  cases hn : nameX s.data.toList with
  | false =>
    have HN2 := Lib.hid (show ∀ i, getR L s i = .tuple #[.string ⟨#[]⟩, .int .i64 3] from fun i => by rw [getR, hn]; rfl)
    have hcut : ∃ i, Cut L (xkey s) i := cut_any H2.out.leaf.rises _
    clear hn c0 c1
    obtain ⟨i, hcut⟩ := hcut
    have HCut := Lib.hid hcut
    clear hcut
    go_wp2
    go_ret2
    exact ⟨i, HCut.out, by rw [HN2.out]; exact ret_two rfl rfl, HS2.out⟩
  | true =>
    have HN2 := Lib.hid (show ∀ i, getR L s i = gotR L (xkey s) i from fun i => by rw [getR, hn]; rfl)
    have hs16 : s.size ≤ 16 := by
      have e : s.data.toList.length = s.size := by simp
      simp only [nameX, Bool.and_eq_true, decide_eq_true_eq] at hn
      omega
    clear hn
    go_wp2_with fail
    refine HGt.out.mono ?_
    rintro e w3 ⟨i, hcut, rfl, hst⟩
    have HS3 := Lib.hid (show CStep B gb ba tb w F R L w3 from CStep.of_off (H1.out.2.2.trans (Off.of_below HB2.out (F := fun _ => False)) (fun _ _ e => e.elim)) H1.out.2.1 (H2.out.same hst))
    have HCut := Lib.hid hcut
    clear hcut hst
    rcases got_two L (xkey s) i with ⟨v, hv, _⟩ | ⟨hv, _⟩
    all_goals
      rw [hv]
      have HV := Lib.hid hv
      clear hv
      go_wp2
      go_ret2
      exact ⟨i, HCut.out, by rw [HN2.out, HV.out]; exact ret_two rfl rfl, HS3.out⟩
end Go.Proofs.YtiakepcgalmjfaaGreat
