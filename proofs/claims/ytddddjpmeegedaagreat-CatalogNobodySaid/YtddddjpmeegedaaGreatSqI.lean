/- A root at which no index stands. -/
import Derived.Test.YtddddjpmeegedaaGreatSqH
set_option linter.unusedVariables false
set_option linter.unusedSimpArgs false
namespace Go.Proofs.YtddddjpmeegedaaGreat
open Go.RowKit
open Go.Maps (Keyed)

def taken (l : List KV) (t : Int) : Bool := l.any fun x => byteN x.v 4 == t
def takenF (l : List KV) (i : Int) : Option Value := if taken l i then some (.bool true) else none
def rtInv (cb bm : Nat) (l : List KV) (G : Nat → Prop) (w : World) : Prop := w.heap[cb]? = some (.cells #[.map (some bm)] 98) ∧ MapIs w bm (takenF l) ∧ (∀ k, G k ↔ k = cb ∨ k = bm) ∧ (∀ x ∈ l, x.v.size = 5)
theorem takenF_rng {l : List KV} (hl : ∀ x ∈ l, x.v.size = 5) (i : Int) (h : takenF l i ≠ none) : 0 ≤ i ∧ i < 65536 := by
  unfold takenF at h
  by_cases ht : taken l i = true
  · unfold taken at ht
    obtain ⟨x, hx, he⟩ := List.any_eq_true.1 ht
    have := byteN_of x.v 4 (by rw [hl x hx]; omega)
    have e : byteN x.v 4 = i := by simpa using he
    omega
  · rw [if_neg ht] at h; exact absurd rfl h
theorem takenF_snoc (l : List KV) (x : KV) : takenF (l ++ [x]) = fun j => if j = byteN x.v 4 then some (.bool true) else takenF l j := by
  funext j
  unfold takenF taken
  rw [List.any_append]
  by_cases h : j = byteN x.v 4
  · subst h; simp
  · rw [if_neg h]
    have : (byteN x.v 4 == j) = false := by simpa using Ne.symm h
    simp [this]

set_option maxRecDepth 100000 in
set_option maxHeartbeats 2000000 in
theorem rtc_any {cb bm : Nat} {l : List KV} {x : KV} {G : Nat → Prop} {w : World} (h : rtInv cb bm l G w) (hx : xOk x) (s : ByteArray) :
    Calls Tryz.prog 84 #[.string s, .string x.v, .pointer (some ⟨cb, 0, none⟩)] w fun e w' => e = .returned (.tuple #[]) ∧ ∃ G', rtInv cb bm (l ++ [x]) G' w' ∧ (∀ k, k < w.heap.size → G' k → G k) ∧ Off G w w' := by
  obtain ⟨hcb, hm, hG, hl⟩ := h
  have hx5 := hx.1
  obtain ⟨q4, r4, s4⟩ := byteN_of x.v 4 (by omega)
  have t4 : IntKind.i64.wrap ((x.v[4]'(by omega)).toNat : Int) = byteN x.v 4 := by rw [q4, IntKind.wrap_i64]; omega
  have c0 : w.cell? ⟨cb, 0, none⟩ = some (.map (some bm)) := cell0 hcb
  have hd : MapIs w.drew bm (takenF l) := hm.keep rfl
  obtain ⟨w2, hrun, hm2, ho2, hz2⟩ := hd.set (takenF_rng hl) (t := 98) (e := 4) Tryz.underlying98 (i := byteN x.v 4) (wfI ⟨by omega, by omega⟩) (.bool true)
  have hs5 : (x.v.size : Int) = 5 := by omega
  have hE := Lib.hid (show ∃ G', rtInv cb bm (l ++ [x]) G' w2 ∧ (∀ k, k < w.heap.size → G' k → G k) ∧ Off G w w2 from by
    have hne : cb ≠ bm := fun e => MapIs.cells_ne hm hcb e.symm
    refine ⟨G, ⟨(ho2.block cb (Array.getElem?_eq_some_iff.1 hcb).1 hne).trans hcb, ?_, hG, ?_⟩, fun _ _ h => h, ?_⟩
    · rw [takenF_snoc]; exact hm2
    · intro y hy
      rcases List.mem_append.1 hy with hy | hy
      · exact hl y hy
      · obtain rfl := List.mem_singleton.1 hy; exact hx5
    · exact ⟨ho2.os, ho2.tape, ho2.output, ho2.size, fun k hk hn => ho2.block k hk (fun e => hn ((hG k).2 (.inr e)))⟩)
  clear hcb hm hG hl hx q4 r4 s4 hd hm2 ho2 hz2
  go_enter Tryz.func84, Tryz.ntmps84
  go_wp2
  refine wp_region_noPanic ?_
  refine wp_region_held_drew (S := (fun w' => True)) (by kernel_rfl) trivial (fun hS => ?_)
  refine wpAnyH_take (i := 1) (v := ?_) rfl (by kernel_rfl) (by kernel_rfl) (by kernel_rfl) (fun _ _ _ h => h) (Or.inl ⟨by rfl, ?_⟩) hS ?_
  rotate_left
  · intro w9 t0
    go_simp
    try with_reducible rfl
  try simp only [Act.put, List.getElem_toArray, List.getElem_cons_succ, List.getElem_cons_zero, List.setIfInBounds_toArray, List.set_cons_zero, List.set_cons_succ]
  refine wpAnyH_take (i := 2) (v := ?_) rfl (by kernel_rfl) (by kernel_rfl) (by kernel_rfl) (fun _ _ _ h => h) (Or.inl ⟨by rfl, ?_⟩) hS ?_
  rotate_left
  · intro w9 t0
    go_simp
    try with_reducible rfl
  try simp only [Act.put, List.getElem_toArray, List.getElem_cons_succ, List.getElem_cons_zero, List.setIfInBounds_toArray, List.set_cons_zero, List.set_cons_succ]
  refine wpAnyH_take (i := 3) (v := ?_) rfl (by kernel_rfl) (by kernel_rfl) (by kernel_rfl) (fun _ _ _ h => h) (Or.inl ⟨by rfl, ?_⟩) hS ?_
  rotate_left
  · intro w9 t0
    go_simp
    try with_reducible rfl
  try simp only [Act.put, List.getElem_toArray, List.getElem_cons_succ, List.getElem_cons_zero, List.setIfInBounds_toArray, List.set_cons_zero, List.set_cons_succ]
  refine wpAnyH_ready (rs := [0]) (by kernel_rfl) (by simp) ?_
  refine AllReadyH.cons rfl (fun K hK => ?_) AllReadyH.nil
  go_simp
  refine hK.out _ _ trivial (fun _ => ?_)
  clear hK K
  try simp only [Act.put, List.getElem_toArray, List.getElem_cons_succ, List.getElem_cons_zero, List.setIfInBounds_toArray, List.set_cons_zero, List.set_cons_succ]
  refine wpAnyH_ready (rs := [4]) (by kernel_rfl) (by simp) ?_
  refine AllReadyH.cons rfl (fun K hK => ?_) AllReadyH.nil
  go_simp
  refine hK.out _ _ trivial (fun _ => ?_)
  clear hK K
  try simp only [Act.put, List.getElem_toArray, List.getElem_cons_succ, List.getElem_cons_zero, List.setIfInBounds_toArray, List.set_cons_zero, List.set_cons_succ]
  refine wpAnyH_done (by kernel_rfl) ?_ _
  refine NoPanic.normal ?_
  go_wp2
  exact Great.bodyPost_end0 rfl rfl ⟨rfl, hE.out⟩
theorem rtc_clo (cb bm : Nat) : Clo 84 (.pointer (some ⟨cb, 0, none⟩)) xOk (rtInv cb bm) where
  enters := fun _ _ => by kernel_rfl
  own := fun l G w ⟨hcb, hm, hG, _⟩ k hk => by
    rcases (hG k).1 hk with rfl | rfl
    · exact (Array.getElem?_eq_some_iff.1 hcb).1
    · exact hm.lt
  keep := fun l G w w' ⟨hcb, hm, hG, hl⟩ e _ => ⟨(e cb ((hG cb).2 (.inl rfl))).trans hcb, hm.keep (e bm ((hG bm).2 (.inr rfl))), hG, hl⟩
  does := fun l x G w h hx hl => rtc_any h hx _
/-- The first root that is free. -/
def IsRoot (l : List KV) (r : Int) : Prop := (r = 0 ∧ ∀ t, 2 ≤ t → t < 8 → taken l t = true) ∨ (2 ≤ r ∧ r < 8 ∧ taken l r = false ∧ ∀ t, 2 ≤ t → t < r → taken l t = true)

set_option maxRecDepth 100000 in
set_option maxHeartbeats 2000000 in
theorem croot_any {bs : Nat} {B : Base bs} {w : World} {gb ba tb : Nat} {F : Nat → Prop} {R : Raw} {L : List KV} (h : CatIs B w gb ba tb F R L) (hok : ∀ x ∈ L, pre ⟨#[120]⟩ x = true → xOk x) :
    Calls Tryz.prog 35 #[.pointer (some ⟨gb, 0, none⟩)] w fun e w' => ∃ r i n, e = .returned (.int .i64 r) ∧ Span L 120 i n ∧ IsRoot ((L.drop i).take n) r ∧ CStep B gb ba tb w F R L w' := by
  have hb0 : Below w.heap.size w ((w.alloc (.map #[] 0)).alloc (.cells #[.map (some w.heap.size)] 98)) := by go_grown
  have hnF : ∀ k, w.heap.size ≤ k → ¬ F k := fun k hk e => by have := h.act.1 _ e; omega
  have hlt := h.lt
  have hcb0 := hnew (w.alloc (.map #[] 0)) (.cells #[.map (some w.heap.size)] 98)
  simp only [World.size_alloc] at hcb0
  have HE := Lib.hid (each_any (h.below hb0) (rtc_clo (w.heap.size + 1) w.heap.size) (G := fun k => k = w.heap.size + 1 ∨ k = w.heap.size) (show rtInv (w.heap.size + 1) w.heap.size [] _ _ from ⟨hcb0, (MapIs.made w).keep (Below.heap_alloc _ _ _ (by simp)), fun k => Iff.rfl, by simp⟩) (fun k hk => ⟨hnF k (by omega), by omega, by omega⟩) 120 hok)
  have hmm := @run_makeMap Tryz.prog
  have H := Lib.hid hb0
  clear h hok hb0 hnF hlt hcb0
  go_enter Tryz.func35, Tryz.ntmps35
  go_wp2_with fail
  refine HE.out.mono ?_
  rintro e w2 ⟨rfl, i, n, G2, F2, hcut, hin, hp1, hp2, ⟨hcb, hm, hG, hl5⟩, hcat, hdis, hF2, hG2, ho⟩
  have c0 : w2.cell? ⟨w.heap.size + 1, 0, none⟩ = some (.map (some w.heap.size)) := cell0 hcb
  obtain ⟨l, hl⟩ : ∃ l, (L.drop i).take n = l := ⟨_, rfl⟩
  rw [hl] at hm
  have HF := Lib.hid (show Span L 120 i n ∧ CStep B gb ba tb w F R L w2 from by
    refine ⟨⟨hcut, hin, hp1, hp2⟩, F2, hcat, fun k hk e => hF2 k (by simp; omega) e, ?_⟩
    refine ⟨ho.os, ho.tape, ho.output, Nat.le_trans (by simp; omega) ho.size, fun k hk hn => (ho.block k (by simp; omega) ?_).trans (H.out.block k hk)⟩
    rintro (e | e)
    · exact hn e
    · omega)
  have HL := Lib.hid hl
  have HM := Lib.hid hm
  clear hcut hin hp1 hp2 hcb hG hcat hdis hF2 hG2 ho HE hl hm hl5
  go_wp2
  go_loopw [4] (fun r wr => wr = w2 ∧ ∃ z : Nat, r = .int .i64 z ∧ 2 ≤ z ∧ z ≤ 8 ∧ ∀ t : Int, 2 ≤ t → t < z → taken l t = true) (fun r _ => 8 - (intOf r).toNat)
  case atStart => exact ⟨rfl, 2, rfl, by omega, by omega, fun t h1 h2 => by omega⟩
  case round =>
    obtain ⟨rfl, z, rfl, hz2, hz8, hall⟩ := hrel
    have HA := Lib.hid hall
    have hz2' : 2 ≤ (z : Int) := by omega
    clear hall
    by_cases hz : z < 8
    · have hz' : (z : Int) < 8 := by omega
      have hlk := HM.out.look (t := 98) (e := 4) Tryz.underlying98 (z := .bool false) (by kernel_rfl) (i := (z : Int)) (wfI ⟨by omega, by omega⟩)
      cases ht : taken l z with
      | true =>
        rw [show (takenF l z).getD (.bool false) = .bool true by simp [takenF, ht]] at hlk
        have HT := Lib.hid ht
        clear ht
        go_wp2
        go_roundw
        case rel => exact ⟨trivial, z + 1, by go_num, by omega, by omega, fun t h1 h2 => by
          by_cases e : t = z
          · subst e; exact HT.out
          · exact HA.out t h1 (by omega)⟩
        case measure => simp [intOf]; omega
      | false =>
        rw [show (takenF l z).getD (.bool false) = .bool false by simp [takenF, ht]] at hlk
        have HT := Lib.hid ht
        clear ht
        go_wp2
        go_ret
        refine ⟨z, i, n, rfl, HF.out.1, ?_, HF.out.2⟩
        rw [HL.out]
        exact .inr ⟨hz2', hz', HT.out, HA.out⟩
    · have hz' : ¬ (z : Int) < 8 := by omega
      go_wp2
      go_ret
      first | refine ⟨0, i, n, rfl, HF.out.1, ?_, HF.out.2⟩ | refine ⟨0, rfl, i, n, HF.out.1, ?_, HF.out.2⟩
      rw [HL.out]
      exact .inl ⟨rfl, fun t h1 h2 => HA.out t h1 (by omega)⟩
end Go.Proofs.YtddddjpmeegedaaGreat
