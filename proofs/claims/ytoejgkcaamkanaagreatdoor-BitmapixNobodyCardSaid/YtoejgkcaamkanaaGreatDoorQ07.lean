/- A tree: top, store of a leaf that fits, New. slices.Insert of items, at the end. A key is put into a leaf, behind all others. What an action holds: plain laws of page 0. Put into a tree that is one leaf, behind all others. -/
import Derived.Test.YtoejgkcaamkanaaGreatDoorQ06
set_option linter.unusedVariables false
set_option linter.unusedSimpArgs false
namespace Go.Proofs.YtoejgkcaamkanaaGreatDoor
open Go.RowKit

def Raw.root (R : Raw) (k : Nat) : Int := num (R.page 0) (8 + 4 * k)
theorem Step.cell {bs : Nat} {B : Base bs} {ba : Nat} {w w' : World} {F : Nat → Prop} {R : Raw} (h : Step B ba w F R w') {p : Addr} {v : Value} (hv : w.cell? p = some v) (hF : ¬ F p.block) : w'.cell? p = some v := by
  obtain ⟨F', _, _, ho⟩ := h
  exact ho.cell hv hF
theorem Step.block {bs : Nat} {B : Base bs} {ba : Nat} {w w' : World} {F : Nat → Prop} {R : Raw} (h : Step B ba w F R w') {k : Nat} {o : Obj} (hv : w.heap[k]? = some o) (hF : ¬ F k) : w'.heap[k]? = some o := by
  obtain ⟨F', _, _, ho⟩ := h
  exact (ho.block k (Array.getElem?_eq_some_iff.1 hv).1 hF).trans hv
theorem Step.below {bs : Nat} {B : Base bs} {ba : Nat} {w w1 w2 : World} {F : Nat → Prop} {R : Raw} (h : Step B ba w F R w1) (hb : Below w1.heap.size w1 w2) : Step B ba w F R w2 := by
  obtain ⟨F', hA, hF, ho⟩ := h
  exact ⟨F', hA.below hb, hF, ho.trans (Off.of_below hb (F := fun _ => False)) (fun _ _ h => h.elim)⟩

set_option maxRecDepth 100000 in
set_option maxHeartbeats 2000000 in
theorem top_any {bs : Nat} {B : Base bs} {w : World} {tb ba k : Nat} {F : Nat → Prop} {R : Raw} (ht : w.heap[tb]? = some (treeO ba k)) (hA : ActIs B w ba F R) (hc : Cov B R) (htF : ¬ F tb) (hk : k < 16) :
    Calls Tryz.prog 89 #[.pointer (some ⟨tb, 0, none⟩)] w fun e w' => e = .returned (.tuple #[.int .i64 (R.root k), .int .i64 0]) ∧ Step B ba w F R w' := by
  obtain ⟨t0, t1⟩ := tree2 ht
  have hdr : Below w.heap.size w w.drew := (Below.refl _ _).drew
  have HR := Lib.hid (root_any (w := w.drew) (hA.below hdr) hc k hk)
  have HT := Lib.hid (And.intro t0 t1)
  clear ht hA hc t0 t1
  have t0 := HT.out.1
  have t1 := HT.out.2
  go_enter Tryz.func89, Tryz.ntmps89
  go_wp2
  refine wp_region_noPanic ?_
  refine wp_region_held_drew (S := (fun w' => w'.cell? ⟨tb, 0, none⟩ = some (.pointer (some ⟨ba, 0, none⟩)) ∧ w'.cell? ⟨tb, 1, none⟩ = some (.int .i64 k))) (by kernel_rfl) ⟨t0, t1⟩ (fun hS => ?_)
  refine wpAnyH_take (i := 0) (v := ?_) rfl (by kernel_rfl) (by kernel_rfl) (by kernel_rfl) (fun _ _ _ h => h) (Or.inl ⟨by rfl, ?_⟩) hS ?_
  rotate_left
  · rintro w9 ⟨t0, t1⟩
    go_simp
    try with_reducible rfl
  try simp only [Act.put, List.getElem_toArray, List.getElem_cons_succ, List.getElem_cons_zero, List.setIfInBounds_toArray, List.set_cons_zero, List.set_cons_succ]
  refine wpAnyH_take (i := 1) (v := ?_) rfl (by kernel_rfl) (by kernel_rfl) (by kernel_rfl) (fun _ _ _ h => h) (Or.inl ⟨by rfl, ?_⟩) hS ?_
  rotate_left
  · rintro w9 ⟨t0, t1⟩
    go_simp
    try with_reducible rfl
  try simp only [Act.put, List.getElem_toArray, List.getElem_cons_succ, List.getElem_cons_zero, List.setIfInBounds_toArray, List.set_cons_zero, List.set_cons_succ]
  refine wpAnyH_take (i := 2) (v := ?_) rfl (by kernel_rfl) (by kernel_rfl) (by kernel_rfl) (fun _ _ _ h => h) (Or.inl ⟨by rfl, ?_⟩) hS ?_
  rotate_left
  · rintro w9 ⟨t0, t1⟩
    go_simp
    try with_reducible rfl
  try simp only [Act.put, List.getElem_toArray, List.getElem_cons_succ, List.getElem_cons_zero, List.setIfInBounds_toArray, List.set_cons_zero, List.set_cons_succ]
  refine wpAnyH_take (i := 3) (v := ?_) rfl (by kernel_rfl) (by kernel_rfl) (by kernel_rfl) (fun _ _ _ h => h) (Or.inl ⟨by rfl, ?_⟩) hS ?_
  rotate_left
  · rintro w9 ⟨t0, t1⟩
    go_simp
    try with_reducible rfl
  try simp only [Act.put, List.getElem_toArray, List.getElem_cons_succ, List.getElem_cons_zero, List.setIfInBounds_toArray, List.set_cons_zero, List.set_cons_succ]
  refine wpAnyH_take (i := 4) (v := ?_) rfl (by kernel_rfl) (by kernel_rfl) (by kernel_rfl) (fun _ _ _ h => h) (Or.inl ⟨by rfl, ?_⟩) hS ?_
  rotate_left
  · rintro w9 ⟨t0, t1⟩
    go_simp
    try with_reducible rfl
  try simp only [Act.put, List.getElem_toArray, List.getElem_cons_succ, List.getElem_cons_zero, List.setIfInBounds_toArray, List.set_cons_zero, List.set_cons_succ]
  refine wpAnyH_take (i := 5) (v := ?_) rfl (by kernel_rfl) (by kernel_rfl) (by kernel_rfl) (fun _ _ _ h => h) (Or.inl ⟨by rfl, ?_⟩) hS ?_
  rotate_left
  · rintro w9 ⟨t0, t1⟩
    go_simp
    try with_reducible rfl
  try simp only [Act.put, List.getElem_toArray, List.getElem_cons_succ, List.getElem_cons_zero, List.setIfInBounds_toArray, List.set_cons_zero, List.set_cons_succ]
  refine wpAnyH_take (i := 6) (v := ?_) rfl (by kernel_rfl) (by kernel_rfl) (by kernel_rfl) (fun _ _ _ h => h) (Or.inl ⟨by rfl, ?_⟩) hS ?_
  rotate_left
  · rintro w9 ⟨t0, t1⟩
    go_simp
    try with_reducible rfl
  try simp only [Act.put, List.getElem_toArray, List.getElem_cons_succ, List.getElem_cons_zero, List.setIfInBounds_toArray, List.set_cons_zero, List.set_cons_succ]
  refine wpAnyH_take (i := 7) (v := ?_) rfl (by kernel_rfl) (by kernel_rfl) (by kernel_rfl) (fun _ _ _ h => h) (Or.inl ⟨by rfl, ?_⟩) hS ?_
  rotate_left
  · rintro w9 ⟨t0, t1⟩
    go_simp
    try with_reducible rfl
  try simp only [Act.put, List.getElem_toArray, List.getElem_cons_succ, List.getElem_cons_zero, List.setIfInBounds_toArray, List.set_cons_zero, List.set_cons_succ]
  refine wpAnyH_ready (rs := [8]) (by kernel_rfl) (by simp) ?_
  refine AllReadyH.cons rfl (fun K hK => ?_) AllReadyH.nil
  go_simp
  refine HR.out.mono ?_
  rintro e w1 ⟨rfl, hst⟩
  have hS1 := And.intro (hst.cell HT.out.1 htF) (hst.cell HT.out.2 htF)
  have HS := Lib.hid (show Step B ba w F R w1 from Step.trans (Off.of_below hdr) (fun _ _ h => h) hst)
  clear hst
  refine hK.out _ _ hS1 (fun _ => ?_)
  clear hK K
  try simp only [Act.put, List.getElem_toArray, List.getElem_cons_succ, List.getElem_cons_zero, List.setIfInBounds_toArray, List.set_cons_zero, List.set_cons_succ]
  refine wpAnyH_take (i := 9) (v := ?_) rfl (by kernel_rfl) (by kernel_rfl) (by kernel_rfl) (fun _ _ _ h => h) (Or.inl ⟨by rfl, ?_⟩) hS1 ?_
  rotate_left
  · rintro w9 ⟨t0, t1⟩
    go_simp
    try with_reducible rfl
  try simp only [Act.put, List.getElem_toArray, List.getElem_cons_succ, List.getElem_cons_zero, List.setIfInBounds_toArray, List.set_cons_zero, List.set_cons_succ]
  refine wpAnyH_take (i := 10) (v := ?_) rfl (by kernel_rfl) (by kernel_rfl) (by kernel_rfl) (fun _ _ _ h => h) (Or.inl ⟨by rfl, ?_⟩) hS1 ?_
  rotate_left
  · rintro w9 ⟨t0, t1⟩
    go_simp
    try with_reducible rfl
  try simp only [Act.put, List.getElem_toArray, List.getElem_cons_succ, List.getElem_cons_zero, List.setIfInBounds_toArray, List.set_cons_zero, List.set_cons_succ]
  refine wpAnyH_take (i := 11) (v := ?_) rfl (by kernel_rfl) (by kernel_rfl) (by kernel_rfl) (fun _ _ _ h => h) (Or.inl ⟨by rfl, ?_⟩) hS1 ?_
  rotate_left
  · rintro w9 ⟨t0, t1⟩
    go_simp
    try with_reducible rfl
  try simp only [Act.put, List.getElem_toArray, List.getElem_cons_succ, List.getElem_cons_zero, List.setIfInBounds_toArray, List.set_cons_zero, List.set_cons_succ]
  refine wpAnyH_take (i := 12) (v := ?_) rfl (by kernel_rfl) (by kernel_rfl) (by kernel_rfl) (fun _ _ _ h => h) (Or.inl ⟨by rfl, ?_⟩) hS1 ?_
  rotate_left
  · rintro w9 ⟨t0, t1⟩
    go_simp
    try with_reducible rfl
  try simp only [Act.put, List.getElem_toArray, List.getElem_cons_succ, List.getElem_cons_zero, List.setIfInBounds_toArray, List.set_cons_zero, List.set_cons_succ]
  refine wpAnyH_done (by kernel_rfl) ?_ _
  refine NoPanic.normal ?_
  go_wp2
  go_ret2
  exact ⟨rfl, HS.out⟩

set_option maxRecDepth 100000 in
set_option maxHeartbeats 2000000 in
theorem store_leaf {bs : Nat} {B : Base bs} {w : World} {tb ba root nb : Nat} {F : Nat → Prop} {R : Raw} {A : Option Addr} {c : Nat} {kv : Value} {L : List KV} (ht : w.heap[tb]? = some (treeO ba root)) (hA : ActIs B w ba F R) (hc : Cov B R) (htF : ¬ F tb) (p : Int) (hp : thereE R p = 0)
    (h : w.heap[nb]? = some (nodeO true (.slice A L.length c) kv)) (hr : ItemsR w A L) (hok : ∀ x ∈ L, x.ok) (hlen : (leafB L).length ≤ 512) (hn : L.length < 256) :
    Calls Tryz.prog 135 #[.pointer (some ⟨tb, 0, none⟩), .int .i64 p, .pointer (some ⟨nb, 0, none⟩)] w fun e w' => e = .returned (.tuple #[.pointer none, .int .i64 0]) ∧ Step B ba w F (R.put p 0 (pageL (leafB L))) w' := by
  have HB := Lib.hid (bytes_leaf h hr hok hn)
  have H := Lib.hid (And.intro ht (And.intro hA (And.intro h hr)))
  have HC := Lib.hid (And.intro hc (And.intro hp (And.intro hok (And.intro hlen hn))))
  clear ht hA hc hp h hr hok hn
  have hl : ((leafB L).length : Int) ≤ 512 := by omega
  clear hlen
  go_enter Tryz.func135, Tryz.ntmps135
  go_wp2_with fail
  refine HB.out.mono ?_
  rintro e w1 ⟨v, rfl, hb1, hbel⟩
  obtain ⟨A1, c1, rfl⟩ := hb1.slice
  have HW := Lib.hid (write_leaf ((hbel.block tb (Array.getElem?_eq_some_iff.1 H.out.1).1).trans H.out.1) (H.out.2.1.below hbel) HC.out.1 htF p HC.out.2.1 ((hbel.block nb (Array.getElem?_eq_some_iff.1 H.out.2.2.1).1).trans H.out.2.2.1) (H.out.2.2.2.below hbel) HC.out.2.2.1 HC.out.2.2.2.1 HC.out.2.2.2.2)
  have HBel := Lib.hid hbel
  clear hb1 hbel HB
  go_wp2_with fail
  refine HW.out.mono ?_
  rintro e w2 ⟨rfl, hst⟩
  have HS := Lib.hid (Step.trans (Off.of_below HBel.out) (fun _ _ h => h) hst)
  clear hst
  go_wp2
  go_ret2
  exact ⟨rfl, HS.out⟩

set_option maxHeartbeats 1000000 in
theorem treeNew_any {bs : Nat} {B : Base bs} {w : World} {ba : Nat} {F : Nat → Prop} {R : Raw} (hA : ActIs B w ba F R) (hc : Cov B R) (k : Nat) (hk : k < 16) :
    Calls Tryz.prog 36 #[.pointer (some ⟨ba, 0, none⟩), .int .i64 k] w fun e w' => ∃ tb F', e = .returned (.tuple #[.pointer (some ⟨tb, 0, none⟩), .int .i64 0]) ∧ w'.heap[tb]? = some (treeO ba k) ∧ w.heap.size ≤ tb ∧ ¬ F' tb ∧ ActIs B w' ba F' R ∧ (∀ k, k < w.heap.size → F' k → F k) ∧ Off F w w' := by
  have HR := Lib.hid (root_any hA hc k hk)
  clear hA
  go_enter Tryz.func36, Tryz.ntmps36
  go_wp2_with fail
  refine HR.out.mono ?_
  rintro e w1 ⟨rfl, F1, h1, hF1, ho1⟩
  have H1 := Lib.hid (And.intro h1 (And.intro hF1 ho1))
  clear h1 hF1 ho1
  go_wp2
  go_ret2
  have hb : Below w1.heap.size w1 (w1.alloc (treeO ba k)) := by go_grown
  exact ⟨w1.heap.size, F1, rfl, hnew w1 _, H1.out.2.2.size, fun h => by have := H1.out.1.1 _ h; omega, H1.out.1.below hb, H1.out.2.1, H1.out.2.2.trans (Off.of_below hb (F := fun _ => False)) (fun _ _ h => h.elim)⟩
end Go.Proofs.YtoejgkcaamkanaaGreatDoor

namespace Go.Proofs.YtoejgkcaamkanaaGreatDoor
open Go.RowKit

/-- append of an item that lies at an address. -/
theorem wp_appI {ops : Array Oper} {rest : List Oper} {o : Oper} {a : Act} {Q : Exit → Act → World → Prop} {w : World} (hgd : o.guard = none) (s x : Operand)
    (ho : o.op = .call { callee := .builtin .append, args := #[s, x], argTypes := #[159, 159] })
    (B : Nat) (v : Value) (l : List KV) (hs : a.eval s = v) (hb : Items w B v l) (y : KV) (k c : Nat) (hx : a.eval x = .slice (some ⟨k, 0, none⟩) 1 c) (h0 : w.cell? ⟨k, 0, none⟩ = some (.string y.k)) (h1 : w.cell? ⟨k, 1, none⟩ = some (.string y.v))
    (hlen : l.length ≤ 1099511627776) (hB : B ≤ w.heap.size)
    (h : ∀ v' w', Items w' B v' (l ++ [y]) → Below B w w' → w.grownBy w' v.ownBlock → wpList Tryz.prog ops Q rest (a.put o.dst v') w') : wpList Tryz.prog ops Q (o :: rest) a w := by
  obtain ⟨i0, hi, hz0, hz1, hz2⟩ := info_of info_item
  refine wpList_append_own w hgd s x 159 ho B 89 i0 _ 2 32 Tryz.underlying159 hi hz0 hz1 hz2 rfl (by decide) v l.length (l.flatMap kvCells) hs hb ⟨k, 0, none⟩ 1 c (kvCells y) hx rfl ?_ ?_ (by unfold maxLen; omega) (by omega) hB ?_
  · intro j u hj
    match j, hj with
    | 0, hj => simp [kvCells] at hj; subst hj; simpa [Addr.add] using h0
    | 1, hj => simp [kvCells] at hj; subst hj; simpa [Addr.add] using h1
  · intro u hu
    simp [kvCells] at hu
    rcases hu with rfl | rfl <;> rfl
  · intro v' w' hown hg _
    refine h v' w' ?_ (hb.below hB hg) hg
    unfold Items
    rw [List.length_append, List.flatMap_append]
    simpa using hown

set_option maxRecDepth 100000 in
set_option maxHeartbeats 2000000 in
theorem insert_end {w : World} {M n c : Nat} {A : Option Addr} {L : List KV} (h : Items w M (.slice A L.length c) L) (hM : M ≤ w.heap.size) (y : KV) (k c' : Nat) (h0 : w.cell? ⟨k, 0, none⟩ = some (.string y.k)) (h1 : w.cell? ⟨k, 1, none⟩ = some (.string y.v)) (hn : L.length ≤ 65536) :
    Calls Tryz.prog 134 #[.slice A L.length c, .int .i64 L.length, .slice (some ⟨k, 0, none⟩) 1 c'] w fun e w' => ∃ v', e = .returned v' ∧ Items w' M v' (L ++ [y]) ∧ Below M w w' ∧ w.grownBy w' (Value.ownBlock (.slice A L.length c)) := by
  have hcap : L.length ≤ c := by
    rcases h.2 with ⟨e, e0⟩ | ⟨g, cap, cur, e, _, _, hle, _⟩
    · omega
    · simp only [Value.slice.injEq] at e
      obtain ⟨_, _, rfl⟩ := e
      exact hle
  have hd := h
  go_enter Tryz.func134, Tryz.ntmps134
  go_wp2_with (at_builtin; refine wp_appI rfl _ _ rfl M _ L rfl hd y k c' rfl h0 h1 (by omega) hM ?_; intro v' w' hit hbel hgr)
  all_goals
    go_ret
    have e : ∀ m m', Value.ownBlock (.slice A m m') = Value.ownBlock (.slice A L.length c) := fun m m' => by cases A <;> rfl
    refine ⟨v', rfl, hit, hbel, ?_⟩
    rw [e]
    exact hgr
end Go.Proofs.YtoejgkcaamkanaaGreatDoor

namespace Go.Proofs.YtoejgkcaamkanaaGreatDoor
open Go.RowKit

theorem Items.ne_block {w : World} {B : Nat} {v : Value} {L : List KV} (h : Items w B v L) {k : Nat} {cs : Array Value} {t : TypeId} {fr : Nat × Nat} (hk : w.heap[k]? = some (.cells cs t fr)) (ht : t ≠ 89) : v.ownBlock ≠ some k := by
  rcases h.2 with ⟨rfl, _⟩ | ⟨g, cap, cur, rfl, _, hh, _⟩
  · simp [Value.ownBlock]
  · simp only [Value.ownBlock]
    intro e
    simp only [Option.some.injEq] at e
    subst e
    rw [hk] at hh
    cases hh
    exact ht rfl
theorem Cut.end_ {L : List KV} {key : ByteArray} {i : Nat} (h : Cut L key i) (hend : ∀ t (ht : t < L.length), cmpK L[t] key < 0) : i = L.length := by
  by_cases hi : i < L.length
  · have := h.hi i hi (Nat.le_refl _)
    have := hend i hi
    omega
  · have := h.le
    omega

set_option maxRecDepth 100000 in
set_option maxHeartbeats 4000000 in
theorem put_end {bs : Nat} {B : Base bs} {w : World} {tb ba root : Nat} {F : Nat → Prop} {R : Raw} (ht : w.heap[tb]? = some (treeO ba root)) (hA : ActIs B w ba F R) (hc : Cov B R) (htF : ¬ F tb) (p : Int) (hp : thereE R p = 0) (L : List KV) (hL : R.page p = pageL (leafB L)) (hok : ∀ x ∈ L, x.ok)
    (hs : Sorted L) (x : KV) (hx : x.ok) (hend : ∀ t (h : t < L.length), cmpK L[t] x.k < 0) (hlen : (leafB (L ++ [x])).length ≤ 512) (hn : L.length + 1 < 256) :
    Calls Tryz.prog 91 #[.pointer (some ⟨tb, 0, none⟩), .int .i64 p, .agg #[.string x.k, .string x.v]] w fun e w' =>
      e = .returned (.tuple #[.bool true, .pointer none, .int .i64 0]) ∧ Step B ba w F (R.put p 0 (pageL (leafB (L ++ [x])))) w' := by
  have hA0F : ∀ k, F k → k < w.heap.size := hA.1
  have hltb : tb < w.heap.size := (Array.getElem?_eq_some_iff.1 ht).1
  have hb0 : Below w.heap.size w (w.alloc (itemO x)) := by go_grown
  have ht0 := (hb0.block tb hltb).trans ht
  have hlenL : (leafB L).length ≤ 512 := by
    have : (leafB (L ++ [x])).length = (leafB L).length + (itemB x).length := by simp [leafB]; omega
    omega
  have HR := Lib.hid (read_leaf ht0 (hA.below hb0) hc htF p hp L hL hok hlenL (by omega))
  have hx0 := hnew w (itemO x)
  have H := Lib.hid (And.intro ht0 (And.intro hc (And.intro hp (And.intro hok (And.intro hs (And.intro hend (And.intro hlen (And.intro hx0 hb0))))))))
  clear ht hA hc hp hL hok hs hend hlen hlenL ht0 hx0 hb0
  go_enter Tryz.func91, Tryz.ntmps91
  go_wp2_with fail
  refine HR.out.mono ?_
  rintro e w2 ⟨nb, v, F2, M, rfl, hnb2, hit2, hM, hMn, hA2, hF2M, hF2, ho2⟩
  simp at hM
  obtain ⟨A, c, rfl⟩ := hit2.slice
  have hsz2 : w.heap.size + 1 ≤ w2.heap.size := by have := ho2.size; simp at this; exact this
  have hMw : M ≤ nb := hMn
  have hnlt : nb < w2.heap.size := (Array.getElem?_eq_some_iff.1 hnb2).1
  have hx2 : w2.heap[w.heap.size]? = some (itemO x) := by
    obtain ⟨z, _⟩ := hA2
    by_cases hFx : F w.heap.size
    · exact absurd ((hA0F w.heap.size hFx)) (by omega)
    · exact (ho2.block w.heap.size (by simp) hFx).trans H.out.2.2.2.2.2.2.2.1
  have ht2 : w2.heap[tb]? = some (treeO ba root) := (ho2.block tb (by simp; omega) htF).trans H.out.1
  have HF := Lib.hid (find_any hnb2 hit2.read (by omega) H.out.2.2.2.2.1 x.k)
  obtain ⟨n0, n1, n2, nf⟩ := node3 hnb2
  obtain ⟨x0, x1⟩ := xcells hx2
  have H2 := Lib.hid (And.intro hnb2 (And.intro hit2 (And.intro hA2 (And.intro hF2M (And.intro hF2 (And.intro ho2 (And.intro hx2 ht2)))))))
  clear hnb2 hit2 hA2 hF2M hF2 ho2 hx2 ht2 HR nf hMn
  go_wp2_with fail
  refine HF.out.mono ?_
  rintro e w3 ⟨i, rfl, hcut, hb3⟩
  obtain rfl := hcut.end_ H.out.2.2.2.2.2.1
  have hat : isAt L x.k L.length = false := by rw [isAt, List.getElem?_eq_none (Nat.le_refl _)]
  rw [hat]
  have hnb3 := (hb3.block nb hnlt).trans H2.out.1
  have hx3 := (hb3.block w.heap.size (by omega)).trans H2.out.2.2.2.2.2.2.1
  obtain ⟨n0, n1, n2, nf⟩ := node3 hnb3
  have nf1 := nf 1
  obtain ⟨x0, x1⟩ := xcells hx3
  have hsz3 := hb3.size
  have hlw : w.heap.size < w3.heap.size := by omega
  have H3 := Lib.hid (And.intro hnb3 (And.intro hx3 (And.intro (H2.out.2.1.later hb3) hb3)))
  clear hcut hb3 hnb3 hx3 nf HF hat
  go_wp2
  have hnlt3 : nb < w3.heap.size := by omega
  have upW : ∀ k i u, w3.cell? ⟨k, i, none⟩ = some u → ((w3.alloc (itemO x)).drew).cell? ⟨k, i, none⟩ = some u := fun k i u hu => (((Below.refl w3.heap.size w3).alloc (Nat.le_refl _) (itemO x)).cell (p := ⟨k, i, none⟩) (World.block_lt_of_cell? w3 _ hu)).trans hu
  have hSa := And.intro (upW w.heap.size 0 _ x0) (upW w.heap.size 1 _ x1)
  have d1 := upW nb 1 _ n1
  have HSa := Lib.hid hSa
  have hitA : Items (w3.alloc (itemO x)).drew M (.slice A L.length c) L := H3.out.2.2.1.keep fun k _ hk => Below.heap_alloc _ _ k hk
  have hcx := xcells (show (w3.alloc (itemO x)).drew.heap[w3.heap.size]? = some (itemO x) from hnew w3 _)
  have HI := Lib.hid (insert_end (n := 0) hitA (by simp; omega) x w3.heap.size 1 hcx.1 hcx.2 (by omega))
  clear hSa upW hitA hcx
  refine wp_region_noPanic ?_
  refine wp_region_held_drew (S := (fun w' => w'.cell? ⟨w.heap.size, 0, none⟩ = some (.string x.k) ∧ w'.cell? ⟨w.heap.size, 1, none⟩ = some (.string x.v))) (by kernel_rfl) ⟨x0, x1⟩ (fun hS => ?_)
  refine wpAnyH_take (i := 0) (v := ?_) rfl (by kernel_rfl) (by kernel_rfl) (by kernel_rfl) (fun _ _ _ h => h) (Or.inl ⟨by rfl, ?_⟩) hS ?_
  rotate_left
  · rintro w9 ⟨t0, t1⟩
    go_simp
    try with_reducible rfl
  try simp only [Act.put, List.getElem_toArray, List.getElem_cons_succ, List.getElem_cons_zero, List.setIfInBounds_toArray, List.set_cons_zero, List.set_cons_succ]
  refine wpAnyH_take (i := 1) (v := ?_) rfl (by kernel_rfl) (by kernel_rfl) (by kernel_rfl) (fun _ _ _ h => h) (Or.inl ⟨by rfl, ?_⟩) hS ?_
  rotate_left
  · rintro w9 ⟨t0, t1⟩
    go_simp
    try with_reducible rfl
  try simp only [Act.put, List.getElem_toArray, List.getElem_cons_succ, List.getElem_cons_zero, List.setIfInBounds_toArray, List.set_cons_zero, List.set_cons_succ]
  refine wpAnyH_take (i := 2) (v := ?_) rfl (by kernel_rfl) (by kernel_rfl) (by kernel_rfl) (fun _ _ _ h => h) (Or.inl ⟨by rfl, ?_⟩) hS ?_
  rotate_left
  · rintro w9 ⟨t0, t1⟩
    go_simp
    try with_reducible rfl
  try simp only [Act.put, List.getElem_toArray, List.getElem_cons_succ, List.getElem_cons_zero, List.setIfInBounds_toArray, List.set_cons_zero, List.set_cons_succ]
  refine wpAnyH_take (i := 3) (v := ?_) rfl (by kernel_rfl) (by kernel_rfl) (by kernel_rfl) (fun _ _ _ h => h) (Or.inl ⟨by rfl, ?_⟩) hS ?_
  rotate_left
  · rintro w9 ⟨t0, t1⟩
    go_simp
    try with_reducible rfl
  try simp only [Act.put, List.getElem_toArray, List.getElem_cons_succ, List.getElem_cons_zero, List.setIfInBounds_toArray, List.set_cons_zero, List.set_cons_succ]
  refine wpAnyH_take (i := 5) (v := ?_) rfl (by kernel_rfl) (by kernel_rfl) (by kernel_rfl) (fun _ _ _ h => h) (Or.inl ⟨by rfl, ?_⟩) hS ?_
  rotate_left
  · rintro w9 ⟨t0, t1⟩
    go_simp
    try with_reducible rfl
  try simp only [Act.put, List.getElem_toArray, List.getElem_cons_succ, List.getElem_cons_zero, List.setIfInBounds_toArray, List.set_cons_zero, List.set_cons_succ]
  refine wpAnyH_take (i := 6) (v := ?_) rfl (by kernel_rfl) (by kernel_rfl) (by kernel_rfl) (fun _ _ _ h => h) (Or.inl ⟨by rfl, ?_⟩) hS ?_
  rotate_left
  · rintro w9 ⟨t0, t1⟩
    go_simp
    try with_reducible rfl
  try simp only [Act.put, List.getElem_toArray, List.getElem_cons_succ, List.getElem_cons_zero, List.setIfInBounds_toArray, List.set_cons_zero, List.set_cons_succ]
  refine wpAnyH_ready (rs := [4, 7]) (by kernel_rfl) (by simp) ?_
  refine AllReadyH.cons rfl (fun K hK => ?_) (AllReadyH.cons rfl (fun K hK => ?_) AllReadyH.nil)
  · go_simp
    refine hK.out _ _ hS (fun _ => ?_)
    clear hK K
    try simp only [Act.put, List.getElem_toArray, List.getElem_cons_succ, List.getElem_cons_zero, List.setIfInBounds_toArray, List.set_cons_zero, List.set_cons_succ]
    refine wpAnyH_ready (rs := [7]) (by kernel_rfl) (by simp) ?_
    refine AllReadyH.cons rfl (fun K hK => ?_) AllReadyH.nil
    go_simp
    refine hK.out _ _ HSa.out (fun _ => ?_)
    clear hK K
    try simp only [Act.put, List.getElem_toArray, List.getElem_cons_succ, List.getElem_cons_zero, List.setIfInBounds_toArray, List.set_cons_zero, List.set_cons_succ]
    refine wpAnyH_ready (rs := [8]) (by kernel_rfl) (by simp) ?_
    refine AllReadyH.cons rfl (fun K hK => ?_) AllReadyH.nil
    go_simp
    refine HI.out.mono ?_
    rintro e w8 ⟨v', rfl, hit8, hb8, hg8⟩
    obtain ⟨A8, c8, e8⟩ := hit8.slice
    rw [show (L ++ [x]).length = L.length + 1 by simp] at e8
    subst e8
    have far : ∀ k cs t fr, k < w3.heap.size → t ≠ 89 → w3.heap[k]? = some (.cells cs t fr) → w8.heap[k]? = some (.cells cs t fr) := fun k cs t fr hk htt hh => (hg8.block k (by simp; omega) (fun e => H3.out.2.2.1.ne_block hh htt e.symm)).trans ((Below.heap_alloc w3 _ k hk).trans hh)
    have hnb8 := far nb _ _ _ hnlt3 (by decide) H3.out.1
    obtain ⟨z0, z1, z2, zf⟩ := node3 hnb8
    have zf1 := zf 1
    have hx8 : w8.heap[w.heap.size]? = some (itemO x) := (hb8.block w.heap.size (by omega)).trans ((Below.heap_alloc w3 _ _ hlw).trans H3.out.2.1)
    have hSb := xcells hx8
    have ho8 : ∀ k, k ≠ nb → (w8.setCell ⟨nb, 1, none⟩ (.slice A8 (L.length + 1) c8)).heap[k]? = w8.heap[k]? := fun k hk => Below.heap_setCell _ _ _ _ hk
    have HSc := Lib.hid (xcells ((ho8 w.heap.size (by omega)).trans hx8))
    have hM8 : Below M w2 (w8.setCell ⟨nb, 1, none⟩ (.slice A8 (L.length + 1) c8)) := ((H3.out.2.2.2.mono (by omega)).trans ((((Below.refl M w3).alloc (by omega) (itemO x)).drew).trans hb8)).setCell hMw _
    have hnbW : (w8.setCell ⟨nb, 1, none⟩ (.slice A8 (L.length + 1) c8)).heap[nb]? = some (nodeO true (.slice A8 (L ++ [x]).length c8) (.slice none 0 0)) := by
      rw [show (L ++ [x]).length = L.length + 1 by simp]
      exact heap_set hnb8
    have hitW : Items (w8.setCell ⟨nb, 1, none⟩ (.slice A8 (L.length + 1) c8)) M (.slice A8 (L.length + 1) c8) (L ++ [x]) := by
      obtain ⟨q1, q2⟩ := hit8
      refine ⟨q1, ?_⟩
      rcases q2 with q2 | ⟨g, cap, cur, hv, hg, hh, r⟩
      · exact .inl q2
      · exact .inr ⟨g, cap, cur, hv, hg, (ho8 g (fun e => by
          subst e
          rw [hnb8] at hh
          cases hh)).trans hh, r⟩
    have hAW : ActIs B (w8.setCell ⟨nb, 1, none⟩ (.slice A8 (L.length + 1) c8)) ba F2 R := H2.out.2.2.1.keep (fun k hk => hM8.block k (H2.out.2.2.2.1 k hk)) hM8.size
    have htbM : tb < M := by omega
    have htW := (hM8.block tb htbM).trans H2.out.2.2.2.2.2.2.2
    have htF2 : ¬ F2 tb := fun e => htF (H2.out.2.2.2.2.1 tb (by simp; omega) e)
    have HST := Lib.hid (store_leaf htW hAW H.out.2.1 htF2 p H.out.2.2.1 hnbW hitW.read (fun y hy => by
      rcases List.mem_append.1 hy with hy | hy
      · exact H.out.2.2.2.1 y hy
      · obtain rfl := List.mem_singleton.1 hy
        exact hx) H.out.2.2.2.2.2.2.1 (by simp; omega))
    have HO := Lib.hid (show Off F w (w8.setCell ⟨nb, 1, none⟩ (.slice A8 (L.length + 1) c8)) from ((Off.of_below H.out.2.2.2.2.2.2.2.2).trans H2.out.2.2.2.2.2.1 (fun _ _ h => h)).trans (show Off (fun k => ¬ k < M) w2 (w8.setCell ⟨nb, 1, none⟩ (.slice A8 (L.length + 1) c8)) from ⟨hM8.os, hM8.tape, hM8.output, hM8.size, fun k hk hn => hM8.block k (by
      by_cases h : k < M
      · exact h
      · exact absurd h hn)⟩) (fun k hk e => by
        have e' : ¬ k < M := e
        omega))
    clear hit8 hb8 hg8 far hnb8 hx8 ho8 hM8 hnbW hitW hAW htW htF2 zf
    refine hK.out _ _ hSb (fun _ => ?_)
    clear hK K
    try simp only [Act.put, List.getElem_toArray, List.getElem_cons_succ, List.getElem_cons_zero, List.setIfInBounds_toArray, List.set_cons_zero, List.set_cons_succ]
    refine wpAnyH_take (i := 9) (v := ?_) rfl (by kernel_rfl) (by kernel_rfl) (by kernel_rfl) (fun _ _ _ h => h) (Or.inl ⟨by rfl, ?_⟩) hSb ?_
    rotate_left
    · rintro w9 ⟨t0, t1⟩
      go_simp
      try with_reducible rfl
    try simp only [Act.put, List.getElem_toArray, List.getElem_cons_succ, List.getElem_cons_zero, List.setIfInBounds_toArray, List.set_cons_zero, List.set_cons_succ]
    refine wpAnyH_take (i := 10) (v := ?_) rfl (by kernel_rfl) (by kernel_rfl) (by kernel_rfl) (fun _ _ _ h => h) (Or.inl ⟨by rfl, ?_⟩) hSb ?_
    rotate_left
    · rintro w9 ⟨t0, t1⟩
      go_simp
      try with_reducible rfl
    try simp only [Act.put, List.getElem_toArray, List.getElem_cons_succ, List.getElem_cons_zero, List.setIfInBounds_toArray, List.set_cons_zero, List.set_cons_succ]
    refine wpAnyH_ready (rs := [11]) (by kernel_rfl) (by simp) ?_
    refine AllReadyH.cons rfl (fun K hK => ?_) AllReadyH.nil
    go_simp
    refine hK.out _ _ HSc.out (fun _ => ?_)
    clear hK K
    try simp only [Act.put, List.getElem_toArray, List.getElem_cons_succ, List.getElem_cons_zero, List.setIfInBounds_toArray, List.set_cons_zero, List.set_cons_succ]
    refine wpAnyH_done (by kernel_rfl) ?_ _
    refine NoPanic.normal ?_
    go_wp2_with fail
    refine HST.out.mono ?_
    rintro e w9 ⟨rfl, hst⟩
    have HS := Lib.hid (Step.trans HO.out (fun k hk h => H2.out.2.2.2.2.1 k (by simp; omega) h) hst)
    clear hst
    go_wp2
    go_ret3
    exact ⟨rfl, HS.out⟩
  · go_simp
    refine hK.out _ _ HSa.out (fun _ => ?_)
    clear hK K
    try simp only [Act.put, List.getElem_toArray, List.getElem_cons_succ, List.getElem_cons_zero, List.setIfInBounds_toArray, List.set_cons_zero, List.set_cons_succ]
    refine wpAnyH_ready (rs := [4]) (by kernel_rfl) (by simp) ?_
    refine AllReadyH.cons rfl (fun K hK => ?_) AllReadyH.nil
    go_simp
    refine hK.out _ _ HSa.out (fun _ => ?_)
    clear hK K
    try simp only [Act.put, List.getElem_toArray, List.getElem_cons_succ, List.getElem_cons_zero, List.setIfInBounds_toArray, List.set_cons_zero, List.set_cons_succ]
    refine wpAnyH_ready (rs := [8]) (by kernel_rfl) (by simp) ?_
    refine AllReadyH.cons rfl (fun K hK => ?_) AllReadyH.nil
    go_simp
    refine HI.out.mono ?_
    rintro e w8 ⟨v', rfl, hit8, hb8, hg8⟩
    obtain ⟨A8, c8, e8⟩ := hit8.slice
    rw [show (L ++ [x]).length = L.length + 1 by simp] at e8
    subst e8
    have far : ∀ k cs t fr, k < w3.heap.size → t ≠ 89 → w3.heap[k]? = some (.cells cs t fr) → w8.heap[k]? = some (.cells cs t fr) := fun k cs t fr hk htt hh => (hg8.block k (by simp; omega) (fun e => H3.out.2.2.1.ne_block hh htt e.symm)).trans ((Below.heap_alloc w3 _ k hk).trans hh)
    have hnb8 := far nb _ _ _ hnlt3 (by decide) H3.out.1
    obtain ⟨z0, z1, z2, zf⟩ := node3 hnb8
    have zf1 := zf 1
    have hx8 : w8.heap[w.heap.size]? = some (itemO x) := (hb8.block w.heap.size (by omega)).trans ((Below.heap_alloc w3 _ _ hlw).trans H3.out.2.1)
    have hSb := xcells hx8
    have ho8 : ∀ k, k ≠ nb → (w8.setCell ⟨nb, 1, none⟩ (.slice A8 (L.length + 1) c8)).heap[k]? = w8.heap[k]? := fun k hk => Below.heap_setCell _ _ _ _ hk
    have HSc := Lib.hid (xcells ((ho8 w.heap.size (by omega)).trans hx8))
    have hM8 : Below M w2 (w8.setCell ⟨nb, 1, none⟩ (.slice A8 (L.length + 1) c8)) := ((H3.out.2.2.2.mono (by omega)).trans ((((Below.refl M w3).alloc (by omega) (itemO x)).drew).trans hb8)).setCell hMw _
    have hnbW : (w8.setCell ⟨nb, 1, none⟩ (.slice A8 (L.length + 1) c8)).heap[nb]? = some (nodeO true (.slice A8 (L ++ [x]).length c8) (.slice none 0 0)) := by
      rw [show (L ++ [x]).length = L.length + 1 by simp]
      exact heap_set hnb8
    have hitW : Items (w8.setCell ⟨nb, 1, none⟩ (.slice A8 (L.length + 1) c8)) M (.slice A8 (L.length + 1) c8) (L ++ [x]) := by
      obtain ⟨q1, q2⟩ := hit8
      refine ⟨q1, ?_⟩
      rcases q2 with q2 | ⟨g, cap, cur, hv, hg, hh, r⟩
      · exact .inl q2
      · exact .inr ⟨g, cap, cur, hv, hg, (ho8 g (fun e => by
          subst e
          rw [hnb8] at hh
          cases hh)).trans hh, r⟩
    have hAW : ActIs B (w8.setCell ⟨nb, 1, none⟩ (.slice A8 (L.length + 1) c8)) ba F2 R := H2.out.2.2.1.keep (fun k hk => hM8.block k (H2.out.2.2.2.1 k hk)) hM8.size
    have htbM : tb < M := by omega
    have htW := (hM8.block tb htbM).trans H2.out.2.2.2.2.2.2.2
    have htF2 : ¬ F2 tb := fun e => htF (H2.out.2.2.2.2.1 tb (by simp; omega) e)
    have HST := Lib.hid (store_leaf htW hAW H.out.2.1 htF2 p H.out.2.2.1 hnbW hitW.read (fun y hy => by
      rcases List.mem_append.1 hy with hy | hy
      · exact H.out.2.2.2.1 y hy
      · obtain rfl := List.mem_singleton.1 hy
        exact hx) H.out.2.2.2.2.2.2.1 (by simp; omega))
    have HO := Lib.hid (show Off F w (w8.setCell ⟨nb, 1, none⟩ (.slice A8 (L.length + 1) c8)) from ((Off.of_below H.out.2.2.2.2.2.2.2.2).trans H2.out.2.2.2.2.2.1 (fun _ _ h => h)).trans (show Off (fun k => ¬ k < M) w2 (w8.setCell ⟨nb, 1, none⟩ (.slice A8 (L.length + 1) c8)) from ⟨hM8.os, hM8.tape, hM8.output, hM8.size, fun k hk hn => hM8.block k (by
      by_cases h : k < M
      · exact h
      · exact absurd h hn)⟩) (fun k hk e => by
        have e' : ¬ k < M := e
        omega))
    clear hit8 hb8 hg8 far hnb8 hx8 ho8 hM8 hnbW hitW hAW htW htF2 zf
    refine hK.out _ _ hSb (fun _ => ?_)
    clear hK K
    try simp only [Act.put, List.getElem_toArray, List.getElem_cons_succ, List.getElem_cons_zero, List.setIfInBounds_toArray, List.set_cons_zero, List.set_cons_succ]
    refine wpAnyH_take (i := 9) (v := ?_) rfl (by kernel_rfl) (by kernel_rfl) (by kernel_rfl) (fun _ _ _ h => h) (Or.inl ⟨by rfl, ?_⟩) hSb ?_
    rotate_left
    · rintro w9 ⟨t0, t1⟩
      go_simp
      try with_reducible rfl
    try simp only [Act.put, List.getElem_toArray, List.getElem_cons_succ, List.getElem_cons_zero, List.setIfInBounds_toArray, List.set_cons_zero, List.set_cons_succ]
    refine wpAnyH_take (i := 10) (v := ?_) rfl (by kernel_rfl) (by kernel_rfl) (by kernel_rfl) (fun _ _ _ h => h) (Or.inl ⟨by rfl, ?_⟩) hSb ?_
    rotate_left
    · rintro w9 ⟨t0, t1⟩
      go_simp
      try with_reducible rfl
    try simp only [Act.put, List.getElem_toArray, List.getElem_cons_succ, List.getElem_cons_zero, List.setIfInBounds_toArray, List.set_cons_zero, List.set_cons_succ]
    refine wpAnyH_ready (rs := [11]) (by kernel_rfl) (by simp) ?_
    refine AllReadyH.cons rfl (fun K hK => ?_) AllReadyH.nil
    go_simp
    refine hK.out _ _ HSc.out (fun _ => ?_)
    clear hK K
    try simp only [Act.put, List.getElem_toArray, List.getElem_cons_succ, List.getElem_cons_zero, List.setIfInBounds_toArray, List.set_cons_zero, List.set_cons_succ]
    refine wpAnyH_done (by kernel_rfl) ?_ _
    refine NoPanic.normal ?_
    go_wp2_with fail
    refine HST.out.mono ?_
    rintro e w9 ⟨rfl, hst⟩
    have HS := Lib.hid (Step.trans HO.out (fun k hk h => H2.out.2.2.2.2.1 k (by simp; omega) h) hst)
    clear hst
    go_wp2
    go_ret3
    exact ⟨rfl, HS.out⟩
end Go.Proofs.YtoejgkcaamkanaaGreatDoor

namespace Go.Proofs.YtoejgkcaamkanaaGreatDoor
open Go.RowKit

theorem splice_getD (l s : List UInt8) (o i : Nat) (h : o + s.length ≤ l.length) : (splice l o s).getD i 0 = if o ≤ i ∧ i < o + s.length then s.getD (i - o) 0 else l.getD i 0 := by
  unfold splice
  simp only [List.getD_eq_getElem?_getD]
  congr 1
  have ht : (l.take o).length = o := by rw [List.length_take]; omega
  by_cases h1 : i < o
  · rw [List.getElem?_append_left (by omega), List.getElem?_take, if_pos h1, if_neg (by omega)]
  · rw [List.getElem?_append_right (by omega), ht]
    by_cases h2 : i < o + s.length
    · rw [List.getElem?_append_left (by omega), if_pos ⟨by omega, h2⟩]
    · rw [List.getElem?_append_right (by omega), List.getElem?_drop, if_neg (by omega)]
      rw [show o + s.length + (i - o - s.length) = i by omega]
theorem digL_length (n : Int) : (digL n).length = 4 := rfl
theorem num_same (l : List UInt8) (o : Nat) (n : Int) (h : o + 4 ≤ l.length) (h0 : 0 ≤ n) (h1 : n < 4294967296) : num (splice l o (digL n)) o = n := by
  unfold num
  rw [splice_getD _ _ _ _ (by rw [digL_length]; exact h), splice_getD _ _ _ _ (by rw [digL_length]; exact h), splice_getD _ _ _ _ (by rw [digL_length]; exact h), splice_getD _ _ _ _ (by rw [digL_length]; exact h), digL_length,
    if_pos (by omega), if_pos (by omega), if_pos (by omega), if_pos (by omega), show o - o = 0 by omega, show o + 1 - o = 1 by omega, show o + 2 - o = 2 by omega, show o + 3 - o = 3 by omega]
  exact num_dig n h0 h1
theorem num_other (l : List UInt8) (o i : Nat) (n : Int) (h : o + 4 ≤ l.length) (hi : i + 4 ≤ o ∨ o + 4 ≤ i) : num (splice l o (digL n)) i = num l i := by
  unfold num
  rw [splice_getD _ _ _ _ (by rw [digL_length]; exact h), splice_getD _ _ _ _ (by rw [digL_length]; exact h), splice_getD _ _ _ _ (by rw [digL_length]; exact h), splice_getD _ _ _ _ (by rw [digL_length]; exact h), digL_length,
    if_neg (by omega), if_neg (by omega), if_neg (by omega), if_neg (by omega)]
theorem splice_whole (l s : List UInt8) (h : s.length = l.length) : splice l 0 s = s := by
  unfold splice
  rw [List.take_zero, List.nil_append, Nat.zero_add, List.drop_of_length_le (by omega), List.append_nil]

/-- An action that has freed nothing. -/
structure Fine {bs : Nat} (B : Base bs) (R : Raw) : Prop where
  cov : Cov B R
  len0 : (R.page 0).length = 512
  free0 : num (R.page 0) 4 = 0
  gone : ∀ p, R.gone p = false
theorem fine0 (bs : Nat) : Fine (base0 bs) raw0 := ⟨cov0 bs, by show zeros.length = 512; exact List.length_replicate, by unfold raw0; decide +kernel, fun _ => rfl⟩
theorem Fine.there {bs : Nat} {B : Base bs} {R : Raw} (h : Fine B R) {p : Int} (hp : 1 ≤ p ∧ p ≤ R.total) : thereE R p = 0 := by
  rw [thereE, if_pos ⟨hp.1, hp.2, h.gone p⟩]
/-- A page but the first is written over. -/
theorem Fine.put {bs : Nat} {B : Base bs} {R : Raw} (h : Fine B R) {p : Int} (hp : p ≠ 0) (o : Nat) (l : List UInt8) : Fine B (R.put p o l) ∧ (R.put p o l).page 0 = R.page 0 := by
  have e : (R.put p o l).page 0 = R.page 0 := by
    show (if (0 : Int) = p then splice (R.page p) o l else R.page 0) = _
    rw [if_neg (Ne.symm hp)]
  refine ⟨⟨⟨fun q h0 hq => ?_, ?_⟩, by rw [e]; exact h.len0, by rw [e]; exact h.free0, h.gone⟩, e⟩
  · unfold Raw.total at hq
    rw [e] at hq
    rcases h.cov.1 q h0 hq with h1 | h1
    · left; show (decide (q = p) || R.dirty q) = true; rw [h1]; simp
    · exact .inr h1
  · unfold Raw.total
    rw [e]
    exact h.cov.2
/-- A root is set. -/
theorem Fine.setRoot {bs : Nat} {B : Base bs} {R : Raw} (h : Fine B R) (k : Nat) (hk : k < 16) (n : Int) (hn : 0 ≤ n ∧ n ≤ 2147483647) :
    Fine B (R.put 0 (8 + 4 * k) (digL n)) ∧ (R.put 0 (8 + 4 * k) (digL n)).root k = n ∧ (R.put 0 (8 + 4 * k) (digL n)).total = R.total ∧ (∀ j, j ≠ k → (R.put 0 (8 + 4 * k) (digL n)).root j = R.root j) ∧ ∀ p, p ≠ 0 → (R.put 0 (8 + 4 * k) (digL n)).page p = R.page p := by
  have hl := h.len0
  have e : (R.put 0 (8 + 4 * k) (digL n)).page 0 = splice (R.page 0) (8 + 4 * k) (digL n) := by
    show (if (0 : Int) = 0 then splice (R.page 0) (8 + 4 * k) (digL n) else R.page 0) = _
    rw [if_pos rfl]
  have et : (R.put 0 (8 + 4 * k) (digL n)).total = R.total := by
    unfold Raw.total
    rw [e, num_other _ _ _ _ (by omega) (by omega)]
  refine ⟨⟨⟨fun q h0 hq => ?_, by rw [et]; exact h.cov.2⟩, ?_, ?_, h.gone⟩, ?_, et, fun j hj => ?_, fun p hp => if_neg hp⟩
  · rw [et] at hq
    rcases h.cov.1 q h0 hq with h1 | h1
    · left; show (decide (q = 0) || R.dirty q) = true; rw [h1]; simp
    · exact .inr h1
  · rw [e, length_splice _ _ _ (by rw [digL_length]; omega), hl]
  · rw [e, num_other _ _ _ _ (by omega) (by omega)]; exact h.free0
  · unfold Raw.root
    rw [e, num_same _ _ _ (by omega) hn.1 (by omega)]
  · unfold Raw.root
    rw [e, num_other _ _ _ _ (by omega) (by omega)]
/-- A new page. -/
theorem Fine.alloc {bs : Nat} {B : Base bs} {R : Raw} (h : Fine B R) (ht : R.total + 1 < 4096) :
    Fine B ((R.put 0 0 (digL (R.total + 1))).lay (R.total + 1) zeros) ∧ ((R.put 0 0 (digL (R.total + 1))).lay (R.total + 1) zeros).total = R.total + 1 ∧ (∀ j, j < 16 → ((R.put 0 0 (digL (R.total + 1))).lay (R.total + 1) zeros).root j = R.root j) ∧
    ((R.put 0 0 (digL (R.total + 1))).lay (R.total + 1) zeros).page (R.total + 1) = zeros ∧ ∀ p, p ≠ 0 → p ≠ R.total + 1 → ((R.put 0 0 (digL (R.total + 1))).lay (R.total + 1) zeros).page p = R.page p := by
  have hl := h.len0
  have h0 : 0 ≤ R.total := (num_range _ _).1
  have e : ((R.put 0 0 (digL (R.total + 1))).lay (R.total + 1) zeros).page 0 = splice (R.page 0) 0 (digL (R.total + 1)) := by
    show (if (0 : Int) = R.total + 1 then zeros else (if (0 : Int) = 0 then splice (R.page 0) 0 (digL (R.total + 1)) else R.page 0)) = _
    rw [if_neg (by omega), if_pos rfl]
  have et : ((R.put 0 0 (digL (R.total + 1))).lay (R.total + 1) zeros).total = R.total + 1 := by
    have := num_same (R.page 0) 0 (R.total + 1) (by omega) (by omega) (by omega)
    show num (((R.put 0 0 (digL (R.total + 1))).lay (R.total + 1) zeros).page 0) 0 = _
    rw [e, this]
  refine ⟨⟨⟨fun q hq0 hq => ?_, by rw [et]; exact ht⟩, ?_, ?_, h.gone⟩, et, fun j hj => ?_, if_pos rfl, fun p hp hp' => ?_⟩
  · rw [et] at hq
    by_cases e1 : q = R.total + 1
    · left; show (decide (q = R.total + 1) || _) = true; simp [e1]
    · rcases h.cov.1 q hq0 (by omega) with h1 | h1
      · left; show (decide (q = R.total + 1) || (decide (q = 0) || R.dirty q)) = true; rw [h1]; simp
      · exact .inr h1
  · rw [e, length_splice _ _ _ (by rw [digL_length]; omega), hl]
  · rw [e, num_other _ _ _ _ (by omega) (by omega)]; exact h.free0
  · unfold Raw.root
    rw [e, num_other _ _ _ _ (by omega) (by omega)]
  · show (if p = R.total + 1 then zeros else (if p = 0 then _ else R.page p)) = _
    rw [if_neg hp', if_neg hp]

/-- A tree that is one leaf. -/
structure Leaf (R : Raw) (k : Nat) (L : List KV) : Prop where
  top : 1 ≤ R.root k ∧ R.root k ≤ R.total
  page : R.page (R.root k) = pageL (leafB L)
  ok : ∀ x ∈ L, x.ok
  rises : Sorted L
  len : (leafB L).length ≤ 512
  few : L.length < 256
theorem Leaf.len512 {R : Raw} {k : Nat} {L : List KV} (h : Leaf R k L) : (R.page (R.root k)).length = 512 := by rw [h.page]; exact pageL_length h.len
end Go.Proofs.YtoejgkcaamkanaaGreatDoor

namespace Go.Proofs.YtoejgkcaamkanaaGreatDoor
open Go.RowKit

theorem Sorted.snoc {L : List KV} {x : KV} (h : Sorted L) (he : ∀ t (h : t < L.length), cmpK L[t] x.k < 0) : Sorted (L ++ [x]) := by
  intro i j hi hj hij
  rw [List.length_append, List.length_singleton] at hi hj
  have hi' : i < L.length := by omega
  rw [List.getElem_append_left hi']
  by_cases hj' : j < L.length
  · rw [List.getElem_append_left hj']
    exact h i j hi' hj' hij
  · have : j = L.length := by omega
    subst this
    rw [List.getElem_append_right (Nat.le_refl _)]
    have := he i hi'
    unfold cmpK at this
    simpa using this
theorem Leaf.next {bs : Nat} {B : Base bs} {R : Raw} {k : Nat} {L L' : List KV} (h : Leaf R k L) (hf : Fine B R) (hok : ∀ x ∈ L', x.ok) (hs : Sorted L') (hlen : (leafB L').length ≤ 512) (hn : L'.length < 256) :
    Fine B (R.put (R.root k) 0 (pageL (leafB L'))) ∧ Leaf (R.put (R.root k) 0 (pageL (leafB L'))) k L' ∧ (R.put (R.root k) 0 (pageL (leafB L'))).page 0 = R.page 0 ∧ ∀ p, p ≠ R.root k → (R.put (R.root k) 0 (pageL (leafB L'))).page p = R.page p := by
  have hp : R.root k ≠ 0 := by have := h.top.1; omega
  obtain ⟨h1, h2⟩ := hf.put hp 0 (pageL (leafB L'))
  have hroot : (R.put (R.root k) 0 (pageL (leafB L'))).root k = R.root k := by
    show num ((R.put (R.root k) 0 (pageL (leafB L'))).page 0) (8 + 4 * k) = num (R.page 0) (8 + 4 * k)
    rw [h2]
  refine ⟨h1, ⟨?_, ?_, hok, hs, hlen, hn⟩, h2, fun p hp' => if_neg hp'⟩
  · rw [hroot]
    unfold Raw.total
    rw [h2]
    exact h.top
  · rw [hroot]
    show (if R.root k = R.root k then splice (R.page (R.root k)) 0 (pageL (leafB L')) else R.page (R.root k)) = _
    rw [if_pos rfl]
    exact splice_whole _ _ (by rw [h.len512, pageL_length hlen])

set_option maxRecDepth 100000 in
set_option maxHeartbeats 2000000 in
theorem Put_end {bs : Nat} {B : Base bs} {w : World} {tb ba k : Nat} {F : Nat → Prop} {R : Raw} (ht : w.heap[tb]? = some (treeO ba k)) (hA : ActIs B w ba F R) (hf : Fine B R) (htF : ¬ F tb) (hk : k < 16) {L : List KV} (hL : Leaf R k L)
    (x : KV) (hx : x.ok) (hx0 : 0 < x.k.size) (hend : ∀ t (h : t < L.length), cmpK L[t] x.k < 0) (hlen : (leafB (L ++ [x])).length ≤ 512) (hn : L.length + 1 < 256) :
    Calls Tryz.prog 39 #[.pointer (some ⟨tb, 0, none⟩), .string x.k, .string x.v] w fun e w' => e = .returned (.tuple #[.bool true, .int .i64 0]) ∧ Step B ba w F (R.put (R.root k) 0 (pageL (leafB (L ++ [x])))) w' := by
  have HT := Lib.hid (top_any ht hA hf.cov htF hk)
  have h1 : ¬ R.root k = 0 := by have := hL.top.1; omega
  have h1' : (R.root k == 0) = false := by simpa using h1
  have hltb : tb < w.heap.size := (Array.getElem?_eq_some_iff.1 ht).1
  have H := Lib.hid (And.intro ht (And.intro hf (And.intro hL (And.intro hx (And.intro hend (And.intro hlen hn))))))
  have f1 : (x.k.size : Int) ≤ 96 := by have := hx.1; omega
  have f2 : (x.v.size : Int) ≤ 32 := by have := hx.2; omega
  have f0 : x.k.toList.isEmpty = false := by
    rw [Go.Lib.toList_data]
    cases h : x.k.data.toList with
    | nil =>
      have e : x.k.size = x.k.data.toList.length := by simp
      rw [h] at e
      have e' : x.k.size = 0 := e
      omega
    | cons _ _ => rfl
  clear ht hA hf hL hx hend hlen
  go_enter Tryz.func39, Tryz.ntmps39
  go_wp2_with fail
  refine HT.out.mono ?_
  rintro e w1 ⟨rfl, hst⟩
  have ht1 := hst.block H.out.1 htF
  obtain ⟨F1, h1A, hF1, ho1⟩ := hst
  have htF1 : ¬ F1 tb := fun e => htF (hF1 tb hltb e)
  have HP := Lib.hid (put_end ht1 h1A H.out.2.1.cov htF1 (R.root k) (H.out.2.1.there H.out.2.2.1.top) L H.out.2.2.1.page H.out.2.2.1.ok H.out.2.2.1.rises x H.out.2.2.2.1 H.out.2.2.2.2.1 H.out.2.2.2.2.2.1 hn)
  have HO := Lib.hid (And.intro ho1 hF1)
  clear ht1 h1A ho1 hF1 htF1 HT
  go_wp2_with fail
  refine HP.out.mono ?_
  rintro e w2 ⟨rfl, hst⟩
  have HS := Lib.hid (Step.trans HO.out.1 HO.out.2 hst)
  clear hst
  go_wp2
  go_ret2
  exact ⟨rfl, HS.out⟩
end Go.Proofs.YtoejgkcaamkanaaGreatDoor
