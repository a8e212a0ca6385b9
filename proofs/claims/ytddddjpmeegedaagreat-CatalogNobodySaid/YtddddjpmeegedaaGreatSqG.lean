/- The kinds; what is held of an index; Indexes. -/
import Derived.Test.YtddddjpmeegedaaGreatSqF
set_option linter.unusedVariables false
set_option linter.unusedSimpArgs false
namespace Go.Proofs.YtddddjpmeegedaaGreat
open Go.RowKit

def knames : List ByteArray := [⟨#[98, 105, 116, 109, 97, 112]⟩, ⟨#[98, 116, 114, 101, 101]⟩, ⟨#[104, 97, 115, 104]⟩, ⟨#[105, 110, 118, 101, 114, 116, 101, 100]⟩]
def kname (i : Nat) : ByteArray := knames.getD i ⟨#[]⟩
def kuniq (i : Nat) : Bool := i == 1 || i == 2
def kopen (i : Nat) : Nat := match i with
  | 0 => 69
  | 1 => 72
  | 2 => 75
  | _ => 78
def kcols (i : Nat) : List Int := if i = 3 then [3] else [1, 2]
abbrev kindsO (gp gl : Nat) : Obj := .cells #[.string ⟨#[98, 105, 116, 109, 97, 112]⟩, .slice (some ⟨gp, 0, none⟩) 2 2, .bool false, .func (.func 69) #[] #[],
  .string ⟨#[98, 116, 114, 101, 101]⟩, .slice (some ⟨gp, 0, none⟩) 2 2, .bool true, .func (.func 72) #[] #[],
  .string ⟨#[104, 97, 115, 104]⟩, .slice (some ⟨gp, 0, none⟩) 2 2, .bool true, .func (.func 75) #[] #[],
  .string ⟨#[105, 110, 118, 101, 114, 116, 101, 100]⟩, .slice (some ⟨gl, 0, none⟩) 1 1, .bool false, .func (.func 78) #[] #[]] 80
structure KindsAt (w : World) (g gp gl : Nat) : Prop where
  k : w.heap[g]? = some (kindsO gp gl)
  p : w.heap[gp]? = some (.cells #[.int .i64 1, .int .i64 2] 3)
  l : w.heap[gl]? = some (.cells #[.int .i64 3] 3)
def kg (gp gl i : Nat) : Nat := if i = 3 then gl else gp
def kn (i : Nat) : Nat := if i = 3 then 1 else 2
section
variable {w w' : World} {g gp gl : Nat}
theorem KindsAt.keep (h : KindsAt w g gp gl) (e : ∀ k, k = g ∨ k = gp ∨ k = gl → w'.heap[k]? = w.heap[k]?) : KindsAt w' g gp gl := ⟨(e g (.inl rfl)).trans h.k, (e gp (.inr (.inl rfl))).trans h.p, (e gl (.inr (.inr rfl))).trans h.l⟩
theorem KindsAt.lt (h : KindsAt w g gp gl) : g < w.heap.size ∧ gp < w.heap.size ∧ gl < w.heap.size := ⟨(Array.getElem?_eq_some_iff.1 h.k).1, (Array.getElem?_eq_some_iff.1 h.p).1, (Array.getElem?_eq_some_iff.1 h.l).1⟩
theorem KindsAt.below (h : KindsAt w g gp gl) (hb : Below w.heap.size w w') : KindsAt w' g gp gl := h.keep fun k hk => hb.block k (by have := h.lt; omega)
theorem KindsAt.cells (h : KindsAt w g gp gl) (i : Nat) (hi : i < 4) : w.cell? ⟨g, i * 4, none⟩ = some (.string (kname i)) ∧ w.cell? ⟨g, i * 4 + 1, none⟩ = some (.slice (some ⟨kg gp gl i, 0, none⟩) (kn i) (kn i)) ∧ w.cell? ⟨g, i * 4 + 2, none⟩ = some (.bool (kuniq i)) ∧ w.cell? ⟨g, i * 4 + 3, none⟩ = some (.func (.func (kopen i)) #[] #[]) := by
  have hk := h.k
  match i, hi with
  | 0, _ => refine ⟨?_, ?_, ?_, ?_⟩ <;> (unfold World.cell?; rw [hk]; rfl)
  | 1, _ => refine ⟨?_, ?_, ?_, ?_⟩ <;> (unfold World.cell?; rw [hk]; rfl)
  | 2, _ => refine ⟨?_, ?_, ?_, ?_⟩ <;> (unfold World.cell?; rw [hk]; rfl)
  | 3, _ => refine ⟨?_, ?_, ?_, ?_⟩ <;> (unfold World.cell?; rw [hk]; rfl)
theorem KindsAt.cols (h : KindsAt w g gp gl) (i : Nat) (hi : i < 4) : (kcols i).length = kn i ∧ ∀ j (hj : j < (kcols i).length), w.cell? ⟨kg gp gl i, j, none⟩ = some (.int .i64 (kcols i)[j]) := by
  have hp := h.p
  have hl := h.l
  have hP : ∀ j (hj : j < ([1, 2] : List Int).length), w.cell? ⟨gp, j, none⟩ = some (.int .i64 ([1, 2] : List Int)[j]) := fun j hj => by
    match j, hj with
    | 0, _ => unfold World.cell?; rw [hp]; rfl
    | 1, _ => unfold World.cell?; rw [hp]; rfl
  match i, hi with
  | 0, _ => exact ⟨rfl, hP⟩
  | 1, _ => exact ⟨rfl, hP⟩
  | 2, _ => exact ⟨rfl, hP⟩
  | 3, _ => exact ⟨rfl, fun j hj => by
      match j, hj with
      | 0, _ => unfold World.cell?; rw [show kg gp gl 3 = gl from rfl, hl]; rfl⟩
end
theorem kinds_any (w : World) :
    Calls Tryz.prog 29 #[] w fun e w' => ∃ g gp gl, e = .returned (.slice (some ⟨g, 0, none⟩) 4 4) ∧ KindsAt w' g gp gl ∧ w.heap.size ≤ g ∧ w.heap.size ≤ gp ∧ w.heap.size ≤ gl ∧ Below w.heap.size w w' := by
  go_enter Tryz.func29, Tryz.ntmps29
  go_wp2
  go_ret
  refine ⟨w.heap.size + 1 + 1, w.heap.size, w.heap.size + 1, rfl, ⟨?_, ?_, ?_⟩, by omega, by omega, by omega, by go_grown⟩
  · have := hnew ((w.alloc (.cells #[.int .i64 1, .int .i64 2] 3)).alloc (.cells #[.int .i64 3] 3)) (kindsO w.heap.size (w.heap.size + 1))
    simpa using this
  · rw [Below.heap_alloc _ _ _ (by simp; omega), Below.heap_alloc _ _ _ (by simp)]
    exact hnew w _
  · rw [Below.heap_alloc _ _ _ (by simp)]
    have := hnew (w.alloc (.cells #[.int .i64 1, .int .i64 2] 3)) (.cells #[.int .i64 3] 3)
    simpa using this

def byteN (s : ByteArray) (i : Nat) : Int := (s.data.getD i 0).toNat
theorem byteN_of (s : ByteArray) (i : Nat) (h : i < s.size) : byteN s i = ((s[i]'h).toNat : Int) ∧ byteN s i < 256 ∧ 0 ≤ byteN s i := by
  have e : s.data.getD i 0 = s[i]'h := by
    rw [Array.getD_eq_getD_getElem?, Array.getElem?_eq_getElem (by exact h)]; rfl
  have := UInt8.toNat_lt (s[i]'h)
  unfold byteN
  rw [e]
  exact ⟨rfl, by omega, by omega⟩
def xiOf (x : KV) : Xi := ⟨x.k.extract 1 x.k.size, kname (byteN x.v 0).toNat, byteN x.v 1, byteN x.v 2 == 1, byteN x.v 3⟩
def xOk (x : KV) : Prop := x.v.size = 5 ∧ byteN x.v 0 < 4

theorem xi5 {w : World} {g : Nat} {x : Xi} (h : w.heap[g]? = some (xiO x)) : w.cell? ⟨g, 0, none⟩ = some (.string x.name) ∧ w.cell? ⟨g, 1, none⟩ = some (.string x.meth) ∧ w.cell? ⟨g, 2, none⟩ = some (.int .i64 x.col) ∧ w.cell? ⟨g, 3, none⟩ = some (.bool x.uniq) ∧ w.cell? ⟨g, 4, none⟩ = some (.int .i64 x.state) := by
  refine ⟨?_, ?_, ?_, ?_, ?_⟩ <;> (unfold World.cell?; rw [h]; rfl)
theorem xi5z {w : World} {g : Nat} {x : Xi} (h : w.heap[g]? = some (xiO x)) : w.frozen? ⟨g, 0, none⟩ = false ∧ w.frozen? ⟨g, 1, none⟩ = false ∧ w.frozen? ⟨g, 2, none⟩ = false ∧ w.frozen? ⟨g, 3, none⟩ = false ∧ w.frozen? ⟨g, 4, none⟩ = false := by
  refine ⟨?_, ?_, ?_, ?_, ?_⟩ <;> (unfold World.frozen?; rw [h]; rfl)
abbrev xiV (x : Xi) : Value := .agg #[.string x.name, .string x.meth, .int .i64 x.col, .bool x.uniq, .int .i64 x.state]

set_option maxRecDepth 100000 in
set_option maxHeartbeats 2000000 in
theorem index_any (n v : ByteArray) (w : World) (hv : v.size = 5) (hk : byteN v 0 < 4) :
    Calls Tryz.prog 40 #[.string n, .string v] w fun e w' => e = .returned (.tuple #[xiV ⟨n, kname (byteN v 0).toNat, byteN v 1, byteN v 2 == 1, byteN v 3⟩, .int .i64 (byteN v 4)]) ∧ Below w.heap.size w w' := by
  have HK := Lib.hid fun w1 => kinds_any w1
  obtain ⟨q0, r0, s0⟩ := byteN_of v 0 (by omega)
  obtain ⟨q1, r1, s1⟩ := byteN_of v 1 (by omega)
  obtain ⟨q2, r2, s2⟩ := byteN_of v 2 (by omega)
  obtain ⟨q3, r3, s3⟩ := byteN_of v 3 (by omega)
  obtain ⟨q4, r4, s4⟩ := byteN_of v 4 (by omega)
  have t1 : IntKind.i64.wrap ((v[1]'(by omega)).toNat : Int) = byteN v 1 := by rw [q1, IntKind.wrap_i64]; omega
  have t3 : IntKind.i64.wrap ((v[3]'(by omega)).toNat : Int) = byteN v 3 := by rw [q3, IntKind.wrap_i64]; omega
  have t4 : IntKind.i64.wrap ((v[4]'(by omega)).toNat : Int) = byteN v 4 := by rw [q4, IntKind.wrap_i64]; omega
  obtain ⟨i, hi⟩ : ∃ i : Nat, byteN v 0 = i := ⟨(byteN v 0).toNat, by omega⟩
  have hi4 : i < 4 := by omega
  have hi4' : (i : Int) < 4 := by omega
  have u0 : ((v[0]'(by omega)).toNat : Int) = i := by rw [← q0, hi]
  have u2 : ((v[2]'(by omega)).toNat : Int) = byteN v 2 := q2.symm
  have hs5 : (v.size : Int) = 5 := by omega
  have HI := Lib.hid hi
  have HQ := Lib.hid q2
  clear q0 q1 q2 q3 q4 hi
  go_enter Tryz.func40, Tryz.ntmps40
  go_wp2
  refine wp_region_noPanic ?_
  refine wp_region_held_drew (S := (fun w' => True)) (by kernel_rfl) trivial (fun hS => ?_)
  refine wpAnyH_take (i := 0) (v := ?_) rfl (by kernel_rfl) (by kernel_rfl) (by kernel_rfl) (fun _ _ _ h => h) (Or.inl ⟨by rfl, ?_⟩) hS ?_
  rotate_left
  · intro w9 t0
    go_simp
    try with_reducible rfl
  try simp only [Act.put, List.getElem_toArray, List.getElem_cons_succ, List.getElem_cons_zero, List.setIfInBounds_toArray, List.set_cons_zero, List.set_cons_succ]
  refine wpAnyH_take (i := 2) (v := ?_) rfl (by kernel_rfl) (by kernel_rfl) (by kernel_rfl) (fun _ _ _ h => h) (Or.inl ⟨by rfl, ?_⟩) hS ?_
  rotate_left
  · intro w9 t0
    go_simp
    try with_reducible rfl
  try simp only [Act.put, List.getElem_toArray, List.getElem_cons_succ, List.getElem_cons_zero, List.setIfInBounds_toArray, List.set_cons_zero, List.set_cons_succ]
  refine wpAnyH_take (i := 3) (v := ?_) rfl (by kernel_rfl) (by kernel_rfl) (by kernel_rfl) (fun _ _ _ h => h) (Or.inl ⟨by rfl, ?_⟩) hS ?_
  rotate_left
  · intro w9 t0
    go_simp
    try with_reducible rfl
  try simp only [Act.put, List.getElem_toArray, List.getElem_cons_succ, List.getElem_cons_zero, List.setIfInBounds_toArray, List.set_cons_zero, List.set_cons_succ]
  refine wpAnyH_take (i := 7) (v := ?_) rfl (by kernel_rfl) (by kernel_rfl) (by kernel_rfl) (fun _ _ _ h => h) (Or.inl ⟨by rfl, ?_⟩) hS ?_
  rotate_left
  · intro w9 t0
    go_simp
    try with_reducible rfl
  try simp only [Act.put, List.getElem_toArray, List.getElem_cons_succ, List.getElem_cons_zero, List.setIfInBounds_toArray, List.set_cons_zero, List.set_cons_succ]
  refine wpAnyH_take (i := 8) (v := ?_) rfl (by kernel_rfl) (by kernel_rfl) (by kernel_rfl) (fun _ _ _ h => h) (Or.inl ⟨by rfl, ?_⟩) hS ?_
  rotate_left
  · intro w9 t0
    go_simp
    try with_reducible rfl
  try simp only [Act.put, List.getElem_toArray, List.getElem_cons_succ, List.getElem_cons_zero, List.setIfInBounds_toArray, List.set_cons_zero, List.set_cons_succ]
  refine wpAnyH_take (i := 9) (v := ?_) rfl (by kernel_rfl) (by kernel_rfl) (by kernel_rfl) (fun _ _ _ h => h) (Or.inl ⟨by rfl, ?_⟩) hS ?_
  rotate_left
  · intro w9 t0
    go_simp
    try with_reducible rfl
  try simp only [Act.put, List.getElem_toArray, List.getElem_cons_succ, List.getElem_cons_zero, List.setIfInBounds_toArray, List.set_cons_zero, List.set_cons_succ]
  refine wpAnyH_take (i := 10) (v := ?_) rfl (by kernel_rfl) (by kernel_rfl) (by kernel_rfl) (fun _ _ _ h => h) (Or.inl ⟨by rfl, ?_⟩) hS ?_
  rotate_left
  · intro w9 t0
    go_simp
    try with_reducible rfl
  try simp only [Act.put, List.getElem_toArray, List.getElem_cons_succ, List.getElem_cons_zero, List.setIfInBounds_toArray, List.set_cons_zero, List.set_cons_succ]
  refine wpAnyH_take (i := 11) (v := ?_) rfl (by kernel_rfl) (by kernel_rfl) (by kernel_rfl) (fun _ _ _ h => h) (Or.inl ⟨by rfl, ?_⟩) hS ?_
  rotate_left
  · intro w9 t0
    go_simp
    try with_reducible rfl
  try simp only [Act.put, List.getElem_toArray, List.getElem_cons_succ, List.getElem_cons_zero, List.setIfInBounds_toArray, List.set_cons_zero, List.set_cons_succ]
  refine wpAnyH_take (i := 12) (v := ?_) rfl (by kernel_rfl) (by kernel_rfl) (by kernel_rfl) (fun _ _ _ h => h) (Or.inl ⟨by rfl, ?_⟩) hS ?_
  rotate_left
  · intro w9 t0
    go_simp
    try with_reducible rfl
  try simp only [Act.put, List.getElem_toArray, List.getElem_cons_succ, List.getElem_cons_zero, List.setIfInBounds_toArray, List.set_cons_zero, List.set_cons_succ]
  refine wpAnyH_take (i := 13) (v := ?_) rfl (by kernel_rfl) (by kernel_rfl) (by kernel_rfl) (fun _ _ _ h => h) (Or.inl ⟨by rfl, ?_⟩) hS ?_
  rotate_left
  · intro w9 t0
    go_simp
    try with_reducible rfl
  try simp only [Act.put, List.getElem_toArray, List.getElem_cons_succ, List.getElem_cons_zero, List.setIfInBounds_toArray, List.set_cons_zero, List.set_cons_succ]
  refine wpAnyH_take (i := 14) (v := ?_) rfl (by kernel_rfl) (by kernel_rfl) (by kernel_rfl) (fun _ _ _ h => h) (Or.inl ⟨by rfl, ?_⟩) hS ?_
  rotate_left
  · intro w9 t0
    go_simp
    try with_reducible rfl
  try simp only [Act.put, List.getElem_toArray, List.getElem_cons_succ, List.getElem_cons_zero, List.setIfInBounds_toArray, List.set_cons_zero, List.set_cons_succ]
  refine wpAnyH_take (i := 15) (v := ?_) rfl (by kernel_rfl) (by kernel_rfl) (by kernel_rfl) (fun _ _ _ h => h) (Or.inl ⟨by rfl, ?_⟩) hS ?_
  rotate_left
  · intro w9 t0
    go_simp
    try with_reducible rfl
  try simp only [Act.put, List.getElem_toArray, List.getElem_cons_succ, List.getElem_cons_zero, List.setIfInBounds_toArray, List.set_cons_zero, List.set_cons_succ]
  refine wpAnyH_take (i := 17) (v := ?_) rfl (by kernel_rfl) (by kernel_rfl) (by kernel_rfl) (fun _ _ _ h => h) (Or.inl ⟨by rfl, ?_⟩) hS ?_
  rotate_left
  · intro w9 t0
    go_simp
    try with_reducible rfl
  try simp only [Act.put, List.getElem_toArray, List.getElem_cons_succ, List.getElem_cons_zero, List.setIfInBounds_toArray, List.set_cons_zero, List.set_cons_succ]
  refine wpAnyH_take (i := 18) (v := ?_) rfl (by kernel_rfl) (by kernel_rfl) (by kernel_rfl) (fun _ _ _ h => h) (Or.inl ⟨by rfl, ?_⟩) hS ?_
  rotate_left
  · intro w9 t0
    go_simp
    try with_reducible rfl
  try simp only [Act.put, List.getElem_toArray, List.getElem_cons_succ, List.getElem_cons_zero, List.setIfInBounds_toArray, List.set_cons_zero, List.set_cons_succ]
  refine wpAnyH_take (i := 19) (v := ?_) rfl (by kernel_rfl) (by kernel_rfl) (by kernel_rfl) (fun _ _ _ h => h) (Or.inl ⟨by rfl, ?_⟩) hS ?_
  rotate_left
  · intro w9 t0
    go_simp
    try with_reducible rfl
  try simp only [Act.put, List.getElem_toArray, List.getElem_cons_succ, List.getElem_cons_zero, List.setIfInBounds_toArray, List.set_cons_zero, List.set_cons_succ]
  refine wpAnyH_ready (rs := [1]) (by kernel_rfl) (by simp) ?_
  refine AllReadyH.cons rfl (fun K hK => ?_) AllReadyH.nil
  go_simp
  refine (HK.out _).mono ?_
  rintro e w1 ⟨g, gp, gl, rfl, hka, hg, hgp, hgl, hb1⟩
  have hz1 := hb1.size
  have hx1 := (hb1.block w.heap.size (by show w.heap.size < (w.alloc _).heap.size; simp)).trans (hnew w (xiO ⟨⟨#[]⟩, ⟨#[]⟩, 0, false, 0⟩))
  obtain ⟨k0, k1, k2, k3⟩ := hka.cells i hi4
  have hkn : kname i = kname (byteN v 0).toNat := by rw [HI.out]; simp
  rw [hkn] at k0
  have HB1 := Lib.hid hb1
  obtain ⟨x0, x1, x2, x3, x4⟩ := xi5 hx1
  obtain ⟨y0, y1, y2, y3, y4⟩ := xi5z hx1
  generalize hkk : kname (byteN v 0).toNat = kk at *
  have HKK := Lib.hid hkk
  clear hka hb1 hx1 hkn k1 k2 k3 hkk
  refine hK.out _ _ trivial (fun _ => ?_)
  clear hK K
  try simp only [Act.put, List.getElem_toArray, List.getElem_cons_succ, List.getElem_cons_zero, List.setIfInBounds_toArray, List.set_cons_zero, List.set_cons_succ]
  refine wpAnyH_take (i := 4) (v := ?_) rfl (by kernel_rfl) (by kernel_rfl) (by kernel_rfl) (fun _ _ _ h => h) (Or.inl ⟨by rfl, ?_⟩) trivial ?_
  rotate_left
  · intro w9 t0
    go_simp
    try with_reducible rfl
  try simp only [Act.put, List.getElem_toArray, List.getElem_cons_succ, List.getElem_cons_zero, List.setIfInBounds_toArray, List.set_cons_zero, List.set_cons_succ]
  refine wpAnyH_take (i := 5) (v := ?_) rfl (by kernel_rfl) (by kernel_rfl) (by kernel_rfl) (fun _ _ _ h => h) (Or.inl ⟨by rfl, ?_⟩) trivial ?_
  rotate_left
  · intro w9 t0
    go_simp
    try with_reducible rfl
  try simp only [Act.put, List.getElem_toArray, List.getElem_cons_succ, List.getElem_cons_zero, List.setIfInBounds_toArray, List.set_cons_zero, List.set_cons_succ]
  refine wpAnyH_ready (rs := [6]) (by kernel_rfl) (by simp) ?_
  refine AllReadyH.cons rfl (fun K hK => ?_) AllReadyH.nil
  go_simp
  refine hK.out _ _ trivial (fun _ => ?_)
  clear hK K
  try simp only [Act.put, List.getElem_toArray, List.getElem_cons_succ, List.getElem_cons_zero, List.setIfInBounds_toArray, List.set_cons_zero, List.set_cons_succ]
  refine wpAnyH_take (i := 16) (v := ?_) rfl (by kernel_rfl) (by kernel_rfl) (by kernel_rfl) (fun _ _ _ h => h) (Or.inl ⟨by rfl, ?_⟩) trivial ?_
  rotate_left
  · intro w9 t0
    go_simp
    try with_reducible rfl
  try simp only [Act.put, List.getElem_toArray, List.getElem_cons_succ, List.getElem_cons_zero, List.setIfInBounds_toArray, List.set_cons_zero, List.set_cons_succ]
  refine wpAnyH_ready (rs := [20]) (by kernel_rfl) (by simp) ?_
  refine AllReadyH.cons rfl (fun K hK => ?_) AllReadyH.nil
  go_simp
  refine hK.out _ _ trivial (fun _ => ?_)
  clear hK K
  try simp only [Act.put, List.getElem_toArray, List.getElem_cons_succ, List.getElem_cons_zero, List.setIfInBounds_toArray, List.set_cons_zero, List.set_cons_succ]
  refine wpAnyH_take (i := 21) (v := ?_) rfl (by kernel_rfl) (by kernel_rfl) (by kernel_rfl) (fun _ _ _ h => h) (Or.inl ⟨by rfl, ?_⟩) trivial ?_
  rotate_left
  · intro w9 t0
    go_simp
    try with_reducible rfl
  try simp only [Act.put, List.getElem_toArray, List.getElem_cons_succ, List.getElem_cons_zero, List.setIfInBounds_toArray, List.set_cons_zero, List.set_cons_succ]
  refine wpAnyH_done (by kernel_rfl) ?_ _
  refine NoPanic.normal ?_
  go_wp2
  (try simp only [Exit.inBlock, Exit.then])
  refine bodyPost_ret (v := .tuple #[xiV ⟨n, kk, byteN v 1, byteN v 2 == 1, byteN v 3⟩, .int .i64 (byteN v 4)]) ?_ rfl ⟨by rw [HKK.out], ?_⟩
  · rw [results_cell_tmp rfl]
    go_simp
    try rfl
  · have hb : Below w.heap.size w w1 := ((Below.refl w.heap.size w).alloc (Nat.le_refl _) _).drew.trans (HB1.out.mono (by show w.heap.size ≤ (w.alloc _).heap.size; simp))
    exact (((((hb.setCell (p := ⟨w.heap.size, 0, none⟩) (Nat.le_refl _) _).setCell (p := ⟨w.heap.size, 1, none⟩) (Nat.le_refl _) _).setCell (p := ⟨w.heap.size, 2, none⟩) (Nat.le_refl _) _).setCell (p := ⟨w.heap.size, 3, none⟩) (Nat.le_refl _) _).setCell (p := ⟨w.heap.size, 4, none⟩) (Nat.le_refl _) _)
end Go.Proofs.YtddddjpmeegedaaGreat
