/- datum.decode, Of. -/
import Derived.Test.YtekcoddjdjllhaaDoorDeT
import Derived.Test.YtekcoddjdjllhaaDoorDatY
namespace Go.Proofs.YtekcoddjdjllhaaDoor
open Go.RowKit

theorem unbe_in (l : List UInt8) (h : l.length = 8) : In64 (unbe l) := by
  have := foldB_lt l
  rw [h] at this
  unfold unbe In64
  have e : 256 ^ 8 = 18446744073709551616 := by decide
  omega

/-- What one1 reads may be; how much it takes. -/
theorem one1_spec {l : List UInt8} {x : It} {r : List UInt8} (h : one1 l = some (x, r)) : x.may = true ∧ x.ok ∧ ∃ k, 3 ≤ k ∧ k ≤ l.length ∧ r = l.drop k := by
  cases l with
  | nil => simp [one1] at h
  | cons c l =>
    simp only [one1] at h
    split at h
    · split at h
      · next h8 =>
        simp only [Option.some.injEq, Prod.mk.injEq] at h
        obtain ⟨rfl, rfl⟩ := h
        refine ⟨by simp [It.may, simpleB, Lib.toList_data], ⟨rfl, Nat.zero_le _, unbe_in _ (by rw [List.length_take]; omega)⟩, 9, by omega, by simp; omega, rfl⟩
      · cases h
    · split at h
      · split at h
        · next r' hr' =>
          split at h
          · next h32 =>
            simp only [Option.some.injEq, Prod.mk.injEq] at h
            obtain ⟨rfl, rfl⟩ := h
            obtain ⟨k, hk, e⟩ := scan_rest _ l (Nat.le_refl _) [] r' hr'
            refine ⟨?_, ⟨rfl, by rw [toBA_size]; omega, ⟨by show _ ≤ (0 : Int); omega, by show (0 : Int) ≤ _; omega⟩⟩, k + 3, by omega, by simp; omega, by rw [e]; rfl⟩
            simp [It.may, simpleB, toBA_size, h32]
          · cases h
        · cases h
      · cases h

theorem one1_no (s : ByteArray) (h1 : ¬ (9 ≤ s.size ∧ s.data.toList.head? = some 1)) (h2 : ¬ (3 ≤ s.size ∧ s.data.toList.head? = some 2)) : one1 s.data.toList = none := by
  have hl : s.data.toList.length = s.size := by simp
  by_cases h0 : 0 < s.size
  · rw [head_at s h0] at h1 h2
    simp only [Option.some.injEq] at h1 h2
    rw [one1_at s h0]
    split
    · next e => rw [if_neg (by rw [List.length_drop, hl]; intro h; exact h1 ⟨by omega, e⟩)]
    · split
      · next e =>
        have hsz : s.size ≤ 2 := by
          rcases Nat.lt_or_ge 2 s.size with h | h
          · exact absurd ⟨h, e⟩ h2
          · exact h
        have hd : (s.data.toList.drop 1).length ≤ 1 := by rw [List.length_drop, hl]; omega
        have : (scan [] (s.data.toList.drop 1)).2 = none := by
          cases hq : s.data.toList.drop 1 with
          | nil => rw [scan_nil]
          | cons a q =>
            rw [hq] at hd
            cases q with
            | nil => rw [scan_one]
            | cons b q => simp at hd
        rw [this]
      · rfl
  · rw [List.eq_nil_of_length_eq_zero (show s.data.toList.length = 0 by omega)]; rfl

/-- decode of what is no list, at any depth. -/
theorem dec_zero (s : ByteArray) (w : World) (hs : s.size ≤ 140737488355328) :
    Calls Tryd.prog 32 #[.string s, .int .i64 0] w fun e w' => e = .returned (decAns (one1 s.data.toList) s.size) ∧ Below w.heap.size w w' := by
  by_cases h1 : 9 ≤ s.size ∧ s.data.toList.head? = some 1
  · exact dec_int s 0 w hs h1.1 (by have := h1.2; rw [head_at s (by omega)] at this; simpa using this)
  · by_cases h2 : 3 ≤ s.size ∧ s.data.toList.head? = some 2
    · exact dec_text s 0 w hs h2.1 (by have := h2.2; rw [head_at s (by omega)] at this; simpa using this)
    · exact dec_none s 0 w hs (Lib.hid (by rw [one1_no s h1 h2]; rfl)) (.inl rfl) h1 h2 (.inl rfl)

theorem wp_appD {ops : Array Oper} {rest : List Oper} {o : Oper} {a : Act} {Q : Exit → Act → World → Prop} {W : World} (hgd : o.guard = none) (s x : Operand)
    (ho : o.op = .call { callee := .builtin .append, args := #[s, x], argTypes := #[22, 22] })
    (B : Nat) (v : Value) (l : List It) (hs : a.eval s = v) (hb : Data W B v l) (y : It) (k c : Nat) (hx : a.eval x = .slice (some ⟨k, 0, none⟩) 1 c) (hk : k = W.heap.size)
    (hlen : l.length ≤ 1099511627776) (hB : B ≤ W.heap.size)
    (h : ∀ v' w', Data w' B v' (l ++ [y]) → Below B W w' → W.heap.size ≤ w'.heap.size → wpList Tryd.prog ops Q rest (a.put o.dst v') w') : wpList Tryd.prog ops Q (o :: rest) a (W.alloc (.cells #[.int .i64 y.k, .int .i64 y.n, .string y.s, .slice none 0 0] 24)) := by
  obtain ⟨i0, hi, hz0, hz1, hz2⟩ := info_parts info_datum
  subst hk
  refine wpList_append_own _ hgd s x 22 ho B 24 i0 _ 4 56 Tryd.underlying22 hi hz0 hz1 hz2 rfl (by decide) v l.length (l.flatMap itCells) hs (hb.alloc _) ⟨W.heap.size, 0, none⟩ 1 c (itCells y) hx rfl ?_ ?_ (by unfold maxLen; omega) (by omega) (by simp; omega) ?_
  · intro j u hj
    match j, hj with
    | 0, hj => simp [itCells] at hj; subst hj; simp [Addr.add]
    | 1, hj => simp [itCells] at hj; subst hj; simp [Addr.add]
    | 2, hj => simp [itCells] at hj; subst hj; simp [Addr.add]
    | 3, hj => simp [itCells] at hj; subst hj; simp [Addr.add]
  · intro u hu
    simp [itCells] at hu
    rcases hu with rfl | rfl | rfl | rfl <;> rfl
  · intro v' w' hown hg _
    have h2 : Below B (W.alloc (.cells #[.int .i64 y.k, .int .i64 y.n, .string y.s, .slice none 0 0] 24)) w' := (hb.alloc _).below (by simp; omega) hg
    refine h v' w' ?_ (((Below.refl B W).alloc hB _).trans h2) (by have := h2.size; simp at this; omega)
    unfold Data
    rw [List.length_append, List.flatMap_append]
    simpa using hown

/-- A variable of the type Datum that holds a list of v. -/
structure Ld (w : World) (b : Nat) (v : Value) : Prop where
  c0 : w.cell? ⟨b, 0, none⟩ = some (.int .i64 3)
  c1 : w.cell? ⟨b, 1, none⟩ = some (.int .i64 0)
  c2 : w.cell? ⟨b, 2, none⟩ = some (.string ⟨#[]⟩)
  c3 : w.cell? ⟨b, 3, none⟩ = some v
  f3 : w.frozen? ⟨b, 3, none⟩ = false
theorem Ld.later {w w1 : World} {B b : Nat} {v : Value} (h : Ld w b v) (hb : Below B w w1) (hlt : b < B) : Ld w1 b v :=
  ⟨(hb.cell (p := ⟨b, 0, none⟩) hlt).trans h.c0, (hb.cell (p := ⟨b, 1, none⟩) hlt).trans h.c1, (hb.cell (p := ⟨b, 2, none⟩) hlt).trans h.c2, (hb.cell (p := ⟨b, 3, none⟩) hlt).trans h.c3, (hb.frozen (p := ⟨b, 3, none⟩) hlt).trans h.f3⟩
theorem Zb.alloc {w : World} {b : Nat} (h : Zb w b) (o : Obj) (hlt : b < w.heap.size) : Zb (w.alloc o) b := h.later ((Below.refl w.heap.size w).alloc (Nat.le_refl _) o) hlt
theorem Ld.alloc {w : World} {b : Nat} {v : Value} (h : Ld w b v) (o : Obj) (hlt : b < w.heap.size) : Ld (w.alloc o) b v := h.later ((Below.refl w.heap.size w).alloc (Nat.le_refl _) o) hlt
theorem Zb.setCell {w : World} {b : Nat} (h : Zb w b) (p : Addr) (u : Value) (hne : p.block ≠ b) : Zb (w.setCell p u) b := by
  have hc : ∀ i, (w.setCell p u).cell? ⟨b, i, none⟩ = w.cell? ⟨b, i, none⟩ := fun i => World.cell?_setCell_other _ _ _ _ (fun e => hne (by rw [e]))
  exact ⟨(hc 0).trans h.c0, (hc 1).trans h.c1, (hc 2).trans h.c2, (hc 3).trans h.c3, by rw [World.frozen?_setCell]; exact h.f0, by rw [World.frozen?_setCell]; exact h.f1, by rw [World.frozen?_setCell]; exact h.f2, by rw [World.frozen?_setCell]; exact h.f3⟩

def DecPost (w : World) (o : Option (Da × Nat)) (e : Ending) (w' : World) : Prop :=
  (match o with
   | some (d, n) => ∃ a c, e = .returned (.tuple #[dv d.k d.n d.s a d.l.length c, .int .i64 n]) ∧ DaIs w' d a ∧ (∀ b off, a = some ⟨b, off, none⟩ → w.heap.size ≤ b)
   | none => e = .returned (.tuple #[dv 0 0 ⟨#[]⟩ none 0 0, .int .i64 0])) ∧ Below w.heap.size w w'

theorem ofL_list (s : ByteArray) (h2 : 2 ≤ s.size) (h3 : s[0] = 3) : ofL s.data.toList = if (s[1]).toNat ≤ 8 then
    match decN (s[1]).toNat [] (s.data.toList.drop 2) with
    | some (L, r') => some (⟨3, 0, ⟨#[]⟩, L⟩, s.size - r'.length)
    | none => none else none := by
  have e := two_at s 0 (by omega)
  rw [List.drop_zero] at e
  have hl : s.data.toList.length = s.size := by simp
  have hd : (s.data.toList.drop 2).length + 2 = s.size := by rw [List.length_drop, hl]; omega
  simp only [Nat.zero_add] at e
  rw [e, h3]
  simp only [ofL, if_true, hd]
  rfl

theorem three_all {l : List It} (h8 : l.length ≤ 8) (h : ∀ x ∈ l, x.may = true ∧ x.ok) : (Da.mk 3 0 ⟨#[]⟩ l).may = true := by
  rw [may_list h8 _ (by rw [Lib.toList_data]), List.all_eq_true]
  exact fun x hx => (h x hx).1
end Go.Proofs.YtekcoddjdjllhaaDoor
