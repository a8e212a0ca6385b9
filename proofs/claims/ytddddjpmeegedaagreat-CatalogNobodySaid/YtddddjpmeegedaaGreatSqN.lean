/- A table's columns as a leaf: plain laws. -/
import Derived.Test.YtddddjpmeegedaaGreatSqM
set_option linter.unusedVariables false
set_option linter.unusedSimpArgs false
namespace Go.Proofs.YtddddjpmeegedaaGreat
open Go.RowKit

def colK (i : Nat) : ByteArray := ⟨#[99, UInt8.ofNat i]⟩
def colV (c : Co) : ByteArray := ⟨#[UInt8.ofNat c.kind.toNat]⟩ ++ c.name
def colX (l : List Co) (i : Nat) : KV := ⟨colK i, colV (l.getD i ⟨⟨#[]⟩, 0⟩)⟩
/-- The leaf of the first k columns. -/
def colL (l : List Co) (k : Nat) : List KV := (List.range k).map (colX l)
theorem colL_length (l : List Co) (k : Nat) : (colL l k).length = k := by simp [colL]
theorem colL_at (l : List Co) (k t : Nat) (h : t < (colL l k).length) : (colL l k)[t] = colX l t := by simp [colL]
theorem colL_succ (l : List Co) (k : Nat) : colL l (k + 1) = colL l k ++ [colX l k] := by simp [colL, List.range_succ]
theorem colV_size (c : Co) : (colV c).size = c.name.size + 1 := by
  unfold colV
  rw [ByteArray.size_append]
  show 1 + c.name.size = _
  omega
theorem colsB_facts {l : List Co} (h : colsB l = true) : 1 ≤ l.length ∧ l.length ≤ 4 ∧ ∀ j (hj : j < l.length), l[j].ok = true := by
  simp only [colsB, Bool.and_eq_true, decide_eq_true_eq] at h
  exact ⟨h.1.1, h.1.2, fun j hj => (goodTo_at l l.length h.2 j hj hj).1⟩
theorem Co.ok_facts {c : Co} (h : c.ok = true) : 1 ≤ c.name.size ∧ c.name.size ≤ 16 ∧ 1 ≤ c.kind ∧ c.kind ≤ 3 := by
  have e : c.name.data.toList.length = c.name.size := by simp
  simp only [Co.ok, nameB, kindB, Bool.and_eq_true, decide_eq_true_eq] at h
  omega
theorem colX_ok {l : List Co} (h : colsB l = true) (i : Nat) (hi : i < l.length) : (colX l i).ok ∧ 0 < (colX l i).k.size ∧ (itemB (colX l i)).length ≤ 21 := by
  obtain ⟨h1, h4, ho⟩ := colsB_facts h
  obtain ⟨n1, n16, _⟩ := Co.ok_facts (ho i hi)
  have ek : (colX l i).k.size = 2 := rfl
  have ev : (colX l i).v.size = l[i].name.size + 1 := by
    show (colV (l.getD i _)).size = _
    rw [colV_size]
    simp [List.getD, hi]
  refine ⟨⟨by omega, by omega⟩, by omega, ?_⟩
  rw [itemB_length]
  omega
theorem flat_le (n : Nat) : ∀ L : List KV, (∀ x ∈ L, (itemB x).length ≤ n) → (L.flatMap itemB).length ≤ n * L.length
  | [], _ => by simp
  | x :: L, h => by
    rw [List.flatMap_cons, List.length_append, List.length_cons]
    have h1 := h x (by simp)
    have h2 := flat_le n L (fun y hy => h y (by simp [hy]))
    rw [Nat.mul_succ]
    omega
theorem colL_mem {l : List Co} {k : Nat} {x : KV} (h : x ∈ colL l k) : ∃ i, i < k ∧ x = colX l i := by
  simp only [colL, List.mem_map, List.mem_range] at h
  obtain ⟨i, hi, rfl⟩ := h
  exact ⟨i, hi, rfl⟩
theorem colK_lt {i k : Nat} (h : i < k) (hk : k < 5) : Go.Lib.compareBytes (colK i).data.toList (colK k).data.toList < 0 := by
  have : ∀ k : Fin 5, ∀ i : Fin k.1, Go.Lib.compareBytes (colK i.1).data.toList (colK k.1).data.toList < 0 := by decide +kernel
  exact this ⟨k, hk⟩ ⟨i, h⟩
theorem colL_laws {l : List Co} (h : colsB l = true) (k : Nat) (hk : k ≤ l.length) : (∀ x ∈ colL l k, x.ok) ∧ Sorted (colL l k) ∧ (leafB (colL l k)).length ≤ 512 ∧ (colL l k).length < 256 := by
  obtain ⟨h1, h4, ho⟩ := colsB_facts h
  refine ⟨fun x hx => ?_, fun i j hi hj hij => ?_, ?_, by rw [colL_length]; omega⟩
  · obtain ⟨i, hi, rfl⟩ := colL_mem hx
    exact (colX_ok h i (by omega)).1
  · rw [colL_at, colL_at]
    rw [colL_length] at hi hj
    exact colK_lt hij (by omega)
  · have := flat_le 21 (colL l k) (fun x hx => by
      obtain ⟨i, hi, rfl⟩ := colL_mem hx
      exact (colX_ok h i (by omega)).2.2)
    rw [colL_length] at this
    unfold leafB
    simp only [List.length_cons]
    omega

/-- What an action holds when the first k columns of a table were put into its empty tree. -/
structure MadeIs {bs : Nat} (B : Base bs) (R : Raw) (l : List Co) (k : Nat) (R' : Raw) : Prop where
  fine : Fine B R'
  none : k = 0 → R' = R
  leaf : 0 < k → Leaf R' 0 (colL l k) ∧ R'.root 0 = R.total + 1 ∧ R'.total = R.total + 1 ∧ (∀ j, j < 16 → j ≠ 0 → R'.root j = R.root j) ∧ ∀ p, p ≠ 0 → p ≠ R.total + 1 → R'.page p = R.page p
theorem MadeIs.zero {bs : Nat} {B : Base bs} {R : Raw} (hf : Fine B R) (l : List Co) : MadeIs B R l 0 R := ⟨hf, fun _ => rfl, fun h => absurd h (Nat.lt_irrefl 0)⟩

theorem colPut {bs : Nat} {B : Base bs} {w : World} {tb ba : Nat} {F : Nat → Prop} {R R' : Raw} (ht : w.heap[tb]? = some (treeO ba 0)) (hA : ActIs B w ba F R') (htF : ¬ F tb) (hr : R.root 0 = 0) (htot : R.total + 1 < 4096)
    {l : List Co} (hl : colsB l = true) (k : Nat) (hk : k < l.length) (hM : MadeIs B R l k R') :
    Calls Tryz.prog 27 #[.pointer (some ⟨tb, 0, none⟩), .string (colK k), .string (colV l[k])] w fun e w' => e = .returned (.tuple #[.bool true, .int .i64 0]) ∧ ∃ R2, MadeIs B R l (k + 1) R2 ∧ Step B ba w F R2 w' := by
  have ex : colX l k = ⟨colK k, colV l[k]⟩ := by simp [colX, List.getD, hk]
  obtain ⟨xo, x0, _⟩ := colX_ok hl k hk
  rw [ex] at xo x0
  obtain ⟨h1, h4, ho⟩ := colsB_facts hl
  obtain ⟨a1, a2, a3, a4⟩ := colL_laws hl (k + 1) (by omega)
  have e1 : colL l (k + 1) = colL l k ++ [⟨colK k, colV l[k]⟩] := by rw [colL_succ, ex]
  by_cases h0 : k = 0
  · subst h0
    have hR := hM.none rfl
    subst hR
    refine (Put_first ht hA hM.fine htF (by decide) hr htot ⟨colK 0, colV l[0]⟩ xo x0).mono ?_
    rintro e w' ⟨rfl, hs⟩
    refine ⟨rfl, _, ?_, hs⟩
    obtain ⟨-, -, -, -, f3, l3, r3, t3, o3, p3⟩ := first_laws hM.fine htot 0 (by decide)
    have e0 : colL l (0 + 1) = [⟨colK 0, colV l[0]⟩] := by rw [e1]; rfl
    obtain ⟨n1, n2, n3, n4⟩ := l3.next (L' := colL l 1) f3 a1 a2 a3 a4
    rw [r3, show colL l 1 = [⟨colK 0, colV l[0]⟩] from e0] at n1 n2 n3 n4
    refine ⟨n1, fun h => absurd h (by decide), fun _ => ⟨by rw [e0]; exact n2, ?_, ?_, fun j hj hne => ?_, fun p hp hp' => ?_⟩⟩
    · show num ((fst4 R' 0 _).page 0) _ = _
      rw [show (fst4 R' 0 ⟨colK 0, colV l[0]⟩).page 0 = (fst3 R' 0).page 0 from n3]
      exact r3
    · show num ((fst4 R' 0 _).page 0) _ = _
      rw [show (fst4 R' 0 ⟨colK 0, colV l[0]⟩).page 0 = (fst3 R' 0).page 0 from n3]
      exact t3
    · show num ((fst4 R' 0 _).page 0) _ = _
      rw [show (fst4 R' 0 ⟨colK 0, colV l[0]⟩).page 0 = (fst3 R' 0).page 0 from n3]
      exact o3 j hj hne
    · exact (n4 p hp').trans (p3 p hp hp')
  · obtain ⟨hL, hr0, ht0, hj0, hp0⟩ := hM.leaf (by omega)
    rw [e1] at a1 a2 a3 a4
    refine (Put_end ht hA hM.fine htF (by decide) hL ⟨colK k, colV l[k]⟩ xo x0 (fun t h => ?_) a3 (by rw [List.length_append] at a4; simpa using a4)).mono ?_
    · rw [colL_at]
      rw [colL_length] at h
      exact colK_lt h (by omega)
    · rintro e w' ⟨rfl, hs⟩
      refine ⟨rfl, _, ?_, hs⟩
      obtain ⟨n1, n2, n3, n4⟩ := hL.next hM.fine a1 a2 a3 a4
      refine ⟨n1, fun h => absurd h (by omega), fun _ => ⟨by rw [e1]; exact n2, ?_, ?_, fun j hj hne => ?_, fun p hp hp' => ?_⟩⟩
      · exact (congrArg (fun q => num q (8 + 4 * 0)) n3).trans hr0
      · exact (congrArg (fun q => num q 0) n3).trans ht0
      · exact (congrArg (fun q => num q (8 + 4 * j)) n3).trans (hj0 j hj hne)
      · exact (n4 p (by rw [hr0]; exact hp')).trans (hp0 p hp hp')
end Go.Proofs.YtddddjpmeegedaaGreat
