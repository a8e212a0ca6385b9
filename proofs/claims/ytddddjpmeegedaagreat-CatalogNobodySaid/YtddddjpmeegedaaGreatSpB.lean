/- Pages: rows of 512 bytes, written from texts. -/
import Derived.Test.YtddddjpmeegedaaGreatSpA
import Derived.Test.YtddddjpmeegedaaGreatBuf
import Derived.Laws.CopyOwn
import Derived.Test.YtddddjpmeegedaaGreatShelf
set_option linter.unusedVariables false
set_option linter.unusedSimpArgs false
namespace Go.Proofs.YtddddjpmeegedaaGreat
open Go.RowKit

section
variable (P : Program)
theorem run_store_at (g o : Nat) (t : TypeId) (fr : Nat × Nat) : ∀ (vs : List Value) (i : Nat) (cur : Array Value) (w : World), w.heap[g]? = some (.cells cur t fr) → (fr = (0, 0) ∨ o + i + vs.length ≤ fr.1) → o + i + vs.length ≤ cur.size → (∀ v ∈ vs, v.oneCell' = true) →
    (storeCells ⟨g, o, none⟩ vs i).run P w = .ok () (w.setRow g (cur.toList.take (o + i) ++ vs ++ cur.toList.drop (o + i + vs.length)).toArray)
  | [], i, cur, w, hg, _, _, _ => by
    simp only [storeCells, List.append_nil, List.length_nil, Nat.add_zero, List.take_append_drop, Array.toArray_toList]
    rw [setRow_self w g cur t fr hg]
    rfl
  | v :: rest, i, cur, w, hg, hr, hl, h1 => by
    have hi : o + i < cur.size := by simp at hl; omega
    have hadd : (⟨g, o, none⟩ : Addr).add i = ⟨g, o + i, none⟩ := by unfold Addr.add; split <;> simp_all
    have hcell : w.cell? ⟨g, o + i, none⟩ = some cur[o + i] := by simp [World.cell?, hg, hi]
    have hfro : w.frozen? ⟨g, o + i, none⟩ = false := by
      simp only [World.frozen?, hg]
      rcases hr with rfl | hr
      · simp
      · simp at hr ⊢; omega
    have hst : (store ((⟨g, o, none⟩ : Addr).add i) v).run P w = .ok () (w.setRow g (cur.setIfInBounds (o + i) v)) := by
      rw [hadd, run_store P w _ v _ (h1 v (by simp)), hcell]
      simp [hfro, setCell_eq_setRow w g (o + i) cur t fr v hg]
    have ih := run_store_at g o t fr rest (i + 1) (cur.setIfInBounds (o + i) v) (w.setRow g (cur.setIfInBounds (o + i) v)) (setRow_heap w g cur _ t _ hg) (by
      rcases hr with h | h
      · exact .inl h
      · exact .inr (by simp at h; omega)) (by simp at hl ⊢; omega) (fun x hx => h1 x (by simp [hx]))
    simp only [storeCells, Sem.run_bind, hst, Result.andThen_ok, ih, setRow_setRow]
    congr 3
    have e := list_seg_step cur.toList (o + i) v rest (by simp at hl ⊢; omega)
    simpa [Array.toList_setIfInBounds, Nat.add_assoc] using e

theorem run_copy_str (w : World) (dT sT ty elem : TypeId) (g o dLen dCap : Nat) (s : ByteArray) (cur : Array Value) (t : TypeId) (fr : Nat × Nat)
    (hu : P.underlying dT = some (.slice elem)) (hs : (P.info? elem).map (·.size) = some 1) (hg : w.heap[g]? = some (.cells cur t fr)) (hn : s.size ≤ dLen) (hfit : o + s.size ≤ cur.size) (hr : fr = (0, 0) ∨ o + s.size ≤ fr.1) :
    (Builtin.copy_ #[dT, sT] ty #[.slice (some ⟨g, o, none⟩) dLen dCap, .string s]).run P w =
      .ok (goInt s.size) (w.setRow g (splice cur.toList o (Lib.byteCells s.data.toList)).toArray) := by
  have hlen : (Lib.byteCells s.data.toList).length = s.size := by rw [byteCells_length]; simp
  have hst := run_store_at P g o t fr (Lib.byteCells s.data.toList) 0 cur w hg (by rw [hlen]; simpa using hr) (by rw [hlen]; simpa using hfit) (byteCells_oneCell _)
  cases hq : P.info? elem with
  | none => simp [hq] at hs
  | some i =>
    have hi : i.size = 1 := by simpa [hq] using hs
    have hmin : Nat.min s.size dLen = s.size := Nat.min_eq_left hn
    simp [Builtin.copy_, run_underlying hu, Builtin.lenOf, Builtin.firstCells, sizeOf, typeInfo, hq, hmin]
    have e : List.take s.size (List.map (fun b => Value.int IntKind.u8 b.toNat) s.data.toList) = Lib.byteCells s.data.toList := by
      rw [List.take_of_length_le (by simp)]
      rfl
    rw [e, hst]
    simp [splice, List.append_assoc, hlen]
end
theorem splice_map {α β : Type} (f : α → β) (l s : List α) (o : Nat) : (splice l o s).map f = splice (l.map f) o (s.map f) := by
  simp [splice]
theorem splice_append {α : Type} (A R s : List α) (o : Nat) (h : o + s.length ≤ A.length) : splice (A ++ R) o s = splice A o s ++ R := by
  unfold splice
  rw [List.take_append_of_le_length (by omega), List.drop_append_of_le_length h]
  simp [List.append_assoc]

/-- A page: 512 bytes that may be written. -/
def PageAt (w : World) (b cap : Nat) (l : List UInt8) : Prop :=
  l.length = 512 ∧ ∃ cur fr, w.heap[b]? = some (.cells cur 5 fr) ∧ cur.size = cap ∧ 512 ≤ cap ∧ cap ≤ maxLen ∧ cur.toList.take 512 = Lib.byteCells l ∧ (fr = (0, 0) ∨ 512 ≤ fr.1)
theorem PageAt.lt {w : World} {b cap : Nat} {l : List UInt8} (h : PageAt w b cap l) : b < w.heap.size := by
  obtain ⟨_, cur, fr, hb, _⟩ := h
  exact (Array.getElem?_eq_some_iff.1 hb).1
theorem PageAt.keep {w w' : World} {b cap : Nat} {l : List UInt8} (h : PageAt w b cap l) (e : w'.heap[b]? = w.heap[b]?) : PageAt w' b cap l := by
  obtain ⟨hl, cur, fr, hb, r⟩ := h
  exact ⟨hl, cur, fr, e.trans hb, r⟩
theorem PageAt.cell {w : World} {b cap : Nat} {l : List UInt8} (h : PageAt w b cap l) (i : Nat) (hi : i < 512) : w.cell? ⟨b, i, none⟩ = some (.int .u8 (l.getD i 0).toNat) := by
  obtain ⟨hl, cur, fr, hb, hc, h5, hm, ht, _⟩ := h
  have h1 : (cur.toList.take 512)[i]? = (Lib.byteCells l)[i]? := by rw [ht]
  rw [List.getElem?_take, if_pos hi] at h1
  unfold World.cell?
  simp only [hb]
  have h2 : cur[i]? = (Lib.byteCells l)[i]? := by simpa using h1
  rw [h2]
  simp [Lib.byteCells, List.getElem?_map, hl, hi]
theorem PageAt.string {w : World} {b cap : Nat} {l : List UInt8} (h : PageAt w b cap l) : (convert 74 9 (.slice (some ⟨b, 0, none⟩) 512 cap)).run Tryz.prog w = .ok (.string ⟨l.toArray⟩) w := by
  have hl := h.1
  have := run_convert_bytes_arg w 74 5 Tryz.underlying74 Tryz.underlying5 b 0 512 cap (l.map fun b => (b.toNat : Int)) (by simp [hl]) (fun i hi => by
    have hc := h.cell i hi
    rw [show (0 + i) = i by omega]
    rw [hc]
    simp [List.getD, hl, hi]) 9 Tryz.underlying9
  rw [this, strOf_bytes]
/-- A text over a page's bytes. -/
theorem PageAt.put {w : World} {b cap : Nat} {l : List UInt8} (h : PageAt w b cap l) (o : Nat) (s : ByteArray) (ho : o + s.size ≤ 512) (dCap : Nat) (ty : TypeId) :
    ∃ w', (Builtin.copy_ #[74, 9] ty #[.slice (some ⟨b, o, none⟩) (512 - o) dCap, .string s]).run Tryz.prog w = .ok (goInt s.size) w' ∧ PageAt w' b cap (splice l o s.data.toList) ∧ Off (· = b) w w' ∧ w'.heap.size = w.heap.size := by
  obtain ⟨hl, cur, fr, hb, hc, h5, hm, ht, hr⟩ := h
  refine ⟨_, run_copy_str Tryz.prog w 74 9 ty 5 b o (512 - o) dCap s cur 5 fr Tryz.underlying74 (by have := info_u8; cases hq : Tryz.prog.info? 5 with | none => rw [hq] at this; cases this | some i => rw [hq] at this; simp at this; simp [this]) hb (by omega) (by omega) (by
    rcases hr with h | h
    · exact .inl h
    · exact .inr (by omega)), ⟨?_, ?_⟩, ⟨rfl, rfl, rfl, by simp [World.setRow], fun k hk hne => setRow_other w b k _ hne⟩, by simp [World.setRow]⟩
  · rw [length_splice _ _ _ (by rw [hl]; simpa using ho), hl]
  · refine ⟨_, fr, setRow_heap w b cur _ 5 fr hb, ?_, h5, hm, ?_, hr⟩
    · have : (splice cur.toList o (Lib.byteCells s.data.toList)).length = cur.toList.length := length_splice _ _ _ (by rw [byteCells_length]; simp; omega)
      simpa [hc] using this
    · have e : cur.toList = Lib.byteCells l ++ cur.toList.drop 512 := by rw [← ht, List.take_append_drop]
      have h1 : o + (Lib.byteCells s.data.toList).length ≤ (Lib.byteCells l).length := by
        rw [byteCells_length, byteCells_length, hl]; simpa using ho
      rw [List.toList_toArray, e, splice_append _ _ _ _ h1]
      have h2 : (splice (Lib.byteCells l) o (Lib.byteCells s.data.toList)).length = 512 := by
        rw [length_splice _ _ _ h1, byteCells_length, hl]
      rw [List.take_append_of_le_length (by omega), List.take_of_length_le (by omega)]
      unfold Lib.byteCells
      rw [splice_map]
end Go.Proofs.YtddddjpmeegedaaGreat
