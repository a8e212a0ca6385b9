/- vestibulelaw01.DatumReads: the walk. -/
import Derived.Test.YtekcoddjdjllhaaDoorRqW
import Derived.Test.YtekcoddjdjllhaaDoorRoD
import Derived.Test.YtekcoddjdjllhaaDoorBx
import Derived.Test.YtekcoddjdjllhaaDoorTxt
namespace Go.Proofs.YtekcoddjdjllhaaDoor
open Go.RowKit

def zda : Da := ⟨0, 0, ⟨#[]⟩, []⟩
def ofD (o : Option (Da × Nat)) : Da := match o with | some (d, _) => d | none => zda
def ofN (o : Option (Da × Nat)) : Int := match o with | some (_, n) => (n : Int) | none => 0
def ofE (o : Option (Da × Nat)) : Int := match o with | some _ => 0 | none => 11
def paD (o : Option Da) : Da := match o with | some d => d | none => zda
def paE (o : Option Da) : Int := match o with | some _ => 0 | none => 11
theorem zda_is (w : World) : DaIs w zda none := ⟨.inl rfl, ⟨by show _ ≤ (0 : Int); omega, by show (0 : Int) ≤ _; omega⟩, by show 0 ≤ _; omega, by show 0 ≤ _; omega⟩
theorem zda_same : zda.same zda = true := (same_yes (j := 0) rfl rfl (Nat.le_refl _) (fun i hi => by omega)).symm

theorem decN_may : ∀ (k : Nat) (acc : List It) (l : List UInt8) (L : List It) (r : List UInt8), decN k acc l = some (L, r) → (∀ x ∈ acc, x.may = true ∧ x.ok) → (∀ x ∈ L, x.may = true ∧ x.ok) ∧ L.length = acc.length + k
  | 0, acc, l, L, r, h, ha => by
    simp only [decN, Option.some.injEq, Prod.mk.injEq] at h
    rw [← h.1]; exact ⟨ha, rfl⟩
  | k + 1, acc, l, L, r, h, ha => by
    simp only [decN] at h
    cases h1 : one1 l with
    | none => rw [h1] at h; cases h
    | some xr =>
      obtain ⟨x, r1⟩ := xr
      rw [h1] at h
      obtain ⟨hm, ho, _⟩ := one1_spec h1
      have := decN_may k _ r1 L r h (fun y hy => by
        rcases List.mem_append.1 hy with hy | hy
        · exact ha y hy
        · rw [List.mem_singleton] at hy; subst hy; exact ⟨hm, ho⟩)
      refine ⟨this.1, ?_⟩
      rw [this.2, List.length_append]
      simp; omega

theorem ofL_may {l : List UInt8} {d : Da} {n : Nat} (h : ofL l = some (d, n)) : d.may = true := by
  cases l with
  | nil => cases h
  | cons c r =>
    simp only [ofL] at h
    split at h
    · cases r with
      | nil => cases h
      | cons m r =>
        simp only at h
        split at h
        · next h8 =>
          cases h1 : decN m.toNat [] r with
          | none => rw [h1] at h; cases h
          | some q =>
            obtain ⟨L, r'⟩ := q
            rw [h1] at h
            simp only [Option.some.injEq, Prod.mk.injEq] at h
            obtain ⟨hL, hlen⟩ := decN_may _ _ _ _ _ h1 (by simp)
            rw [← h.1]
            exact three_all (by rw [hlen]; simpa using h8) hL
        · cases h
    · cases h1 : one1 (c :: r) with
      | none => rw [h1] at h; cases h
      | some q =>
        obtain ⟨x, r'⟩ := q
        rw [h1] at h
        simp only [Option.some.injEq, Prod.mk.injEq] at h
        obtain ⟨hm, _, _⟩ := one1_spec h1
        rw [← h.1]
        have hp := it_parts hm
        have hk : ¬ x.k = 3 := by rcases hp.2 with h | h <;> omega
        have e : simpleB x.k x.n x.s x.ln = true := hm
        rw [hp.1] at e
        simpa [Da.may, hk] using e

theorem ofD_same (l : List UInt8) : (ofD (ofL l)).same (ofD (ofL l)) = true := by
  cases h : ofL l with
  | none => exact zda_same
  | some dn => obtain ⟨d, n⟩ := dn; exact same_refl d (ofL_may h)
theorem paD_same (s : ByteArray) : (paD (parseDa s)).same (paD (parseDa s)) = true := by
  cases h : parseDa s with
  | none => exact zda_same
  | some d =>
    refine same_refl d ?_
    unfold parseDa at h
    split at h
    · next hm => injection h with h; rw [← h]; exact hm.1
    · cases h

theorem readDa_in (s : ByteArray) (hs : s.size ≤ 4194304) : In64 (readDa s).n ∧ ∀ x ∈ (readDa s).l, In64 x.n := by
  have hz : In64 (0 : Int) := ⟨by omega, by omega⟩
  unfold readDa
  split
  · split
    · exact ⟨hz, by simp⟩
    · split
      · exact ⟨hz, by simp⟩
      · refine ⟨hz, fun x hx => ?_⟩
        obtain ⟨y, hy, rfl⟩ := List.mem_map.1 hx
        obtain ⟨z, hzz, rfl⟩ := List.mem_map.1 hy
        refine (read1_ok (toBA z) ?_).2.2
        have h1 := itemsL_size _ _ _ z hzz
        rw [toBA_size]
        simp only [List.length_nil] at h1
        unfold sub at h1
        rw [List.length_drop, List.length_take] at h1
        have hl : s.data.toList.length = s.size := by simp
        omega
  · exact ⟨(read1_ok s hs).2.2, by simp⟩

theorem pspec_eq (s : ByteArray) (hs : s.size ≤ 4194304) (o : Option Da) (h : PSpec s.data.toList o) : o = parseDa s := by
  cases o with
  | some d =>
    obtain ⟨hm, hn, hx, ht⟩ := h
    have := parseDa_text d hm hn (fun j hj => hx _ (List.getElem_mem hj))
    rw [ht] at this
    exact this.symm
  | none =>
    unfold parseDa
    split
    · next hp =>
      exfalso
      obtain ⟨i1, i2⟩ := readDa_in s hs
      exact h (readDa s) hp.1 i1 i2 hp.2
    · rfl

theorem of_res (s : ByteArray) (w : World) (hs : s.size ≤ 4194304) : Calls Tryd.prog 14 #[.string s] w fun e w' => ∃ a c, e = .returned (.tuple #[dv (ofD (ofL s.data.toList)).k (ofD (ofL s.data.toList)).n (ofD (ofL s.data.toList)).s a (ofD (ofL s.data.toList)).l.length c, .int .i64 (ofN (ofL s.data.toList)), .int .i64 (ofE (ofL s.data.toList))]) ∧ DaIs w' (ofD (ofL s.data.toList)) a ∧ Below w.heap.size w w' := by
  refine (of_any s w (by omega)).mono ?_
  intro e w' h
  cases ho : ofL s.data.toList with
  | none => rw [ho] at h; obtain ⟨rfl, hb⟩ := h; exact ⟨none, 0, rfl, zda_is _, hb⟩
  | some dn => obtain ⟨d, n⟩ := dn; rw [ho] at h; obtain ⟨⟨a, c, rfl, hd⟩, hb⟩ := h; exact ⟨a, c, rfl, hd, hb⟩
theorem rof_res (s : ByteArray) (w : World) (hs : s.size ≤ 4194304) : Calls Tryd.prog 15 #[.string s] w fun e w' => ∃ a c, e = .returned (.tuple #[dv (ofD (ofL s.data.toList)).k (ofD (ofL s.data.toList)).n (ofD (ofL s.data.toList)).s a (ofD (ofL s.data.toList)).l.length c, .int .i64 (ofN (ofL s.data.toList)), .int .i64 (ofE (ofL s.data.toList))]) ∧ DaIs w' (ofD (ofL s.data.toList)) a ∧ Below w.heap.size w w' := by
  refine (rof_any s w (by omega)).mono ?_
  intro e w' h
  cases ho : ofL s.data.toList with
  | none => rw [ho] at h; obtain ⟨rfl, hb⟩ := h; exact ⟨none, 0, rfl, zda_is _, hb⟩
  | some dn => obtain ⟨d, n⟩ := dn; rw [ho] at h; obtain ⟨⟨a, c, rfl, hd⟩, hb⟩ := h; exact ⟨a, c, rfl, hd, hb⟩
theorem pa_post {w w' : World} {o : Option Da} {e : Ending} (h : ParsePost w o e w') : ∃ a c, e = .returned (.tuple #[dv (paD o).k (paD o).n (paD o).s a (paD o).l.length c, .int .i64 (paE o)]) ∧ DaIs w' (paD o) a ∧ Below w.heap.size w w' := by
  obtain ⟨a, c, h, hb⟩ := h
  cases o with
  | none => exact ⟨none, 0, h, zda_is _, hb⟩
  | some d => exact ⟨a, c, h.1, h.2, hb⟩
theorem pa_res (s : ByteArray) (w : World) (hs : s.size ≤ 4194304) (hG : Globs w) : Calls Tryd.prog 16 #[.string s] w fun e w' => ∃ a c, e = .returned (.tuple #[dv (paD (parseDa s)).k (paD (parseDa s)).n (paD (parseDa s)).s a (paD (parseDa s)).l.length c, .int .i64 (paE (parseDa s))]) ∧ DaIs w' (paD (parseDa s)) a ∧ Below w.heap.size w w' :=
  (parse_any s w hs hG).mono fun _ _ h => pa_post h
theorem rpa_res (s : ByteArray) (w : World) (hs : s.size ≤ 4194304) (hG : Globs w) : Calls Tryd.prog 17 #[.string s] w fun e w' => ∃ a c, e = .returned (.tuple #[dv (paD (parseDa s)).k (paD (parseDa s)).n (paD (parseDa s)).s a (paD (parseDa s)).l.length c, .int .i64 (paE (parseDa s))]) ∧ DaIs w' (paD (parseDa s)) a ∧ Below w.heap.size w w' :=
  (rparse_any s w hs hG).mono fun e w' h => by
    obtain ⟨o, ho, h⟩ := h
    rw [pspec_eq s hs o ho] at h
    exact pa_post h
theorem same_any (x : Da) (a : Option Addr) (c : Nat) (a' : Option Addr) (c' : Nat) (w : World) (hs : x.same x = true) (hx : DaIs w x a) (hy : DaIs w x a') :
    Calls Tryd.prog 13 #[dv x.k x.n x.s a x.l.length c, dv x.k x.n x.s a' x.l.length c'] w fun e w' => e = .returned (.bool true) ∧ Below w.heap.size w w' := by
  have := rsame_any x x a c a' c' w hx.row hy.row hx.l hy.l
  rw [hs] at this
  exact this

set_option maxRecDepth 100000 in
set_option maxHeartbeats 8000000 in
theorem reads_law (s t : ByteArray) (w : World) (hs : s.size ≤ 4194304) (ht : t.size ≤ 4194304) (hG : Globs w) :
    Calls Tryd.prog 4 #[.string s, .string t] w fun e w' => e = .returned (.bool true) ∧ Below w.heap.size w w' := by
  have H1 := Lib.hid (of_res s · hs)
  have H2 := Lib.hid (rof_res s · hs)
  have H3 := Lib.hid (pa_res t · ht)
  have H4 := Lib.hid (rpa_res t · ht)
  have H5 := ofD_same s.data.toList
  have H6 := paD_same t
  generalize ofD (ofL s.data.toList) = x at H1 H2 H5
  generalize ofN (ofL s.data.toList) = n at H1 H2
  generalize ofE (ofL s.data.toList) = er at H1 H2
  generalize paD (parseDa t) = y at H3 H4 H6
  generalize paE (parseDa t) = ep at H3 H4
  have H5 := Lib.hid H5
  have H6 := Lib.hid H6
  go_enter Tryd.func4, Tryd.ntmps4
  go_wp2_with fail
  refine (H1.out _).mono ?_
  rintro e w1 ⟨a1, c1, rfl, hx1, hb1⟩
  have zz1 := hb1.size
  have hD1 : Below w.heap.size w w1 := hb1
  have hW1 : Below w1.heap.size w1 (w1.alloc (.cells #[.int .i64 x.k, .int .i64 x.n, .string x.s, .slice a1 x.l.length c1] 24)) := (Below.refl _ _).alloc (Nat.le_refl _) _
  have hB1 : Below w.heap.size w (w1.alloc (.cells #[.int .i64 x.k, .int .i64 x.n, .string x.s, .slice a1 x.l.length c1] 24)) := hD1.trans (hW1.mono (by omega))
  have bB1_1 : Bx (w1.alloc (.cells #[.int .i64 x.k, .int .i64 x.n, .string x.s, .slice a1 x.l.length c1] 24)) w1.heap.size x a1 c1 := ⟨by go_simp, by go_simp, by go_simp, by go_simp⟩
  have hE1_1 := hx1.below hW1
  go_wp2_with fail
  refine (H2.out _).mono ?_
  rintro e w2 ⟨a2, c2, rfl, hx2, hb2⟩
  have zz2 := hb2.size
  simp at zz2
  have hD2 : Below w.heap.size w w2 := hB1.trans (hb2.mono (by simp; omega))
  have bb1_2 := bB1_1.later hb2 (by simp; try omega)
  have hd1_2 := hE1_1.below hb2
  have hW2 : Below w2.heap.size w2 (w2.alloc (.cells #[.int .i64 x.k, .int .i64 x.n, .string x.s, .slice a2 x.l.length c2] 24)) := (Below.refl _ _).alloc (Nat.le_refl _) _
  have hB2 : Below w.heap.size w (w2.alloc (.cells #[.int .i64 x.k, .int .i64 x.n, .string x.s, .slice a2 x.l.length c2] 24)) := hD2.trans (hW2.mono (by omega))
  have bB2_2 : Bx (w2.alloc (.cells #[.int .i64 x.k, .int .i64 x.n, .string x.s, .slice a2 x.l.length c2] 24)) w2.heap.size x a2 c2 := ⟨by go_simp, by go_simp, by go_simp, by go_simp⟩
  have hE2_2 := hx2.below hW2
  have bB1_2 := bb1_2.later hW2 (by omega)
  have hE1_2 := hd1_2.below hW2
  clear bb1_2 hd1_2 bB1_1 hE1_1
  go_wp2_with fail
  refine (H3.out _ (hG.below hB2)).mono ?_
  rintro e w3 ⟨a3, c3, rfl, hx3, hb3⟩
  have zz3 := hb3.size
  simp at zz3
  have hD3 : Below w.heap.size w w3 := hB2.trans (hb3.mono (by simp; omega))
  have bb1_3 := bB1_2.later hb3 (by simp; try omega)
  have hd1_3 := hE1_2.below hb3
  have bb2_3 := bB2_2.later hb3 (by simp; try omega)
  have hd2_3 := hE2_2.below hb3
  have hW3 : Below w3.heap.size w3 (w3.alloc (.cells #[.int .i64 y.k, .int .i64 y.n, .string y.s, .slice a3 y.l.length c3] 24)) := (Below.refl _ _).alloc (Nat.le_refl _) _
  have hB3 : Below w.heap.size w (w3.alloc (.cells #[.int .i64 y.k, .int .i64 y.n, .string y.s, .slice a3 y.l.length c3] 24)) := hD3.trans (hW3.mono (by omega))
  have bB3_3 : Bx (w3.alloc (.cells #[.int .i64 y.k, .int .i64 y.n, .string y.s, .slice a3 y.l.length c3] 24)) w3.heap.size y a3 c3 := ⟨by go_simp, by go_simp, by go_simp, by go_simp⟩
  have hE3_3 := hx3.below hW3
  have bB1_3 := bb1_3.later hW3 (by omega)
  have hE1_3 := hd1_3.below hW3
  have bB2_3 := bb2_3.later hW3 (by omega)
  have hE2_3 := hd2_3.below hW3
  clear bb1_3 hd1_3 bB1_2 hE1_2 bb2_3 hd2_3 bB2_2 hE2_2
  go_wp2_with fail
  refine (H4.out _ (hG.below hB3)).mono ?_
  rintro e w4 ⟨a4, c4, rfl, hx4, hb4⟩
  have zz4 := hb4.size
  simp at zz4
  have hD4 : Below w.heap.size w w4 := hB3.trans (hb4.mono (by simp; omega))
  have bb1_4 := bB1_3.later hb4 (by simp; try omega)
  have hd1_4 := hE1_3.below hb4
  have bb2_4 := bB2_3.later hb4 (by simp; try omega)
  have hd2_4 := hE2_3.below hb4
  have bb3_4 := bB3_3.later hb4 (by simp; try omega)
  have hd3_4 := hE3_3.below hb4
  have hW4 : Below w4.heap.size w4 (w4.alloc (.cells #[.int .i64 y.k, .int .i64 y.n, .string y.s, .slice a4 y.l.length c4] 24)) := (Below.refl _ _).alloc (Nat.le_refl _) _
  have hB4 : Below w.heap.size w (w4.alloc (.cells #[.int .i64 y.k, .int .i64 y.n, .string y.s, .slice a4 y.l.length c4] 24)) := hD4.trans (hW4.mono (by omega))
  have bB4_4 : Bx (w4.alloc (.cells #[.int .i64 y.k, .int .i64 y.n, .string y.s, .slice a4 y.l.length c4] 24)) w4.heap.size y a4 c4 := ⟨by go_simp, by go_simp, by go_simp, by go_simp⟩
  have hE4_4 := hx4.below hW4
  have bB1_4 := bb1_4.later hW4 (by omega)
  have hE1_4 := hd1_4.below hW4
  have bB2_4 := bb2_4.later hW4 (by omega)
  have hE2_4 := hd2_4.below hW4
  have bB3_4 := bb3_4.later hW4 (by omega)
  have hE3_4 := hd3_4.below hW4
  clear bb1_4 hd1_4 bB1_3 hE1_3 bb2_4 hd2_4 bB2_3 hE2_3 bb3_4 hd3_4 bB3_3 hE3_3
  have bq := bB1_4
  obtain ⟨p0, p1, p2, p3⟩ := bq
  have bq := bB2_4
  obtain ⟨q0, q1, q2, q3⟩ := bq
  go_wp2_with fail
  refine (same_any x a1 c1 a2 c2 _ H5.out hE1_4 hE2_4).mono ?_
  rintro e w5 ⟨rfl, hb5⟩
  have zz5 := hb5.size
  simp at zz5
  have hD5 := hB4.trans (hb5.mono (by simp; omega))
  clear p0 p1 p2 p3 q0 q1 q2 q3
  have bq := bB3_4.later hb5 (by simp; try omega)
  obtain ⟨p0, p1, p2, p3⟩ := bq
  have bq := bB4_4.later hb5 (by simp; try omega)
  obtain ⟨q0, q1, q2, q3⟩ := bq
  go_wp2_with fail
  refine (same_any y a3 c3 a4 c4 _ H6.out (hE3_4.below hb5) (hE4_4.below hb5)).mono ?_
  rintro e w6 ⟨rfl, hb6⟩
  have zz6 := hb6.size
  have hD6 := hD5.trans (hb6.mono (by omega))
  clear p0 p1 p2 p3 q0 q1 q2 q3
  go_wp2_with fail
  refine (awake_any _ (hG.below hD6)).mono ?_
  rintro e w8 ⟨rfl, hb8⟩
  go_wp2
  go_ret
  exact ⟨rfl, hD6.trans (hb8.mono (by omega))⟩
end Go.Proofs.YtekcoddjdjllhaaDoor
