/- datum.decode at depth 1; Of. -/
import Derived.Test.YtekcoddjdjllhaaDoorDeM
import Derived.Laws.ResultCell
namespace Go.Proofs.YtekcoddjdjllhaaDoor
open Go.RowKit

theorem results_cell_tmp2 {fn : Func} {p u u2 : Tmp} {ty : TypeId} (h : fn.results = #[.cell p ty, .tmp u, .tmp u2]) (tmps : Array Value) (P : Program) (w : World) :
    (results fn tmps).run P w =
      ((asAddr (tmps.getD p undef)).run P w).andThen fun a w₁ => ((loadVar ty a).run P w₁).andThen fun v w₂ => .ok (.tuple #[v, tmps.getD u undef, tmps.getD u2 undef]) w₂ := by
  simp only [results, h]
  simp [Sem.run_bind, Result.andThen]

theorem ofL_one (s : ByteArray) (h : s.data.toList.head? ≠ some 3) : ofL s.data.toList = match one1 s.data.toList with
    | some (x, r) => some (⟨x.k, x.n, x.s, []⟩, s.size - r.length)
    | none => none := by
  have hl : s.data.toList.length = s.size := by simp
  cases hq : s.data.toList with
  | nil => rfl
  | cons c r =>
    rw [hq] at h hl
    simp only [List.head?_cons, ne_eq, Option.some.injEq] at h
    simp only [ofL, h, if_false]
    rw [← hl]
    rfl

theorem decPost_one {s : ByteArray} {w w' : World} {e : Ending} (h : e = .returned (decAns (one1 s.data.toList) s.size) ∧ Below w.heap.size w w') :
    DecPost w (match one1 s.data.toList with
    | some (x, r) => some (⟨x.k, x.n, x.s, []⟩, s.size - r.length)
    | none => none) e w' := by
  obtain ⟨rfl, hb⟩ := h
  have hl : s.data.toList.length = s.size := by simp
  cases h1 : one1 s.data.toList with
  | none => exact ⟨rfl, hb⟩
  | some xr =>
    obtain ⟨x, r⟩ := xr
    obtain ⟨_, hxo, k, hk3, hkl, hkr⟩ := one1_spec h1
    refine ⟨⟨none, 0, ?_, ⟨.inl rfl, hxo.2.2, by show 0 ≤ _; omega, hxo.2.1⟩, (by simp)⟩, hb⟩
    simp only [decAns]
    have e : ((s.size : Int) - (r.length : Int)) = ((s.size - r.length : Nat) : Int) := by
      rw [hkr, List.length_drop, hl]; omega
    rw [e]
    rfl

theorem dec_any (s : ByteArray) (w : World) (hs : s.size ≤ 140737488355328) :
    Calls Tryd.prog 32 #[.string s, .int .i64 1] w (DecPost w (ofL s.data.toList)) := by
  by_cases h3 : s.data.toList.head? = some 3
  · have h0 : 0 < s.size := by
      rcases Nat.eq_zero_or_pos s.size with h | h
      · exfalso
        have hl : s.data.toList.length = s.size := by simp
        rw [List.eq_nil_of_length_eq_zero (hl.trans h)] at h3
        simp at h3
      · exact h
    have e3 : s[0] = 3 := by rw [head_at s h0] at h3; simpa using h3
    have n1 : ¬ (9 ≤ s.size ∧ s.data.toList.head? = some 1) := fun h => by rw [h3] at h; revert h; simp
    have n2 : ¬ (3 ≤ s.size ∧ s.data.toList.head? = some 2) := fun h => by rw [h3] at h; revert h; simp
    have hno := one1_no s n1 n2
    have key : ∀ (hc : ¬ (s.data.toList.head? = some 3 ∧ ∃ h : 1 < s.size, (s[1]'h).toNat ≤ 8)), ofL s.data.toList = none → Calls Tryd.prog 32 #[.string s, .int .i64 1] w (DecPost w (ofL s.data.toList)) := fun hc ho => by
      rw [ho]
      refine (dec_none s 1 w hs (Lib.hid (by rw [hno]; rfl)) (.inr rfl) n1 n2 (.inr hc)).mono ?_
      rintro e w' ⟨rfl, hb⟩
      rw [hno]
      exact ⟨rfl, hb⟩
    by_cases h2 : 2 ≤ s.size
    · have hL := ofL_list s h2 e3
      by_cases h8 : (s[1]).toNat ≤ 8
      · rw [hL, if_pos h8]
        exact dec_list s w hs h2 e3 _ rfl h8 _ (Lib.hid rfl)
      · exact key (fun h => h8 h.2.choose_spec) (by rw [hL, if_neg h8])
    · refine key (fun h => h2 h.2.choose) ?_
      have hl : s.data.toList.length = s.size := by simp
      have e := drop_byte s 0 h0
      rw [List.drop_zero] at e
      rw [e, e3, show s.data.toList.drop (0 + 1) = [] from List.drop_of_length_le (by omega)]
      rfl
  · rw [ofL_one s h3]
    by_cases h1 : 9 ≤ s.size ∧ s.data.toList.head? = some 1
    · exact (dec_int s 1 w hs h1.1 (by have := h1.2; rw [head_at s (by omega)] at this; simpa using this)).mono fun e w' h => decPost_one h
    · by_cases h2 : 3 ≤ s.size ∧ s.data.toList.head? = some 2
      · exact (dec_text s 1 w hs h2.1 (by have := h2.2; rw [head_at s (by omega)] at this; simpa using this)).mono fun e w' h => decPost_one h
      · exact (dec_none s 1 w hs (Lib.hid (by rw [one1_no s h1 h2]; rfl)) (.inr rfl) h1 h2 (.inr fun h => h3 h.1)).mono fun e w' h => decPost_one h

def OfPost (w : World) (o : Option (Da × Nat)) (e : Ending) (w' : World) : Prop :=
  (match o with
   | some (d, n) => ∃ a c, e = .returned (.tuple #[dv d.k d.n d.s a d.l.length c, .int .i64 n, .int .i64 0]) ∧ DaIs w' d a
   | none => e = .returned (.tuple #[dv 0 0 ⟨#[]⟩ none 0 0, .int .i64 0, .int .i64 11])) ∧ Below w.heap.size w w'

theorem decN_len : ∀ (k : Nat) (acc : List It) (l : List UInt8) (L : List It) (r : List UInt8), decN k acc l = some (L, r) → r.length ≤ l.length
  | 0, acc, l, L, r, h => by
    simp only [decN, Option.some.injEq, Prod.mk.injEq] at h
    rw [h.2]; exact Nat.le_refl _
  | k + 1, acc, l, L, r, h => by
    simp only [decN] at h
    cases h1 : one1 l with
    | none => rw [h1] at h; cases h
    | some xr =>
      obtain ⟨x, r1⟩ := xr
      rw [h1] at h
      have := decN_len k _ r1 L r h
      obtain ⟨_, _, q, _, _, hq⟩ := one1_spec h1
      rw [hq, List.length_drop] at this
      omega

/-- How much is read of what is read: not nothing. -/
theorem ofL_pos {l : List UInt8} {d : Da} {n : Nat} (h : ofL l = some (d, n)) : 0 < n := by
  cases l with
  | nil => cases h
  | cons c r =>
    simp only [ofL] at h
    split at h
    · cases r with
      | nil => cases h
      | cons m r =>
        simp only at h
        split at h
        · cases h1 : decN m.toNat [] r with
          | none => rw [h1] at h; cases h
          | some q =>
            obtain ⟨L, r'⟩ := q
            rw [h1] at h
            simp only [Option.some.injEq, Prod.mk.injEq] at h
            have := decN_len _ _ _ _ _ h1
            omega
        · cases h
    · cases h1 : one1 (c :: r) with
      | none => rw [h1] at h; cases h
      | some q =>
        obtain ⟨x, r'⟩ := q
        rw [h1] at h
        simp only [Option.some.injEq, Prod.mk.injEq] at h
        obtain ⟨_, _, k, hk, hkl, hq⟩ := one1_spec h1
        have := congrArg List.length hq
        rw [List.length_drop] at this
        simp only [List.length_cons] at this hkl
        omega

set_option maxRecDepth 100000 in
set_option maxHeartbeats 2000000 in
theorem of_any (s : ByteArray) (w : World) (hs : s.size ≤ 140737488355328) :
    Calls Tryd.prog 14 #[.string s] w (OfPost w (ofL s.data.toList)) := by
  have hW : Below w.heap.size w (w.alloc (.cells #[.int .i64 0, .int .i64 0, .string ⟨#[]⟩, .slice none 0 0] 24)) := (Below.refl _ _).alloc (Nat.le_refl _) _
  have zr0 : Zb (w.alloc (.cells #[.int .i64 0, .int .i64 0, .string ⟨#[]⟩, .slice none 0 0] 24)) w.heap.size := ⟨by go_simp, by go_simp, by go_simp, by go_simp, by go_simp, by go_simp, by go_simp, by go_simp⟩
  cases ho : ofL s.data.toList with
  | none =>
    go_enter Tryd.func14, Tryd.ntmps14
    go_wp2_with fail
    refine (dec_any s _ hs).mono ?_
    rintro e w1 hp
    rw [ho] at hp
    obtain ⟨rfl, hb1⟩ := hp
    have zz := hb1.size
    simp at zz
    have hb01 := hW.trans (hb1.mono (by simp))
    have zr1 := zr0.later hb1 (by simp)
    have zr2 := zr1.alloc (.cells #[.int .i64 0, .int .i64 0, .string ⟨#[]⟩, .slice none 0 0] 24) (by omega)
    have hb02 := hb01.alloc (by omega) (.cells #[.int .i64 0, .int .i64 0, .string ⟨#[]⟩, .slice none 0 0] 24)
    have bq := zr2
    obtain ⟨r0, r1, r2, r3, q0, q1, q2, q3⟩ := bq
    clear zr0 zr1 zr2 hW
    go_wp2
    (try simp only [Exit.inBlock, Exit.then])
    refine bodyPost_ret (v := .tuple #[dv 0 0 ⟨#[]⟩ none 0 0, .int .i64 0, .int .i64 11]) ?_ rfl ⟨rfl, ?_⟩
    · rw [results_cell_tmp2 rfl]
      go_simp
      try rfl
    · exact (((hb02.setCell (p := ⟨w.heap.size, 0, none⟩) (Nat.le_refl _) _).setCell (p := ⟨w.heap.size, 1, none⟩) (Nat.le_refl _) _).setCell (p := ⟨w.heap.size, 2, none⟩) (Nat.le_refl _) _).setCell (p := ⟨w.heap.size, 3, none⟩) (Nat.le_refl _) _
  | some dn =>
    obtain ⟨d, n⟩ := dn
    have hn := ofL_pos ho
    have hk : ((n : Int) == 0) = false := by simp; omega
    go_enter Tryd.func14, Tryd.ntmps14
    go_wp2_with fail
    refine (dec_any s _ hs).mono ?_
    rintro e w1 hp
    rw [ho] at hp
    obtain ⟨⟨a, c, rfl, hda, hab⟩, hb1⟩ := hp
    have zz := hb1.size
    simp at zz hab
    have hb01 := hW.trans (hb1.mono (by simp))
    have zr1 := zr0.later hb1 (by simp)
    have zr2 := zr1.alloc (.cells #[.int .i64 d.k, .int .i64 d.n, .string d.s, .slice a d.l.length c] 24) (by omega)
    have hb02 := hb01.alloc (by omega) (.cells #[.int .i64 d.k, .int .i64 d.n, .string d.s, .slice a d.l.length c] 24)
    have hda2 : RowIs (w1.alloc (.cells #[.int .i64 d.k, .int .i64 d.n, .string d.s, .slice a d.l.length c] 24)) a d.l := hda.row.below ((Below.refl _ _).alloc (Nat.le_refl _) _)
    have bq := zr2
    obtain ⟨r0, r1, r2, r3, q0, q1, q2, q3⟩ := bq
    clear zr0 zr1 zr2 hW
    go_wp2
    (try simp only [Exit.inBlock, Exit.then])
    refine bodyPost_ret (v := .tuple #[dv d.k d.n d.s a d.l.length c, .int .i64 n, .int .i64 0]) ?_ rfl ⟨⟨a, c, rfl, ?_⟩, ?_⟩
    · rw [results_cell_tmp2 rfl]
      go_simp
      try rfl
    · have hR : ∀ b off, a = some ⟨b, off, none⟩ → b ≠ w.heap.size := fun b off e => by have := hab b off e; omega
      exact ⟨((((hda2).setCell ⟨w.heap.size, 0, none⟩ _ hR).setCell ⟨w.heap.size, 1, none⟩ _ hR).setCell ⟨w.heap.size, 2, none⟩ _ hR).setCell ⟨w.heap.size, 3, none⟩ _ hR, hda.n, hda.l, hda.s⟩
    · exact (((hb02.setCell (p := ⟨w.heap.size, 0, none⟩) (Nat.le_refl _) _).setCell (p := ⟨w.heap.size, 1, none⟩) (Nat.le_refl _) _).setCell (p := ⟨w.heap.size, 2, none⟩) (Nat.le_refl _) _).setCell (p := ⟨w.heap.size, 3, none⟩) (Nat.le_refl _) _
end Go.Proofs.YtekcoddjdjllhaaDoor
