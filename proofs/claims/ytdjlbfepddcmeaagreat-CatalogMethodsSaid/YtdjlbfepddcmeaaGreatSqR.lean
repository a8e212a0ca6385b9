/- catalog.Methods. -/
import Derived.Test.YtdjlbfepddcmeaaGreatSqO
set_option linter.unusedVariables false
set_option linter.unusedSimpArgs false
namespace Go.Proofs.YtdjlbfepddcmeaaGreat
open Go.RowKit

theorem ownsRow_weak {w : World} {b b' : Nat} {e : TypeId} {s n : Nat} {v : Value} {xs : List Value} (h : w.ownsRow b e s v n xs) (hb : b' ≤ b) : w.ownsRow b' e s v n xs := by
  refine ⟨h.1, ?_⟩
  rcases h.2 with h2 | ⟨g, cap, cur, hv, hg, rest⟩
  · exact .inl h2
  · exact .inr ⟨g, cap, cur, hv, Nat.le_trans hb hg, rest⟩
abbrev intRow (w : World) (b : Nat) (y : Ri) (L : List Int) : Prop := w.ownsRow b 3 1 (.slice (some ⟨y.b, 0, none⟩) y.n y.c) L.length (L.map (Value.int .i64))
/-- While Methods goes. -/
structure MA (w1 wr : World) (g gp gl i : Nat) (v1 v2 : Value) (M : List Ri) : Prop where
  kinds : KindsAt wr g gp gl
  klt : g < w1.heap.size ∧ gp < w1.heap.size ∧ gl < w1.heap.size
  names : tsRows wr w1.heap.size v1 ((knames.take i).map Ts.mk)
  cols : riRows wr w1.heap.size v2 M
  row : ∀ t (h : t < M.length), M[t].n = kn t ∧ intRow wr w1.heap.size M[t] (kcols t) ∧ v1.ownBlock ≠ some M[t].b ∧ v2.ownBlock ≠ some M[t].b
  dist : ∀ s t (hs : s < M.length) (ht : t < M.length), s < t → M[s].b ≠ M[t].b
  v12 : ∀ k, v1.ownBlock = some k → v2.ownBlock ≠ some k
  below : Below w1.heap.size w1 wr
section
variable {w1 wr w' : World} {g gp gl i n c q : Nat} {v1 v2 : Value} {M : List Ri} {y : Ri}
theorem intRow.lt {L : List Int} (h : intRow wr n y L) : n ≤ y.b ∧ y.b < wr.heap.size := World.ownsRow.lt h y.b rfl
theorem MA.zero (h : KindsAt w1 g gp gl) : MA w1 w1 g gp gl 0 (.slice none 0 0) (.slice none 0 0) [] :=
  ⟨h, h.lt, tsRows.nil _ _, riRows.nil _ _, fun t h => by simp at h, fun s t hs => by simp at hs, fun k h => by simp [Value.ownBlock] at h, Below.refl _ _⟩
theorem kcols_len (k : Nat) : (kcols k).length ≤ 2 := by unfold kcols; split <;> simp
theorem ne_of (o : Option Nat) {r : Option Nat} (h : ∀ k, o = some k → r ≠ some k) : o = none ∨ o ≠ r := by
  cases o with
  | none => exact .inl rfl
  | some k => exact .inr fun e => h k rfl e.symm
theorem MA.below' (h : MA w1 wr g gp gl i v1 v2 M) (hb : Below wr.heap.size wr w') : MA w1 w' g gp gl i v1 v2 M := by
  have hg : wr.grownBy w' none := ⟨hb.os, hb.tape, hb.output, hb.size, fun k hk _ => hb.block k hk⟩
  have hn : ∀ o : Option Nat, o = none ∨ o ≠ none := fun o => by cases o <;> simp
  exact ⟨h.kinds.below hb, h.klt, h.names.kept hg (hn _), h.cols.kept hg (hn _), fun t ht => ⟨(h.row t ht).1, World.ownsRow.kept (h.row t ht).2.1 hg (hn _), (h.row t ht).2.2⟩, h.dist, h.v12, Below.trans' hb h.below⟩
theorem MA.kk (h : MA w1 wr g gp gl i v1 v2 M) {o : Option Nat} (ho : ∀ k, o = some k → w1.heap.size ≤ k) (hg : wr.grownBy w' o) : KindsAt w' g gp gl ∧ Below w1.heap.size w1 w' := by
  have := h.klt
  refine ⟨h.kinds.keep fun k hk => hg.block k ?_ (fun e => ?_), h.below.grown hg h.below.size fun k hk => ho k hk⟩
  · have := h.below.size; omega
  · have := ho k e.symm; omega
theorem MA.grow1 (h : MA w1 wr g gp gl i v1 v2 M) (hg : wr.grownBy w' v1.ownBlock) (hr : tsRows w' w1.heap.size (.slice (some ⟨q, 0, none⟩) n c) ((knames.take (i + 1)).map Ts.mk)) (hat : v1.ownBlock = some q ∨ wr.heap.size ≤ q) : MA w1 w' g gp gl (i + 1) (.slice (some ⟨q, 0, none⟩) n c) v2 M := by
  obtain ⟨hk, hb⟩ := h.kk (fun k hk => (World.ownsRow.lt h.names k hk).1) hg
  refine ⟨hk, h.klt, hr, h.cols.kept hg (ne_of _ fun k h2 h1 => h.v12 k h1 h2), fun t ht => ?_, h.dist, fun k hk => ?_, hb⟩
  · obtain ⟨a1, a2, a3, a4⟩ := h.row t ht
    refine ⟨a1, World.ownsRow.kept a2 hg (.inr fun e => a3 e.symm), fun e => ?_, a4⟩
    simp only [Value.ownBlock, Option.some.injEq] at e
    rcases hat with e1 | e1
    · rw [e] at e1; exact a3 e1
    · have := a2.lt; omega
  · simp only [Value.ownBlock, Option.some.injEq] at hk
    subst hk
    rcases hat with e1 | e1
    · exact h.v12 _ e1
    · intro e2
      have := (World.ownsRow.lt h.cols _ e2).2
      omega
theorem MA.grow2 (h : MA w1 wr g gp gl i v1 v2 M) (hy : intRow wr w1.heap.size y (kcols M.length)) (hyn : y.n = kn M.length) (hy1 : v1.ownBlock ≠ some y.b) (hy2 : v2.ownBlock ≠ some y.b) (hyM : ∀ t (ht : t < M.length), M[t].b ≠ y.b)
    (hg : wr.grownBy w' v2.ownBlock) (hr : riRows w' w1.heap.size (.slice (some ⟨q, 0, none⟩) n c) (M ++ [y])) (hat : v2.ownBlock = some q ∨ wr.heap.size ≤ q) : MA w1 w' g gp gl i v1 (.slice (some ⟨q, 0, none⟩) n c) (M ++ [y]) := by
  obtain ⟨hk, hb⟩ := h.kk (fun k hk => (World.ownsRow.lt h.cols k hk).1) hg
  have key : ∀ (z : Ri) (L : List Int), intRow wr w1.heap.size z L → v2.ownBlock ≠ some z.b → intRow w' w1.heap.size z L ∧ (Value.slice (some ⟨q, 0, none⟩) n c).ownBlock ≠ some z.b := fun z L hz hne => by
    refine ⟨World.ownsRow.kept hz hg (.inr fun e => hne e.symm), fun e => ?_⟩
    simp only [Value.ownBlock, Option.some.injEq] at e
    rcases hat with e1 | e1
    · rw [e] at e1; exact hne e1
    · have := hz.lt; omega
  refine ⟨hk, h.klt, h.names.kept hg (ne_of _ h.v12), hr, fun t ht => ?_, fun s t hs ht hst => ?_, fun k hk => ?_, hb⟩
  · rw [List.length_append, List.length_singleton] at ht
    by_cases htl : t < M.length
    · rw [List.getElem_append_left htl]
      obtain ⟨a1, a2, a3, a4⟩ := h.row t htl
      exact ⟨a1, (key _ _ a2 a4).1, a3, (key _ _ a2 a4).2⟩
    · have : t = M.length := by omega
      subst this
      rw [List.getElem_append_right (Nat.le_refl _)]
      simp only [Nat.sub_self, List.getElem_cons_zero]
      exact ⟨hyn, (key _ _ hy hy2).1, hy1, (key _ _ hy hy2).2⟩
  · rw [List.length_append, List.length_singleton] at hs ht
    have hs' : s < M.length := by omega
    rw [List.getElem_append_left hs']
    by_cases htl : t < M.length
    · rw [List.getElem_append_left htl]
      exact h.dist s t hs' htl hst
    · have : t = M.length := by omega
      subst this
      rw [List.getElem_append_right (Nat.le_refl _)]
      simpa using hyM s hs'
  · intro e
    simp only [Value.ownBlock, Option.some.injEq] at e
    subst e
    rcases hat with e1 | e1
    · exact h.v12 _ hk e1
    · have := (World.ownsRow.lt h.names _ hk).2
      omega
end

set_option maxRecDepth 100000 in
set_option maxHeartbeats 4000000 in
theorem Methods_any (w : World) :
    Calls Tryz.prog 4 #[] w fun e w' => ∃ w1 g gp gl gn gc cn cc M, e = .returned (.tuple #[.slice (some ⟨gn, 0, none⟩) 4 cn, .slice (some ⟨gc, 0, none⟩) 4 cc]) ∧ M.length = 4 ∧ MA w1 w' g gp gl 4 (.slice (some ⟨gn, 0, none⟩) 4 cn) (.slice (some ⟨gc, 0, none⟩) 4 cc) M ∧ Below w.heap.size w w1 := by
  have HK := Lib.hid (kinds_any w)
  go_enter Tryz.func4, Tryz.ntmps4
  go_wp2_with fail
  refine HK.out.mono ?_
  rintro e w1 ⟨g, gp, gl, rfl, hka, -, -, -, hb1⟩
  have H0 := Lib.hid (And.intro (MA.zero hka) hb1)
  clear hka hb1 HK
  go_wp2
  go_loopw [2, 3, 8] (fun s2 s3 i wr => ∃ (k : Nat) (A A' : Option Addr) (c c' : Nat) (M : List Ri), k ≤ 4 ∧ i = .int .i64 k ∧ M.length = k ∧ s2 = .slice A k c ∧ s3 = .slice A' k c' ∧ MA w1 wr g gp gl k (.slice A k c) (.slice A' k c') M) (fun _ _ i _ => 4 - (intOf i).toNat)
  case atStart => exact ⟨0, none, none, 0, 0, [], by omega, rfl, rfl, rfl, rfl, H0.out.1⟩
  case round =>
    obtain ⟨k, A, A', c, c', M, hk, rfl, hM, rfl, rfl, hma⟩ := hrel
    by_cases hlt : k < 4
    · obtain ⟨k0, k1, k2, k3⟩ := hma.kinds.cells k hlt
      have hk4 : (k : Int) < 4 := by omega
      have HM := Lib.hid (And.intro hma hM)
      have hg := hma.kinds.lt
      clear hma hM
      obtain ⟨q0, hq0⟩ : ∃ q, kname k = q := ⟨_, rfl⟩
      obtain ⟨q1, hq1⟩ : ∃ q, kg gp gl k = q := ⟨_, rfl⟩
      obtain ⟨q2, hq2⟩ : ∃ q, kn k = q := ⟨_, rfl⟩
      obtain ⟨q3, hq3⟩ : ∃ q, kuniq k = q := ⟨_, rfl⟩
      obtain ⟨q4, hq4⟩ : ∃ q, kopen k = q := ⟨_, rfl⟩
      rw [hq0] at k0
      rw [hq1, hq2] at k1
      rw [hq3] at k2
      rw [hq4] at k3
      have HQ := Lib.hid (And.intro hq0 (And.intro hq1 (And.intro hq2 (And.intro hq3 hq4))))
      clear hq0 hq1 hq2 hq3 hq4
      have hbW : Below wr.heap.size wr ((wr.alloc (.cells #[.string q0, .slice (some ⟨q1, 0, none⟩) q2 q2, .bool q3, .func (.func q4) #[] #[]] 35)).alloc (tsO ⟨q0⟩)) := by go_grown
      have hW := HM.out.1.below' hbW
      have HT := Lib.hid hW.names
      have hkl : ((knames.take k).map Ts.mk).length = k := by simp [knames]; omega
      have hc0 : ((wr.alloc (.cells #[.string q0, .slice (some ⟨q1, 0, none⟩) q2 q2, .bool q3, .func (.func q4) #[] #[]] 35)).alloc (tsO ⟨q0⟩)).cell? ⟨wr.heap.size + 1, 0, none⟩ = some (.string q0) := by go_simp
      have hc1 : ((wr.alloc (.cells #[.string q0, .slice (some ⟨q1, 0, none⟩) q2 q2, .bool q3, .func (.func q4) #[] #[]] 35)).alloc (tsO ⟨q0⟩)).cell? ⟨wr.heap.size, 1, none⟩ = some (.slice (some ⟨q1, 0, none⟩) q2 q2) := by go_simp
      have hnk : knames.take (k + 1) = knames.take k ++ [q0] := by
        rw [List.take_succ_eq_append_getElem (show k < knames.length from hlt), ← HQ.out.1, kname, List.getD_eq_getElem?_getD, List.getElem?_eq_getElem (show k < knames.length from hlt)]; rfl
      have hlts := fun k hk => (World.ownsRow.lt HM.out.1.names k hk).2
      have HC := Lib.hid (And.intro hc0 (And.intro hc1 (And.intro hkl (And.intro hnk (And.intro hlts hW)))))
      clear hbW hW hkl hc0 hc1 hnk hlts
      go_wp2_with (at_builtin; refine wp_appts rfl _ _ rfl w1.heap.size _ ((knames.take k).map Ts.mk) rfl HT.out ⟨q0⟩ (wr.heap.size + 1) 1 rfl HC.out.1 (by rw [HC.out.2.2.1]; omega) (by have := HC.out.2.2.2.2.2.below.size; exact this) ?_; intro gn cn w8 hr8 hg8 hat8; have ha8 : MA w1 w8 g gp gl (k + 1) (.slice (some ⟨gn, 0, none⟩) (k + 1) cn) (.slice A' k c') M := HC.out.2.2.2.2.2.grow1 hg8 (by rw [HC.out.2.2.2.1, List.map_append]; rw [List.length_append, HC.out.2.2.1] at hr8; exact hr8) (hat8.imp id (fun e => by rw [e]; exact Nat.le_refl _)); have hk8 : w8.cell? ⟨wr.heap.size, 1, none⟩ = some (.slice (some ⟨q1, 0, none⟩) q2 q2) := hg8.cell HC.out.2.1 (fun e => by have := HC.out.2.2.2.2.1 _ e.symm; simp only at this; omega); rw [List.length_append, HC.out.2.2.1]; have hcs := ha8.kinds.cols k hlt; rw [HQ.out.2.1, HQ.out.2.2.1] at hcs; have HCl := Lib.hid (Tryz.slices_Clone_int q1 0 q2 q2 (kcols k) w8 (by omega) (by have := kcols_len k; rw [hcs.1] at this; omega) (fun j hj => by rw [Nat.zero_add, hcs.2 j hj, List.getD_eq_getElem?_getD, List.getElem?_eq_getElem hj]; rfl)); have H8 := Lib.hid (And.intro ha8 hcs.1); clear hr8 hg8 hat8 ha8 hcs)
      refine HCl.out.mono ?_
      rintro e w9 ⟨v9, rfl, hr9, hn9, hb9⟩
      obtain ⟨gr, cr, rfl⟩ : ∃ gr cr, v9 = .slice (some ⟨gr, 0, none⟩) q2 cr := by
        rcases hr9.2 with ⟨e, h0⟩ | ⟨g', cap, cur, e, _⟩
        · exact absurd e hn9
        · exact ⟨g', cap, e⟩
      have h9 := H8.out.1.below' hb9
      rw [List.take_of_length_le (by rw [H8.out.2]; exact Nat.le_refl _)] at hr9
      have hltr := World.ownsRow.lt hr9 gr rfl
      have hW := h9.below' (show Below w9.heap.size w9 (w9.alloc (riO ⟨gr, q2, cr⟩)) by go_grown)
      have HR := Lib.hid (And.intro hW.cols (show (w9.alloc (riO ⟨gr, q2, cr⟩)).cell? ⟨w9.heap.size, 0, none⟩ = some (.slice (some ⟨gr, 0, none⟩) q2 cr) by go_simp))
      have H9 := Lib.hid (show intRow (w9.alloc (riO ⟨gr, q2, cr⟩)) w1.heap.size ⟨gr, q2, cr⟩ (kcols M.length) ∧ MA w1 (w9.alloc (riO ⟨gr, q2, cr⟩)) g gp gl (k + 1) (.slice (some ⟨gn, 0, none⟩) (k + 1) cn) (.slice A' k c') M ∧ q2 = kn M.length ∧ (Value.slice (some ⟨gn, 0, none⟩) (k + 1) cn).ownBlock ≠ some gr ∧ (Value.slice A' k c').ownBlock ≠ some gr ∧ (∀ t (ht : t < M.length), M[t].b ≠ gr) from by
        refine ⟨?_, hW, ?_, fun e => ?_, fun e => ?_, fun t ht e => ?_⟩
        · unfold intRow
          rw [HM.out.2, H8.out.2]
          exact ownsRow_weak (World.ownsRow.alloc hr9 _) H8.out.1.below.size
        · rw [HM.out.2, HQ.out.2.2.1]
        · have := (World.ownsRow.lt H8.out.1.names _ e).2; omega
        · have := (World.ownsRow.lt H8.out.1.cols _ e).2; omega
        · have := (H8.out.1.row t ht).2.1.lt; omega)
      have HML := Lib.hid HM.out.2
      clear hr9 hn9 hb9 h9 hltr hW HCl
      go_wp2_with (at_builtin; refine wp_appri rfl _ _ rfl w1.heap.size _ M rfl HR.out.1 ⟨gr, q2, cr⟩ w9.heap.size 1 rfl HR.out.2 (by rw [HML.out]; omega) (by have := H9.out.2.1.below.size; exact this) ?_; intro gc cc w10 hr10 hg10 hat10; have ha10 : MA w1 w10 g gp gl (k + 1) (.slice (some ⟨gn, 0, none⟩) (k + 1) cn) (.slice (some ⟨gc, 0, none⟩) (k + 1) cc) (M ++ [⟨gr, q2, cr⟩]) := H9.out.2.1.grow2 H9.out.1 H9.out.2.2.1 H9.out.2.2.2.1 H9.out.2.2.2.2.1 H9.out.2.2.2.2.2 hg10 (by rw [List.length_append, HML.out] at hr10; exact hr10) (hat10.imp id (fun e => by rw [e]; simp)); rw [List.length_append, HML.out]; have H10 := Lib.hid ha10; clear hr10 hg10 hat10 ha10)
      go_roundw
      case rel => exact ⟨k + 1, some ⟨gn, 0, none⟩, some ⟨gc, 0, none⟩, cn, cc, M ++ [⟨gr, q2, cr⟩], by omega, by go_num, by rw [List.length_append, HML.out]; rfl, rfl, rfl, H10.out⟩
      case measure => simp [intOf]; omega
    · have hk4 : k = 4 := by omega
      subst hk4
      have HM := Lib.hid (And.intro hma hM)
      have e1 : ∃ gn, A = some ⟨gn, 0, none⟩ := by
        rcases hma.names.2 with ⟨_, h0⟩ | ⟨g', cap, cur, e, _⟩
        · cases h0
        · simp only [Value.slice.injEq] at e
          exact ⟨g', e.1⟩
      have e2 : ∃ gc, A' = some ⟨gc, 0, none⟩ := by
        rcases hma.cols.2 with ⟨_, h0⟩ | ⟨g', cap, cur, e, _⟩
        · rw [hM] at h0; cases h0
        · simp only [Value.slice.injEq] at e
          exact ⟨g', e.1⟩
      obtain ⟨gn, rfl⟩ := e1
      obtain ⟨gc, rfl⟩ := e2
      clear hma
      go_wp2
      go_ret2
      exact ⟨w1, g, gp, gl, gn, gc, c, c', M, rfl, HM.out.2, HM.out.1, H0.out.2⟩
end Go.Proofs.YtdjlbfepddcmeaaGreat
