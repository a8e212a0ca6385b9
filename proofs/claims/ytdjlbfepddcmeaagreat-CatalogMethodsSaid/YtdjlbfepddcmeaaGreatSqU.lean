/- The law's walk: CatalogMethods. -/
import Derived.Test.YtdjlbfepddcmeaaGreatSqT
import Derived.Test.YtdjlbfepddcmeaaGreatSqR
import Derived.BigQuiet
set_option linter.unusedVariables false
set_option linter.unusedSimpArgs false
namespace Go.Proofs.YtdjlbfepddcmeaaGreat
open Go.RowKit

/-- While the law goes: what Methods gave; what stands before k is spoilt. -/
structure LW (w wr : World) (gn gc : Nat) (bt ct : Nat → Nat) (k : Nat) : Prop where
  nm : ∀ t, k ≤ t → t < 4 → wr.cell? ⟨gn, t, none⟩ = some (.string (kname t))
  nmz : ∀ t, wr.frozen? ⟨gn, t, none⟩ = false
  cl : ∀ t, t < 4 → wr.cell? ⟨gc, t, none⟩ = some (.slice (some ⟨bt t, 0, none⟩) (kn t) (ct t))
  row : ∀ t, k ≤ t → t < 4 → ∀ j, j < kn t → wr.cell? ⟨bt t, j, none⟩ = some (.int .i64 ((kcols t).getD j 0))
  rowz : ∀ t, t < 4 → ∀ j, wr.frozen? ⟨bt t, j, none⟩ = false
  ne : gn ≠ gc ∧ (∀ t, t < 4 → bt t ≠ gn ∧ bt t ≠ gc) ∧ ∀ s t, s < t → t < 4 → bt s ≠ bt t
  lo : w.heap.size ≤ gn ∧ ∀ t, t < 4 → w.heap.size ≤ bt t
  lt : gn < wr.heap.size ∧ gc < wr.heap.size ∧ ∀ t, t < 4 → bt t < wr.heap.size
  bel : Below w.heap.size w wr
theorem kcols_length (t : Nat) (h : t < 4) : (kcols t).length = kn t := by
  match t, h with
  | 0, _ => rfl
  | 1, _ => rfl
  | 2, _ => rfl
  | 3, _ => rfl
theorem LW.of {w w1 wr : World} {g gp gl gn gc cn cc : Nat} {M : List Ri} (h : MA w1 wr g gp gl 4 (.slice (some ⟨gn, 0, none⟩) 4 cn) (.slice (some ⟨gc, 0, none⟩) 4 cc) M) (hM : M.length = 4) (hb : Below w.heap.size w w1) :
    LW w wr gn gc (fun t => (M.getD t ⟨0, 0, 0⟩).b) (fun t => (M.getD t ⟨0, 0, 0⟩).c) 0 := by
  have hat : ∀ t (ht : t < 4), M.getD t ⟨0, 0, 0⟩ = M[t]'(by omega) := fun t ht => by rw [List.getD_eq_getElem?_getD, List.getElem?_eq_getElem (by omega)]; rfl
  have hnl : ((knames.take 4).map Ts.mk).length = 4 := rfl
  have hrow : ∀ t (ht : t < 4), intRow wr w1.heap.size M[t] (kcols t) := fun t ht => (h.row t (by omega)).2.1
  have hrn : ∀ t (ht : t < 4), M[t].n = (kcols t).length := fun t ht => by rw [kcols_length t ht]; exact (h.row t (by omega)).1
  have ln := World.ownsRow.lt h.names gn rfl
  have lc := World.ownsRow.lt h.cols gc rfl
  have hz := hb.size
  refine ⟨fun t _ ht => ?_, fun t => ?_, fun t ht => ?_, fun t _ ht j hj => ?_, fun t ht j => ?_, ⟨?_, fun t ht => ?_, fun s t hst ht => ?_⟩, ⟨by omega, fun t ht => ?_⟩, ⟨ln.2, lc.2, fun t ht => ?_⟩, Below.trans' h.below hb⟩
  · have := (tsRows.cells h.names t (by omega)).2.2
    rw [Nat.mul_one] at this
    rw [this]
    match t, ht with
    | 0, _ => rfl
    | 1, _ => rfl
    | 2, _ => rfl
    | 3, _ => rfl
  · exact World.ownsRow.frozenAt h.names t
  · have := (riRows.cells h.cols t (by omega)).2.2
    rw [Nat.mul_one] at this
    rw [this, hat t ht, (h.row t (by omega)).1]
  · rw [hat t ht]
    have hr := hrow t ht
    have := World.ownsRow.cells hr (g := M[t].b) rfl j (.int .i64 ((kcols t).getD j 0)) (by
      have hj' : j < (kcols t).length := by rw [kcols_length t ht]; exact hj
      rw [List.getElem?_map, List.getElem?_eq_getElem hj', List.getD_eq_getElem?_getD, List.getElem?_eq_getElem hj']; rfl)
    have ha : (⟨M[t].b, 0, none⟩ : Addr).add j = ⟨M[t].b, j, none⟩ := by unfold Addr.add; split <;> simp_all
    rw [← ha]; exact this
  · rw [hat t ht]
    have hr := hrow t ht
    unfold intRow at hr
    rw [hrn t ht] at hr
    exact World.ownsRow.frozenAt hr j
  · intro e
    exact h.v12 gn rfl (by rw [e]; rfl)
  · rw [hat t ht]
    have := h.row t (by omega)
    exact ⟨fun e => this.2.2.1 (by rw [e]; rfl), fun e => this.2.2.2 (by rw [e]; rfl)⟩
  · rw [hat t ht, hat s (by omega)]
    exact h.dist s t (by omega) (by omega) hst
  · rw [hat t ht]
    have := (hrow t ht).lt
    omega
  · rw [hat t ht]
    exact (hrow t ht).lt.2
section
variable {w wr w' : World} {gn gc k : Nat} {bt ct : Nat → Nat}
theorem LW.below (h : LW w wr gn gc bt ct k) (hb : Below wr.heap.size wr w') : LW w w' gn gc bt ct k :=
  ⟨fun t a b => (hb.cell (p := ⟨gn, t, none⟩) h.lt.1).trans (h.nm t a b), fun t => (hb.frozen (p := ⟨gn, t, none⟩) h.lt.1).trans (h.nmz t), fun t a => (hb.cell (p := ⟨gc, t, none⟩) h.lt.2.1).trans (h.cl t a),
    fun t a b j hj => (hb.cell (p := ⟨bt t, j, none⟩) (h.lt.2.2 t b)).trans (h.row t a b j hj), fun t a j => (hb.frozen (p := ⟨bt t, j, none⟩) (h.lt.2.2 t a)).trans (h.rowz t a j), h.ne, h.lo,
    ⟨Nat.lt_of_lt_of_le h.lt.1 hb.size, Nat.lt_of_lt_of_le h.lt.2.1 hb.size, fun t a => Nat.lt_of_lt_of_le (h.lt.2.2 t a) hb.size⟩, Below.trans' hb h.bel⟩
theorem LW.next (h : LW w wr gn gc bt ct k) (hk : k < 4) (v u : Value) : LW w ((wr.setCell ⟨bt k, 0, none⟩ v).setCell ⟨gn, k, none⟩ u) gn gc bt ct (k + 1) := by
  have hz : ∀ a : Addr, ((wr.setCell ⟨bt k, 0, none⟩ v).setCell ⟨gn, k, none⟩ u).frozen? a = wr.frozen? a := fun a => by rw [World.frozen?_setCell, World.frozen?_setCell]
  have hc : ∀ a : Addr, a ≠ ⟨gn, k, none⟩ → a.block ≠ bt k → ((wr.setCell ⟨bt k, 0, none⟩ v).setCell ⟨gn, k, none⟩ u).cell? a = wr.cell? a := fun a h1 h2 => by
    rw [World.cell?_setCell_other (h := Ne.symm h1), World.cell?_setCell_other (h := fun e => h2 (by rw [← e]))]
  have hsz : ((wr.setCell ⟨bt k, 0, none⟩ v).setCell ⟨gn, k, none⟩ u).heap.size = wr.heap.size := by rw [World.size_setCell, World.size_setCell]
  refine ⟨fun t a b => ?_, fun t => (hz _).trans (h.nmz t), fun t a => ?_, fun t a b j hj => ?_, fun t a j => (hz _).trans (h.rowz t a j), h.ne, h.lo, by rw [hsz]; exact h.lt, ?_⟩
  · rw [hc _ (fun e => by simp only [Addr.mk.injEq] at e; omega) (fun e => (h.ne.2.1 k hk).1 e.symm)]
    exact h.nm t (by omega) b
  · rw [hc _ (fun e => by simp only [Addr.mk.injEq] at e; exact h.ne.1 e.1.symm) (fun e => (h.ne.2.1 k hk).2 e.symm)]
    exact h.cl t a
  · rw [hc _ (fun e => by simp only [Addr.mk.injEq] at e; exact (h.ne.2.1 t b).1 e.1) (fun e => h.ne.2.2 k t (by omega) b e.symm)]
    exact h.row t (by omega) b j hj
  · exact (h.bel.setCell (p := ⟨bt k, 0, none⟩) (h.lo.2 k hk) v).setCell (p := ⟨gn, k, none⟩) h.lo.1 u
end
theorem below_drewNm (w : World) (n : Nat) : Below w.heap.size w (w.drewN n) := ⟨rfl, rfl, rfl, Nat.le_refl _, fun _ _ => rfl⟩
theorem kc_facts (k : Nat) (hk : k < 4) : kn k = (if k = 3 then 1 else 2) ∧ (∀ j, j < kn k → forB k ((kcols k).getD j 0) = true) ∧ (kn k = 2 → (kcols k).getD 0 0 < (kcols k).getD 1 0) := by
  have : ∀ k : Fin 4, kn k = (if k.1 = 3 then 1 else 2) ∧ (∀ j : Fin (kn k), forB k ((kcols k).getD j.1 0) = true) ∧ (kn k = 2 → (kcols k).getD 0 0 < (kcols k).getD 1 0) := by decide +kernel
  obtain ⟨a, b, c⟩ := this ⟨k, hk⟩
  exact ⟨a, fun j hj => b ⟨j, hj⟩, c⟩

set_option maxRecDepth 100000 in
set_option maxHeartbeats 4000000 in
theorem methods_walk (n : Int) (w : World) :
    Calls Tryz.prog 3 #[.int .i64 n] w fun e w' => e = .returned (.bool true) ∧ Below w.heap.size w w' := by
  have HM := Lib.hid (Methods_any w)
  go_enter Tryz.func3, Tryz.ntmps3
  go_wp2_with fail
  refine HM.out.mono ?_
  rintro e w1 ⟨w0, g, gp, gl, gn, gc, cn, cc, M, rfl, hM, hma, hb⟩
  have H0 := Lib.hid (LW.of hma hM hb)
  have n0 := H0.out.nm 0 (by omega) (by omega)
  have n1 := H0.out.nm 1 (by omega) (by omega)
  have n2 := H0.out.nm 2 (by omega) (by omega)
  have n3 := H0.out.nm 3 (by omega) (by omega)
  rw [show kname 0 = ⟨#[98, 105, 116, 109, 97, 112]⟩ from rfl] at n0
  rw [show kname 1 = ⟨#[98, 116, 114, 101, 101]⟩ from rfl] at n1
  rw [show kname 2 = ⟨#[104, 97, 115, 104]⟩ from rfl] at n2
  rw [show kname 3 = ⟨#[105, 110, 118, 101, 114, 116, 101, 100]⟩ from rfl] at n3
  generalize (fun t => (M.getD t ⟨0, 0, 0⟩).b) = bt at *
  generalize (fun t => (M.getD t ⟨0, 0, 0⟩).c) = ct at *
  clear hM hma hb HM
  go_wp2
  go_loopw [5] (fun i wr => ∃ k : Nat, k ≤ 4 ∧ i = .int .i64 k ∧ LW w wr gn gc bt ct k) (fun i _ => 4 - (intOf i).toNat)
  case atStart => exact ⟨0, by omega, rfl, H0.out⟩
  case round =>
    obtain ⟨k, hk, rfl, hlw⟩ := hrel
    have HL := Lib.hid hlw
    clear hlw n0 n1 n2 n3
    by_cases hlt : k < 4
    · have hk4 : (k : Int) < 4 := by omega
      have HKC := Lib.hid (kc_facts k hlt)
      obtain ⟨q, hq⟩ : ∃ q, kn k = q := ⟨_, rfl⟩
      obtain ⟨bk, hbk⟩ : ∃ q, bt k = q := ⟨_, rfl⟩
      obtain ⟨ck, hck⟩ : ∃ q, ct k = q := ⟨_, rfl⟩
      obtain ⟨nk, hnk⟩ : ∃ q, kname k = q := ⟨_, rfl⟩
      have HQ := Lib.hid (And.intro hq (And.intro hbk (And.intro hck hnk)))
      have hq2 : q = if k = 3 then 1 else 2 := hq ▸ HKC.out.1
      have hq1 : 1 ≤ q ∧ q ≤ 2 := by split at hq2 <;> omega
      clear hq hbk hck hnk
      have HQ2 := Lib.hid (And.intro hq2 hq1)
      clear hq2
      go_wp2
      go_loopw [6] (fun j wr => ∃ jn : Nat, jn ≤ q ∧ j = .int .i64 jn ∧ LW w wr gn gc bt ct k) (fun j _ => q - (intOf j).toNat)
      case atStart => exact ⟨0, by omega, rfl, HL.out⟩
      case round =>
        obtain ⟨jn, hj, rfl, hlj⟩ := hrel
        have hcl := hlj.cl k hlt
        have hnm := hlj.nm k (Nat.le_refl _) hlt
        have hrw := hlj.row k (Nat.le_refl _) hlt
        have hz1 := hlj.nmz k
        have hz2 := hlj.rowz k hlt 0
        rw [HQ.out.2.1, HQ.out.2.2.1, HQ.out.1] at hcl
        rw [HQ.out.2.2.2] at hnm
        rw [HQ.out.1, HQ.out.2.1] at hrw
        rw [HQ.out.2.1] at hz2
        have HLj := Lib.hid hlj
        clear hlj
        by_cases hjq : jn < q
        · have hjq' : (jn : Int) < q := by omega
          have HFor := Lib.hid (fun z W => For_any k hlt z W)
          rw [HQ.out.2.2.2] at HFor
          have hfit := HKC.out.2.1 jn (by rw [HQ.out.1]; exact hjq)
          by_cases hj0 : jn = 0
          · subst hj0
            have r0 := hrw 0 hjq
            obtain ⟨z0, hz0⟩ : ∃ z, (kcols k).getD 0 0 = z := ⟨_, rfl⟩
            rw [hz0] at r0 hfit
            have HFr := Lib.hid (fun W => HFor.out z0 W)
            rw [hfit] at HFr
            clear hrw hfit hz0
            go_wp2
            go_quiet (exact Calls.quiet_of_same (HFr.out _))
            go_wp2
            go_quiet (fail)
            go_wp2
            go_roundw
            case rel => exact ⟨1, by omega, rfl, HLj.out.below (below_drewNm _ _)⟩
            case measure => simp [intOf]; omega
          · have hj1 : jn = 1 := by have := HQ2.out.2; omega
            subst hj1
            have r1 := hrw 1 hjq
            have r0 := hrw 0 (by omega)
            have hlt2 := HKC.out.2.2 (by rw [HQ.out.1]; have := HQ2.out.2; omega)
            obtain ⟨z0, hz0⟩ : ∃ z, (kcols k).getD 0 0 = z := ⟨_, rfl⟩
            obtain ⟨z1, hz1'⟩ : ∃ z, (kcols k).getD 1 0 = z := ⟨_, rfl⟩
            rw [hz0] at r0 hlt2
            rw [hz1'] at r1 hfit hlt2
            have HFr := Lib.hid (fun W => HFor.out z1 W)
            rw [hfit] at HFr
            have hd1 : decide (z1 ≤ z0) = false := decide_eq_false (by omega)
            clear hrw hfit hz0 hz1' hlt2
            go_wp2
            go_quiet (exact Calls.quiet_of_same (HFr.out _))
            go_wp2
            go_quiet (fail)
            go_wp2
            go_roundw
            case rel => exact ⟨2, by omega, rfl, HLj.out.below (below_drewNm _ _)⟩
            case measure => simp [intOf]; omega
        · have hqj : jn = q := by omega
          subst hqj
          have r0 := hrw 0 (by have := HQ2.out.2; omega)
          have HX := Lib.hid (HLj.out.next hlt (.int .i64 n) (.string ⟨#[115, 112, 111, 105, 108, 116]⟩))
          rw [HQ.out.2.1] at HX
          have hcell : (wr.setCell ⟨bk, 0, none⟩ (.int .i64 n)).cell? ⟨gn, k, none⟩ = some (.string nk) := by
            rw [World.cell?_setCell_other (h := fun e => (HLj.out.ne.2.1 k hlt).1 (by rw [HQ.out.2.1]; simpa using (Addr.mk.inj e).1))]
            exact hnm
          clear hrw
          by_cases hk3 : k = 3
          · subst hk3
            have hj1 : jn = 1 := by have := HQ2.out.1; rw [if_pos rfl] at this; exact this
            subst hj1
            go_wp2
            go_roundw
            case rel => exact ⟨4, by omega, rfl, HX.out⟩
            case measure => simp [intOf]
          · have hj2 : jn = 2 := by have := HQ2.out.1; rw [if_neg hk3] at this; exact this
            subst hj2
            have hk3' : ((k : Int) == 3) = false := by rw [beq_eq_false_iff_ne]; omega
            go_wp2
            go_roundw
            case rel => exact ⟨k + 1, by omega, by go_num, HX.out⟩
            case measure => simp [intOf]; omega
    · have hk4' : k = 4 := by omega
      subst hk4'
      have HM2 := Lib.hid (fun W => Methods_any W)
      have HA := Lib.hid (fun W => awake_any W)
      go_wp2_with fail
      refine (HM2.out _).mono ?_
      rintro e w2 ⟨w3, g', gp', gl', gn', gc', cn', cc', M', rfl, hM', hma', hb'⟩
      have H2 := Lib.hid (LW.of hma' hM' hb')
      have n0 := H2.out.nm 0 (by omega) (by omega)
      rw [show kname 0 = ⟨#[98, 105, 116, 109, 97, 112]⟩ from rfl] at n0
      clear hM' hma' hb' HM2
      go_wp2_with fail
      refine (HA.out _).mono ?_
      rintro e w4 ⟨rfl, hb4⟩
      have HB4 := Lib.hid hb4
      clear hb4 HA
      go_wp2
      go_ret
      exact ⟨rfl, Below.trans' HB4.out (Below.trans' H2.out.bel HL.out.bel)⟩
end Go.Proofs.YtdjlbfepddcmeaaGreat
