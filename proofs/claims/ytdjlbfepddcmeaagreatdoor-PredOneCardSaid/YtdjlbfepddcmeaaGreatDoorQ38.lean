/- The reference's Same of one predicate that lies twice. PredBack: the walk. -/
import Derived.Test.YtdjlbfepddcmeaaGreatDoorQ35
import Derived.Test.YtdjlbfepddcmeaaGreatDoorQ03
import Derived.Test.YtdjlbfepddcmeaaGreatDoorQ18
set_option linter.unusedVariables false
set_option linter.unusedSimpArgs false
namespace Go.Proofs.YtdjlbfepddcmeaaGreatDoor
open Go.RowKit

theorem same_d {cols : List Co} {n : Nat} {t : PT} (h : mayP cols n t = true) : t.d.same t.d = true := by
  cases n with
  | zero => simp [mayP] at h
  | succ n =>
    by_cases ho : 1 ≤ t.op ∧ t.op ≤ 6
    · obtain ⟨k, _, _, hdm, _⟩ := LeafOk.of h ho
      exact same_refl _ hdm
    · rw [da_zero (mayP_parts h ho).2.2.2.2]; decide +kernel
theorem mayP_all {cols : List Co} {n : Nat} {t : PT} (h : mayP cols (n + 1) t = true) : t.parts.all (mayP cols n) = true ∧ t.parts.length ≤ 8 := by
  by_cases ho : 1 ≤ t.op ∧ t.op ≤ 6
  · rw [mayP, if_pos ho] at h
    simp only [Bool.and_eq_true, decide_eq_true_eq] at h
    have h0 : t.parts = [] := List.eq_nil_of_length_eq_zero h.1.1.1
    rw [h0]; exact ⟨rfl, by simp⟩
  · exact ⟨(mayP_parts h ho).1, (mayP_parts h ho).2.1⟩

set_option maxRecDepth 100000 in
set_option maxHeartbeats 4000000 in
theorem rsameP (cols : List Co) : ∀ (n : Nat) (t : PT) (m m' : Nat) (a : Option Addr) (c : Nat) (pa : Option Addr) (pc : Nat) (a' : Option Addr) (c' : Nat) (pa' : Option Addr) (pc' : Nat) (w : World) (hm : mayP cols n t = true) (hp : PredIs m w t a pa) (hq : PredIs m' w t a' pa'),
    Calls Tryz.prog 21 #[pv t a c pa pc, pv t a' c' pa' pc'] w fun e w' => e = .returned (.bool true) ∧ Below w.heap.size w w' := by
  intro n
  induction n with
  | zero => intro t m m' a c pa pc a' c' pa' pc' w hm; simp [mayP] at hm
  | succ n ih =>
    intro t m m' a c pa pc a' c' pa' pc' w hm hp hq
    obtain ⟨m, rfl⟩ : ∃ k, m = k + 1 := by
      cases m with
      | zero => exact hp.elim
      | succ k => exact ⟨k, rfl⟩
    obtain ⟨m', rfl⟩ : ∃ k, m' = k + 1 := by
      cases m' with
      | zero => exact hq.elim
      | succ k => exact ⟨k, rfl⟩
    have hb0 : Below w.heap.size w ((w.alloc (pbox t a c pa pc)).alloc (pbox t a' c' pa' pc')) := by go_grown
    have hd := rsame_any t.d t.d a c a' c' _ (hp.da.below hb0).row (hq.da.below hb0).row hp.da.l hp.da.l
    rw [same_d hm] at hd
    have HD := Lib.hid hd
    obtain ⟨hall, h8⟩ := mayP_all hm
    have hx1 : ((w.alloc (pbox t a c pa pc)).alloc (pbox t a' c' pa' pc')).heap[w.heap.size]? = some (pbox t a c pa pc) := (Below.heap_alloc _ _ w.heap.size (by simp)).trans (heap_alloc_new w _)
    have hx2 : ((w.alloc (pbox t a c pa pc)).alloc (pbox t a' c' pa' pc')).heap[w.heap.size + 1]? = some (pbox t a' c' pa' pc') := by
      have := heap_alloc_new (w.alloc (pbox t a c pa pc)) (pbox t a' c' pa' pc')
      simpa using this
    have HH := Lib.hid (And.intro hb0 (And.intro hx1 (And.intro hx2 (And.intro hp.parts (And.intro hq.parts hall)))))
    have IH := Lib.hid ih
    clear hd hall hx1 hx2 hb0 hp hq hm ih
    unfold pbox pv at *
    go_enter Tryz.func21, Tryz.ntmps21
    go_wp2_with fail
    refine HD.out.mono ?_
    rintro e w1 ⟨rfl, hb1⟩
    have hz1 := hb1.size
    simp at hz1
    obtain ⟨⟨-, -, -, -, -, -, e6⟩, -⟩ := pbox7 ((hb1.block w.heap.size (by simp; omega)).trans HH.out.2.1)
    obtain ⟨⟨-, -, -, -, -, -, f6⟩, -⟩ := pbox7 ((hb1.block (w.heap.size + 1) (by simp)).trans HH.out.2.2.1)
    have HB1 := Lib.hid hb1
    clear hb1
    go_wp2
    go_loopw [5] (fun i wr => ∃ k : Nat, k ≤ t.parts.length ∧ i = .int .i64 k ∧ Below w1.heap.size w1 wr)
      (fun i _ => t.parts.length - (intOf i).toNat)
    case atStart => exact ⟨0, Nat.zero_le _, rfl, Below.refl _ _⟩
    case round =>
      obtain ⟨k, hk, rfl, hbr⟩ := hrel
      have q6 := (hbr.cell (World.block_lt_of_cell? _ _ e6)).trans e6
      have r6 := (hbr.cell (World.block_lt_of_cell? _ _ f6)).trans f6
      have HBR := Lib.hid hbr
      clear hbr
      by_cases hlt : k < t.parts.length
      · have hbw : Below w.heap.size w wr := (HH.out.1.trans (HB1.out.mono (by simp; omega))).trans (HBR.out.mono (by omega))
        obtain ⟨b, o, hpa, xa, xc, xpa, xpc, hc, hpi⟩ := (HH.out.2.2.2.1.below hbw).at_ k hlt
        obtain ⟨b', o', hpa', ya, yc, ypa, ypc, hc', hqi⟩ := (HH.out.2.2.2.2.1.below hbw).at_ k hlt
        have hmk : mayP cols n t.parts[k] = true := by
          have := HH.out.2.2.2.2.2
          rw [List.all_eq_true] at this
          exact this _ (List.getElem_mem hlt)
        have HK := Lib.hid (fun W (hW : Below wr.heap.size wr W) => IH.out t.parts[k] m m' xa xc xpa xpc ya yc ypa ypc W hmk (hpi.below hW) (hqi.below hW))
        have HBW := Lib.hid hbw
        clear hbw hpi hqi
        subst hpa hpa'
        generalize t.parts[k] = x at *
        obtain ⟨c0, c1, c2, c3, c4, c5, c6⟩ := hc
        obtain ⟨d0, d1, d2, d3, d4, d5, d6⟩ := hc'
        have hki : (k : Int) < (t.parts.length : Int) := by omega
        unfold pv at *
        have hS0 := And.intro q6 (And.intro r6 (And.intro c0 (And.intro c1 (And.intro c2 (And.intro c3 (And.intro c4 (And.intro c5 (And.intro c6 (And.intro d0 (And.intro d1 (And.intro d2 (And.intro d3 (And.intro d4 (And.intro d5 d6))))))))))))))
        clear q6 r6 c0 c1 c2 c3 c4 c5 c6 d0 d1 d2 d3 d4 d5 d6
        go_wp2
        refine wp_region_noPanic ?_
        refine wp_region_held_drew (S := (fun w' => w'.cell? ⟨w.heap.size, 6, none⟩ = some (.slice (some ⟨b, o, none⟩) t.parts.length pc) ∧ w'.cell? ⟨w.heap.size + 1, 6, none⟩ = some (.slice (some ⟨b', o', none⟩) t.parts.length pc') ∧ w'.cell? ⟨b, o + k * 7, none⟩ = some (.int .i64 x.op) ∧ w'.cell? ⟨b, o + k * 7 + 1, none⟩ = some (.int .i64 x.col) ∧ w'.cell? ⟨b, o + k * 7 + 2, none⟩ = some (.int .i64 x.d.k) ∧ w'.cell? ⟨b, o + k * 7 + 3, none⟩ = some (.int .i64 x.d.n) ∧ w'.cell? ⟨b, o + k * 7 + 4, none⟩ = some (.string x.d.s) ∧ w'.cell? ⟨b, o + k * 7 + 5, none⟩ = some (.slice xa x.d.l.length xc) ∧ w'.cell? ⟨b, o + k * 7 + 6, none⟩ = some (.slice xpa x.parts.length xpc) ∧ w'.cell? ⟨b', o' + k * 7, none⟩ = some (.int .i64 x.op) ∧ w'.cell? ⟨b', o' + k * 7 + 1, none⟩ = some (.int .i64 x.col) ∧ w'.cell? ⟨b', o' + k * 7 + 2, none⟩ = some (.int .i64 x.d.k) ∧ w'.cell? ⟨b', o' + k * 7 + 3, none⟩ = some (.int .i64 x.d.n) ∧ w'.cell? ⟨b', o' + k * 7 + 4, none⟩ = some (.string x.d.s) ∧ w'.cell? ⟨b', o' + k * 7 + 5, none⟩ = some (.slice ya x.d.l.length yc) ∧ w'.cell? ⟨b', o' + k * 7 + 6, none⟩ = some (.slice ypa x.parts.length ypc))) (by kernel_rfl) hS0 (fun hS => ?_)
        refine wpAnyH_take (i := 0) (v := ?_) rfl (by kernel_rfl) (by kernel_rfl) (by kernel_rfl) (fun _ _ _ h => h) (Or.inl ⟨by rfl, ?_⟩) hS ?_
        rotate_left
        · rintro w9 ⟨t0, t1, t2, t3, t4, t5, t6, t7, t8, t9, t10, t11, t12, t13, t14, t15⟩
          go_simp
          try with_reducible rfl
        try simp only [Act.put, List.getElem_toArray, List.getElem_cons_succ, List.getElem_cons_zero, List.setIfInBounds_toArray, List.set_cons_zero, List.set_cons_succ]
        refine wpAnyH_take (i := 1) (v := ?_) rfl (by kernel_rfl) (by kernel_rfl) (by kernel_rfl) (fun _ _ _ h => h) (Or.inl ⟨by rfl, ?_⟩) hS ?_
        rotate_left
        · rintro w9 ⟨t0, t1, t2, t3, t4, t5, t6, t7, t8, t9, t10, t11, t12, t13, t14, t15⟩
          go_simp
          try with_reducible rfl
        try simp only [Act.put, List.getElem_toArray, List.getElem_cons_succ, List.getElem_cons_zero, List.setIfInBounds_toArray, List.set_cons_zero, List.set_cons_succ]
        refine wpAnyH_take (i := 2) (v := ?_) rfl (by kernel_rfl) (by kernel_rfl) (by kernel_rfl) (fun _ _ _ h => h) (Or.inl ⟨by rfl, ?_⟩) hS ?_
        rotate_left
        · rintro w9 ⟨t0, t1, t2, t3, t4, t5, t6, t7, t8, t9, t10, t11, t12, t13, t14, t15⟩
          go_simp
          try with_reducible rfl
        try simp only [Act.put, List.getElem_toArray, List.getElem_cons_succ, List.getElem_cons_zero, List.setIfInBounds_toArray, List.set_cons_zero, List.set_cons_succ]
        refine wpAnyH_take (i := 3) (v := ?_) rfl (by kernel_rfl) (by kernel_rfl) (by kernel_rfl) (fun _ _ _ h => h) (Or.inl ⟨by rfl, ?_⟩) hS ?_
        rotate_left
        · rintro w9 ⟨t0, t1, t2, t3, t4, t5, t6, t7, t8, t9, t10, t11, t12, t13, t14, t15⟩
          go_simp
          try with_reducible rfl
        try simp only [Act.put, List.getElem_toArray, List.getElem_cons_succ, List.getElem_cons_zero, List.setIfInBounds_toArray, List.set_cons_zero, List.set_cons_succ]
        refine wpAnyH_take (i := 4) (v := ?_) rfl (by kernel_rfl) (by kernel_rfl) (by kernel_rfl) (fun _ _ _ h => h) (Or.inl ⟨by rfl, ?_⟩) hS ?_
        rotate_left
        · rintro w9 ⟨t0, t1, t2, t3, t4, t5, t6, t7, t8, t9, t10, t11, t12, t13, t14, t15⟩
          go_simp
          try with_reducible rfl
        try simp only [Act.put, List.getElem_toArray, List.getElem_cons_succ, List.getElem_cons_zero, List.setIfInBounds_toArray, List.set_cons_zero, List.set_cons_succ]
        refine wpAnyH_take (i := 5) (v := ?_) rfl (by kernel_rfl) (by kernel_rfl) (by kernel_rfl) (fun _ _ _ h => h) (Or.inl ⟨by rfl, ?_⟩) hS ?_
        rotate_left
        · rintro w9 ⟨t0, t1, t2, t3, t4, t5, t6, t7, t8, t9, t10, t11, t12, t13, t14, t15⟩
          go_simp
          try with_reducible rfl
        try simp only [Act.put, List.getElem_toArray, List.getElem_cons_succ, List.getElem_cons_zero, List.setIfInBounds_toArray, List.set_cons_zero, List.set_cons_succ]
        refine wpAnyH_take (i := 6) (v := ?_) rfl (by kernel_rfl) (by kernel_rfl) (by kernel_rfl) (fun _ _ _ h => h) (Or.inl ⟨by rfl, ?_⟩) hS ?_
        rotate_left
        · rintro w9 ⟨t0, t1, t2, t3, t4, t5, t6, t7, t8, t9, t10, t11, t12, t13, t14, t15⟩
          go_simp
          try with_reducible rfl
        try simp only [Act.put, List.getElem_toArray, List.getElem_cons_succ, List.getElem_cons_zero, List.setIfInBounds_toArray, List.set_cons_zero, List.set_cons_succ]
        refine wpAnyH_take (i := 7) (v := ?_) rfl (by kernel_rfl) (by kernel_rfl) (by kernel_rfl) (fun _ _ _ h => h) (Or.inl ⟨by rfl, ?_⟩) hS ?_
        rotate_left
        · rintro w9 ⟨t0, t1, t2, t3, t4, t5, t6, t7, t8, t9, t10, t11, t12, t13, t14, t15⟩
          go_simp
          try with_reducible rfl
        try simp only [Act.put, List.getElem_toArray, List.getElem_cons_succ, List.getElem_cons_zero, List.setIfInBounds_toArray, List.set_cons_zero, List.set_cons_succ]
        refine wpAnyH_take (i := 8) (v := ?_) rfl (by kernel_rfl) (by kernel_rfl) (by kernel_rfl) (fun _ _ _ h => h) (Or.inl ⟨by rfl, ?_⟩) hS ?_
        rotate_left
        · rintro w9 ⟨t0, t1, t2, t3, t4, t5, t6, t7, t8, t9, t10, t11, t12, t13, t14, t15⟩
          go_simp
          try with_reducible rfl
        try simp only [Act.put, List.getElem_toArray, List.getElem_cons_succ, List.getElem_cons_zero, List.setIfInBounds_toArray, List.set_cons_zero, List.set_cons_succ]
        refine wpAnyH_take (i := 9) (v := ?_) rfl (by kernel_rfl) (by kernel_rfl) (by kernel_rfl) (fun _ _ _ h => h) (Or.inl ⟨by rfl, ?_⟩) hS ?_
        rotate_left
        · rintro w9 ⟨t0, t1, t2, t3, t4, t5, t6, t7, t8, t9, t10, t11, t12, t13, t14, t15⟩
          go_simp
          try with_reducible rfl
        try simp only [Act.put, List.getElem_toArray, List.getElem_cons_succ, List.getElem_cons_zero, List.setIfInBounds_toArray, List.set_cons_zero, List.set_cons_succ]
        refine wpAnyH_ready (rs := [10]) (by kernel_rfl) (by simp) ?_
        refine AllReadyH.cons rfl (fun K hK => ?_) AllReadyH.nil
        go_simp
        refine (HK.out _ (by go_grown)).mono ?_
        rintro e w3 ⟨rfl, hb3⟩
        have hS3 : (fun w' => w'.cell? ⟨w.heap.size, 6, none⟩ = some (.slice (some ⟨b, o, none⟩) t.parts.length pc) ∧ w'.cell? ⟨w.heap.size + 1, 6, none⟩ = some (.slice (some ⟨b', o', none⟩) t.parts.length pc') ∧ w'.cell? ⟨b, o + k * 7, none⟩ = some (.int .i64 x.op) ∧ w'.cell? ⟨b, o + k * 7 + 1, none⟩ = some (.int .i64 x.col) ∧ w'.cell? ⟨b, o + k * 7 + 2, none⟩ = some (.int .i64 x.d.k) ∧ w'.cell? ⟨b, o + k * 7 + 3, none⟩ = some (.int .i64 x.d.n) ∧ w'.cell? ⟨b, o + k * 7 + 4, none⟩ = some (.string x.d.s) ∧ w'.cell? ⟨b, o + k * 7 + 5, none⟩ = some (.slice xa x.d.l.length xc) ∧ w'.cell? ⟨b, o + k * 7 + 6, none⟩ = some (.slice xpa x.parts.length xpc) ∧ w'.cell? ⟨b', o' + k * 7, none⟩ = some (.int .i64 x.op) ∧ w'.cell? ⟨b', o' + k * 7 + 1, none⟩ = some (.int .i64 x.col) ∧ w'.cell? ⟨b', o' + k * 7 + 2, none⟩ = some (.int .i64 x.d.k) ∧ w'.cell? ⟨b', o' + k * 7 + 3, none⟩ = some (.int .i64 x.d.n) ∧ w'.cell? ⟨b', o' + k * 7 + 4, none⟩ = some (.string x.d.s) ∧ w'.cell? ⟨b', o' + k * 7 + 5, none⟩ = some (.slice ya x.d.l.length yc) ∧ w'.cell? ⟨b', o' + k * 7 + 6, none⟩ = some (.slice ypa x.parts.length ypc)) w3 := by
          obtain ⟨t0, t1, t2, t3, t4, t5, t6, t7, t8, t9, t10, t11, t12, t13, t14, t15⟩ := hS
          exact ⟨(hb3.cell (World.block_lt_of_cell? _ _ t0)).trans t0, (hb3.cell (World.block_lt_of_cell? _ _ t1)).trans t1, (hb3.cell (World.block_lt_of_cell? _ _ t2)).trans t2, (hb3.cell (World.block_lt_of_cell? _ _ t3)).trans t3, (hb3.cell (World.block_lt_of_cell? _ _ t4)).trans t4, (hb3.cell (World.block_lt_of_cell? _ _ t5)).trans t5, (hb3.cell (World.block_lt_of_cell? _ _ t6)).trans t6, (hb3.cell (World.block_lt_of_cell? _ _ t7)).trans t7, (hb3.cell (World.block_lt_of_cell? _ _ t8)).trans t8, (hb3.cell (World.block_lt_of_cell? _ _ t9)).trans t9, (hb3.cell (World.block_lt_of_cell? _ _ t10)).trans t10, (hb3.cell (World.block_lt_of_cell? _ _ t11)).trans t11, (hb3.cell (World.block_lt_of_cell? _ _ t12)).trans t12, (hb3.cell (World.block_lt_of_cell? _ _ t13)).trans t13, (hb3.cell (World.block_lt_of_cell? _ _ t14)).trans t14, (hb3.cell (World.block_lt_of_cell? _ _ t15)).trans t15⟩
        refine hK.out _ _ hS3 (fun _ => ?_)
        clear hK K
        try simp only [Act.put, List.getElem_toArray, List.getElem_cons_succ, List.getElem_cons_zero, List.setIfInBounds_toArray, List.set_cons_zero, List.set_cons_succ]
        refine wpAnyH_take (i := 11) (v := ?_) rfl (by kernel_rfl) (by kernel_rfl) (by kernel_rfl) (fun _ _ _ h => h) (Or.inl ⟨by rfl, ?_⟩) hS3 ?_
        rotate_left
        · rintro w9 ⟨t0, t1, t2, t3, t4, t5, t6, t7, t8, t9, t10, t11, t12, t13, t14, t15⟩
          go_simp
          try with_reducible rfl
        try simp only [Act.put, List.getElem_toArray, List.getElem_cons_succ, List.getElem_cons_zero, List.setIfInBounds_toArray, List.set_cons_zero, List.set_cons_succ]
        refine wpAnyH_done (by kernel_rfl) ?_ _
        refine NoPanic.normal ?_
        go_wp2
        go_roundw
        case rel => exact ⟨k + 1, by omega, by go_num, HBR.out.trans ((show Below wr.heap.size wr w3 from (by go_grown : Below wr.heap.size wr wr.drew).trans (hb3.mono (by simp))).mono HBR.out.size)⟩
        case measure => simp [intOf]; omega
      · go_wp2
        go_ret
        exact ⟨rfl, (HH.out.1.trans (HB1.out.mono (by simp; omega))).trans (HBR.out.mono (by omega))⟩
end Go.Proofs.YtdjlbfepddcmeaaGreatDoor

namespace Go.Proofs.YtdjlbfepddcmeaaGreatDoor
open Go.RowKit

set_option maxRecDepth 100000 in
set_option maxHeartbeats 4000000 in
theorem back_walk (m : Nat) (t : PT) (a : Option Addr) (c : Nat) (pa : Option Addr) (pc : Nat) (ac : Option Addr) (cols : List Co) (cc : Nat) (ca : Option Addr) (cells : List El) (ce : Nat) (w : World)
    (h : AskIs m w t a pa ac cols ca cells) (hG : GlobsM w) (h8 : 8 ≤ w.heap.size) :
    Calls Tryz.prog 5 #[askV t a c pa pc ac cols.length cc ca cells.length ce] w fun e w' => e = .returned (.bool true) ∧ Below w.heap.size w w' := by
  have hb0 : Below w.heap.size w (w.alloc (askO t a c pa pc ac cols.length cc ca cells.length ce)) := by go_grown
  have h1 := h.below hb0
  have HP := Lib.hid (Print_any cols m t a c pa pc ac cc _ h1.p h1.co h.lc (hG.below hb0).toGlobs)
  have hx := heap_alloc_new w (askO t a c pa pc ac cols.length cc ca cells.length ce)
  have HH := Lib.hid (And.intro h1 (And.intro hx (And.intro hb0 (And.intro h.lc hG))))
  have hpw := Lib.hid h.p
  clear h1 hx hb0 h hG
  unfold pv at *
  by_cases hE : printE cols t = 0
  · have hcm : colsB cols = true ∧ mayP cols 8 t = true ∧ (textP cols 8 t).length ≤ 1024 := by
      unfold printE predE at hE
      by_cases h1 : colsB cols = true
      · by_cases h2 : mayP cols 8 t = true
        · by_cases h3 : (textP cols 8 t).length ≤ 1024
          · exact ⟨h1, h2, h3⟩
          · simp [h1, h2, h3] at hE
        · simp [h1, h2] at hE
      · simp [h1] at hE
    rw [show printV cols t = ⟨(textP cols 8 t).toArray⟩ by rw [printV, if_pos hE], hE] at HP
    clear hE
    go_enter Tryz.func5, Tryz.ntmps5
    go_wp2_with fail
    refine HP.out.mono ?_
    rintro e w1 ⟨rfl, hb1⟩
    have hz1 := hb1.size
    simp at hz1
    have hx1 := (hb1.block w.heap.size (by simp)).trans HH.out.2.1
    have hw1 : Below w.heap.size w w1 := HH.out.2.2.1.trans (hb1.mono (by simp))
    have h1 := HH.out.1.below hb1
    have HR := Lib.hid (Parse_text cols ac cc hcm.1 m w t a pa w1 hpw.out hcm.2.1 h1.co hcm.2.2 (HH.out.2.2.2.2.belowB hw1 h8).toGlobs (by omega))
    obtain ⟨e0, e1, e2, e3, e4, e5, e6, e7, e8⟩ := ask9 hx1
    have HW1 := Lib.hid (And.intro hw1 (And.intro h1 hx1))
    clear hx1 hw1 h1 hb1
    generalize hT : (⟨(textP cols 8 t).toArray⟩ : ByteArray) = T at *
    clear hT
    go_wp2_with fail
    refine HR.out.mono ?_
    rintro e w2 ⟨a', c', pa', pc', rfl, hp2, hb2⟩
    have hbx : Below w2.heap.size w2 (w2.alloc (pbox t a' c' pa' pc')) := by go_grown
    have hz2 := hb2.size
    have hw2 : Below w.heap.size w (w2.alloc (pbox t a' c' pa' pc')) := (HW1.out.1.trans (hb2.mono (by omega))).trans (hbx.mono (by omega))
    have HS := Lib.hid (rsameP cols 8 t 8 m a' c' pa' pc' a c pa pc _ hcm.2.1 (hp2.below hbx) ((HW1.out.2.1.p.below hb2).below hbx))
    obtain ⟨g0, g1, g2, g3, g4, g5, g6, g7, g8⟩ := ask9 (((hbx.block w.heap.size (by omega)).trans (hb2.block w.heap.size (by omega))).trans HW1.out.2.2)
    have HW2 := Lib.hid hw2
    clear hw2 hb2 hbx hp2 e0 e1 e2 e3 e4 e5 e6 e7 e8
    unfold pbox pv at *
    go_wp2_with fail
    refine HS.out.mono ?_
    rintro e w3 ⟨rfl, hb3⟩
    have hw3 : Below w.heap.size w w3 := HW2.out.trans (hb3.mono (by simp; omega))
    have HA := Lib.hid (awake_any w3 (HH.out.2.2.2.2.belowB hw3 h8) (by have := hw3.size; omega))
    have HW3 := Lib.hid hw3
    clear hw3 hb3 g0 g1 g2 g3 g4 g5 g6 g7 g8
    go_wp2_with fail
    refine HA.out.mono ?_
    rintro e w4 ⟨rfl, hb4⟩
    go_wp2
    go_ret
    exact ⟨rfl, HW3.out.trans (hb4.mono HW3.out.size)⟩
  · have hE1 : (printE cols t != 0) = true := by simpa using hE
    have hEE : (printE cols t == printE cols t) = true := by simp
    rw [show printV cols t = ⟨#[]⟩ by rw [printV, if_neg hE]] at HP
    clear hE
    go_enter Tryz.func5, Tryz.ntmps5
    go_wp2_with fail
    refine HP.out.mono ?_
    rintro e w1 ⟨rfl, hb1⟩
    have hz1 := hb1.size
    simp at hz1
    have hx1 := (hb1.block w.heap.size (by simp)).trans HH.out.2.1
    have hw1 : Below w.heap.size w w1 := HH.out.2.2.1.trans (hb1.mono (by simp))
    have h1 := HH.out.1.below hb1
    have HR := Lib.hid (rPrint_any cols m t a c pa pc ac cc w1 h1.p h1.co HH.out.2.2.2.1 (HH.out.2.2.2.2.belowB hw1 h8).toGlobs)
    obtain ⟨e0, e1, e2, e3, e4, e5, e6, e7, e8⟩ := ask9 hx1
    have HW1 := Lib.hid hw1
    clear hx1 hw1 h1 hb1
    unfold pv at *
    go_wp2_with fail
    refine HR.out.mono ?_
    rintro e w2 ⟨rfl, hb2⟩
    have hw2 : Below w.heap.size w w2 := HW1.out.trans (hb2.mono (by omega))
    have HA := Lib.hid (awake_any w2 (HH.out.2.2.2.2.belowB hw2 h8) (by have := hw2.size; omega))
    have HW2 := Lib.hid hw2
    clear hw2 hb2 e0 e1 e2 e3 e4 e5 e6 e7 e8
    go_wp2_with fail
    refine HA.out.mono ?_
    rintro e w3 ⟨rfl, hb3⟩
    go_wp2
    go_ret
    exact ⟨rfl, HW2.out.trans (hb3.mono HW2.out.size)⟩
end Go.Proofs.YtdjlbfepddcmeaaGreatDoor
