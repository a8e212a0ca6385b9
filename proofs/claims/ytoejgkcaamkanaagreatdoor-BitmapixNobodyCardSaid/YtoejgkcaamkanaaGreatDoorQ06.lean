/- A leaf's bytes. append of noughts to bytes. A leaf is written. -/
import Derived.Test.YtoejgkcaamkanaaGreatDoorQ05
import Derived.Lib.AppendZerosOnto
set_option linter.unusedVariables false
set_option linter.unusedSimpArgs false
namespace Go.Proofs.YtoejgkcaamkanaaGreatDoor
open Go.RowKit

/-- append of a text's bytes, in a region that draws. -/
theorem step_appS {ops : Array Oper} {o : Oper} {a : Act} {K : Act → World → Prop} {Q : Exit → Act → World → Prop} {E : Prop} {w : World} (hgd : o.guard = none) (s x : Operand)
    (ho : o.op = .call { callee := .builtin .append, args := #[s, x], argTypes := #[84, 9] })
    (B : Nat) (v : Value) (l : List UInt8) (hs : a.eval s = v) (hb : Buf w B v l) (t : ByteArray) (hx : a.eval x = .string t) (hlen : l.length + t.size ≤ 70368744177664) (hB : B ≤ w.heap.size)
    (h : ∀ v' w', Buf w' B v' (l ++ t.data.toList) → Below B w w' → w.grownBy w' v.ownBlock → K (a.put o.dst v') w') : if Region.wanted o (yielded ops a.tmps) = true then Oper.wp Tryz.prog o a w K Q else E := by
  have hw : Region.wanted o (yielded ops a.tmps) = true := by simp [Region.wanted, hgd]
  rw [if_pos hw]
  obtain ⟨i0, hi, hz0, hz1, hz2⟩ := info_parts info_u8
  have hsz : t.data.toList.length = t.size := by simp
  obtain ⟨v', w', hr, h2, h3, h4⟩ := Go.Lib.run_append_own_string (P := Tryz.prog) w B 84 9 o.type 5 i0 Tryz.underlying84 Tryz.underlying9 hi hz0 hz1 hz2 v l.length (Lib.byteCells l) hb t (by unfold maxLen; omega) (by omega) hB
  unfold Oper.wp execOp
  simp only [ho, resolve, invoke, builtin, Sem.run_bind, Sem.run_pure, Result.andThen_ok, List.map_toArray, List.map_cons, List.map_nil, hs, hx, hr]
  exact h v' w' (by unfold Buf; rw [List.length_append, byteCells_append, hsz]; exact h2) (hb.below hB h3) h3
/-- append of one byte that has just been laid, in a region that draws. -/
theorem step_app1 {ops : Array Oper} {o : Oper} {a : Act} {K : Act → World → Prop} {Q : Exit → Act → World → Prop} {E : Prop} {W : World} (hgd : o.guard = none) (s x : Operand)
    (ho : o.op = .call { callee := .builtin .append, args := #[s, x], argTypes := #[84, 84] })
    (B : Nat) (v : Value) (l : List UInt8) (hs : a.eval s = v) (hb : Buf W B v l) (x0 : Int) (b : UInt8) (hx0 : x0 = (b.toNat : Int)) (k c : Nat) (hx : a.eval x = .slice (some ⟨k, 0, none⟩) 1 c) (hk : k = W.heap.size)
    (hlen : l.length ≤ 35184372088832) (hB : B ≤ W.heap.size)
    (h : ∀ v' w', Buf w' B v' (l ++ [b]) → Below B W w' → W.grownBy w' v.ownBlock → K (a.put o.dst v') w') : if Region.wanted o (yielded ops a.tmps) = true then Oper.wp Tryz.prog o a (W.alloc (.cells #[.int .u8 x0] 5)) K Q else E := by
  subst hx0 hk
  refine step_appB hgd s x ho B v l hs (hb.alloc _) ⟨W.heap.size, 0, none⟩ 1 c [b] hx rfl ?_ (by simp; omega) (by simp; omega) ?_
  · intro j u hj
    match j, hj with
    | 0, hj => simp [Lib.byteCells] at hj; subst hj; simp [Addr.add]
  · intro v' w' h1 h2 h3
    exact h v' w' h1 (((Below.refl B W).alloc hB _).trans h2) (grown_alloc h3)
theorem Buf.young {w : World} {B : Nat} {v : Value} {l : List UInt8} (h : Buf w B v l) {k : Nat} (hk : w.heap.size ≤ k) : v.ownBlock ≠ some k := by
  rcases h.2 with ⟨rfl, _⟩ | ⟨g, cap, cur, rfl, _, hh, _⟩
  · simp [Value.ownBlock]
  · have := (Array.getElem?_eq_some_iff.1 hh).1
    simp [Value.ownBlock]
    omega

theorem xcells {w : World} {g : Nat} {x : KV} (h : w.heap[g]? = some (itemO x)) : w.cell? ⟨g, 0, none⟩ = some (.string x.k) ∧ w.cell? ⟨g, 1, none⟩ = some (.string x.v) := by
  refine ⟨?_, ?_⟩ <;> (unfold World.cell?; rw [h]; rfl)

set_option maxRecDepth 100000 in
set_option maxHeartbeats 2000000 in
theorem bytes_leaf {w : World} {nb : Nat} {A : Option Addr} {c : Nat} {kv : Value} {L : List KV} (h : w.heap[nb]? = some (nodeO true (.slice A L.length c) kv)) (hr : ItemsR w A L) (hok : ∀ x ∈ L, x.ok) (hn : L.length < 256) :
    Calls Tryz.prog 133 #[.pointer (some ⟨nb, 0, none⟩)] w fun e w' => ∃ v, e = .returned v ∧ Buf w' w.heap.size v (leafB L) ∧ Below w.heap.size w w' := by
  obtain ⟨c0, c1, c2, _⟩ := node3 h
  have hlt : nb < w.heap.size := (Array.getElem?_eq_some_iff.1 h).1
  have hlt1 : nb < w.heap.size + 1 := by omega
  have hm : (L.length : Int) % 256 = (L.length : Int) := by omega
  have H := Lib.hid (And.intro h (And.intro hr hok))
  clear h hr hok
  go_enter Tryz.func133, Tryz.ntmps133
  go_wp2
  go_loopw [3, 42] (fun o i wr => ∃ j : Nat, j ≤ L.length ∧ i = .int .i64 j ∧ Buf wr w.heap.size o ([1, UInt8.ofNat L.length] ++ (L.take j).flatMap itemB) ∧ Below w.heap.size w wr) (fun _ i _ => L.length - (intOf i).toNat)
  case atStart =>
    refine ⟨0, Nat.zero_le _, rfl, ?_, by go_grown⟩
    have e : (((UInt8.ofNat L.length).toNat : Nat) : Int) = (L.length : Int) := by rw [UInt8.toNat_ofNat_of_lt' (by show L.length < 256; omega)]
    have := World.ownsRow_lit (e := 5) (base := w.heap.size) (size := 1) w #[.int .u8 1, .int .u8 L.length] 2 (Nat.le_refl _) (by unfold maxLen; omega) rfl
    have e2 : Lib.byteCells [1, UInt8.ofNat L.length] = [.int .u8 1, .int .u8 L.length] := by
      simp only [Lib.byteCells, List.map_cons, List.map_nil, e]
      rfl
    show World.ownsRow _ _ _ _ _ _ (Lib.byteCells [1, UInt8.ofNat L.length])
    rw [e2]
    exact this
  case round =>
    obtain ⟨j, hj, rfl, hbuf, hbel⟩ := hrel
    by_cases hlt' : j < L.length
    · obtain ⟨g, off, rfl, hc⟩ : ∃ b off, A = some ⟨b, off, none⟩ ∧ ∀ i (h : i < L.length), wr.cell? ⟨b, off + i * 2, none⟩ = some (.string L[i].k) ∧ wr.cell? ⟨b, off + i * 2 + 1, none⟩ = some (.string L[i].v) := by
        rcases H.out.2.1.below hbel with h0 | h
        · rw [h0] at hlt'; simp at hlt'
        · exact h
      obtain ⟨k0, k1⟩ := hc j hlt'
      have hokx := H.out.2.2 L[j] (List.getElem_mem hlt')
      have htake : (L.take (j + 1)).flatMap itemB = (L.take j).flatMap itemB ++ itemB L[j] := by
        rw [List.take_succ_eq_append_getElem hlt', List.flatMap_append]; simp
      have hlen : ([1, UInt8.ofNat L.length] ++ (L.take j).flatMap itemB).length ≤ 1099511627776 := by
        have h1 : ∀ M : List KV, (∀ y ∈ M, y.ok) → (M.flatMap itemB).length ≤ 130 * M.length := fun M hM => by
          induction M with
          | nil => simp
          | cons y M ih =>
            have h2 := hM y List.mem_cons_self
            have h3 := ih fun z hz => hM z (List.mem_cons_of_mem _ hz)
            rw [List.flatMap_cons, List.length_append, itemB_length, List.length_cons]
            have := h2.1
            have := h2.2
            omega
        have h4 := h1 (L.take j) fun y hy => H.out.2.2 y (List.mem_of_mem_take hy)
        rw [List.length_append, List.length_cons, List.length_cons, List.length_nil]
        rw [List.length_take] at h4
        omega
      generalize L[j] = x at *
      generalize hl0 : [1, UInt8.ofNat L.length] ++ (L.take j).flatMap itemB = l0 at *
      have HX := Lib.hid (And.intro hokx (And.intro htake hl0))
      have hk96 : x.k.size ≤ 96 := hokx.1
      have hv32 : x.v.size ≤ 32 := hokx.2
      have hmk : IntKind.u8.wrap (x.k.size : Int) = (x.k.size : Int) := by rw [IntKind.wrap_u8']; omega
      have hmv : IntKind.u8.wrap (x.v.size : Int) = (x.v.size : Int) := by rw [IntKind.wrap_u8']; omega
      have HB := Lib.hid (And.intro (hbuf.alloc (itemO x)) (And.intro hbel (show w.heap.size ≤ (wr.alloc (itemO x)).heap.size by have := hbel.size; simp; omega)))
      have hx1 : (wr.alloc (itemO x)).heap[wr.heap.size]? = some (itemO x) := hnew wr _
      have HX1 := Lib.hid hx1
      clear hc hokx htake hbuf hbel hl0 hx1
      go_wp2
      have hx1 := HX1.out
      have hxa : (((wr.alloc (itemO x)).alloc (.cells #[.int .u8 (x.k.size : Int)] 5)).drew).heap[wr.heap.size]? = some (itemO x) := (Below.heap_alloc _ _ _ (Array.getElem?_eq_some_iff.1 hx1).1).trans hx1
      have hSa := xcells hxa
      have HSa := Lib.hid hSa
      clear hSa
      refine wp_region_noPanic ?_
      refine wp_region_held_drew (S := (fun w' => w'.cell? ⟨wr.heap.size, 0, none⟩ = some (.string x.k) ∧ w'.cell? ⟨wr.heap.size, 1, none⟩ = some (.string x.v))) (by kernel_rfl) (xcells hx1) (fun hS => ?_)
      refine wpAnyH_take (i := 0) (v := ?_) rfl (by kernel_rfl) (by kernel_rfl) (by kernel_rfl) (fun _ _ _ h => h) (Or.inl ⟨by rfl, ?_⟩) hS ?_
      rotate_left
      · rintro w9 ⟨t0, t1⟩
        go_simp
        try with_reducible rfl
      try simp only [Act.put, List.getElem_toArray, List.getElem_cons_succ, List.getElem_cons_zero, List.setIfInBounds_toArray, List.set_cons_zero, List.set_cons_succ]
      refine wpAnyH_take (i := 1) (v := ?_) rfl (by kernel_rfl) (by kernel_rfl) (by kernel_rfl) (fun _ _ _ h => h) (Or.inl ⟨by rfl, ?_⟩) hS ?_
      rotate_left
      · rintro w9 ⟨t0, t1⟩
        go_simp
        try with_reducible rfl
      try simp only [Act.put, List.getElem_toArray, List.getElem_cons_succ, List.getElem_cons_zero, List.setIfInBounds_toArray, List.set_cons_zero, List.set_cons_succ]
      refine wpAnyH_take (i := 2) (v := ?_) rfl (by kernel_rfl) (by kernel_rfl) (by kernel_rfl) (fun _ _ _ h => h) (Or.inl ⟨by rfl, ?_⟩) hS ?_
      rotate_left
      · rintro w9 ⟨t0, t1⟩
        go_simp
        try with_reducible rfl
      try simp only [Act.put, List.getElem_toArray, List.getElem_cons_succ, List.getElem_cons_zero, List.setIfInBounds_toArray, List.set_cons_zero, List.set_cons_succ]
      refine wpAnyH_take (i := 3) (v := ?_) rfl (by kernel_rfl) (by kernel_rfl) (by kernel_rfl) (fun _ _ _ h => h) (Or.inl ⟨by rfl, ?_⟩) hS ?_
      rotate_left
      · rintro w9 ⟨t0, t1⟩
        go_simp
        try with_reducible rfl
      try simp only [Act.put, List.getElem_toArray, List.getElem_cons_succ, List.getElem_cons_zero, List.setIfInBounds_toArray, List.set_cons_zero, List.set_cons_succ]
      refine wpAnyH_take (i := 4) (v := ?_) rfl (by kernel_rfl) (by kernel_rfl) (by kernel_rfl) (fun _ _ _ h => h) (Or.inl ⟨by rfl, ?_⟩) hS ?_
      rotate_left
      · rintro w9 ⟨t0, t1⟩
        go_simp
        try with_reducible rfl
      try simp only [Act.put, List.getElem_toArray, List.getElem_cons_succ, List.getElem_cons_zero, List.setIfInBounds_toArray, List.set_cons_zero, List.set_cons_succ]
      refine wpAnyH_take (i := 7) (v := ?_) rfl (by kernel_rfl) (by kernel_rfl) (by kernel_rfl) (fun _ _ _ h => h) (Or.inl ⟨by rfl, ?_⟩) hS ?_
      rotate_left
      · rintro w9 ⟨t0, t1⟩
        go_simp
        try with_reducible rfl
      try simp only [Act.put, List.getElem_toArray, List.getElem_cons_succ, List.getElem_cons_zero, List.setIfInBounds_toArray, List.set_cons_zero, List.set_cons_succ]
      refine wpAnyH_take (i := 8) (v := ?_) rfl (by kernel_rfl) (by kernel_rfl) (by kernel_rfl) (fun _ _ _ h => h) (Or.inl ⟨by rfl, ?_⟩) hS ?_
      rotate_left
      · rintro w9 ⟨t0, t1⟩
        go_simp
        try with_reducible rfl
      try simp only [Act.put, List.getElem_toArray, List.getElem_cons_succ, List.getElem_cons_zero, List.setIfInBounds_toArray, List.set_cons_zero, List.set_cons_succ]
      refine wpAnyH_ready (rs := [5]) (by kernel_rfl) (by simp) ?_
      refine AllReadyH.cons rfl (fun K hK => ?_) AllReadyH.nil
      go_simp
      refine hK.out _ _ HSa.out (fun _ => ?_)
      clear hK K
      try simp only [Act.put, List.getElem_toArray, List.getElem_cons_succ, List.getElem_cons_zero, List.setIfInBounds_toArray, List.set_cons_zero, List.set_cons_succ]
      refine wpAnyH_ready (rs := [6]) (by kernel_rfl) (by simp) ?_
      refine AllReadyH.cons rfl (fun K hK => ?_) AllReadyH.nil
      refine step_app1 (W := (wr.alloc (itemO x)).drew) (by rfl) (.tmp 47) (.tmp 52) (by rfl) w.heap.size _ (l0) (by rfl) (show Buf (wr.alloc (itemO x)).drew w.heap.size _ (l0) from HB.out.1) (x.k.size : Int) (UInt8.ofNat x.k.size) (by rw [UInt8.toNat_ofNat_of_lt' (by show x.k.size < 256; omega)]) _ 1 (by rfl) (by first | rfl | simp) (by omega) HB.out.2.2 ?_
      intro pa wpa hBpa hbpa hgpa
      have hxpa : wpa.heap[wr.heap.size]? = some (itemO x) := (show Buf (wr.alloc (itemO x)).drew w.heap.size _ (l0) from HB.out.1).keep hgpa (show (wr.alloc (itemO x)).drew.heap[wr.heap.size]? = some (itemO x) from hx1) rfl
      have HSpa := Lib.hid (xcells hxpa)
      refine hK.out _ _ HSpa.out (fun _ => ?_)
      clear hK K
      try simp only [Act.put, List.getElem_toArray, List.getElem_cons_succ, List.getElem_cons_zero, List.setIfInBounds_toArray, List.set_cons_zero, List.set_cons_succ]
      refine wpAnyH_ready (rs := [9]) (by kernel_rfl) (by simp) ?_
      refine AllReadyH.cons rfl (fun K hK => ?_) AllReadyH.nil
      refine step_appS (by rfl) (.tmp 53) (.tmp 55) (by rfl) w.heap.size pa ((l0) ++ [UInt8.ofNat x.k.size]) (by rfl) hBpa x.k (by rfl) (by rw [List.length_append]; simp only [List.length_cons, List.length_nil]; omega) (Nat.le_trans HB.out.2.2 hbpa.size) ?_
      intro p wp hBp hbp hgp
      have hxp : wp.heap[wr.heap.size]? = some (itemO x) := hBpa.keep hgp hxpa rfl
      have HSp := Lib.hid (xcells hxp)
      have Hp := Lib.hid (And.intro hBp (And.intro (hbpa.trans hbp) hxp))
      clear hBpa hbpa hgpa hxpa hBp hbp hgp hxp
      refine hK.out _ _ HSp.out (fun _ => ?_)
      clear hK K
      try simp only [Act.put, List.getElem_toArray, List.getElem_cons_succ, List.getElem_cons_zero, List.setIfInBounds_toArray, List.set_cons_zero, List.set_cons_succ]
      refine wpAnyH_take (i := 10) (v := ?_) rfl (by kernel_rfl) (by kernel_rfl) (by kernel_rfl) (fun _ _ _ h => h) (Or.inl ⟨by rfl, ?_⟩) HSp.out ?_
      rotate_left
      · rintro w9 ⟨t0, t1⟩
        go_simp
        try with_reducible rfl
      try simp only [Act.put, List.getElem_toArray, List.getElem_cons_succ, List.getElem_cons_zero, List.setIfInBounds_toArray, List.set_cons_zero, List.set_cons_succ]
      refine wpAnyH_done (by kernel_rfl) ?_ _
      refine NoPanic.normal ?_
      have hxp := Hp.out.2.2
      have hbwp : Below w.heap.size w wp := HB.out.2.1.trans (((Below.refl w.heap.size wr).alloc HB.out.2.1.size (itemO x)).drew.trans Hp.out.2.1)
      have hszp : w.heap.size ≤ wp.heap.size := hbwp.size
      have c0p : wp.cell? ⟨nb, 0, none⟩ = some (.bool true) := (hbwp.cell hlt).trans c0
      have HBW := Lib.hid hbwp
      clear hbwp
      go_wp2
      have hxa : ((wp.alloc (.cells #[.int .u8 (x.v.size : Int)] 5)).drew).heap[wr.heap.size]? = some (itemO x) := (Below.heap_alloc _ _ _ (Array.getElem?_eq_some_iff.1 hxp).1).trans hxp
      have hSa := xcells hxa
      have HSa := Lib.hid hSa
      clear hSa
      refine wp_region_noPanic ?_
      refine wp_region_held_drew (S := (fun w' => w'.cell? ⟨wr.heap.size, 0, none⟩ = some (.string x.k) ∧ w'.cell? ⟨wr.heap.size, 1, none⟩ = some (.string x.v))) (by kernel_rfl) (xcells hxp) (fun hS => ?_)
      refine wpAnyH_take (i := 0) (v := ?_) rfl (by kernel_rfl) (by kernel_rfl) (by kernel_rfl) (fun _ _ _ h => h) (Or.inl ⟨by rfl, ?_⟩) hS ?_
      rotate_left
      · rintro w9 ⟨t0, t1⟩
        go_simp
        try with_reducible rfl
      try simp only [Act.put, List.getElem_toArray, List.getElem_cons_succ, List.getElem_cons_zero, List.setIfInBounds_toArray, List.set_cons_zero, List.set_cons_succ]
      refine wpAnyH_take (i := 1) (v := ?_) rfl (by kernel_rfl) (by kernel_rfl) (by kernel_rfl) (fun _ _ _ h => h) (Or.inl ⟨by rfl, ?_⟩) hS ?_
      rotate_left
      · rintro w9 ⟨t0, t1⟩
        go_simp
        try with_reducible rfl
      try simp only [Act.put, List.getElem_toArray, List.getElem_cons_succ, List.getElem_cons_zero, List.setIfInBounds_toArray, List.set_cons_zero, List.set_cons_succ]
      refine wpAnyH_take (i := 2) (v := ?_) rfl (by kernel_rfl) (by kernel_rfl) (by kernel_rfl) (fun _ _ _ h => h) (Or.inl ⟨by rfl, ?_⟩) hS ?_
      rotate_left
      · rintro w9 ⟨t0, t1⟩
        go_simp
        try with_reducible rfl
      try simp only [Act.put, List.getElem_toArray, List.getElem_cons_succ, List.getElem_cons_zero, List.setIfInBounds_toArray, List.set_cons_zero, List.set_cons_succ]
      refine wpAnyH_take (i := 3) (v := ?_) rfl (by kernel_rfl) (by kernel_rfl) (by kernel_rfl) (fun _ _ _ h => h) (Or.inl ⟨by rfl, ?_⟩) hS ?_
      rotate_left
      · rintro w9 ⟨t0, t1⟩
        go_simp
        try with_reducible rfl
      try simp only [Act.put, List.getElem_toArray, List.getElem_cons_succ, List.getElem_cons_zero, List.setIfInBounds_toArray, List.set_cons_zero, List.set_cons_succ]
      refine wpAnyH_take (i := 4) (v := ?_) rfl (by kernel_rfl) (by kernel_rfl) (by kernel_rfl) (fun _ _ _ h => h) (Or.inl ⟨by rfl, ?_⟩) hS ?_
      rotate_left
      · rintro w9 ⟨t0, t1⟩
        go_simp
        try with_reducible rfl
      try simp only [Act.put, List.getElem_toArray, List.getElem_cons_succ, List.getElem_cons_zero, List.setIfInBounds_toArray, List.set_cons_zero, List.set_cons_succ]
      refine wpAnyH_take (i := 7) (v := ?_) rfl (by kernel_rfl) (by kernel_rfl) (by kernel_rfl) (fun _ _ _ h => h) (Or.inl ⟨by rfl, ?_⟩) hS ?_
      rotate_left
      · rintro w9 ⟨t0, t1⟩
        go_simp
        try with_reducible rfl
      try simp only [Act.put, List.getElem_toArray, List.getElem_cons_succ, List.getElem_cons_zero, List.setIfInBounds_toArray, List.set_cons_zero, List.set_cons_succ]
      refine wpAnyH_take (i := 8) (v := ?_) rfl (by kernel_rfl) (by kernel_rfl) (by kernel_rfl) (fun _ _ _ h => h) (Or.inl ⟨by rfl, ?_⟩) hS ?_
      rotate_left
      · rintro w9 ⟨t0, t1⟩
        go_simp
        try with_reducible rfl
      try simp only [Act.put, List.getElem_toArray, List.getElem_cons_succ, List.getElem_cons_zero, List.setIfInBounds_toArray, List.set_cons_zero, List.set_cons_succ]
      refine wpAnyH_ready (rs := [5]) (by kernel_rfl) (by simp) ?_
      refine AllReadyH.cons rfl (fun K hK => ?_) AllReadyH.nil
      go_simp
      refine hK.out _ _ HSa.out (fun _ => ?_)
      clear hK K
      try simp only [Act.put, List.getElem_toArray, List.getElem_cons_succ, List.getElem_cons_zero, List.setIfInBounds_toArray, List.set_cons_zero, List.set_cons_succ]
      refine wpAnyH_ready (rs := [6]) (by kernel_rfl) (by simp) ?_
      refine AllReadyH.cons rfl (fun K hK => ?_) AllReadyH.nil
      refine step_app1 (W := wp.drew) (by rfl) (.tmp 61) (.tmp 66) (by rfl) w.heap.size p (l0 ++ [UInt8.ofNat x.k.size] ++ x.k.data.toList) (by rfl) (show Buf wp.drew w.heap.size p (l0 ++ [UInt8.ofNat x.k.size] ++ x.k.data.toList) from Hp.out.1) (x.v.size : Int) (UInt8.ofNat x.v.size) (by rw [UInt8.toNat_ofNat_of_lt' (by show x.v.size < 256; omega)]) _ 1 (by rfl) (by first | rfl | simp) (by simp; omega) hszp ?_
      intro qa wqa hBqa hbqa hgqa
      have hxqa : wqa.heap[wr.heap.size]? = some (itemO x) := (show Buf wp.drew w.heap.size p (l0 ++ [UInt8.ofNat x.k.size] ++ x.k.data.toList) from Hp.out.1).keep hgqa (show wp.drew.heap[wr.heap.size]? = some (itemO x) from hxp) rfl
      have HSqa := Lib.hid (xcells hxqa)
      refine hK.out _ _ HSqa.out (fun _ => ?_)
      clear hK K
      try simp only [Act.put, List.getElem_toArray, List.getElem_cons_succ, List.getElem_cons_zero, List.setIfInBounds_toArray, List.set_cons_zero, List.set_cons_succ]
      refine wpAnyH_ready (rs := [9]) (by kernel_rfl) (by simp) ?_
      refine AllReadyH.cons rfl (fun K hK => ?_) AllReadyH.nil
      refine step_appS (by rfl) (.tmp 67) (.tmp 69) (by rfl) w.heap.size qa ((l0 ++ [UInt8.ofNat x.k.size] ++ x.k.data.toList) ++ [UInt8.ofNat x.v.size]) (by rfl) hBqa x.v (by rfl) (by rw [List.length_append]; simp only [List.length_append, List.length_cons, List.length_nil]; simp; omega) (Nat.le_trans hszp hbqa.size) ?_
      intro q wq hBq hbq hgq
      have hxq : wq.heap[wr.heap.size]? = some (itemO x) := hBqa.keep hgq hxqa rfl
      have HSq := Lib.hid (xcells hxq)
      have Hq := Lib.hid (And.intro hBq (And.intro (hbqa.trans hbq) hxq))
      clear hBqa hbqa hgqa hxqa hBq hbq hgq hxq
      refine hK.out _ _ HSq.out (fun _ => ?_)
      clear hK K
      try simp only [Act.put, List.getElem_toArray, List.getElem_cons_succ, List.getElem_cons_zero, List.setIfInBounds_toArray, List.set_cons_zero, List.set_cons_succ]
      refine wpAnyH_take (i := 10) (v := ?_) rfl (by kernel_rfl) (by kernel_rfl) (by kernel_rfl) (fun _ _ _ h => h) (Or.inl ⟨by rfl, ?_⟩) HSq.out ?_
      rotate_left
      · rintro w9 ⟨t0, t1⟩
        go_simp
        try with_reducible rfl
      try simp only [Act.put, List.getElem_toArray, List.getElem_cons_succ, List.getElem_cons_zero, List.setIfInBounds_toArray, List.set_cons_zero, List.set_cons_succ]
      refine wpAnyH_done (by kernel_rfl) ?_ _
      refine NoPanic.normal ?_
      have hfin : Buf wq w.heap.size q ([1, UInt8.ofNat L.length] ++ (L.take (j + 1)).flatMap itemB) := by
        have h := Hq.out.1
        rw [HX.out.2.1, ← List.append_assoc, HX.out.2.2]
        have e : l0 ++ itemB x = l0 ++ [UInt8.ofNat x.k.size] ++ x.k.data.toList ++ [UInt8.ofNat x.v.size] ++ x.v.data.toList := by
          simp [itemB, lenB, List.append_assoc]
        rw [e]
        exact h
      have HF := Lib.hid (And.intro hfin (HBW.out.drew.trans Hq.out.2.1))
      clear hfin hxp
      go_wp2
      go_roundw
      case rel => exact ⟨j + 1, by omega, by go_num, HF.out.1, HF.out.2⟩
      case measure => simp [intOf]; omega
    · obtain rfl : j = L.length := by omega
      rw [List.take_of_length_le (Nat.le_refl _)] at hbuf
      have HF := Lib.hid (And.intro hbuf hbel)
      clear hbuf hbel
      go_wp2
      go_ret
      exact ⟨_, rfl, HF.out.1, HF.out.2⟩
end Go.Proofs.YtoejgkcaamkanaaGreatDoor

namespace Go.Proofs.YtoejgkcaamkanaaGreatDoor
open Go.RowKit

theorem zeroCells_one (z : Value) (n : Nat) (hz : z.cells = #[z]) : Builtin.zeroCells z.cells n = Array.replicate n z := by
  rw [hz]
  apply Array.ext
  · simp [Builtin.zeroCells]
  · intro i h1 h2
    simp [Builtin.zeroCells, Nat.mod_one]
theorem byteCells_zeros (k : Nat) : Lib.byteCells (List.replicate k 0) = List.replicate k (.int .u8 0) := by
  unfold Lib.byteCells
  rw [List.map_replicate]
  rfl

theorem growBy_le (n : Nat) (hn : n ≤ 4096) : ∀ r c, c ≤ 8192 → Builtin.growBy n r c ≤ 8192
  | 0, c, hc => hc
  | r + 1, c, hc => by
    rw [Builtin.growBy]
    split
    · exact hc
    · exact growBy_le n hn r _ (by omega)
theorem run_append_zeros {w : World} {B : Nat} {v : Value} {l : List UInt8} (h : Buf w B v l) (hl : 0 < l.length) (k : Nat) (hk : l.length + k ≤ 4096) (hB : B ≤ w.heap.size) (ty : TypeId) :
    ∃ v' w', (Builtin.append_ #[84, 3] ty #[v, .int .i64 k]).run Tryz.prog w = .ok v' w' ∧ Buf w' B v' (l ++ List.replicate k 0) ∧ Below B w w' := by
  obtain ⟨i0, hi, hz0, hz1, hz2⟩ := info_parts info_u8
  obtain ⟨hlen, h2⟩ := h
  rcases h2 with ⟨rfl, h0⟩ | ⟨g, cap, cur, rfl, hg, hh, hn, hcap, hsz, htk⟩
  · omega
  · have hlt : g < w.heap.size := (Array.getElem?_eq_some_iff.1 hh).1
    rw [Nat.mul_one] at hsz htk
    have hw : IntKind.i64.wrap (k : Int) = k := by rw [IntKind.wrap_i64]; omega
    have hr0 : l.length ≤ cap := hn
    by_cases hr : l.length + k ≤ cap
    · have hst := run_store_at Tryz.prog g l.length 5 (0, 0) (List.replicate k (Value.int .u8 0)) 0 cur w hh (.inl rfl) (by rw [List.length_replicate]; omega) (fun u hu => by rw [List.eq_of_mem_replicate hu]; rfl)
      refine ⟨.slice (some ⟨g, 0, none⟩) (l.length + k) cap, w.setRow g (cur.toList.take l.length ++ List.replicate k (Value.int .u8 0) ++ cur.toList.drop (l.length + k)).toArray, ?_, ?_, ?_⟩
      · have hneg : ¬ ((k : Int) < 0) := by omega
        have hbig : ¬ (281474976710656 < (k : Int) * (i0.bytes : Int)) := by rw [hz2]; omega
        have hadd : (⟨g, 0, none⟩ : Addr).add l.length = ⟨g, l.length, none⟩ := by unfold Addr.add; split <;> simp_all
        rw [List.length_replicate, Nat.add_zero] at hst
        have hz0' : (Builtin.zeroCells (Value.int .u8 0).cells k) = Array.replicate k (.int .u8 0) := zeroCells_one _ _ rfl
        by_cases hk0 : k = 0
        · subst hk0
          have hw0 : IntKind.i64.wrap 0 = 0 := by decide
          simp only [List.replicate_zero, Nat.add_zero] at hst
          simp [Builtin.append_, run_underlying Tryz.underlying84, run_underlying Tryz.underlying3, sizeOf, typeInfo, zeroValue, hi, hz0, hz1, hz2, asInt, asIntOf, hw0, hadd, hst, hr0]
        · have hbig' : ¬ (281474976710656 < (k : Int)) := by omega
          simp [Builtin.append_, run_underlying Tryz.underlying84, run_underlying Tryz.underlying3, sizeOf, typeInfo, zeroValue, hi, hz0, hz1, hz2, asInt, asIntOf, hw, hneg, hr, hk0, hbig', hadd]
          rw [hz0', Array.toList_replicate, hst]
          simp
      · have hl1 : (cur.toList.take l.length).length = l.length := by rw [List.length_take]; simp; omega
        refine ⟨by rw [byteCells_length, Nat.mul_one], .inr ⟨g, cap, _, by rw [List.length_append, List.length_replicate], hg, setRow_heap w g cur _ _ _ hh, by rw [List.length_append, List.length_replicate]; exact hr, hcap, ?_, ?_⟩⟩
        · simp
          omega
        · rw [Nat.mul_one, byteCells_append, byteCells_zeros, ← htk, List.length_append, List.length_replicate]
          simp only [List.append_assoc]
          rw [← List.append_assoc, List.take_append_of_le_length (by rw [List.length_append, hl1, List.length_replicate]; exact Nat.le_refl _), List.take_of_length_le (by rw [List.length_append, hl1, List.length_replicate]; exact Nat.le_refl _)]
      · exact below_setRow (Below.refl _ _) hg _
    · have hcell : ∀ j u, (Lib.byteCells l)[j]? = some u → w.drew.cell? ((⟨g, 0, none⟩ : Addr).add j) = some u := fun j u hu => by
        have hadd : (⟨g, 0, none⟩ : Addr).add j = ⟨g, j, none⟩ := by unfold Addr.add; split <;> simp_all
        rw [hadd, ← htk, List.getElem?_take] at *
        split at hu
        · show w.cell? _ = _
          unfold World.cell?
          simp only [hh]
          simpa using hu
        · cases hu
      have hold : (Builtin.firstCells i0.size l.length (.slice (some ⟨g, 0, none⟩) l.length cap)).run Tryz.prog w.drew = .ok (Lib.byteCells l).toArray w.drew := by
        have := run_loadCells_list (P := Tryz.prog) w.drew ⟨g, 0, none⟩ (Lib.byteCells l) hcell
        rw [byteCells_length] at this
        simp [Builtin.firstCells, hz1, this]
      have hfit : Builtin.nextslicecap (l.length + k) cap * i0.bytes ≤ 281474976710656 := by
        rw [hz2]
        unfold Builtin.nextslicecap
        split
        · omega
        · split
          · omega
          · have := growBy_le (l.length + k) hk 4 cap (by omega)
            omega
      have := Go.Lib.run_append_grow_zeros (P := Tryz.prog) w 84 3 ty 5 i0 (.int .u8 0) .i64 .i64 Tryz.underlying84 Tryz.underlying3 hi hz0 (some ⟨g, 0, none⟩) l.length cap (Lib.byteCells l) hold k (by omega) (by omega) (by omega) (by omega) (by rw [hz2]; omega) hfit
      refine ⟨_, _, this, ?_, ?_⟩
      · have hge := grownCap_ge w (l.length + k) cap 5
        have hz1' : (Builtin.zeroCells (Value.int .u8 0).cells k).size = k := by rw [zeroCells_one _ _ rfl]; simp
        have hz2' : (Builtin.zeroCells (Value.int .u8 0).cells (grownCap w (l.length + k) cap 5 - (l.length + k))).size = grownCap w (l.length + k) cap 5 - (l.length + k) := by rw [zeroCells_one _ _ rfl]; simp
        refine ⟨by rw [byteCells_length, Nat.mul_one], .inr ⟨w.heap.size, grownCap w (l.length + k) cap 5, _, by rw [List.length_append, List.length_replicate], hB, hnew w.drew _, by rw [List.length_append, List.length_replicate]; exact hge, grownCap_le_maxLen w _ _ _ (by unfold maxLen; omega), ?_, ?_⟩⟩
        · rw [Array.size_append, Array.size_append, hz1', hz2', List.size_toArray, byteCells_length]
          omega
        · rw [Nat.mul_one, byteCells_append, byteCells_zeros, List.length_append, List.length_replicate, Array.toList_append, Array.toList_append, zeroCells_one _ k rfl, Array.toList_replicate]
          have hl2 : (Lib.byteCells l ++ List.replicate k (Value.int .u8 0)).length = l.length + k := by rw [List.length_append, byteCells_length, List.length_replicate]
          rw [List.toList_toArray, List.take_append_of_le_length (by omega), List.take_of_length_le (by omega)]
      · exact (((Below.refl B w).drew).alloc hB _)
end Go.Proofs.YtoejgkcaamkanaaGreatDoor

namespace Go.Proofs.YtoejgkcaamkanaaGreatDoor
open Go.RowKit

theorem step_append_run {ops : Array Oper} {o : Oper} {a : Act} {K : Act → World → Prop} {Q : Exit → Act → World → Prop} {E : Prop} {w : World} (hgd : o.guard = none) (s x : Operand) (t tn : TypeId)
    (ho : o.op = .call { callee := .builtin .append, args := #[s, x], argTypes := #[t, tn] }) (vs vx : Value) (hs : a.eval s = vs) (hx : a.eval x = vx) (ty : TypeId) (hty : o.type = ty)
    (v' : Value) (w' : World) (hr : (Builtin.append_ #[t, tn] ty #[vs, vx]).run Tryz.prog w = .ok v' w') (h : K (a.put o.dst v') w') : if Region.wanted o (yielded ops a.tmps) = true then Oper.wp Tryz.prog o a w K Q else E := by
  have hw : Region.wanted o (yielded ops a.tmps) = true := by simp [Region.wanted, hgd]
  rw [if_pos hw]
  exact Go.Lib.wp_append_run w s x t tn ho vs vx hs hx v' w' (by rw [hty]; exact hr) h

set_option maxRecDepth 100000 in
set_option maxHeartbeats 2000000 in
theorem write_leaf {bs : Nat} {B : Base bs} {w : World} {tb ba root nb : Nat} {F : Nat → Prop} {R : Raw} {A : Option Addr} {c : Nat} {kv : Value} {L : List KV} (ht : w.heap[tb]? = some (treeO ba root)) (hA : ActIs B w ba F R) (hc : Cov B R) (htF : ¬ F tb) (p : Int) (hp : thereE R p = 0)
    (h : w.heap[nb]? = some (nodeO true (.slice A L.length c) kv)) (hr : ItemsR w A L) (hok : ∀ x ∈ L, x.ok) (hlen : (leafB L).length ≤ 512) (hn : L.length < 256) :
    Calls Tryz.prog 90 #[.pointer (some ⟨tb, 0, none⟩), .int .i64 p, .pointer (some ⟨nb, 0, none⟩)] w fun e w' => e = .returned (.tuple #[]) ∧ Step B ba w F (R.put p 0 (pageL (leafB L))) w' := by
  have hrng := thereE_rng hp
  have hpt : R.total < 4096 := hc.2
  have HB := Lib.hid (bytes_leaf h hr hok hn)
  obtain ⟨t0, t1⟩ := tree2 ht
  have H := Lib.hid (And.intro hA (And.intro hc (And.intro hp hlen)))
  clear hA hc hp h hr hok ht hlen
  go_enter Tryz.func90, Tryz.ntmps90
  go_wp2_with fail
  refine HB.out.mono ?_
  rintro e w1 ⟨v, rfl, hb1, hbel1⟩
  obtain ⟨A1, c1, rfl⟩ := hb1.slice
  have hlen := H.out.2.2.2
  obtain ⟨v2, w2, hap, hb2, hbel2⟩ := run_append_zeros (w := w1.drew) hb1.drew (by simp [leafB]) (512 - (leafB L).length) (by omega) (show w.heap.size ≤ w1.heap.size from hbel1.size) 84
  rw [show ((512 - (leafB L).length : Nat) : Int) = 512 - ((leafB L).length : Int) by omega] at hap
  have hs := hb2.string
  obtain ⟨A2, c2, rfl⟩ := hb2.slice
  have h512 : (leafB L ++ List.replicate (512 - (leafB L).length) (0 : UInt8)).length = 512 := by
    rw [List.length_append, List.length_replicate]
    omega
  rw [h512] at hap hs
  have hpz : (⟨(leafB L ++ List.replicate (512 - (leafB L).length) 0).toArray⟩ : ByteArray) = ⟨(pageL (leafB L)).toArray⟩ := rfl
  rw [hpz] at hs
  have hbel : Below w.heap.size w w2 := hbel1.drew.trans hbel2
  have s1 : w1.cell? ⟨tb, 0, none⟩ = some (.pointer (some ⟨ba, 0, none⟩)) := (hbel1.cell (World.block_lt_of_cell? w _ t0)).trans t0
  have s2 : w2.cell? ⟨tb, 0, none⟩ = some (.pointer (some ⟨ba, 0, none⟩)) := (hbel.cell (World.block_lt_of_cell? w _ t0)).trans t0
  have hsz : (⟨(pageL (leafB L)).toArray⟩ : ByteArray).size = 512 := by
    show (pageL (leafB L)).toArray.size = 512
    simpa using pageL_length hlen
  have HW := Lib.hid (write_any (H.out.1.below hbel) H.out.2.1 p ⟨by omega, by omega⟩ 0 ⟨(pageL (leafB L)).toArray⟩ (by omega) (by rw [hsz]; omega))
  have HBel := Lib.hid hbel
  generalize hnn : (leafB L).length = n at *
  have hn1 : ((n : Int)) ≤ 512 := by omega
  have hwn : IntKind.i64.wrap (512 - (n : Int)) = 512 - (n : Int) := by rw [IntKind.wrap_i64]; omega
  clear hb1 hbel1 hb2 hbel2 hbel HB hpz hsz t0 t1
  go_wp2
  refine wp_region_noPanic ?_
  refine wp_region_held_drew (S := (fun w' => w'.cell? ⟨tb, 0, none⟩ = some (.pointer (some ⟨ba, 0, none⟩)))) (by kernel_rfl) s1 (fun hS => ?_)
  refine wpAnyH_take (i := 0) (v := ?_) rfl (by kernel_rfl) (by kernel_rfl) (by kernel_rfl) (fun _ _ _ h => h) (Or.inl ⟨by rfl, ?_⟩) hS ?_
  rotate_left
  · intro w9 t0
    go_simp
    try with_reducible rfl
  try simp only [Act.put, List.getElem_toArray, List.getElem_cons_succ, List.getElem_cons_zero, List.setIfInBounds_toArray, List.set_cons_zero, List.set_cons_succ]
  refine wpAnyH_take (i := 1) (v := ?_) rfl (by kernel_rfl) (by kernel_rfl) (by kernel_rfl) (fun _ _ _ h => h) (Or.inl ⟨by rfl, ?_⟩) hS ?_
  rotate_left
  · intro w9 t0
    go_simp
    try with_reducible rfl
  try simp only [Act.put, List.getElem_toArray, List.getElem_cons_succ, List.getElem_cons_zero, List.setIfInBounds_toArray, List.set_cons_zero, List.set_cons_succ]
  refine wpAnyH_take (i := 2) (v := ?_) rfl (by kernel_rfl) (by kernel_rfl) (by kernel_rfl) (fun _ _ _ h => h) (Or.inl ⟨by rfl, ?_⟩) hS ?_
  rotate_left
  · intro w9 t0
    go_simp
    try with_reducible rfl
  try simp only [Act.put, List.getElem_toArray, List.getElem_cons_succ, List.getElem_cons_zero, List.setIfInBounds_toArray, List.set_cons_zero, List.set_cons_succ]
  refine wpAnyH_take (i := 3) (v := ?_) rfl (by kernel_rfl) (by kernel_rfl) (by kernel_rfl) (fun _ _ _ h => h) (Or.inl ⟨by rfl, ?_⟩) hS ?_
  rotate_left
  · intro w9 t0
    go_simp
    try with_reducible rfl
  try simp only [Act.put, List.getElem_toArray, List.getElem_cons_succ, List.getElem_cons_zero, List.setIfInBounds_toArray, List.set_cons_zero, List.set_cons_succ]
  refine wpAnyH_take (i := 4) (v := ?_) rfl (by kernel_rfl) (by kernel_rfl) (by kernel_rfl) (fun _ _ _ h => h) (Or.inl ⟨by rfl, ?_⟩) hS ?_
  rotate_left
  · intro w9 t0
    go_simp
    try with_reducible rfl
  try simp only [Act.put, List.getElem_toArray, List.getElem_cons_succ, List.getElem_cons_zero, List.setIfInBounds_toArray, List.set_cons_zero, List.set_cons_succ]
  refine wpAnyH_take (i := 5) (v := ?_) rfl (by kernel_rfl) (by kernel_rfl) (by kernel_rfl) (fun _ _ _ h => h) (Or.inl ⟨by rfl, ?_⟩) hS ?_
  rotate_left
  · intro w9 t0
    go_simp
    try with_reducible rfl
  try simp only [Act.put, List.getElem_toArray, List.getElem_cons_succ, List.getElem_cons_zero, List.setIfInBounds_toArray, List.set_cons_zero, List.set_cons_succ]
  refine wpAnyH_take (i := 6) (v := ?_) rfl (by kernel_rfl) (by kernel_rfl) (by kernel_rfl) (fun _ _ _ h => h) (Or.inl ⟨by rfl, ?_⟩) hS ?_
  rotate_left
  · intro w9 t0
    go_simp
    try with_reducible rfl
  try simp only [Act.put, List.getElem_toArray, List.getElem_cons_succ, List.getElem_cons_zero, List.setIfInBounds_toArray, List.set_cons_zero, List.set_cons_succ]
  refine wpAnyH_take (i := 7) (v := ?_) rfl (by kernel_rfl) (by kernel_rfl) (by kernel_rfl) (fun _ _ _ h => h) (Or.inl ⟨by rfl, ?_⟩) hS ?_
  rotate_left
  · intro w9 t0
    go_simp
    try with_reducible rfl
  try simp only [Act.put, List.getElem_toArray, List.getElem_cons_succ, List.getElem_cons_zero, List.setIfInBounds_toArray, List.set_cons_zero, List.set_cons_succ]
  refine wpAnyH_take (i := 8) (v := ?_) rfl (by kernel_rfl) (by kernel_rfl) (by kernel_rfl) (fun _ _ _ h => h) (Or.inl ⟨by rfl, ?_⟩) hS ?_
  rotate_left
  · intro w9 t0
    go_simp
    try with_reducible rfl
  try simp only [Act.put, List.getElem_toArray, List.getElem_cons_succ, List.getElem_cons_zero, List.setIfInBounds_toArray, List.set_cons_zero, List.set_cons_succ]
  refine wpAnyH_ready (rs := [9]) (by kernel_rfl) (by simp) ?_
  refine AllReadyH.cons rfl (fun K hK => ?_) AllReadyH.nil
  refine step_append_run (by rfl) (.tmp 14) (.tmp 17) 84 3 (by rfl) _ _ (by rfl) (by rfl) 84 (by rfl) _ _ hap ?_
  refine hK.out _ _ s2 (fun _ => ?_)
  clear hK K
  try simp only [Act.put, List.getElem_toArray, List.getElem_cons_succ, List.getElem_cons_zero, List.setIfInBounds_toArray, List.set_cons_zero, List.set_cons_succ]
  refine wpAnyH_ready (rs := [10]) (by kernel_rfl) (by simp) ?_
  refine AllReadyH.cons rfl (fun K hK => ?_) AllReadyH.nil
  go_simp
  refine hK.out _ _ s2 (fun _ => ?_)
  clear hK K
  try simp only [Act.put, List.getElem_toArray, List.getElem_cons_succ, List.getElem_cons_zero, List.setIfInBounds_toArray, List.set_cons_zero, List.set_cons_succ]
  refine wpAnyH_ready (rs := [11]) (by kernel_rfl) (by simp) ?_
  refine AllReadyH.cons rfl (fun K hK => ?_) AllReadyH.nil
  go_simp
  refine HW.out.mono ?_
  rintro e w3 ⟨rfl, hst⟩
  have s3 : w3.cell? ⟨tb, 0, none⟩ = some (.pointer (some ⟨ba, 0, none⟩)) := by
    obtain ⟨F', _, _, ho⟩ := hst
    exact ho.cell s2 htF
  have HS := Lib.hid (show Step B ba w F (R.put p 0 (pageL (leafB L))) w3 from by
    have h := hst
    rw [writeR, if_pos H.out.2.2.1] at h
    exact Step.trans (Off.of_below HBel.out) (fun _ _ h => h) h)
  clear hst
  refine hK.out _ _ s3 (fun _ => ?_)
  clear hK K
  try simp only [Act.put, List.getElem_toArray, List.getElem_cons_succ, List.getElem_cons_zero, List.setIfInBounds_toArray, List.set_cons_zero, List.set_cons_succ]
  refine wpAnyH_done (by kernel_rfl) ?_ _
  refine NoPanic.normal ?_
  go_wp2
  exact Great.bodyPost_end0 rfl rfl ⟨rfl, HS.out⟩
end Go.Proofs.YtoejgkcaamkanaaGreatDoor
