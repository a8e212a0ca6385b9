/- does: one call on the catalog and on the list. does' walk. catalog.New; two; the reference's For. awake. made: a catalog is made, or refused. -/
import Derived.Test.YtiakepcgalmjfaaGreatQ24
import Derived.Test.YtiakepcgalmjfaaGreatQ17
set_option linter.unusedVariables false
set_option linter.unusedSimpArgs false
namespace Go.Proofs.YtiakepcgalmjfaaGreat
open Go.RowKit

abbrev opV (q : Int) (x : Xi) : Value := .agg #[.int .i64 q, .string x.name, .string x.meth, .int .i64 x.col, .bool x.uniq, .int .i64 x.state]
abbrev opO (q : Int) (x : Xi) : Obj := .cells #[.int .i64 q, .string x.name, .string x.meth, .int .i64 x.col, .bool x.uniq, .int .i64 x.state] 37
theorem op6 {w : World} {g : Nat} {q : Int} {x : Xi} (h : w.heap[g]? = some (opO q x)) : w.cell? ⟨g, 0, none⟩ = some (.int .i64 q) ∧ w.cell? ⟨g, 1, none⟩ = some (.string x.name) ∧ w.cell? ⟨g, 2, none⟩ = some (.string x.meth) ∧ w.cell? ⟨g, 3, none⟩ = some (.int .i64 x.col) ∧ w.cell? ⟨g, 4, none⟩ = some (.bool x.uniq) ∧ w.cell? ⟨g, 5, none⟩ = some (.int .i64 x.state) := by
  refine ⟨?_, ?_, ?_, ?_, ?_, ?_⟩ <;> (unfold World.cell?; rw [h]; rfl)
/-- A row of indexes that is apart from F. -/
structure Li (w : World) (F : Nat → Prop) (A : Option Addr) (l : List Xi) : Prop where
  row : IxR w A l
  nF : l ≠ [] → ∀ b off, A = some ⟨b, off, none⟩ → ¬ F b
theorem IxR.lt {w : World} {A : Option Addr} {l : List Xi} (h : IxR w A l) (hl : l ≠ []) {b off : Nat} (ha : A = some ⟨b, off, none⟩) : b < w.heap.size := by
  rcases h with h | ⟨b', off', h1, h2⟩
  · exact absurd h hl
  · rw [h1] at ha
    simp only [Option.some.injEq, Addr.mk.injEq] at ha
    obtain ⟨rfl, rfl, _⟩ := ha
    exact World.block_lt_of_cell? _ _ (h2 0 (List.length_pos_iff.2 hl)).1
theorem Li.off {w w' : World} {F F' : Nat → Prop} {A : Option Addr} {l : List Xi} (h : Li w F A l) (ho : Off F w w') (hF : ∀ k, k < w.heap.size → F' k → F k) : Li w' F' A l := by
  refine ⟨?_, fun hl b off ha e => h.nF hl b off ha (hF b (h.row.lt hl ha) e)⟩
  rcases h.row with h0 | ⟨b, off, ha, hc⟩
  · exact .inl h0
  · by_cases hl : l = []
    · exact .inl hl
    · have hn := h.nF hl b off ha
      exact .inr ⟨b, off, ha, fun i hi => ⟨ho.cell (hc i hi).1 hn, ho.cell (hc i hi).2.1 hn, ho.cell (hc i hi).2.2.1 hn, ho.cell (hc i hi).2.2.2.1 hn, ho.cell (hc i hi).2.2.2.2 hn⟩⟩
theorem Li.below {w w' : World} {F : Nat → Prop} {A : Option Addr} {l : List Xi} (h : Li w F A l) (hb : Below w.heap.size w w') : Li w' F A l := ⟨h.row.below hb, h.nF⟩
theorem xiRows.li {w w' : World} {F : Nat → Prop} {v : Value} {l : List Xi} (h : xiRows w' w.heap.size v l) (hF : ∀ k, F k → k < w.heap.size) : ∃ A c, v = .slice A l.length c ∧ Li w' F A l := by
  obtain ⟨A, c, rfl⟩ := h.slice
  refine ⟨A, c, rfl, h.read, fun hl b off ha e => ?_⟩
  subst ha
  rcases h.2 with ⟨e', h0⟩ | ⟨g', cap, cur, e', hg', _⟩
  · cases e'
  · simp only [Value.slice.injEq, Option.some.injEq, Addr.mk.injEq] at e'
    obtain ⟨⟨rfl, rfl, _⟩, _, _⟩ := e'
    have := hF _ e
    omega
/-- While does goes. -/
structure Dw {bs : Nat} (B : Base bs) (w : World) (gb ba tb : Nat) (F : Nat → Prop) (cols : List Co) (b : Nat) (q : Int) (x : Xi) (ac A : Option Addr) (l : List Xi) (X' : List KV) (wi : World) (Fi : Nat → Prop) (Ri : Raw) : Prop where
  pl : Pl B wi gb ba tb Fi cols X' Ri
  box : wi.heap[b]? = some (opO q x)
  nF : ¬ Fi b
  yF : ∀ k, k < w.heap.size → Fi k → F k
  off : Off F w wi
  par : ColIs wi ac cols
  parF : ∀ b off, ac = some ⟨b, off, none⟩ → ¬ Fi b
  li : Li wi Fi A l
section
variable {bs : Nat} {B : Base bs} {w wi wj : World} {gb ba tb b : Nat} {F Fi : Nat → Prop} {cols : List Co} {q : Int} {x : Xi} {ac A : Option Addr} {l : List Xi} {X X' X'' : List KV} {R Ri : Raw}
theorem Dw.below (h : Dw B w gb ba tb F cols b q x ac A l X' wi Fi Ri) (hb : Below wi.heap.size wi wj) : Dw B w gb ba tb F cols b q x ac A l X' wj Fi Ri :=
  ⟨h.pl.below hb, (hb.block b (Array.getElem?_eq_some_iff.1 h.box).1).trans h.box, h.nF, h.yF, h.off.trans (Off.of_below hb (F := fun _ => False)) (fun _ _ e => e.elim), h.par.below hb, h.parF, h.li.below hb⟩
theorem Dw.step (h : Dw B w gb ba tb F cols b q x ac A l X' wi Fi Ri) (hs : PlS B gb ba tb wi Fi cols X'' wj) : ∃ Fj Rj, Dw B w gb ba tb F cols b q x ac A l X'' wj Fj Rj := by
  obtain ⟨Fj, Rj, hp, hF, ho⟩ := hs
  have hlt := (Array.getElem?_eq_some_iff.1 h.box).1
  exact ⟨Fj, Rj, hp, (ho.block b hlt h.nF).trans h.box, fun e => h.nF (hF b hlt e), fun k hk e => h.yF k hk (hF k (Nat.lt_of_lt_of_le hk h.off.size) e), h.off.trans ho (fun k hk e => h.yF k hk e), h.par.off ho h.parF,
    fun b' off' ha e => h.parF b' off' ha (hF b' (h.par.lt (colsB_facts h.pl.good).1 ha) e), h.li.off ho hF⟩
theorem Dw.begin_ (h : Pl B w gb ba tb F cols X R) (hp : ColIs w ac cols) (hpF : ∀ b off, ac = some ⟨b, off, none⟩ → ¬ F b) (hl : Li w F A l) (q : Int) (x : Xi) : Dw B w gb ba tb F cols w.heap.size q x ac A l X (w.alloc (opO q x)) F R := by
  have hb : Below w.heap.size w (w.alloc (opO q x)) := by go_grown
  exact ⟨h.below hb, hnew w _, fun e => by have := h.cat.act.1 _ e; omega, fun _ _ e => e, Off.of_below hb, hp.below hb, hpF, hl.below hb⟩
end
/-- What does tells: the list goes on as the catalog does. -/
def DoesP {bs : Nat} (B : Base bs) (w : World) (gb ba tb : Nat) (F : Nat → Prop) (cols : List Co) (e : Ending) (w' : World) : Prop :=
  ∃ A' c' X' F' R', e = .returned (.tuple #[.slice A' (X'.map xiOf).length c', .bool true]) ∧ Pl B w' gb ba tb F' cols X' R' ∧ (∀ k, k < w.heap.size → F' k → F k) ∧ Off F w w' ∧ Li w' F' A' (X'.map xiOf)
section
variable {bs : Nat} {B : Base bs} {w wi wj : World} {gb ba tb b : Nat} {F Fi : Nat → Prop} {cols : List Co} {q : Int} {x : Xi} {ac A : Option Addr} {l : List Xi} {X X' X'' : List KV} {R Ri : Raw}
theorem Dw.out (h : Dw B w gb ba tb F cols b q x ac A l X' wi Fi Ri) {e : Ending} {A' : Option Addr} {c' : Nat} (he : e = .returned (.tuple #[.slice A' (X'.map xiOf).length c', .bool true])) (hl : Li wi Fi A' (X'.map xiOf)) : DoesP B w gb ba tb F cols e wi :=
  ⟨A', c', X', Fi, Ri, he, h.pl, h.yF, h.off, hl⟩
end
end Go.Proofs.YtiakepcgalmjfaaGreat

namespace Go.Proofs.YtiakepcgalmjfaaGreat
open Go.RowKit

set_option maxRecDepth 100000 in
set_option maxHeartbeats 8000000 in
theorem does_one {bs : Nat} {B : Base bs} {w : World} {gb ba tb : Nat} {F : Nat → Prop} {cols : List Co} {X : List KV} {R : Raw} (h : Pl B w gb ba tb F cols X R) (x : Xi) (ac A : Option Addr) (cc c : Nat) (hp : ColIs w ac cols) (hpF : ∀ b off, ac = some ⟨b, off, none⟩ → ¬ F b) (hl : Li w F A (X.map xiOf)) (hs : x.name.size ≤ 9223372036854775807) :
    Calls Tryz.prog 7 #[.pointer (some ⟨gb, 0, none⟩), .slice ac cols.length cc, .slice A (X.map xiOf).length c, opV 1 x] w fun e w' => DoesP B w gb ba tb F cols e w' := by
  have H0 := Lib.hid (Dw.begin_ h hp hpF hl 1 x)
  have h6 : (X.map xiOf).length ≤ 65536 := by
    have := h.ok.six
    rw [List.length_map]
    omega
  have hc4 := (colsB_facts h.good).2.1
  have HFi := Lib.hid (rfind_any (X.map xiOf) A c x.name _ H0.out.li.row (by omega))
  have HRf := Lib.hid (fun (wi : World) (h1 : ColIs wi ac cols) (h2 : IxR wi A (X.map xiOf)) => refused_any cols ac cc (X.map xiOf) A c x wi h1 h2 (by omega) (by omega) hs)
  have HAd := Lib.hid (fun (wi : World) (h2 : IxR wi A (X.map xiOf)) => radd_any (X.map xiOf) A c x wi h2 h6)
  obtain ⟨b0, b1, b2, b3, b4, b5⟩ := op6 H0.out.box
  have HD := Lib.hid (H0.out.below ((Below.refl _ (w.alloc (opO 1 x))).drew))
  have HPA := Lib.hid (fun wi Fi Ri (hpl : Pl B wi gb ba tb Fi cols X Ri) => hpl.add x)
  generalize hll : X.map xiOf = l at *
  have HL := Lib.hid hll
  obtain ⟨fi, hfi⟩ : ∃ fi, findXi l x.name = fi := ⟨_, rfl⟩
  rw [hfi] at HFi
  obtain ⟨rv, hrv⟩ : ∃ rv, refX cols l x = rv := ⟨_, rfl⟩
  rw [hrv] at HRf HPA
  have hS0 := Lib.hid (op6 H0.out.box)
  clear h hp hpF hl hs h6 hc4 hll hfi hrv
  go_enter Tryz.func7, Tryz.ntmps7
  go_wp2_with fail
  refine HFi.out.mono ?_
  rintro e w1 ⟨rfl, rfl⟩
  clear HFi
  go_wp2
  refine wp_region_noPanic ?_
  refine wp_region_held_drew (S := (fun w' => w'.cell? ⟨w.heap.size, 0, none⟩ = some (.int .i64 1) ∧ w'.cell? ⟨w.heap.size, 1, none⟩ = some (.string x.name) ∧ w'.cell? ⟨w.heap.size, 2, none⟩ = some (.string x.meth) ∧ w'.cell? ⟨w.heap.size, 3, none⟩ = some (.int .i64 x.col) ∧ w'.cell? ⟨w.heap.size, 4, none⟩ = some (.bool x.uniq) ∧ w'.cell? ⟨w.heap.size, 5, none⟩ = some (.int .i64 x.state))) (by kernel_rfl) hS0.out (fun hS => ?_)
  refine wpAnyH_take (i := 0) (v := ?_) rfl (by kernel_rfl) (by kernel_rfl) (by kernel_rfl) (fun _ _ _ h => h) (Or.inl ⟨by rfl, ?_⟩) hS ?_
  rotate_left
  · rintro w9 ⟨t0, t1, t2, t3, t4, t5⟩
    go_simp
    try with_reducible rfl
  try simp only [Act.put, List.getElem_toArray, List.getElem_cons_succ, List.getElem_cons_zero, List.setIfInBounds_toArray, List.set_cons_zero, List.set_cons_succ]
  refine wpAnyH_take (i := 1) (v := ?_) rfl (by kernel_rfl) (by kernel_rfl) (by kernel_rfl) (fun _ _ _ h => h) (Or.inl ⟨by rfl, ?_⟩) hS ?_
  rotate_left
  · rintro w9 ⟨t0, t1, t2, t3, t4, t5⟩
    go_simp
    try with_reducible rfl
  try simp only [Act.put, List.getElem_toArray, List.getElem_cons_succ, List.getElem_cons_zero, List.setIfInBounds_toArray, List.set_cons_zero, List.set_cons_succ]
  refine wpAnyH_take (i := 2) (v := ?_) rfl (by kernel_rfl) (by kernel_rfl) (by kernel_rfl) (fun _ _ _ h => h) (Or.inl ⟨by rfl, ?_⟩) hS ?_
  rotate_left
  · rintro w9 ⟨t0, t1, t2, t3, t4, t5⟩
    go_simp
    try with_reducible rfl
  try simp only [Act.put, List.getElem_toArray, List.getElem_cons_succ, List.getElem_cons_zero, List.setIfInBounds_toArray, List.set_cons_zero, List.set_cons_succ]
  refine wpAnyH_take (i := 4) (v := ?_) rfl (by kernel_rfl) (by kernel_rfl) (by kernel_rfl) (fun _ _ _ h => h) (Or.inl ⟨by rfl, ?_⟩) hS ?_
  rotate_left
  · rintro w9 ⟨t0, t1, t2, t3, t4, t5⟩
    go_simp
    try with_reducible rfl
  try simp only [Act.put, List.getElem_toArray, List.getElem_cons_succ, List.getElem_cons_zero, List.setIfInBounds_toArray, List.set_cons_zero, List.set_cons_succ]
  refine wpAnyH_take (i := 5) (v := ?_) rfl (by kernel_rfl) (by kernel_rfl) (by kernel_rfl) (fun _ _ _ h => h) (Or.inl ⟨by rfl, ?_⟩) hS ?_
  rotate_left
  · rintro w9 ⟨t0, t1, t2, t3, t4, t5⟩
    go_simp
    try with_reducible rfl
  try simp only [Act.put, List.getElem_toArray, List.getElem_cons_succ, List.getElem_cons_zero, List.setIfInBounds_toArray, List.set_cons_zero, List.set_cons_succ]
  refine wpAnyH_take (i := 6) (v := ?_) rfl (by kernel_rfl) (by kernel_rfl) (by kernel_rfl) (fun _ _ _ h => h) (Or.inl ⟨by rfl, ?_⟩) hS ?_
  rotate_left
  · rintro w9 ⟨t0, t1, t2, t3, t4, t5⟩
    go_simp
    try with_reducible rfl
  try simp only [Act.put, List.getElem_toArray, List.getElem_cons_succ, List.getElem_cons_zero, List.setIfInBounds_toArray, List.set_cons_zero, List.set_cons_succ]
  refine wpAnyH_take (i := 7) (v := ?_) rfl (by kernel_rfl) (by kernel_rfl) (by kernel_rfl) (fun _ _ _ h => h) (Or.inl ⟨by rfl, ?_⟩) hS ?_
  rotate_left
  · rintro w9 ⟨t0, t1, t2, t3, t4, t5⟩
    go_simp
    try with_reducible rfl
  try simp only [Act.put, List.getElem_toArray, List.getElem_cons_succ, List.getElem_cons_zero, List.setIfInBounds_toArray, List.set_cons_zero, List.set_cons_succ]
  refine wpAnyH_ready (rs := [3]) (by kernel_rfl) (by simp) ?_
  refine AllReadyH.cons rfl (fun K hK => ?_) AllReadyH.nil
  go_simp
  refine (HPA.out _ _ _ HD.out.pl).mono ?_
  rintro e w2 ⟨rfl, hs2⟩
  have HX := Lib.hid (show ∃ X2 F2 R2, Dw B w gb ba tb F cols w.heap.size 1 x ac A l X2 w2 F2 R2 ∧ ((rv ≠ 0 ∧ X2 = X) ∨ (rv = 0 ∧ X2.map xiOf = addXi l x)) by
    rcases hs2 with ⟨hr, hs2⟩ | ⟨hr, X', hm, hs2⟩
    · obtain ⟨F2, R2, h2⟩ := HD.out.step hs2
      exact ⟨_, F2, R2, h2, .inl ⟨hr, rfl⟩⟩
    · obtain ⟨F2, R2, h2⟩ := HD.out.step hs2
      exact ⟨_, F2, R2, h2, .inr ⟨hr, hm⟩⟩)
  clear hs2
  obtain ⟨X2, F2, R2, h2, hx2⟩ := HX.out
  have hS2 := op6 h2.box
  have HR2 := Lib.hid (HRf.out _ h2.par h2.li.row)
  have H2 := Lib.hid (And.intro h2 hx2)
  clear h2 hx2 HX
  refine hK.out _ _ hS2 (fun _ => ?_)
  clear hK K
  try simp only [Act.put, List.getElem_toArray, List.getElem_cons_succ, List.getElem_cons_zero, List.setIfInBounds_toArray, List.set_cons_zero, List.set_cons_succ]
  refine wpAnyH_ready (rs := [8]) (by kernel_rfl) (by simp) ?_
  refine AllReadyH.cons rfl (fun K hK => ?_) AllReadyH.nil
  go_simp
  refine HR2.out.mono ?_
  rintro e w3 ⟨rfl, hb3⟩
  have h3 := H2.out.1.below hb3
  have hS3 := op6 h3.box
  have HAd3 := Lib.hid (HAd.out w3 h3.li.row)
  have H3 := Lib.hid (And.intro h3 H2.out.2)
  clear h3 hb3 HR2 H2
  refine hK.out _ _ hS3 (fun _ => ?_)
  clear hK K
  try simp only [Act.put, List.getElem_toArray, List.getElem_cons_succ, List.getElem_cons_zero, List.setIfInBounds_toArray, List.set_cons_zero, List.set_cons_succ]
  refine wpAnyH_take (i := 9) (v := ?_) rfl (by kernel_rfl) (by kernel_rfl) (by kernel_rfl) (fun _ _ _ h => h) (Or.inl ⟨by rfl, ?_⟩) hS3 ?_
  rotate_left
  · rintro w9 ⟨t0, t1, t2, t3, t4, t5⟩
    go_simp
    try with_reducible rfl
  try simp only [Act.put, List.getElem_toArray, List.getElem_cons_succ, List.getElem_cons_zero, List.setIfInBounds_toArray, List.set_cons_zero, List.set_cons_succ]
  refine wpAnyH_take (i := 10) (v := ?_) rfl (by kernel_rfl) (by kernel_rfl) (by kernel_rfl) (fun _ _ _ h => h) (Or.inl ⟨by rfl, ?_⟩) hS3 ?_
  rotate_left
  · rintro w9 ⟨t0, t1, t2, t3, t4, t5⟩
    go_simp
    try with_reducible rfl
  try simp only [Act.put, List.getElem_toArray, List.getElem_cons_succ, List.getElem_cons_zero, List.setIfInBounds_toArray, List.set_cons_zero, List.set_cons_succ]
  refine wpAnyH_done (by kernel_rfl) ?_ _
  refine NoPanic.normal ?_
  by_cases hr0 : rv = 0
  · subst hr0
    go_wp2_with fail
    refine HAd3.out.mono ?_
    rintro e w4 ⟨v, rfl, hrow, hlo, hb4⟩
    have h4 := H3.out.1.below hb4
    obtain ⟨A', c', rfl, hli⟩ := xiRows.li hrow (fun k hk => H3.out.1.pl.cat.act.1 k hk)
    have H4 := Lib.hid (And.intro h4 hli)
    clear h4 hli hrow hlo hb4
    go_wp2
    go_ret2
    have hm : X2.map xiOf = addXi l x := (H3.out.2.resolve_left (fun e => e.1 rfl)).2
    exact H4.out.1.out (A' := A') (c' := c') (by rw [hm]; rfl) (by rw [hm]; exact H4.out.2)
  · go_wp2
    go_ret2
    obtain ⟨_, hm⟩ := H3.out.2.resolve_right (fun e => hr0 e.1)
    subst hm
    exact H3.out.1.out (A' := A) (c' := c) (by rw [HL.out]; rfl) (by rw [HL.out]; exact H3.out.1.li)

set_option maxRecDepth 100000 in
set_option maxHeartbeats 8000000 in
theorem does_two {bs : Nat} {B : Base bs} {w : World} {gb ba tb : Nat} {F : Nat → Prop} {cols : List Co} {X : List KV} {R : Raw} (h : Pl B w gb ba tb F cols X R) (x : Xi) (ac A : Option Addr) (cc c : Nat) (hp : ColIs w ac cols) (hpF : ∀ b off, ac = some ⟨b, off, none⟩ → ¬ F b) (hl : Li w F A (X.map xiOf)) (hs : x.name.size ≤ 9223372036854775807) :
    Calls Tryz.prog 7 #[.pointer (some ⟨gb, 0, none⟩), .slice ac cols.length cc, .slice A (X.map xiOf).length c, opV 2 x] w fun e w' => DoesP B w gb ba tb F cols e w' := by
  have H0 := Lib.hid (Dw.begin_ h hp hpF hl 2 x)
  have h6 : (X.map xiOf).length ≤ 65536 := by
    have := h.ok.six
    rw [List.length_map]
    omega
  have HFi := Lib.hid (rfind_any (X.map xiOf) A c x.name _ H0.out.li.row (by omega))
  have HSe := Lib.hid (fun (wi : World) (h2 : IxR wi A (X.map xiOf)) (hf : 0 ≤ findXi (X.map xiOf) x.name) => rset_any (X.map xiOf) A c x.name x.state wi h2 h6 hf)
  obtain ⟨b0, b1, b2, b3, b4, b5⟩ := op6 H0.out.box
  have HPA := Lib.hid (fun wi Fi Ri (hpl : Pl B wi gb ba tb Fi cols X Ri) => hpl.set x.name x.state)
  generalize hll : X.map xiOf = l at *
  have HL := Lib.hid hll
  obtain ⟨fi, hfi⟩ : ∃ fi, findXi l x.name = fi := ⟨_, rfl⟩
  rw [hfi] at HFi HPA HSe
  obtain ⟨st, hst⟩ : ∃ st, x.state = st := ⟨_, rfl⟩
  rw [hst] at b5 HPA HSe
  clear h hp hpF hl hs h6 hll hfi
  have HST := Lib.hid hst
  clear hst
  go_enter Tryz.func7, Tryz.ntmps7
  go_wp2_with fail
  refine HFi.out.mono ?_
  rintro e w1 ⟨rfl, rfl⟩
  clear HFi
  go_wp2_with fail
  refine (HPA.out _ _ _ H0.out.pl).mono ?_
  rintro e w2 (⟨hf, rfl, hs2⟩ | ⟨hf, hk, rfl, hs2⟩ | ⟨hf, hk, rfl, X2, hm, hs2⟩)
  · obtain ⟨F2, R2, h2⟩ := H0.out.step hs2
    have H2 := Lib.hid h2
    obtain ⟨b0, b1, b2, b3, b4, b5⟩ := op6 h2.box
    rw [HST.out] at b5
    clear h2 hs2
    go_wp2
    go_ret2
    exact H2.out.out (A' := A) (c' := c) (by rw [HL.out]; rfl) (by rw [HL.out]; exact H2.out.li)
  · obtain ⟨F2, R2, h2⟩ := H0.out.step hs2
    have H2 := Lib.hid h2
    obtain ⟨b0, b1, b2, b3, b4, b5⟩ := op6 h2.box
    rw [HST.out] at b5
    clear h2 hs2
    have hf' : ¬ fi < 0 := by omega
    by_cases h1 : st < 1
    · clear hk hf
      go_wp2
      go_ret2
      exact H2.out.out (A' := A) (c' := c) (by rw [HL.out]; rfl) (by rw [HL.out]; exact H2.out.li)
    · have h3 : 3 < st := by omega
      clear hk hf
      go_wp2
      go_ret2
      exact H2.out.out (A' := A) (c' := c) (by rw [HL.out]; rfl) (by rw [HL.out]; exact H2.out.li)
  · obtain ⟨F2, R2, h2⟩ := H0.out.step hs2
    have HS3 := Lib.hid (HSe.out _ h2.li.row hf)
    have H2 := Lib.hid (And.intro h2 hm)
    obtain ⟨b0, b1, b2, b3, b4, b5⟩ := op6 h2.box
    rw [HST.out] at b5
    have hf' : ¬ fi < 0 := by omega
    have h1 : ¬ st < 1 := by omega
    have h3 : ¬ 3 < st := by omega
    clear h2 hs2 hk hf hm
    go_wp2_with fail
    refine HS3.out.mono ?_
    rintro e w4 ⟨v, rfl, hrow, hb4⟩
    have h4 := H2.out.1.below hb4
    obtain ⟨A', c', rfl, hli⟩ := xiRows.li hrow (fun k hk => H2.out.1.pl.cat.act.1 k hk)
    have H4 := Lib.hid (And.intro h4 hli)
    clear h4 hli hrow hb4
    go_wp2
    go_ret2
    exact H4.out.1.out (A' := A') (c' := c') (by rw [H2.out.2]; rfl) (by rw [H2.out.2]; exact H4.out.2)

set_option maxRecDepth 100000 in
set_option maxHeartbeats 8000000 in
theorem does_three {bs : Nat} {B : Base bs} {w : World} {gb ba tb : Nat} {F : Nat → Prop} {cols : List Co} {X : List KV} {R : Raw} (h : Pl B w gb ba tb F cols X R) (x : Xi) (ac A : Option Addr) (cc c : Nat) (hp : ColIs w ac cols) (hpF : ∀ b off, ac = some ⟨b, off, none⟩ → ¬ F b) (hl : Li w F A (X.map xiOf)) (hs : x.name.size ≤ 9223372036854775807) :
    Calls Tryz.prog 7 #[.pointer (some ⟨gb, 0, none⟩), .slice ac cols.length cc, .slice A (X.map xiOf).length c, opV 3 x] w fun e w' => DoesP B w gb ba tb F cols e w' := by
  have H0 := Lib.hid (Dw.begin_ h hp hpF hl 3 x)
  have h6 : (X.map xiOf).length ≤ 65536 := by
    have := h.ok.six
    rw [List.length_map]
    omega
  have HFi := Lib.hid (rfind_any (X.map xiOf) A c x.name _ H0.out.li.row (by omega))
  have HSe := Lib.hid (fun (wi : World) (h2 : IxR wi A (X.map xiOf)) => rdrop_any (X.map xiOf) A c x.name wi h2 h6)
  obtain ⟨b0, b1, b2, b3, b4, b5⟩ := op6 H0.out.box
  have HPA := Lib.hid (fun wi Fi Ri (hpl : Pl B wi gb ba tb Fi cols X Ri) => hpl.drop x.name)
  generalize hll : X.map xiOf = l at *
  have HL := Lib.hid hll
  obtain ⟨fi, hfi⟩ : ∃ fi, findXi l x.name = fi := ⟨_, rfl⟩
  rw [hfi] at HFi HPA
  clear h hp hpF hl hs h6 hll hfi
  go_enter Tryz.func7, Tryz.ntmps7
  go_wp2_with fail
  refine HFi.out.mono ?_
  rintro e w1 ⟨rfl, rfl⟩
  clear HFi
  go_wp2_with fail
  refine (HPA.out _ _ _ H0.out.pl).mono ?_
  rintro e w2 (⟨hf, rfl, hs2⟩ | ⟨hf, rfl, X2, hm, hs2⟩)
  · obtain ⟨F2, R2, h2⟩ := H0.out.step hs2
    have H2 := Lib.hid h2
    obtain ⟨b0, b1, b2, b3, b4, b5⟩ := op6 h2.box
    clear h2 hs2
    go_wp2
    go_ret2
    exact H2.out.out (A' := A) (c' := c) (by rw [HL.out]; rfl) (by rw [HL.out]; exact H2.out.li)
  · obtain ⟨F2, R2, h2⟩ := H0.out.step hs2
    have HS3 := Lib.hid (HSe.out _ h2.li.row)
    have H2 := Lib.hid (And.intro h2 hm)
    obtain ⟨b0, b1, b2, b3, b4, b5⟩ := op6 h2.box
    have hf' : ¬ fi < 0 := by omega
    clear h2 hs2 hf hm
    go_wp2_with fail
    refine HS3.out.mono ?_
    rintro e w4 ⟨v, rfl, hrow, hb4⟩
    have h4 := H2.out.1.below hb4
    obtain ⟨A', c', rfl, hli⟩ := xiRows.li hrow (fun k hk => H2.out.1.pl.cat.act.1 k hk)
    have H4 := Lib.hid (And.intro h4 hli)
    clear h4 hli hrow hb4
    go_wp2
    go_ret2
    exact H4.out.1.out (A' := A') (c' := c') (by rw [H2.out.2]; rfl) (by rw [H2.out.2]; exact H4.out.2)

set_option maxRecDepth 100000 in
set_option maxHeartbeats 8000000 in
theorem does_else {bs : Nat} {B : Base bs} {w : World} {gb ba tb : Nat} {F : Nat → Prop} {cols : List Co} {X : List KV} {R : Raw} (h : Pl B w gb ba tb F cols X R) (x : Xi) (ac A : Option Addr) (cc c : Nat) (hp : ColIs w ac cols) (hpF : ∀ b off, ac = some ⟨b, off, none⟩ → ¬ F b) (hl : Li w F A (X.map xiOf)) (hs : x.name.size ≤ 9223372036854775807) (q : Int) (h1 : q ≠ 1) (h2 : q ≠ 2) (h3 : q ≠ 3) :
    Calls Tryz.prog 7 #[.pointer (some ⟨gb, 0, none⟩), .slice ac cols.length cc, .slice A (X.map xiOf).length c, opV q x] w fun e w' => DoesP B w gb ba tb F cols e w' := by
  have H0 := Lib.hid (Dw.begin_ h hp hpF hl q x)
  have h6 : (X.map xiOf).length ≤ 65536 := by
    have := h.ok.six
    rw [List.length_map]
    omega
  have HFi := Lib.hid (rfind_any (X.map xiOf) A c x.name _ H0.out.li.row (by omega))
  obtain ⟨b0, b1, b2, b3, b4, b5⟩ := op6 H0.out.box
  generalize hll : X.map xiOf = l at *
  have HL := Lib.hid hll
  clear h hp hpF hl hs h6 hll
  go_enter Tryz.func7, Tryz.ntmps7
  go_wp2_with fail
  refine HFi.out.mono ?_
  rintro e w1 ⟨rfl, rfl⟩
  clear HFi
  go_wp2
  go_ret2
  exact H0.out.out (A' := A) (c' := c) (by rw [HL.out]; rfl) (by rw [HL.out]; exact H0.out.li)

theorem does_any {bs : Nat} {B : Base bs} {w : World} {gb ba tb : Nat} {F : Nat → Prop} {cols : List Co} {X : List KV} {R : Raw} (h : Pl B w gb ba tb F cols X R) (x : Xi) (ac A : Option Addr) (cc c : Nat) (hp : ColIs w ac cols) (hpF : ∀ b off, ac = some ⟨b, off, none⟩ → ¬ F b) (hl : Li w F A (X.map xiOf)) (hs : x.name.size ≤ 9223372036854775807) (q : Int) :
    Calls Tryz.prog 7 #[.pointer (some ⟨gb, 0, none⟩), .slice ac cols.length cc, .slice A (X.map xiOf).length c, opV q x] w fun e w' => DoesP B w gb ba tb F cols e w' := by
  by_cases h1 : q = 1
  · subst h1; exact does_one h x ac A cc c hp hpF hl hs
  · by_cases h2 : q = 2
    · subst h2; exact does_two h x ac A cc c hp hpF hl hs
    · by_cases h3 : q = 3
      · subst h3; exact does_three h x ac A cc c hp hpF hl hs
      · exact does_else h x ac A cc c hp hpF hl hs q h1 h2 h3
end Go.Proofs.YtiakepcgalmjfaaGreat

namespace Go.Proofs.YtiakepcgalmjfaaGreat
open Go.RowKit

def forB (i : Nat) (z : Int) : Bool := if i = 3 then z == 3 else z == 1 || z == 2
set_option maxRecDepth 100000 in
set_option maxHeartbeats 2000000 in
theorem For_any (i : Nat) (hi : i < 4) (z : Int) (w : World) :
    Calls Tryz.prog 60 #[.string (kname i), .int .i64 z] w fun e w' => e = .returned (.tuple #[.bool (forB i z), .bool true]) ∧ w' = w := by
  by_cases h1 : z = 1
  · subst h1
    match i, hi with
    | 0, _ => 
      go_enter Tryz.func60, Tryz.ntmps60
      rw [show kname 0 = ⟨#[98, 105, 116, 109, 97, 112]⟩ from rfl]
      go_wp2
      go_ret2
      exact ⟨rfl, rfl⟩
    | 1, _ =>
      go_enter Tryz.func60, Tryz.ntmps60
      rw [show kname 1 = ⟨#[98, 116, 114, 101, 101]⟩ from rfl]
      go_wp2
      go_ret2
      exact ⟨rfl, rfl⟩
    | 2, _ =>
      go_enter Tryz.func60, Tryz.ntmps60
      rw [show kname 2 = ⟨#[104, 97, 115, 104]⟩ from rfl]
      go_wp2
      go_ret2
      exact ⟨rfl, rfl⟩
    | 3, _ =>
      go_enter Tryz.func60, Tryz.ntmps60
      rw [show kname 3 = ⟨#[105, 110, 118, 101, 114, 116, 101, 100]⟩ from rfl]
      go_wp2
      go_ret2
      exact ⟨rfl, rfl⟩
  · have d1 : decide (z = 1) = false := decide_eq_false h1
    match i, hi with
    | 0, _ => 
      go_enter Tryz.func60, Tryz.ntmps60
      rw [show kname 0 = ⟨#[98, 105, 116, 109, 97, 112]⟩ from rfl]
      go_wp2
      go_ret2
      exact ⟨by unfold forB; rw [if_neg (by decide)]; rfl, rfl⟩
    | 1, _ =>
      go_enter Tryz.func60, Tryz.ntmps60
      rw [show kname 1 = ⟨#[98, 116, 114, 101, 101]⟩ from rfl]
      go_wp2
      go_ret2
      exact ⟨by unfold forB; rw [if_neg (by decide)]; rfl, rfl⟩
    | 2, _ =>
      go_enter Tryz.func60, Tryz.ntmps60
      rw [show kname 2 = ⟨#[104, 97, 115, 104]⟩ from rfl]
      go_wp2
      go_ret2
      exact ⟨by unfold forB; rw [if_neg (by decide)]; rfl, rfl⟩
    | 3, _ =>
      go_enter Tryz.func60, Tryz.ntmps60
      rw [show kname 3 = ⟨#[105, 110, 118, 101, 114, 116, 101, 100]⟩ from rfl]
      go_wp2
      go_ret2
      exact ⟨by unfold forB; rw [if_pos rfl]; rfl, rfl⟩

abbrev twoO : Obj := .cells #[.string ⟨#[97]⟩, .int .i64 1, .string ⟨#[108]⟩, .int .i64 3] 84
theorem two_any (w : World) :
    Calls Tryz.prog 22 #[] w fun e w' => e = .returned (.slice (some ⟨w.heap.size, 0, none⟩) 2 2) ∧ w' = w.alloc twoO := by
  go_enter Tryz.func22, Tryz.ntmps22
  go_wp2
  go_ret
  exact ⟨rfl, rfl⟩
theorem two_cols {w : World} {b : Nat} (h : w.heap[b]? = some twoO) : ColIs w (some ⟨b, 0, none⟩) twoL := by
  refine .inr ⟨b, 0, rfl, fun i hi => ?_⟩
  have hi2 : i < 2 := hi
  match i, hi2 with
  | 0, _ =>
    refine ⟨?_, ?_, by show 1 ≤ 9223372036854775807; omega, by show -9223372036854775808 ≤ (1 : Int) ∧ (1 : Int) ≤ 9223372036854775807; omega⟩
    · unfold World.cell?; rw [h]; rfl
    · unfold World.cell?; rw [h]; rfl
  | 1, _ =>
    refine ⟨?_, ?_, by show 1 ≤ 9223372036854775807; omega, by show -9223372036854775808 ≤ (3 : Int) ∧ (3 : Int) ≤ 9223372036854775807; omega⟩
    · unfold World.cell?; rw [h]; rfl
    · unfold World.cell?; rw [h]; rfl

set_option maxRecDepth 100000 in
set_option maxHeartbeats 2000000 in
theorem New_any {bs : Nat} {B : Base bs} {w : World} {ba : Nat} {F : Nat → Prop} {R : Raw} (hA : ActIs B w ba F R) (hf : Fine B R) {L : List KV} (hL : Leaf R 0 L) (h0 : L.length ≠ 0) :
    Calls Tryz.prog 18 #[.pointer (some ⟨ba, 0, none⟩)] w fun e w' => ∃ gb tb, e = .returned (.tuple #[.pointer (some ⟨gb, 0, none⟩), .int .i64 0]) ∧ CStep B gb ba tb w F R L w' := by
  have HT := Lib.hid (treeNew_any hA hf.cov 0 (by decide))
  have H := Lib.hid (And.intro hf hL)
  have hne : ((L.length : Int) == 0) = false := by rw [beq_eq_false_iff_ne]; omega
  clear hA hf hL
  go_enter Tryz.func18, Tryz.ntmps18
  go_wp2_with fail
  refine HT.out.mono ?_
  rintro e w1 ⟨tb, F1, rfl, ht1, hlt1, htF1, hA1, hF1, ho1⟩
  have HLen := Lib.hid (Len_leaf ht1 hA1 H.out.1 htF1 (by decide) H.out.2)
  have H1 := Lib.hid (And.intro ht1 (And.intro htF1 (And.intro hF1 ho1)))
  clear ht1 hlt1 htF1 hA1 hF1 ho1 HT
  go_wp2_with fail
  refine HLen.out.mono ?_
  rintro e w2 ⟨rfl, hs2⟩
  have ht2 := hs2.block H1.out.1 H1.out.2.1
  obtain ⟨F2, hA2, hF2, ho2⟩ := hs2
  have hb : Below w2.heap.size w2 (w2.alloc (catO ba tb)) := by go_grown
  have HR := Lib.hid (show CStep B w2.heap.size ba tb w F R L (w2.alloc (catO ba tb)) from by
    refine ⟨F2, ⟨hnew w2 _, (hb.block tb (Array.getElem?_eq_some_iff.1 ht2).1).trans ht2, hA2.below hb, H.out.1, fun e => H1.out.2.1 (hF2 _ (Array.getElem?_eq_some_iff.1 H1.out.1).1 e), fun e => by have := hA2.1 _ e; omega, H.out.2⟩,
      fun k hk e => H1.out.2.2.1 k hk (hF2 k (Nat.lt_of_lt_of_le hk H1.out.2.2.2.size) e), (H1.out.2.2.2.trans ho2 (fun k hk e => H1.out.2.2.1 k hk e)).trans (Off.of_below hb (F := fun _ => False)) (fun _ _ e => e.elim)⟩)
  clear ht2 hA2 hF2 ho2 hb HLen
  have hne' : decide ((L.length : Int) = 0) = false := decide_eq_false (by omega)
  go_wp2
  go_ret2
  exact ⟨w2.heap.size, tb, rfl, HR.out⟩
end Go.Proofs.YtiakepcgalmjfaaGreat

namespace Go.Proofs.YtiakepcgalmjfaaGreat
open Go.RowKit

/-- Add at the end of the leaf. -/
theorem addEnd {bs : Nat} {B : Base bs} {gb ba tb : Nat} {R : Raw} {L : List KV} {x : KV} (L' : List KV) (e : L' = L ++ [x]) (hx : x.ok) (hx0 : 0 < x.k.size) (hend : ∀ t (h : t < L.length), cmpK L[t] x.k < 0) (hok : ∀ y ∈ L', y.ok) (hs : Sorted L') (hlen : (leafB L').length ≤ 512) (hn : L'.length < 256) {w1 : World} {F1 : Nat → Prop} (h : CatIs B w1 gb ba tb F1 R L) :
    Calls Tryz.prog 48 #[.pointer (some ⟨tb, 0, none⟩), .string x.k, .string x.v] w1 fun e w' => e = .returned (.tuple #[.bool true, .int .i64 0]) ∧ CStep B gb ba tb w1 F1 (R.put (R.root 0) 0 (pageL (leafB L'))) L' w' := by
  subst e
  refine (Put_end h.tree h.act h.fine h.tF (by decide) h.leaf x hx hx0 hend hlen (by rw [List.length_append] at hn; simpa using hn)).mono ?_
  rintro e w' ⟨rfl, hs'⟩
  obtain ⟨n1, n2, _⟩ := h.leaf.next h.fine hok hs hlen hn
  exact ⟨rfl, h.step hs' n1 n2⟩
theorem wL0_end : ∀ t (h : t < wL0.length), cmpK wL0[t] wX.k < 0 := by
  have : ∀ t : Fin wL0.length, cmpK wL0[t.1] wX.k < 0 := by decide +kernel
  exact fun t h => this ⟨t, h⟩
theorem wX_ok : wX.ok ∧ 0 < wX.k.size := ⟨⟨by decide +kernel, by decide +kernel⟩, by decide +kernel⟩

/-- While awake goes: all that changes is young. -/
structure AW {bs : Nat} (B : Base bs) (n : Nat) (w wi : World) (gb ba tb : Nat) (F : Nat → Prop) (R : Raw) (L : List KV) : Prop where
  cat : CatIs B wi gb ba tb F R L
  lo : ∀ k, F k → n ≤ k
  size : n ≤ wi.heap.size
  bel : Below n w wi
theorem young_step {n : Nat} {w wi wj : World} {F Fj : Nat → Prop} (hlo : ∀ k, F k → n ≤ k) (hn : n ≤ wi.heap.size) (hb : Below n w wi) (hF : ∀ k, k < wi.heap.size → Fj k → F k) (ho : Off F wi wj) : (∀ k, Fj k → n ≤ k) ∧ n ≤ wj.heap.size ∧ Below n w wj := by
  refine ⟨fun k hk => ?_, Nat.le_trans hn ho.size, hb.trans (ho.below hlo hn)⟩
  by_cases h : k < wi.heap.size
  · exact hlo k (hF k h hk)
  · omega
theorem AW.step {bs : Nat} {B : Base bs} {n : Nat} {w wi wj : World} {gb ba tb : Nat} {F : Nat → Prop} {R R' : Raw} {L L' : List KV} (h : AW B n w wi gb ba tb F R L) (hs : CStep B gb ba tb wi F R' L' wj) : ∃ Fj, AW B n w wj gb ba tb Fj R' L' := by
  obtain ⟨Fj, hc, hF, ho⟩ := hs
  obtain ⟨h1, h2, h3⟩ := young_step h.lo h.size h.bel hF ho
  exact ⟨Fj, hc, h1, h2, h3⟩
theorem root_raw0 : raw0.root 0 = 0 := by unfold raw0 Raw.root; decide +kernel
theorem total_raw0 : raw0.total + 1 < 4096 := by unfold raw0 Raw.total; decide +kernel

set_option maxRecDepth 100000 in
set_option maxHeartbeats 4000000 in
theorem awake_any (w : World) :
    Calls Tryz.prog 6 #[] w fun e w' => e = .returned (.bool true) ∧ Below w.heap.size w w' := by
  have HB := Lib.hid (begun_any w)
  go_enter Tryz.func6, Tryz.ntmps6
  go_wp2_with fail
  refine HB.out.mono ?_
  rintro e w1 ⟨bd, bs, ba, F, rfl, hA, hF, hb⟩
  have HT := Lib.hid (two_any w1)
  have hb1 : Below w1.heap.size w1 (w1.alloc twoO) := by go_grown
  have HM := Lib.hid (show Calls Tryz.prog 20 #[.pointer (some ⟨ba, 0, none⟩), .slice (some ⟨w1.heap.size, 0, none⟩) 2 2] (w1.alloc twoO) fun e w' => e = .returned (.int .i64 0) ∧ ∃ R', MadeIs (base0 bs) raw0 twoL 2 R' ∧ Step (base0 bs) ba (w1.alloc twoO) F R' w' from
    Make_any (hA.below hb1) (fine0 bs) root_raw0 total_raw0 twoL (some ⟨w1.heap.size, 0, none⟩) 2 (two_cols (hnew w1 _)) (by show 2 ≤ _; omega) (fun b off e e2 => by
      simp only [Option.some.injEq, Addr.mk.injEq] at e
      have := hA.1 b e2
      omega) two_ok)
  have H1 := Lib.hid (And.intro (show w.heap.size ≤ (w1.alloc twoO).heap.size from by have := hb.size; simp; omega) (And.intro hF (Below.trans' hb1 hb)))
  clear hA hF hb hb1 HB
  go_wp2_with fail
  refine HT.out.mono ?_
  rintro e w2 ⟨rfl, rfl⟩
  clear HT
  go_wp2_with fail
  refine HM.out.mono ?_
  rintro e w3 ⟨rfl, R3, hm3, F3, hA3, hF3, ho3⟩
  obtain ⟨l3, l4, l5⟩ := young_step H1.out.2.1 H1.out.1 H1.out.2.2 hF3 ho3
  have HN := Lib.hid (New_any hA3 hm3.fine (show Leaf R3 0 wL0 from wL0_eq ▸ (hm3.leaf (by omega)).1) (by decide +kernel))
  have H3 := Lib.hid (And.intro l3 (And.intro l4 l5))
  clear hm3 hA3 hF3 ho3 l3 l4 l5 HM
  go_wp2_with fail
  refine HN.out.mono ?_
  rintro e w4 ⟨gb, tb, rfl, F4, hc4, hF4, ho4⟩
  obtain ⟨m3, m4, m5⟩ := young_step H3.out.1 H3.out.2.1 H3.out.2.2 hF4 ho4
  have HAdd := Lib.hid (Add_any hc4 wXi (fun y hy => (w_ok y (w_ok0 y hy)).1) (fun y hy => (w_ok y (w_ok0 y hy)).2) (R' := fun _ => R3.put (R3.root 0) 0 (pageL (leafB wL1))) (L' := fun _ => wL1) (fun v w1 F1 ha hc => by
    rw [(add_i ha).2]
    exact addEnd wL1 rfl wX_ok.1 wX_ok.2 wL0_end wL1_laws.1 wL1_laws.2.1 wL1_laws.2.2.1 wL1_laws.2.2.2 hc))
  have H4 := Lib.hid (show AW (base0 bs) w.heap.size w w4 gb ba tb F4 R3 wL0 from ⟨hc4, m3, m4, m5⟩)
  clear hc4 hF4 ho4 m3 m4 m5 HN
  go_wp2_with fail
  refine HAdd.out.mono ?_
  rintro e w5 ⟨r5, v5, rfl, ha5, hs5⟩
  obtain ⟨rfl, -⟩ := add_i ha5
  obtain ⟨F5, h5⟩ := H4.out.step (hs5.resolve_left (fun e => e.1 rfl)).2
  have HAdd2 := Lib.hid (Add_any h5.cat wXj (fun y hy => (w_ok y hy).1) (fun y hy => (w_ok y hy).2) (R' := fun _ => R3) (L' := fun _ => wL1) (fun v w1 F1 ha hc => absurd (add_j ha) (by decide)))
  have H5 := Lib.hid h5
  clear ha5 hs5 h5 HAdd
  go_wp2_with fail
  refine HAdd2.out.mono ?_
  rintro e w6 ⟨r6, v6, rfl, ha6, hs6⟩
  obtain rfl := add_j ha6
  obtain ⟨F6, h6⟩ := H5.out.step (hs6.resolve_right (fun e => absurd e.1 (by decide))).2
  have HAdd3 := Lib.hid (Add_any h6.cat wXh (fun y hy => (w_ok y hy).1) (fun y hy => (w_ok y hy).2) (R' := fun _ => R3) (L' := fun _ => wL1) (fun v w1 F1 ha hc => absurd (add_h ha) (by decide)))
  have H6 := Lib.hid h6
  clear ha6 hs6 h6 HAdd2
  go_wp2_with fail
  refine HAdd3.out.mono ?_
  rintro e w7 ⟨r7, v7, rfl, ha7, hs7⟩
  obtain rfl := add_h ha7
  obtain ⟨F7, h7⟩ := H6.out.step (hs7.resolve_right (fun e => absurd e.1 (by decide))).2
  have HIx := Lib.hid (Indexes_any h7.cat (fun y hy => (w_ok y hy).2))
  have H7 := Lib.hid h7
  clear ha7 hs7 h7 HAdd3
  go_wp2_with fail
  refine HIx.out.mono ?_
  rintro e w8 ⟨v8, i8, n8, rfl, hsp8, hr8, -, F8, hc8, -, hF8, ho8⟩
  obtain ⟨F8', h8⟩ := H7.out.step ⟨F8, hc8, hF8, ho8⟩
  obtain ⟨rfl, rfl⟩ := hsp8.uniq spans1.2
  obtain ⟨A8, c8, rfl⟩ := hr8.slice
  rw [show (((wL1.drop 2).take 1).map xiOf).length = 1 from rfl]
  have HCo := Lib.hid (Columns_any h8.cat (fun y hy => (w_ok y hy).1))
  have H8 := Lib.hid h8
  clear hsp8 hr8 hc8 hF8 ho8 h8 HIx
  go_wp2_with fail
  refine HCo.out.mono ?_
  rintro e w9 ⟨v9, i9, n9, rfl, hsp9, hr9, -, F9, hc9, -, hF9, ho9⟩
  obtain ⟨F9', h9⟩ := H8.out.step ⟨F9, hc9, hF9, ho9⟩
  obtain ⟨rfl, rfl⟩ := hsp9.uniq spans1.1
  obtain ⟨A9, c9, rfl⟩ := hr9.slice
  rw [show (((wL1.drop 0).take 2).map colOf).length = 2 from rfl]
  have H9 := Lib.hid h9
  clear hsp9 hr9 hc9 hF9 ho9 h9 HCo
  go_wp2
  go_ret
  exact ⟨rfl, H9.out.bel⟩
end Go.Proofs.YtiakepcgalmjfaaGreat

namespace Go.Proofs.YtiakepcgalmjfaaGreat
open Go.RowKit

theorem results_tmp5 {fn : Func} {t u v x y : Tmp} (h : fn.results = #[.tmp t, .tmp u, .tmp v, .tmp x, .tmp y]) (tmps : Array Value) (P : Program) (w : World) :
    (results fn tmps).run P w = .ok (.tuple #[tmps.getD t undef, tmps.getD u undef, tmps.getD v undef, tmps.getD x undef, tmps.getD y undef]) w := by
  simp [results, h]
theorem roots_raw0 (r : Nat) (h : r < 8) : raw0.root r = 0 := by
  have : ∀ r : Fin 8, raw0.root r.1 = 0 := by unfold raw0 Raw.root; decide +kernel
  exact this ⟨r, h⟩
theorem catL_nil (cols : List Co) : catL cols [] = colL cols cols.length := by unfold catL; rw [List.append_nil]
/-- What made tells. -/
def MadeP (w : World) (cols : List Co) (e : Ending) (w' : World) : Prop :=
  Below w.heap.size w w' ∧ w.heap.size ≤ w'.heap.size ∧ ((colsB cols = false ∧ ∃ d s a, e = .returned (.tuple #[d, s, a, .pointer none, .bool true])) ∨
    (colsB cols = true ∧ ∃ bd bs ba gb tb F R, e = .returned (.tuple #[.pointer (some ⟨bd, 0, none⟩), .pointer (some ⟨bs, 0, none⟩), .pointer (some ⟨ba, 0, none⟩), .pointer (some ⟨gb, 0, none⟩), .bool true]) ∧ Pl (base0 bs) w' gb ba tb F cols [] R ∧ ∀ k, F k → w.heap.size ≤ k))

set_option maxRecDepth 100000 in
set_option maxHeartbeats 4000000 in
theorem made_any (cols : List Co) (ac : Option Addr) (cc : Nat) (w : World) (hc : ColIs w ac cols) (hlen : cols.length ≤ 9223372036854775807) (hlt : ∀ b off, ac = some ⟨b, off, none⟩ → b < w.heap.size) :
    Calls Tryz.prog 5 #[.slice ac cols.length cc] w (MadeP w cols) := by
  have HB := Lib.hid (begun_any w)
  have H0 := Lib.hid (And.intro hc (And.intro hlen hlt))
  clear hc hlen hlt
  go_enter Tryz.func5, Tryz.ntmps5
  go_wp2_with fail
  refine HB.out.mono ?_
  rintro e w1 ⟨bd, bs, ba, F, rfl, hA, hF, hb⟩
  have HN := Lib.hid (New_none hA (fine0 bs) root_raw0)
  have H1 := Lib.hid (And.intro hF (And.intro hb hb.size))
  clear hA hF hb HB
  go_wp2_with fail
  refine HN.out.mono ?_
  rintro e w2 ⟨rfl, F2, hA2, hF2, ho2⟩
  obtain ⟨l2, n2, b2⟩ := young_step H1.out.1 H1.out.2.2 H1.out.2.1 hF2 ho2
  have hc2 := H0.out.1.below b2
  have haF : ∀ b off, ac = some ⟨b, off, none⟩ → ¬ F2 b := fun b off e e2 => by
    have := l2 _ e2
    have := H0.out.2.2 b off e
    omega
  have HRc := Lib.hid (fun (wi : World) (h : ColIs wi ac cols) => rcolumns_any cols ac cc wi h H0.out.2.1)
  have H2 := Lib.hid (And.intro l2 (And.intro n2 b2))
  cases hok : colsB cols with
  | false =>
    have HM := Lib.hid (Make_bad hA2 (fine0 bs) root_raw0 cols ac cc hc2 H0.out.2.1 haF hok)
    have hce : colE cols = 160 := by unfold colE; rw [hok]; rfl
    rw [hce] at HRc
    have HK := Lib.hid hok
    clear hA2 hF2 ho2 l2 n2 b2 hc2 haF HN hok hce
    go_wp2_with fail
    refine HM.out.mono ?_
    rintro e w3 ⟨rfl, F3, hA3, hF3, ho3⟩
    obtain ⟨l3, n3, b3⟩ := young_step H2.out.1 H2.out.2.1 H2.out.2.2 hF3 ho3
    have HC := Lib.hid (HRc.out w3 (H0.out.1.below b3))
    have H3 := Lib.hid (And.intro n3 b3)
    clear hA3 hF3 ho3 l3 n3 b3 HM
    go_wp2_with fail
    refine HC.out.mono ?_
    rintro e w4 ⟨rfl, hb4⟩
    have H4 := Lib.hid hb4
    clear hb4
    go_wp2
    refine bodyPost_ret (results_tmp5 rfl _ _ _) rfl ?_
    exact ⟨Below.trans' H4.out H3.out.2, Nat.le_trans H3.out.1 H4.out.size, .inl ⟨HK.out, _, _, _, rfl⟩⟩
  | true =>
    have HM := Lib.hid (Make_any hA2 (fine0 bs) root_raw0 total_raw0 cols ac cc hc2 H0.out.2.1 haF hok)
    have hce : colE cols = 0 := by unfold colE; rw [hok]; rfl
    rw [hce] at HRc
    have HK := Lib.hid hok
    clear hA2 hF2 ho2 l2 n2 b2 hc2 haF HN hok hce
    go_wp2_with fail
    refine HM.out.mono ?_
    rintro e w3 ⟨rfl, R3, hm3, F3, hA3, hF3, ho3⟩
    obtain ⟨l3, n3, b3⟩ := young_step H2.out.1 H2.out.2.1 H2.out.2.2 hF3 ho3
    have HC := Lib.hid (HRc.out w3 (H0.out.1.below b3))
    have H3 := Lib.hid (And.intro l3 (And.intro n3 (And.intro b3 (And.intro hm3 hA3))))
    clear hA3 hF3 ho3 l3 n3 b3 HM hm3
    go_wp2_with fail
    refine HC.out.mono ?_
    rintro e w4 ⟨rfl, hb4⟩
    have hc1 := (colsB_facts HK.out).1
    have hL4 : Leaf R3 0 (catL cols []) := by rw [catL_nil]; exact (H3.out.2.2.2.1.leaf (by omega)).1
    have hln : (catL cols []).length ≠ 0 := by rw [catL_length]; omega
    have HN4 := Lib.hid (New_any (H3.out.2.2.2.2.below hb4) H3.out.2.2.2.1.fine hL4 hln)
    have H4 := Lib.hid (And.intro (Nat.le_trans H3.out.2.1 hb4.size) (And.intro (Below.trans' hb4 H3.out.2.2.1) hln))
    clear hb4 hc1 hL4 hln
    go_wp2_with fail
    refine HN4.out.mono ?_
    rintro e w5 ⟨gb, tb, rfl, F5, hc5, hF5, ho5⟩
    obtain ⟨l5, n5, b5⟩ := young_step H3.out.1 H4.out.1 H4.out.2.1 hF5 ho5
    have HT := Lib.hid (Make_twice hc5.act hc5.fine hc5.leaf H4.out.2.2 (.slice ac cols.length cc))
    have H5 := Lib.hid (And.intro l5 (And.intro n5 (And.intro b5 hc5)))
    clear hc5 hF5 ho5 l5 n5 b5 HN4
    go_wp2_with fail
    refine HT.out.mono ?_
    rintro e w6 ⟨rfl, hs6⟩
    obtain ⟨F6, hc6, hF6, ho6⟩ := H5.out.2.2.2.same hs6
    obtain ⟨l6, n6, b6⟩ := young_step H5.out.1 H5.out.2.1 H5.out.2.2.1 hF6 ho6
    have HE := Lib.hid (show Pl (base0 bs) w6 gb ba tb F6 cols [] R3 from ⟨hc6, HK.out, .nil, fun r h2 h8 => by
      have hm := H3.out.2.2.2.1.leaf (by have := (colsB_facts HK.out).1; omega)
      rw [hm.2.2.2.1 r (by omega) (by omega)]
      exact roots_raw0 r h8⟩)
    have H6 := Lib.hid (And.intro l6 (And.intro n6 b6))
    clear hc6 hF6 ho6 l6 n6 b6 hs6 HT
    go_wp2
    refine bodyPost_ret (results_tmp5 rfl _ _ _) rfl ?_
    exact ⟨H6.out.2.2, H6.out.2.1, .inr ⟨HK.out, bd, bs, ba, gb, tb, F6, R3, rfl, HE.out, H6.out.1⟩⟩
end Go.Proofs.YtiakepcgalmjfaaGreat
