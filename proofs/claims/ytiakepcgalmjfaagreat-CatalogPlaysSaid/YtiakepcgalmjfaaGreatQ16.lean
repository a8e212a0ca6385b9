/- Add, up to what the tree's Put does. -/
import Derived.Test.YtiakepcgalmjfaaGreatQ15
import Derived.Laws.EntriesVeiled
set_option linter.unusedVariables false
set_option linter.unusedSimpArgs false
namespace Go.Proofs.YtiakepcgalmjfaaGreat
open Go.RowKit

theorem conv_row {w : World} {b n cap : Nat} (l : List UInt8) (hn : l.length = n) (h : ∀ i (hi : i < l.length), w.cell? ⟨b, i, none⟩ = some (.int .u8 (l[i].toNat : Int))) :
    (convert 90 9 (.slice (some ⟨b, 0, none⟩) n cap)).run Tryz.prog w = .ok (.string ⟨l.toArray⟩) w := by
  subst hn
  have := run_convert_bytes_arg w 90 5 Tryz.underlying90 Tryz.underlying5 b 0 l.length cap (l.map fun b => (b.toNat : Int)) (by simp) (fun i hi => by
    rw [show (0 + i) = i by omega, h i hi]
    simp [List.getD, hi]) 9 Tryz.underlying9
  rw [this, strOf_bytes]
/-- An index's entry. -/
def xent (at_ col : Int) (u : Bool) (root : Int) : ByteArray := ⟨#[UInt8.ofNat at_.toNat, UInt8.ofNat col.toNat, if u then 1 else 0, 1, UInt8.ofNat root.toNat]⟩
/-- What Add answers, and what it puts. -/
inductive AddIs (L : List KV) (x : Xi) : Int → ByteArray → Prop
  | name (h : nameX x.name.data.toList = false ∨ ∃ i, Cut L (xkey x.name) i ∧ isAt L (xkey x.name) i = true) : AddIs L x 160 ⟨#[]⟩
  | none (i ic nc : Nat) (at_ : Int) (h : nameX x.name.data.toList = true) (hi : Cut L (xkey x.name) i) (hf : isAt L (xkey x.name) i = false) (hk : IsKind x.meth at_) (hc : Span L 99 ic nc) (hn : at_ < 0 ∨ x.col < 0 ∨ (nc : Int) ≤ x.col) : AddIs L x 3 ⟨#[]⟩
  | kind (i ic nc k c : Nat) (h : nameX x.name.data.toList = true) (hi : Cut L (xkey x.name) i) (hf : isAt L (xkey x.name) i = false) (hk : IsKind x.meth k) (hc : Span L 99 ic nc) (hcol : x.col = c) (hn : c < nc) (hb : (kcols k).contains (colOf (yv L (ic + c))).kind = false) : AddIs L x 10 ⟨#[]⟩
  | able (i ic nc k c : Nat) (h : nameX x.name.data.toList = true) (hi : Cut L (xkey x.name) i) (hf : isAt L (xkey x.name) i = false) (hk : IsKind x.meth k) (hc : Span L 99 ic nc) (hcol : x.col = c) (hn : c < nc) (hb : (kcols k).contains (colOf (yv L (ic + c))).kind = true) (hu : x.uniq = true) (hk2 : kuniq k = false) : AddIs L x 90 ⟨#[]⟩
  | full (i ic nc k c ix nx : Nat) (h : nameX x.name.data.toList = true) (hi : Cut L (xkey x.name) i) (hf : isAt L (xkey x.name) i = false) (hk : IsKind x.meth k) (hc : Span L 99 ic nc) (hcol : x.col = c) (hn : c < nc) (hb : (kcols k).contains (colOf (yv L (ic + c))).kind = true) (hu : x.uniq = true → kuniq k = true) (hx : Span L 120 ix nx) (hr : IsRoot ((L.drop ix).take nx) 0) : AddIs L x 2 ⟨#[]⟩
  | ok (i ic nc k c ix nx : Nat) (r : Int) (h : nameX x.name.data.toList = true) (hi : Cut L (xkey x.name) i) (hf : isAt L (xkey x.name) i = false) (hk : IsKind x.meth k) (hc : Span L 99 ic nc) (hcol : x.col = c) (hn : c < nc) (hb : (kcols k).contains (colOf (yv L (ic + c))).kind = true) (hu : x.uniq = true → kuniq k = true) (hx : Span L 120 ix nx) (hr : IsRoot ((L.drop ix).take nx) r) (hr0 : r ≠ 0) : AddIs L x 0 (xent k x.col x.uniq r)

/-- While Add goes: the catalog, the index in hand (cell bx). -/
structure AA {bs : Nat} (B : Base bs) (w : World) (gb ba tb : Nat) (F : Nat → Prop) (R : Raw) (L : List KV) (bx : Nat) (x : Xi) (wi : World) (Fi : Nat → Prop) : Prop where
  cat : CatIs B wi gb ba tb Fi R L
  box : wi.heap[bx]? = some (xiO x)
  nF : ¬ Fi bx
  yF : ∀ k, k < w.heap.size → Fi k → F k
  off : Off F w wi
section
variable {bs : Nat} {B : Base bs} {w wi wj : World} {gb ba tb bx : Nat} {F Fi : Nat → Prop} {R : Raw} {L : List KV} {x : Xi}
theorem AA.below (h : AA B w gb ba tb F R L bx x wi Fi) (hb : Below wi.heap.size wi wj) : AA B w gb ba tb F R L bx x wj Fi :=
  ⟨h.cat.below hb, (hb.block bx (Array.getElem?_eq_some_iff.1 h.box).1).trans h.box, h.nF, h.yF, h.off.trans (Off.of_below hb (F := fun _ => False)) (fun _ _ e => e.elim)⟩
theorem AA.more {Fj : Nat → Prop} (h : AA B w gb ba tb F R L bx x wi Fi) (hc : CatIs B wj gb ba tb Fj R L) (hF : ∀ k, k < wi.heap.size → Fj k → Fi k) (ho : Off Fi wi wj) : AA B w gb ba tb F R L bx x wj Fj :=
  ⟨hc, (ho.block bx (Array.getElem?_eq_some_iff.1 h.box).1 h.nF).trans h.box, fun e => h.nF (hF bx (Array.getElem?_eq_some_iff.1 h.box).1 e), fun k hk e => h.yF k hk (hF k (Nat.lt_of_lt_of_le hk h.off.size) e), h.off.trans ho (fun k hk e => h.yF k hk e)⟩
theorem AA.step (h : AA B w gb ba tb F R L bx x wi Fi) (hs : CStep B gb ba tb wi Fi R L wj) : ∃ Fj, AA B w gb ba tb F R L bx x wj Fj ∧ (∀ k, k < wi.heap.size → Fj k → Fi k) ∧ Off Fi wi wj := by
  obtain ⟨Fj, hc, hF, ho⟩ := hs
  exact ⟨Fj, h.more hc hF ho, hF, ho⟩
theorem AA.out (h : AA B w gb ba tb F R L bx x wi Fi) : CStep B gb ba tb w F R L wi := ⟨Fi, h.cat, h.yF, h.off⟩
theorem AA.begin_ (h : CatIs B w gb ba tb F R L) (x : Xi) : AA B w gb ba tb F R L w.heap.size x (w.alloc (xiO x)) F := by
  have hb : Below w.heap.size w (w.alloc (xiO x)) := by go_grown
  exact ⟨h.below hb, hnew w _, fun e => by have := h.act.1 _ e; omega, fun _ _ e => e, Off.of_below hb⟩
end
theorem IsKind.pos {m : ByteArray} {a : Int} (h : IsKind m a) (h0 : ¬ a < 0) : ∃ k : Nat, a = k ∧ k < 4 ∧ IsKind m k := by
  rcases h with ⟨e, _⟩ | ⟨k, hk, rfl, hr⟩
  · omega
  · exact ⟨k, rfl, hk, .inr ⟨k, hk, rfl, hr⟩⟩

theorem coRows.at_ {w : World} {B n c : Nat} {A : Option Addr} {M : List Co} (h : coRows w B (.slice A n c) M) (i : Nat) (hi : i < M.length) : ∃ g, A = some ⟨g, 0, none⟩ ∧ w.cell? ⟨g, i * 2, none⟩ = some (.string M[i].name) ∧ w.cell? ⟨g, i * 2 + 1, none⟩ = some (.int .i64 M[i].kind) := by
  have h' := h
  rcases h.2 with ⟨e, h0⟩ | ⟨g', cap, cur, e, hg', _⟩
  · omega
  · simp only [Value.slice.injEq] at e
    obtain ⟨rfl, _, _⟩ := e
    obtain ⟨_, _, h1, h2⟩ := h'.cells i hi
    exact ⟨g', rfl, h1, h2⟩
abbrev kindO (k g n : Nat) : Obj := .cells #[.string (kname k), .slice (some ⟨g, 0, none⟩) n n, .bool (kuniq k), .func (.func (kopen k)) #[] #[]] 77
theorem kind4 {w : World} {b k g n : Nat} (h : w.heap[b]? = some (kindO k g n)) : w.cell? ⟨b, 0, none⟩ = some (.string (kname k)) ∧ w.cell? ⟨b, 1, none⟩ = some (.slice (some ⟨g, 0, none⟩) n n) ∧ w.cell? ⟨b, 2, none⟩ = some (.bool (kuniq k)) ∧ w.cell? ⟨b, 3, none⟩ = some (.func (.func (kopen k)) #[] #[]) := by
  refine ⟨?_, ?_, ?_, ?_⟩ <;> (unfold World.cell?; rw [h]; rfl)

abbrev xrowO (k q : Nat) (u : Int) (r : Nat) : Obj := .cells #[.int .u8 k, .int .u8 q, .int .u8 u, .int .u8 1, .int .u8 r] 5
theorem conv_ent {w : World} {b k q r cap : Nat} (u : Bool) (h : w.heap[b]? = some (xrowO k q (if u then 1 else 0) r)) (hk : k < 4) (hq : q < 256) (hr : r < 256) :
    (convert 90 9 (.slice (some ⟨b, 0, none⟩) 5 cap)).run Tryz.prog w = .ok (.string (xent k q u r)) w := by
  refine conv_row [UInt8.ofNat k, UInt8.ofNat q, if u then 1 else 0, 1, UInt8.ofNat r] rfl (fun i hi => ?_)
  have e1 : (UInt8.ofNat k).toNat = k := UInt8.toNat_ofNat_of_lt' (by show k < 256; omega)
  have e2 : (UInt8.ofNat q).toNat = q := UInt8.toNat_ofNat_of_lt' hq
  have e3 : (UInt8.ofNat r).toNat = r := UInt8.toNat_ofNat_of_lt' hr
  match i, hi with
  | 0, _ => unfold World.cell?; rw [h]; simp [e1]
  | 1, _ => unfold World.cell?; rw [h]; simp [e2]
  | 2, _ => unfold World.cell?; rw [h]; cases u <;> simp
  | 3, _ => unfold World.cell?; rw [h]; simp
  | 4, _ => unfold World.cell?; rw [h]; simp [e3]

set_option maxRecDepth 100000 in
set_option maxHeartbeats 8000000 in
theorem Add_any {bs : Nat} {B : Base bs} {w : World} {gb ba tb : Nat} {F : Nat → Prop} {R : Raw} {L : List KV} (h : CatIs B w gb ba tb F R L) (x : Xi)
    (hcok : ∀ y ∈ L, pre ⟨#[99]⟩ y = true → 0 < y.v.size) (hxok : ∀ y ∈ L, pre ⟨#[120]⟩ y = true → xOk y) {R' : ByteArray → Raw} {L' : ByteArray → List KV}
    (hput : ∀ v w1 F1, AddIs L x 0 v → CatIs B w1 gb ba tb F1 R L → Calls Tryz.prog 48 #[.pointer (some ⟨tb, 0, none⟩), .string (xkey x.name), .string v] w1 fun e w' => e = .returned (.tuple #[.bool true, .int .i64 0]) ∧ CStep B gb ba tb w1 F1 (R' v) (L' v) w') :
    Calls Tryz.prog 15 #[.pointer (some ⟨gb, 0, none⟩), xiV x] w fun e w' => ∃ r v, e = .returned (.int .i64 r) ∧ AddIs L x r v ∧ ((r ≠ 0 ∧ CStep B gb ba tb w F R L w') ∨ (r = 0 ∧ CStep B gb ba tb w F (R' v) (L' v) w')) := by
  have H0 := Lib.hid (AA.begin_ h x)
  have HG := Lib.hid (cgoing_any H0.out.cat)
  have HP := Lib.hid (And.intro hput (And.intro hcok hxok))
  have hbl : w.heap.size < w.heap.size + 1 := by omega
  clear h hput hcok hxok
  go_enter Tryz.func15, Tryz.ntmps15
  go_wp2_with fail
  refine HG.out.mono ?_
  rintro e w1 ⟨rfl, hs1⟩
  obtain ⟨F1, h1, -, -⟩ := H0.out.step hs1
  have HGt := Lib.hid (get_any h1.cat x.name)
  obtain ⟨x0, x1, x2, x3, x4⟩ := xi5 h1.box
  have H1 := Lib.hid h1
  clear h1 hs1 HG
  go_wp2_with fail
  refine HGt.out.mono ?_
  rintro e w2 ⟨i, hcut, rfl, hs2⟩
  obtain ⟨F2, h2, -, -⟩ := H1.out.step hs2
  obtain ⟨x0, x1, x2, x3, x4⟩ := xi5 h2.box
  have HN := Lib.hid (named_any x.name w2)
  have H2 := Lib.hid (And.intro h2 hcut)
  clear h2 hs2 hcut HGt
  by_cases hyes : nameX x.name.data.toList = true ∧ isAt L (xkey x.name) i = true
  · have hv : ∃ u, getR L x.name i = .tuple #[.string u, .int .i64 0] := by
      rw [getR, if_pos hyes.1]
      rcases got_two L (xkey x.name) i with ⟨v, hv, _⟩ | ⟨_, hn⟩
      · exact ⟨v, hv⟩
      · rw [hn] at hyes; exact absurd hyes.2 (by decide)
    obtain ⟨u, hu⟩ := hv
    rw [hu]
    have HY := Lib.hid hyes
    clear hu hyes
    go_wp2
    go_ret
    exact ⟨160, ⟨#[]⟩, rfl, .name (.inr ⟨i, H2.out.2, HY.out.2⟩), .inl ⟨by decide, H2.out.1.out⟩⟩
  · have hv : ∃ u, getR L x.name i = .tuple #[.string u, .int .i64 3] := by
      rw [getR]
      by_cases hn : nameX x.name.data.toList = true
      · rw [if_pos hn]
        rcases got_two L (xkey x.name) i with ⟨_, _, ha⟩ | ⟨hv, _⟩
        · exact absurd ⟨hn, ha⟩ hyes
        · exact ⟨_, hv⟩
      · rw [if_neg hn]; exact ⟨_, rfl⟩
    obtain ⟨u, hu⟩ := hv
    rw [hu]
    have HY := Lib.hid hyes
    clear hu hyes
    go_wp2_with fail
    refine HN.out.mono ?_
    rintro e w3 ⟨rfl, hb3⟩
    have h3 := H2.out.1.below hb3
    obtain ⟨x0, x1, x2, x3, x4⟩ := xi5 h3.box
    have H3 := Lib.hid h3
    have HCo := Lib.hid (Columns_any h3.cat HP.out.2.1)
    clear hb3 h3 HN
    cases hn : nameX x.name.data.toList with
    | false =>
      have HNn := Lib.hid hn
      clear hn
      go_wp2
      go_ret
      exact ⟨160, ⟨#[]⟩, rfl, .name (.inl HNn.out), .inl ⟨by decide, H3.out.out⟩⟩
    | true =>
      have HNn := Lib.hid hn
      clear hn
      have HF := Lib.hid (show isAt L (xkey x.name) i = false by
        cases ha : isAt L (xkey x.name) i with
        | true => exact absurd ⟨HNn.out, ha⟩ HY.out
        | false => rfl)
      go_wp2_with fail
      refine HCo.out.mono ?_
      rintro e w4 ⟨v, ic, nc, rfl, hsp, hrow, hyv, F4, hc4, hv4, hF4, ho4⟩
      have h4 := H3.out.more hc4 hF4 ho4
      obtain ⟨A, c, rfl⟩ := hrow.slice
      have hlen : (((L.drop ic).take nc).map colOf).length = nc := by
        rw [List.length_map, List.length_take, List.length_drop]; have := hsp.le; omega
      rw [hlen]
      have HK := Lib.hid (kinds_any w4)
      have HR4 := Lib.hid (And.intro hrow (And.intro hv4 hlen))
      have hnc : nc < 256 := by have := hsp.le; have := hc4.leaf.few; omega
      have H4 := Lib.hid (And.intro h4 hsp)
      clear hsp hrow hyv hc4 hv4 hF4 ho4 h4 hlen HCo
      go_wp2_with fail
      refine HK.out.mono ?_
      rintro e w5 ⟨g, gp, gl, rfl, hka, -, -, -, hb5⟩
      have h5 := H4.out.1.below hb5
      have HKx := Lib.hid (kindx_any hka h5.box)
      have HR5 := Lib.hid (HR4.out.1.keep fun k hk => hb5.block k (HR4.out.1.own hk).1)
      have H5 := Lib.hid h5
      clear hka h5 hb5 HK
      go_wp2_with fail
      refine HKx.out.mono ?_
      rintro e w6 ⟨at_, rfl, hik, hb6⟩
      have h6 := H5.out.below hb6
      obtain ⟨x0, x1, x2, x3, x4⟩ := xi5 h6.box
      have HK6 := Lib.hid (kinds_any w6)
      have HR6 := Lib.hid (HR5.out.keep fun k hk => hb6.block k (HR5.out.own hk).1)
      have H6 := Lib.hid (And.intro h6 hik)
      have HNo := Lib.hid (fun hbad => AddIs.none (L := L) (x := x) i ic nc at_ HNn.out H2.out.2 HF.out hik H4.out.2 hbad)
      clear h6 hb6 HKx
      by_cases ha0 : at_ < 0
      · clear hik
        have hda : decide (at_ < 0) = true := decide_eq_true ha0
        go_wp2
        go_ret
        exact ⟨3, ⟨#[]⟩, rfl, HNo.out (.inl ha0), .inl ⟨by decide, H6.out.1.out⟩⟩
      · obtain ⟨k, rfl, hk4, hik⟩ := hik.pos ha0
        by_cases hc0 : x.col < 0
        · clear hik
          go_wp2
          go_ret
          exact ⟨3, ⟨#[]⟩, rfl, HNo.out (.inr (.inl hc0)), .inl ⟨by decide, H6.out.1.out⟩⟩
        · by_cases hcn : (nc : Int) ≤ x.col
          · clear hik
            go_wp2
            go_ret
            exact ⟨3, ⟨#[]⟩, rfl, HNo.out (.inr (.inr hcn)), .inl ⟨by decide, H6.out.1.out⟩⟩
          · have HIK := Lib.hid hik
            clear hik
            go_wp2_with fail
            refine HK6.out.mono ?_
            rintro e w7 ⟨g, gp, gl, rfl, hka, -, -, -, hb7⟩
            obtain ⟨q, hq⟩ : ∃ q : Nat, x.col = q := ⟨x.col.toNat, by omega⟩
            have hqn : q < nc := by omega
            obtain ⟨hkl, hkc⟩ := hka.cols k hk4
            obtain ⟨k0, k1, k2, k3⟩ := hka.cells k hk4
            have hb8 : Below w7.heap.size w7 ((w7.alloc (kindO k (kg gp gl k) (kn k))).drew) := by go_grown
            have hb68 := Below.trans' hb8 hb7
            have h8 := H6.out.1.below hb68
            have hR8 := HR6.out.keep fun k hk => hb68.block k (HR6.out.own hk).1
            have hq' : q < (((L.drop ic).take nc).map colOf).length := by rw [HR4.out.2.2]; exact hqn
            obtain ⟨gc, rfl, -, hcell⟩ := hR8.at_ q hq'
            have hcolk : ((((L.drop ic).take nc).map colOf)[q]'hq').kind = (colOf (yv L (ic + q))).kind := by
              have hz : ic + q < L.length := by have := H4.out.2.le; omega
              simp only [List.getElem_map, List.getElem_take, List.getElem_drop]
              rw [yv_at L _ hz]
            rw [hcolk] at hcell
            have HCo8 := Lib.hid (ccols_any (c := kn k) (kcols k) hkl (fun j hj => (hb8.cell (World.block_lt_of_cell? _ _ (hkc j hj))).trans (hkc j hj)) (by unfold kcols; split <;> simp) (colOf (yv L (ic + q))).kind)
            have hbox8 := xi5 h8.box
            have hx2q : (w7.alloc (kindO k (kg gp gl k) (kn k))).drew.cell? ⟨w.heap.size, 2, none⟩ = some (.int .i64 (q : Int)) := by rw [← hq]; exact hbox8.2.2.1
            have hkO := kind4 (show (w7.alloc (kindO k (kg gp gl k) (kn k))).drew.heap[w7.heap.size]? = some (kindO k (kg gp gl k) (kn k)) from hnew w7 _)
            have H8 := Lib.hid (And.intro h8 (And.intro hkO hq))
            have hcell' : (w7.alloc (kindO k (kg gp gl k) (kn k))).drew.cell? ⟨gc, q * 2 + 1, none⟩ = some (.int .i64 (colOf (yv L (ic + q))).kind) := hcell
            have hSS := Lib.hid (And.intro hkO.2.1 (And.intro hx2q hcell'))
            have hq4 : (q : Int) < nc := by omega
            clear hka hb7 hb8 hb68 h8 hR8 hq' hcolk hkl hkc hbox8 hkO hcell hcell' hx2q hq
            have HKN := Lib.hid hk4
            generalize hkind : (colOf (yv L (ic + q))).kind = kd at *
            have HKD := Lib.hid hkind
            clear hkind
            generalize hgk : kg gp gl k = gk at *
            clear hgk
            generalize hknn : kn k = knn at *
            clear hknn
            generalize hct : (kcols k).contains kd = ct at *
            have HCT := Lib.hid hct
            clear hct
            go_wp2
            refine wp_region_noPanic ?_
            refine wp_region_held_drew (S := (fun w' => w'.cell? ⟨w7.heap.size, 1, none⟩ = some (.slice (some ⟨gk, 0, none⟩) knn knn) ∧ w'.cell? ⟨w.heap.size, 2, none⟩ = some (.int .i64 (q : Int)) ∧ w'.cell? ⟨gc, q * 2 + 1, none⟩ = some (.int .i64 kd))) (by kernel_rfl) hSS.out (fun hS => ?_)
            refine wpAnyH_take (i := 0) (v := ?_) rfl (by kernel_rfl) (by kernel_rfl) (by kernel_rfl) (fun _ _ _ h => h) (Or.inl ⟨by rfl, ?_⟩) hS ?_
            rotate_left
            · rintro w9 ⟨t0, t1, t2⟩
              go_simp
              try with_reducible rfl
            try simp only [Act.put, List.getElem_toArray, List.getElem_cons_succ, List.getElem_cons_zero, List.setIfInBounds_toArray, List.set_cons_zero, List.set_cons_succ]
            refine wpAnyH_take (i := 1) (v := ?_) rfl (by kernel_rfl) (by kernel_rfl) (by kernel_rfl) (fun _ _ _ h => h) (Or.inl ⟨by rfl, ?_⟩) hS ?_
            rotate_left
            · rintro w9 ⟨t0, t1, t2⟩
              go_simp
              try with_reducible rfl
            try simp only [Act.put, List.getElem_toArray, List.getElem_cons_succ, List.getElem_cons_zero, List.setIfInBounds_toArray, List.set_cons_zero, List.set_cons_succ]
            refine wpAnyH_take (i := 2) (v := ?_) rfl (by kernel_rfl) (by kernel_rfl) (by kernel_rfl) (fun _ _ _ h => h) (Or.inl ⟨by rfl, ?_⟩) hS ?_
            rotate_left
            · rintro w9 ⟨t0, t1, t2⟩
              go_simp
              try with_reducible rfl
            try simp only [Act.put, List.getElem_toArray, List.getElem_cons_succ, List.getElem_cons_zero, List.setIfInBounds_toArray, List.set_cons_zero, List.set_cons_succ]
            refine wpAnyH_take (i := 3) (v := ?_) rfl (by kernel_rfl) (by kernel_rfl) (by kernel_rfl) (fun _ _ _ h => h) (Or.inl ⟨by rfl, ?_⟩) hS ?_
            rotate_left
            · rintro w9 ⟨t0, t1, t2⟩
              go_simp
              try with_reducible rfl
            try simp only [Act.put, List.getElem_toArray, List.getElem_cons_succ, List.getElem_cons_zero, List.setIfInBounds_toArray, List.set_cons_zero, List.set_cons_succ]
            refine wpAnyH_take (i := 4) (v := ?_) rfl (by kernel_rfl) (by kernel_rfl) (by kernel_rfl) (fun _ _ _ h => h) (Or.inl ⟨by rfl, ?_⟩) hS ?_
            rotate_left
            · rintro w9 ⟨t0, t1, t2⟩
              go_simp
              try with_reducible rfl
            try simp only [Act.put, List.getElem_toArray, List.getElem_cons_succ, List.getElem_cons_zero, List.setIfInBounds_toArray, List.set_cons_zero, List.set_cons_succ]
            refine wpAnyH_take (i := 5) (v := ?_) rfl (by kernel_rfl) (by kernel_rfl) (by kernel_rfl) (fun _ _ _ h => h) (Or.inl ⟨by rfl, ?_⟩) hS ?_
            rotate_left
            · rintro w9 ⟨t0, t1, t2⟩
              go_simp
              try with_reducible rfl
            try simp only [Act.put, List.getElem_toArray, List.getElem_cons_succ, List.getElem_cons_zero, List.setIfInBounds_toArray, List.set_cons_zero, List.set_cons_succ]
            refine wpAnyH_take (i := 6) (v := ?_) rfl (by kernel_rfl) (by kernel_rfl) (by kernel_rfl) (fun _ _ _ h => h) (Or.inl ⟨by rfl, ?_⟩) hS ?_
            rotate_left
            · rintro w9 ⟨t0, t1, t2⟩
              go_simp
              try with_reducible rfl
            try simp only [Act.put, List.getElem_toArray, List.getElem_cons_succ, List.getElem_cons_zero, List.setIfInBounds_toArray, List.set_cons_zero, List.set_cons_succ]
            refine wpAnyH_take (i := 7) (v := ?_) rfl (by kernel_rfl) (by kernel_rfl) (by kernel_rfl) (fun _ _ _ h => h) (Or.inl ⟨by rfl, ?_⟩) hS ?_
            rotate_left
            · rintro w9 ⟨t0, t1, t2⟩
              go_simp
              try with_reducible rfl
            try simp only [Act.put, List.getElem_toArray, List.getElem_cons_succ, List.getElem_cons_zero, List.setIfInBounds_toArray, List.set_cons_zero, List.set_cons_succ]
            refine wpAnyH_ready (rs := [8]) (by kernel_rfl) (by simp) ?_
            refine AllReadyH.cons rfl (fun K hK => ?_) AllReadyH.nil
            go_simp
            refine HCo8.out.mono ?_
            rintro e w8 ⟨rfl, rfl⟩
            refine hK.out _ _ hS (fun _ => ?_)
            clear hK K
            try simp only [Act.put, List.getElem_toArray, List.getElem_cons_succ, List.getElem_cons_zero, List.setIfInBounds_toArray, List.set_cons_zero, List.set_cons_succ]
            refine wpAnyH_take (i := 9) (v := ?_) rfl (by kernel_rfl) (by kernel_rfl) (by kernel_rfl) (fun _ _ _ h => h) (Or.inl ⟨by rfl, ?_⟩) hS ?_
            rotate_left
            · rintro w9 ⟨t0, t1, t2⟩
              go_simp
              try with_reducible rfl
            try simp only [Act.put, List.getElem_toArray, List.getElem_cons_succ, List.getElem_cons_zero, List.setIfInBounds_toArray, List.set_cons_zero, List.set_cons_succ]
            refine wpAnyH_done (by kernel_rfl) ?_ _
            refine NoPanic.normal ?_
            cases ct with
            | false =>
              have HR := Lib.hid (AddIs.kind (L := L) (x := x) i ic nc k q HNn.out H2.out.2 HF.out HIK.out H4.out.2 H8.out.2.2 hqn (by rw [HKD.out]; exact HCT.out))
              go_wp2
              go_ret
              exact ⟨10, ⟨#[]⟩, rfl, HR.out, .inl ⟨by decide, H8.out.1.out⟩⟩
            | true =>
              have HCt := Lib.hid (show (kcols k).contains (colOf (yv L (ic + q))).kind = true by rw [HKD.out]; exact HCT.out)
              have hxc := (xi5 H8.out.1.box).2.2.2.1
              have hkc := H8.out.2.1.2.2.1
              by_cases hun : x.uniq = true ∧ kuniq k = false
              · have HR := Lib.hid (AddIs.able (L := L) (x := x) i ic nc k q HNn.out H2.out.2 HF.out HIK.out H4.out.2 H8.out.2.2 hqn HCt.out hun.1 hun.2)
                rw [hun.1] at hxc
                rw [hun.2] at hkc
                clear hun
                go_wp2
                go_ret
                exact ⟨90, ⟨#[]⟩, rfl, HR.out, .inl ⟨by decide, H8.out.1.out⟩⟩
              · have HUn := Lib.hid (show x.uniq = true → kuniq k = true from fun hu => by
                  cases hh : kuniq k with
                  | true => rfl
                  | false => exact absurd ⟨hu, hh⟩ hun)
                have HRt := Lib.hid (croot_any H8.out.1.cat HP.out.2.2)
                clear hun
                have hs16 : x.name.size ≤ 16 := by
                  have hn := HNn.out
                  have e : x.name.data.toList.length = x.name.size := by simp
                  simp only [nameX, Bool.and_eq_true, decide_eq_true_eq] at hn
                  omega
                have hs17 : ¬ 9223372036854775807 < 1 + x.name.size := by omega
                cases hxu : x.uniq with
                | true =>
                  have hku := HUn.out hxu
                  rw [hxu] at hxc
                  rw [hku] at hkc
                  clear hku
                  go_wp2_with fail
                  refine HRt.out.mono ?_
                  rintro e w9 ⟨r, ix, nx, rfl, hsx, hir, hs9⟩
                  obtain ⟨F9, h9, -, -⟩ := H8.out.1.step hs9
                  by_cases hr0 : r = 0
                  · subst hr0
                    have HR := Lib.hid (AddIs.full (L := L) (x := x) i ic nc k q ix nx HNn.out H2.out.2 HF.out HIK.out H4.out.2 H8.out.2.2 hqn HCt.out HUn.out hsx hir)
                    have H9 := Lib.hid h9
                    clear hsx hir hs9 h9
                    go_wp2
                    go_ret
                    exact ⟨2, ⟨#[]⟩, rfl, HR.out, .inl ⟨by decide, H9.out.out⟩⟩
                  · obtain ⟨r', rfl, hr8, hr2⟩ : ∃ r' : Nat, r = r' ∧ r' < 8 ∧ 2 ≤ r' := by
                      rcases hir with ⟨e, _⟩ | ⟨h1, h2, _⟩
                      · exact absurd e hr0
                      · exact ⟨r.toNat, by omega, by omega, by omega⟩
                    have HOk := Lib.hid (AddIs.ok (L := L) (x := x) i ic nc k q ix nx r' HNn.out H2.out.2 HF.out HIK.out H4.out.2 H8.out.2.2 hqn HCt.out HUn.out hsx hir hr0)
                    rw [hxu] at HOk
                    have hbW : Below w9.heap.size w9 (w9.alloc (xrowO k q 1 r')) := by go_grown
                    have hW := h9.below hbW
                    have hWd := hW.below ((Below.refl _ (w9.alloc (xrowO k q 1 r'))).drew)
                    have hx9 := xi5 h9.box
                    have x0 := hx9.1
                    have x2 : w9.cell? ⟨w.heap.size, 2, none⟩ = some (.int .i64 (q : Int)) := by rw [← H8.out.2.2]; exact hx9.2.2.1
                    have x3 := hx9.2.2.2.1
                    rw [hxu] at x3
                    have hw1 : IntKind.u8.wrap (k : Int) = k := by rw [IntKind.wrap_u8']; omega
                    have hw2 : IntKind.u8.wrap (q : Int) = q := by rw [IntKind.wrap_u8']; omega
                    have hw3 : IntKind.u8.wrap (r' : Int) = r' := by rw [IntKind.wrap_u8']; omega
                    have hrow : (w9.alloc (xrowO k q 1 r')).drew.heap[w9.heap.size]? = some (xrowO k q 1 r') := hnew w9 _
                    have hconv := conv_ent (r := r') (cap := 5) true hrow hk4 (show q < 256 by omega) (show r' < 256 by omega)
                    rw [show xent (k : Int) (q : Int) true (r' : Int) = xent k x.col true r' by rw [H8.out.2.2]] at hconv
                    have HPut := Lib.hid (HP.out.1 _ _ _ HOk.out hWd.cat)
                    have hcc := hWd.cat.cells.2
                    have hbx0 := (xi5 hWd.box).1
                    have HW := Lib.hid (And.intro hWd (And.intro hcc hbx0))
                    have hlt9 : w.heap.size < w9.heap.size := (Array.getElem?_eq_some_iff.1 h9.box).1
                    obtain ⟨xe, hxe⟩ : ∃ xe, xent k x.col true r' = xe := ⟨_, rfl⟩
                    rw [hxe] at hconv HPut HOk
                    clear hsx hir hs9 h9 hbW hW hWd hx9 hrow hcc hbx0 hxe HRt
                    go_wp2
                    refine wp_region_noPanic ?_
                    refine wp_region_held_drew (S := (fun w' => w'.cell? ⟨gb, 1, none⟩ = some (.pointer (some ⟨tb, 0, none⟩)) ∧ w'.cell? ⟨w.heap.size, 0, none⟩ = some (.string x.name))) (by kernel_rfl) HW.out.2 (fun hS => ?_)
                    refine wpAnyH_take (i := 0) (v := ?_) rfl (by kernel_rfl) (by kernel_rfl) (by kernel_rfl) (fun _ _ _ h => h) (Or.inl ⟨by rfl, ?_⟩) hS ?_
                    rotate_left
                    · rintro w9 ⟨t0, t1⟩
                      go_simp
                      try with_reducible rfl
                    try simp only [Act.put, List.getElem_toArray, List.getElem_cons_succ, List.getElem_cons_zero, List.setIfInBounds_toArray, List.set_cons_zero, List.set_cons_succ]
                    refine wpAnyH_take (i := 1) (v := ?_) rfl (by kernel_rfl) (by kernel_rfl) (by kernel_rfl) (fun _ _ _ h => h) (Or.inl ⟨by rfl, ?_⟩) hS ?_
                    rotate_left
                    · rintro w9 ⟨t0, t1⟩
                      go_simp
                      try with_reducible rfl
                    try simp only [Act.put, List.getElem_toArray, List.getElem_cons_succ, List.getElem_cons_zero, List.setIfInBounds_toArray, List.set_cons_zero, List.set_cons_succ]
                    refine wpAnyH_take (i := 2) (v := ?_) rfl (by kernel_rfl) (by kernel_rfl) (by kernel_rfl) (fun _ _ _ h => h) (Or.inl ⟨by rfl, ?_⟩) hS ?_
                    rotate_left
                    · rintro w9 ⟨t0, t1⟩
                      go_simp
                      try with_reducible rfl
                    try simp only [Act.put, List.getElem_toArray, List.getElem_cons_succ, List.getElem_cons_zero, List.setIfInBounds_toArray, List.set_cons_zero, List.set_cons_succ]
                    refine wpAnyH_take (i := 3) (v := ?_) rfl (by kernel_rfl) (by kernel_rfl) (by kernel_rfl) (fun _ _ _ h => h) (Or.inl ⟨by rfl, ?_⟩) hS ?_
                    rotate_left
                    · rintro w9 ⟨t0, t1⟩
                      go_simp
                      try with_reducible rfl
                    try simp only [Act.put, List.getElem_toArray, List.getElem_cons_succ, List.getElem_cons_zero, List.setIfInBounds_toArray, List.set_cons_zero, List.set_cons_succ]
                    refine wpAnyH_take (i := 4) (v := ?_) rfl (by kernel_rfl) (by kernel_rfl) (by kernel_rfl) (fun _ _ _ h => h) (Or.inl ⟨by rfl, ?_⟩) hS ?_
                    rotate_left
                    · rintro w9 ⟨t0, t1⟩
                      go_simp
                      try with_reducible rfl
                    try simp only [Act.put, List.getElem_toArray, List.getElem_cons_succ, List.getElem_cons_zero, List.setIfInBounds_toArray, List.set_cons_zero, List.set_cons_succ]
                    refine wpAnyH_take (i := 5) (v := ?_) rfl (by kernel_rfl) (by kernel_rfl) (by kernel_rfl) (fun _ _ _ h => h) (Or.inl ⟨by rfl, ?_⟩) hS ?_
                    rotate_left
                    · rintro w9 ⟨t0, t1⟩
                      go_simp
                      try with_reducible rfl
                    try simp only [Act.put, List.getElem_toArray, List.getElem_cons_succ, List.getElem_cons_zero, List.setIfInBounds_toArray, List.set_cons_zero, List.set_cons_succ]
                    refine wpAnyH_take (i := 6) (v := ?_) rfl (by kernel_rfl) (by kernel_rfl) (by kernel_rfl) (fun _ _ _ h => h) (Or.inl ⟨by rfl, ?_⟩) hS ?_
                    rotate_left
                    · rintro w9 ⟨t0, t1⟩
                      go_simp
                      try with_reducible rfl
                    try simp only [Act.put, List.getElem_toArray, List.getElem_cons_succ, List.getElem_cons_zero, List.setIfInBounds_toArray, List.set_cons_zero, List.set_cons_succ]
                    refine wpAnyH_take (i := 7) (v := ?_) rfl (by kernel_rfl) (by kernel_rfl) (by kernel_rfl) (fun _ _ _ h => h) (Or.inl ⟨by rfl, ?_⟩) hS ?_
                    rotate_left
                    · rintro w9 ⟨t0, t1⟩
                      go_simp
                      try with_reducible rfl
                    try simp only [Act.put, List.getElem_toArray, List.getElem_cons_succ, List.getElem_cons_zero, List.setIfInBounds_toArray, List.set_cons_zero, List.set_cons_succ]
                    refine wpAnyH_ready (rs := [8]) (by kernel_rfl) (by simp) ?_
                    refine AllReadyH.cons rfl (fun K hK => ?_) AllReadyH.nil
                    go_simp
                    refine hK.out _ _ hS (fun _ => ?_)
                    clear hK K
                    try simp only [Act.put, List.getElem_toArray, List.getElem_cons_succ, List.getElem_cons_zero, List.setIfInBounds_toArray, List.set_cons_zero, List.set_cons_succ]
                    refine wpAnyH_ready (rs := [9]) (by kernel_rfl) (by simp) ?_
                    refine AllReadyH.cons rfl (fun K hK => ?_) AllReadyH.nil
                    go_simp
                    refine HPut.out.mono ?_
                    rintro e w10 ⟨rfl, hs10⟩
                    have HS10 := Lib.hid (CStep.of_off HW.out.1.off HW.out.1.yF hs10)
                    have hS10 : w10.cell? ⟨gb, 1, none⟩ = some (.pointer (some ⟨tb, 0, none⟩)) ∧ w10.cell? ⟨w.heap.size, 0, none⟩ = some (.string x.name) := by
                      obtain ⟨F10, hc10, hF10, ho10⟩ := hs10
                      exact ⟨hc10.cells.2, ho10.cell HW.out.2.2 HW.out.1.nF⟩
                    clear hs10
                    refine hK.out _ _ hS10 (fun _ => ?_)
                    clear hK K
                    try simp only [Act.put, List.getElem_toArray, List.getElem_cons_succ, List.getElem_cons_zero, List.setIfInBounds_toArray, List.set_cons_zero, List.set_cons_succ]
                    refine wpAnyH_take (i := 10) (v := ?_) rfl (by kernel_rfl) (by kernel_rfl) (by kernel_rfl) (fun _ _ _ h => h) (Or.inl ⟨by rfl, ?_⟩) hS10 ?_
                    rotate_left
                    · rintro w9 ⟨t0, t1⟩
                      go_simp
                      try with_reducible rfl
                    try simp only [Act.put, List.getElem_toArray, List.getElem_cons_succ, List.getElem_cons_zero, List.setIfInBounds_toArray, List.set_cons_zero, List.set_cons_succ]
                    refine wpAnyH_take (i := 11) (v := ?_) rfl (by kernel_rfl) (by kernel_rfl) (by kernel_rfl) (fun _ _ _ h => h) (Or.inl ⟨by rfl, ?_⟩) hS10 ?_
                    rotate_left
                    · rintro w9 ⟨t0, t1⟩
                      go_simp
                      try with_reducible rfl
                    try simp only [Act.put, List.getElem_toArray, List.getElem_cons_succ, List.getElem_cons_zero, List.setIfInBounds_toArray, List.set_cons_zero, List.set_cons_succ]
                    refine wpAnyH_take (i := 12) (v := ?_) rfl (by kernel_rfl) (by kernel_rfl) (by kernel_rfl) (fun _ _ _ h => h) (Or.inl ⟨by rfl, ?_⟩) hS10 ?_
                    rotate_left
                    · rintro w9 ⟨t0, t1⟩
                      go_simp
                      try with_reducible rfl
                    try simp only [Act.put, List.getElem_toArray, List.getElem_cons_succ, List.getElem_cons_zero, List.setIfInBounds_toArray, List.set_cons_zero, List.set_cons_succ]
                    refine wpAnyH_take (i := 13) (v := ?_) rfl (by kernel_rfl) (by kernel_rfl) (by kernel_rfl) (fun _ _ _ h => h) (Or.inl ⟨by rfl, ?_⟩) hS10 ?_
                    rotate_left
                    · rintro w9 ⟨t0, t1⟩
                      go_simp
                      try with_reducible rfl
                    try simp only [Act.put, List.getElem_toArray, List.getElem_cons_succ, List.getElem_cons_zero, List.setIfInBounds_toArray, List.set_cons_zero, List.set_cons_succ]
                    refine wpAnyH_take (i := 14) (v := ?_) rfl (by kernel_rfl) (by kernel_rfl) (by kernel_rfl) (fun _ _ _ h => h) (Or.inl ⟨by rfl, ?_⟩) hS10 ?_
                    rotate_left
                    · rintro w9 ⟨t0, t1⟩
                      go_simp
                      try with_reducible rfl
                    try simp only [Act.put, List.getElem_toArray, List.getElem_cons_succ, List.getElem_cons_zero, List.setIfInBounds_toArray, List.set_cons_zero, List.set_cons_succ]
                    refine wpAnyH_done (by kernel_rfl) ?_ _
                    refine NoPanic.normal ?_
                    go_wp2
                    go_ret
                    exact ⟨0, xe, rfl, HOk.out, .inr ⟨rfl, HS10.out⟩⟩
                | false =>
                  rw [hxu] at hxc
                  go_wp2_with fail
                  refine HRt.out.mono ?_
                  rintro e w9 ⟨r, ix, nx, rfl, hsx, hir, hs9⟩
                  obtain ⟨F9, h9, -, -⟩ := H8.out.1.step hs9
                  by_cases hr0 : r = 0
                  · subst hr0
                    have HR := Lib.hid (AddIs.full (L := L) (x := x) i ic nc k q ix nx HNn.out H2.out.2 HF.out HIK.out H4.out.2 H8.out.2.2 hqn HCt.out HUn.out hsx hir)
                    have H9 := Lib.hid h9
                    clear hsx hir hs9 h9
                    go_wp2
                    go_ret
                    exact ⟨2, ⟨#[]⟩, rfl, HR.out, .inl ⟨by decide, H9.out.out⟩⟩
                  · obtain ⟨r', rfl, hr8, hr2⟩ : ∃ r' : Nat, r = r' ∧ r' < 8 ∧ 2 ≤ r' := by
                      rcases hir with ⟨e, _⟩ | ⟨h1, h2, _⟩
                      · exact absurd e hr0
                      · exact ⟨r.toNat, by omega, by omega, by omega⟩
                    have HOk := Lib.hid (AddIs.ok (L := L) (x := x) i ic nc k q ix nx r' HNn.out H2.out.2 HF.out HIK.out H4.out.2 H8.out.2.2 hqn HCt.out HUn.out hsx hir hr0)
                    rw [hxu] at HOk
                    have hbW : Below w9.heap.size w9 (w9.alloc (xrowO k q 0 r')) := by go_grown
                    have hW := h9.below hbW
                    have hWd := hW.below ((Below.refl _ (w9.alloc (xrowO k q 0 r'))).drew)
                    have hx9 := xi5 h9.box
                    have x0 := hx9.1
                    have x2 : w9.cell? ⟨w.heap.size, 2, none⟩ = some (.int .i64 (q : Int)) := by rw [← H8.out.2.2]; exact hx9.2.2.1
                    have x3 := hx9.2.2.2.1
                    rw [hxu] at x3
                    have hw1 : IntKind.u8.wrap (k : Int) = k := by rw [IntKind.wrap_u8']; omega
                    have hw2 : IntKind.u8.wrap (q : Int) = q := by rw [IntKind.wrap_u8']; omega
                    have hw3 : IntKind.u8.wrap (r' : Int) = r' := by rw [IntKind.wrap_u8']; omega
                    have hrow : (w9.alloc (xrowO k q 0 r')).drew.heap[w9.heap.size]? = some (xrowO k q 0 r') := hnew w9 _
                    have hconv := conv_ent (r := r') (cap := 5) false hrow hk4 (show q < 256 by omega) (show r' < 256 by omega)
                    rw [show xent (k : Int) (q : Int) false (r' : Int) = xent k x.col false r' by rw [H8.out.2.2]] at hconv
                    have HPut := Lib.hid (HP.out.1 _ _ _ HOk.out hWd.cat)
                    have hcc := hWd.cat.cells.2
                    have hbx0 := (xi5 hWd.box).1
                    have HW := Lib.hid (And.intro hWd (And.intro hcc hbx0))
                    have hlt9 : w.heap.size < w9.heap.size := (Array.getElem?_eq_some_iff.1 h9.box).1
                    obtain ⟨xe, hxe⟩ : ∃ xe, xent k x.col false r' = xe := ⟨_, rfl⟩
                    rw [hxe] at hconv HPut HOk
                    clear hsx hir hs9 h9 hbW hW hWd hx9 hrow hcc hbx0 hxe HRt
                    go_wp2
                    refine wp_region_noPanic ?_
                    refine wp_region_held_drew (S := (fun w' => w'.cell? ⟨gb, 1, none⟩ = some (.pointer (some ⟨tb, 0, none⟩)) ∧ w'.cell? ⟨w.heap.size, 0, none⟩ = some (.string x.name))) (by kernel_rfl) HW.out.2 (fun hS => ?_)
                    refine wpAnyH_take (i := 0) (v := ?_) rfl (by kernel_rfl) (by kernel_rfl) (by kernel_rfl) (fun _ _ _ h => h) (Or.inl ⟨by rfl, ?_⟩) hS ?_
                    rotate_left
                    · rintro w9 ⟨t0, t1⟩
                      go_simp
                      try with_reducible rfl
                    try simp only [Act.put, List.getElem_toArray, List.getElem_cons_succ, List.getElem_cons_zero, List.setIfInBounds_toArray, List.set_cons_zero, List.set_cons_succ]
                    refine wpAnyH_take (i := 1) (v := ?_) rfl (by kernel_rfl) (by kernel_rfl) (by kernel_rfl) (fun _ _ _ h => h) (Or.inl ⟨by rfl, ?_⟩) hS ?_
                    rotate_left
                    · rintro w9 ⟨t0, t1⟩
                      go_simp
                      try with_reducible rfl
                    try simp only [Act.put, List.getElem_toArray, List.getElem_cons_succ, List.getElem_cons_zero, List.setIfInBounds_toArray, List.set_cons_zero, List.set_cons_succ]
                    refine wpAnyH_take (i := 2) (v := ?_) rfl (by kernel_rfl) (by kernel_rfl) (by kernel_rfl) (fun _ _ _ h => h) (Or.inl ⟨by rfl, ?_⟩) hS ?_
                    rotate_left
                    · rintro w9 ⟨t0, t1⟩
                      go_simp
                      try with_reducible rfl
                    try simp only [Act.put, List.getElem_toArray, List.getElem_cons_succ, List.getElem_cons_zero, List.setIfInBounds_toArray, List.set_cons_zero, List.set_cons_succ]
                    refine wpAnyH_take (i := 3) (v := ?_) rfl (by kernel_rfl) (by kernel_rfl) (by kernel_rfl) (fun _ _ _ h => h) (Or.inl ⟨by rfl, ?_⟩) hS ?_
                    rotate_left
                    · rintro w9 ⟨t0, t1⟩
                      go_simp
                      try with_reducible rfl
                    try simp only [Act.put, List.getElem_toArray, List.getElem_cons_succ, List.getElem_cons_zero, List.setIfInBounds_toArray, List.set_cons_zero, List.set_cons_succ]
                    refine wpAnyH_take (i := 4) (v := ?_) rfl (by kernel_rfl) (by kernel_rfl) (by kernel_rfl) (fun _ _ _ h => h) (Or.inl ⟨by rfl, ?_⟩) hS ?_
                    rotate_left
                    · rintro w9 ⟨t0, t1⟩
                      go_simp
                      try with_reducible rfl
                    try simp only [Act.put, List.getElem_toArray, List.getElem_cons_succ, List.getElem_cons_zero, List.setIfInBounds_toArray, List.set_cons_zero, List.set_cons_succ]
                    refine wpAnyH_take (i := 5) (v := ?_) rfl (by kernel_rfl) (by kernel_rfl) (by kernel_rfl) (fun _ _ _ h => h) (Or.inl ⟨by rfl, ?_⟩) hS ?_
                    rotate_left
                    · rintro w9 ⟨t0, t1⟩
                      go_simp
                      try with_reducible rfl
                    try simp only [Act.put, List.getElem_toArray, List.getElem_cons_succ, List.getElem_cons_zero, List.setIfInBounds_toArray, List.set_cons_zero, List.set_cons_succ]
                    refine wpAnyH_take (i := 6) (v := ?_) rfl (by kernel_rfl) (by kernel_rfl) (by kernel_rfl) (fun _ _ _ h => h) (Or.inl ⟨by rfl, ?_⟩) hS ?_
                    rotate_left
                    · rintro w9 ⟨t0, t1⟩
                      go_simp
                      try with_reducible rfl
                    try simp only [Act.put, List.getElem_toArray, List.getElem_cons_succ, List.getElem_cons_zero, List.setIfInBounds_toArray, List.set_cons_zero, List.set_cons_succ]
                    refine wpAnyH_take (i := 7) (v := ?_) rfl (by kernel_rfl) (by kernel_rfl) (by kernel_rfl) (fun _ _ _ h => h) (Or.inl ⟨by rfl, ?_⟩) hS ?_
                    rotate_left
                    · rintro w9 ⟨t0, t1⟩
                      go_simp
                      try with_reducible rfl
                    try simp only [Act.put, List.getElem_toArray, List.getElem_cons_succ, List.getElem_cons_zero, List.setIfInBounds_toArray, List.set_cons_zero, List.set_cons_succ]
                    refine wpAnyH_ready (rs := [8]) (by kernel_rfl) (by simp) ?_
                    refine AllReadyH.cons rfl (fun K hK => ?_) AllReadyH.nil
                    go_simp
                    refine hK.out _ _ hS (fun _ => ?_)
                    clear hK K
                    try simp only [Act.put, List.getElem_toArray, List.getElem_cons_succ, List.getElem_cons_zero, List.setIfInBounds_toArray, List.set_cons_zero, List.set_cons_succ]
                    refine wpAnyH_ready (rs := [9]) (by kernel_rfl) (by simp) ?_
                    refine AllReadyH.cons rfl (fun K hK => ?_) AllReadyH.nil
                    go_simp
                    refine HPut.out.mono ?_
                    rintro e w10 ⟨rfl, hs10⟩
                    have HS10 := Lib.hid (CStep.of_off HW.out.1.off HW.out.1.yF hs10)
                    have hS10 : w10.cell? ⟨gb, 1, none⟩ = some (.pointer (some ⟨tb, 0, none⟩)) ∧ w10.cell? ⟨w.heap.size, 0, none⟩ = some (.string x.name) := by
                      obtain ⟨F10, hc10, hF10, ho10⟩ := hs10
                      exact ⟨hc10.cells.2, ho10.cell HW.out.2.2 HW.out.1.nF⟩
                    clear hs10
                    refine hK.out _ _ hS10 (fun _ => ?_)
                    clear hK K
                    try simp only [Act.put, List.getElem_toArray, List.getElem_cons_succ, List.getElem_cons_zero, List.setIfInBounds_toArray, List.set_cons_zero, List.set_cons_succ]
                    refine wpAnyH_take (i := 10) (v := ?_) rfl (by kernel_rfl) (by kernel_rfl) (by kernel_rfl) (fun _ _ _ h => h) (Or.inl ⟨by rfl, ?_⟩) hS10 ?_
                    rotate_left
                    · rintro w9 ⟨t0, t1⟩
                      go_simp
                      try with_reducible rfl
                    try simp only [Act.put, List.getElem_toArray, List.getElem_cons_succ, List.getElem_cons_zero, List.setIfInBounds_toArray, List.set_cons_zero, List.set_cons_succ]
                    refine wpAnyH_take (i := 11) (v := ?_) rfl (by kernel_rfl) (by kernel_rfl) (by kernel_rfl) (fun _ _ _ h => h) (Or.inl ⟨by rfl, ?_⟩) hS10 ?_
                    rotate_left
                    · rintro w9 ⟨t0, t1⟩
                      go_simp
                      try with_reducible rfl
                    try simp only [Act.put, List.getElem_toArray, List.getElem_cons_succ, List.getElem_cons_zero, List.setIfInBounds_toArray, List.set_cons_zero, List.set_cons_succ]
                    refine wpAnyH_take (i := 12) (v := ?_) rfl (by kernel_rfl) (by kernel_rfl) (by kernel_rfl) (fun _ _ _ h => h) (Or.inl ⟨by rfl, ?_⟩) hS10 ?_
                    rotate_left
                    · rintro w9 ⟨t0, t1⟩
                      go_simp
                      try with_reducible rfl
                    try simp only [Act.put, List.getElem_toArray, List.getElem_cons_succ, List.getElem_cons_zero, List.setIfInBounds_toArray, List.set_cons_zero, List.set_cons_succ]
                    refine wpAnyH_take (i := 13) (v := ?_) rfl (by kernel_rfl) (by kernel_rfl) (by kernel_rfl) (fun _ _ _ h => h) (Or.inl ⟨by rfl, ?_⟩) hS10 ?_
                    rotate_left
                    · rintro w9 ⟨t0, t1⟩
                      go_simp
                      try with_reducible rfl
                    try simp only [Act.put, List.getElem_toArray, List.getElem_cons_succ, List.getElem_cons_zero, List.setIfInBounds_toArray, List.set_cons_zero, List.set_cons_succ]
                    refine wpAnyH_take (i := 14) (v := ?_) rfl (by kernel_rfl) (by kernel_rfl) (by kernel_rfl) (fun _ _ _ h => h) (Or.inl ⟨by rfl, ?_⟩) hS10 ?_
                    rotate_left
                    · rintro w9 ⟨t0, t1⟩
                      go_simp
                      try with_reducible rfl
                    try simp only [Act.put, List.getElem_toArray, List.getElem_cons_succ, List.getElem_cons_zero, List.setIfInBounds_toArray, List.set_cons_zero, List.set_cons_succ]
                    refine wpAnyH_done (by kernel_rfl) ?_ _
                    refine NoPanic.normal ?_
                    go_wp2
                    go_ret
                    exact ⟨0, xe, rfl, HOk.out, .inr ⟨rfl, HS10.out⟩⟩
end Go.Proofs.YtiakepcgalmjfaaGreat
