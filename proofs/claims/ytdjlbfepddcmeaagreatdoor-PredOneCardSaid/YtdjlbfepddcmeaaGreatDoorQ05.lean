/- The text of data: datum.text, Print. -/
import Derived.Test.YtdjlbfepddcmeaaGreatDoorQ04
import Derived.Lib.Join
import Derived.Lib.ItoaNum
set_option linter.unusedVariables false
set_option linter.unusedSimpArgs false
namespace Go.Proofs.YtdjlbfepddcmeaaGreatDoor
open Go.RowKit

theorem info_str : (Tryz.prog.info? 9).map (fun i => (i.zero, i.size, i.bytes)) = some (some (.string ⟨#[]⟩), 1, 16) := by kernel_rfl

def strVals (l : List ByteArray) : List Value := l.map Value.string
/-- v owns just these texts. -/
def Strs (w : World) (B : Nat) (v : Value) (l : List ByteArray) : Prop := w.ownsRow B 9 1 v l.length (strVals l)
theorem Strs.nil (w : World) (B : Nat) : Strs w B (.slice none 0 0) [] := World.ownsRow_nil _ _ _ _
theorem Strs.alloc {w : World} {B : Nat} {v : Value} {l : List ByteArray} (h : Strs w B v l) (o : Obj) : Strs (w.alloc o) B v l := World.ownsRow.alloc h o
theorem Strs.later {w w1 : World} {B : Nat} {v : Value} {l : List ByteArray} (h : Strs w B v l) (hb : Below w.heap.size w w1) : Strs w1 B v l :=
  World.ownsRow.kept h (row := none) ⟨hb.os, hb.tape, hb.output, hb.size, fun i hi _ => hb.block i hi⟩ (by cases v.ownBlock <;> simp)
theorem Strs.below {w w1 : World} {B : Nat} {v : Value} {l : List ByteArray} (h : Strs w B v l) (hB : B ≤ w.heap.size) (hg : w.grownBy w1 v.ownBlock) : Below B w w1 :=
  (Below.refl B w).grown hg hB fun k hk => by
    rcases h.2 with ⟨rfl, _⟩ | ⟨g, cap, cur, rfl, hb, _⟩
    · simp [Value.ownBlock] at hk
    · have : g = k := by simpa [Value.ownBlock] using hk
      omega

/-- append of one text that has just been laid. -/
theorem wp_appT {ops : Array Oper} {rest : List Oper} {o : Oper} {a : Act} {Q : Exit → Act → World → Prop} {W : World} (hgd : o.guard = none) (s x : Operand)
    (ho : o.op = .call { callee := .builtin .append, args := #[s, x], argTypes := #[84, 84] })
    (B : Nat) (v : Value) (l : List ByteArray) (hs : a.eval s = v) (hb : Strs W B v l) (t : ByteArray) (k c : Nat) (hx : a.eval x = .slice (some ⟨k, 0, none⟩) 1 c) (hk : k = W.heap.size)
    (hlen : l.length ≤ 1099511627776) (hB : B ≤ W.heap.size)
    (h : ∀ v' w', Strs w' B v' (l ++ [t]) → Below B W w' → W.heap.size ≤ w'.heap.size → wpList Tryz.prog ops Q rest (a.put o.dst v') w') : wpList Tryz.prog ops Q (o :: rest) a (W.alloc (.cells #[.string t] 9)) := by
  obtain ⟨i0, hi, hz0, hz1, hz2⟩ := info_parts info_str
  subst hk
  refine wpList_append_own _ hgd s x 84 ho B 9 i0 (.string ⟨#[]⟩) 1 16 Tryz.underlying84 hi hz0 hz1 hz2 rfl (by decide) v l.length (strVals l) hs (hb.alloc _) ⟨W.heap.size, 0, none⟩ 1 c [.string t] hx rfl ?_ (fun u hu => by simp at hu; subst hu; rfl) (by unfold maxLen; omega) (by omega) (by simp; omega) ?_
  · intro j u hj
    match j, hj with
    | 0, hj => simp at hj; subst hj; simp [Addr.add]
  · intro v' w' hown hg _
    have h1 : Strs w' B v' (l ++ [t]) := by unfold Strs strVals; rw [List.length_append, List.map_append]; exact hown
    have h2 : Below B (W.alloc (.cells #[.string t] 9)) w' := (hb.alloc _).below (by simp; omega) hg
    exact h v' w' h1 (((Below.refl B W).alloc hB _).trans h2) (by have := h2.size; simp at this; omega)

/-- strings.Join of owned texts. -/
theorem join_any (w : World) (B : Nat) (v : Value) (l : List ByteArray) (sep : ByteArray) (hb : Strs w B v l) (hlen : (Lib.join (l.map (·.data.toList)) sep.data.toList).length ≤ 140737488355328) (hn : l.length ≤ 1099511627776) :
    Calls Tryz.prog 89 #[v, .string sep] w fun e w' => e = .returned (.string ⟨(Lib.join (l.map (·.data.toList)) sep.data.toList).toArray⟩) ∧ Below w.heap.size w w' := by
  rcases hb.2 with ⟨rfl, h0⟩ | ⟨g, cap, cur, rfl, hgB, hh, hcap, _, _, _⟩
  · obtain rfl : l = [] := List.eq_nil_of_length_eq_zero h0
    refine (Tryz.strings_Join_none none 0 sep w).mono ?_
    rintro e w' ⟨rfl, rfl⟩
    exact ⟨rfl, Below.refl _ _⟩
  · refine Tryz.strings_Join g 0 cap l sep w (fun j x hj => ?_) (Array.getElem?_eq_some_iff.1 hh).1 (by omega) hcap hlen
    have hc := World.ownsRow.cells hb (g := g) rfl j (.string x) (by simp [strVals, hj])
    have ha : (⟨g, 0, none⟩ : Addr).add j = ⟨g, 0 + j, none⟩ := by unfold Addr.add; split <;> simp_all
    rw [← ha]; exact hc

theorem below_grow0 (w : World) (k : Nat) (os : Array Obj) : Below w.heap.size w (Go.Sort.grow (w.drewN k) os) :=
  ⟨rfl, rfl, rfl, by show w.heap.size ≤ (w.heap ++ os).size; simp, fun i hi => by show (w.heap ++ os)[i]? = w.heap[i]?; rw [Array.getElem?_append_left hi]⟩

theorem itoa_any (n : Int) (hn : In64 n) (w : World) (hG : Globs w) :
    Calls Tryz.prog 87 #[.int .i64 n] w fun e w' => e = .returned (.string ⟨(Lib.itoa n).toArray⟩) ∧ Below w.heap.size w w' :=
  (Tryz.strconv_Itoa n hn.1 hn.2 w hG.pow).mono fun e w' ⟨he, k, os, hw⟩ => ⟨he, by rw [hw]; exact below_grow0 w k os⟩

/-- The text of what is no list. -/
def text1 (k n : Int) (s : ByteArray) : List UInt8 := if k = 1 then Lib.itoa n else quoteL s.data.toList
def It.text (x : It) : List UInt8 := text1 x.k x.n x.s
/-- The text of a datum. -/
def Da.text (d : Da) : List UInt8 := if d.k = 3 then [91] ++ Lib.join (d.l.map It.text) [44] ++ [93] else text1 d.k d.n d.s

set_option maxRecDepth 100000 in
set_option maxHeartbeats 1000000 in
theorem text_simple (k n : Int) (s : ByteArray) (a : Option Addr) (ln c : Nat) (w : World) (hm : simpleB k n s ln = true) (hn : In64 n) (hG : Globs w) :
    Calls Tryz.prog 77 #[dv k n s a ln c] w fun e w' => e = .returned (.string ⟨(text1 k n s).toArray⟩) ∧ Below w.heap.size w w' := by
  rcases simple_kinds hm with rfl | ⟨rfl, hs⟩
  · go_enter Tryz.func77, Tryz.ntmps77
    go_wp2_with fail
    refine (itoa_any n hn _ (hG.below (by go_grown))).mono ?_
    rintro e w1 ⟨rfl, hb1⟩
    go_wp2
    go_ret
    exact ⟨rfl, ((Below.refl w.heap.size w).alloc (Nat.le_refl _) _).trans (hb1.mono (by simp))⟩
  · go_enter Tryz.func77, Tryz.ntmps77
    go_wp2_with fail
    refine (quote_any s _ hs).mono ?_
    rintro e w1 ⟨rfl, hb1⟩
    go_wp2
    go_ret
    exact ⟨rfl, ((Below.refl w.heap.size w).alloc (Nat.le_refl _) _).trans (hb1.mono (by simp))⟩

theorem ba_append (a b : List UInt8) : ((⟨a.toArray⟩ : ByteArray) ++ (⟨b.toArray⟩ : ByteArray)) = ⟨(a ++ b).toArray⟩ := by
  apply ByteArray.ext
  simp
theorem ba_three (a b c : List UInt8) : ((⟨a.toArray⟩ : ByteArray) ++ (⟨b.toArray⟩ : ByteArray) ++ (⟨c.toArray⟩ : ByteArray)) = ⟨(a ++ b ++ c).toArray⟩ := by
  rw [ba_append, ba_append]

def itTexts (L : List It) : List ByteArray := L.map fun x => ⟨x.text.toArray⟩
theorem itTexts_succ (L : List It) (j : Nat) (hj : j < L.length) : itTexts (L.take (j + 1)) = itTexts (L.take j) ++ [⟨L[j].text.toArray⟩] := by
  unfold itTexts; rw [List.take_succ_eq_append_getElem hj, List.map_append]; rfl
theorem itTexts_len (L : List It) (j : Nat) : (itTexts (L.take j)).length ≤ L.length := by simp [itTexts]; omega
theorem itTexts_map (L : List It) : (itTexts L).map (·.data.toList) = L.map It.text := by simp [itTexts, Function.comp_def]

theorem decDigits_len (u : Nat) : ∀ k, u < 10 ^ k → 0 < k → (Lib.decDigits u).length ≤ k := by
  intro k
  induction k generalizing u with
  | zero => intro _ h; omega
  | succ k ih =>
    intro h _
    rw [Lib.decDigits]
    split
    · simp
    · have : (Lib.decDigits (u / 10)).length ≤ k := by
        refine ih (u / 10) ?_ ?_
        · rw [Nat.pow_succ] at h; omega
        · rcases k with _ | k
          · simp at h; omega
          · omega
      simp only [List.length_append, List.length_cons, List.length_nil]
      omega
theorem itoa_len (n : Int) (hn : In64 n) : (Lib.itoa n).length ≤ 20 := by
  have h1 := hn.1
  have h2 := hn.2
  unfold Lib.itoa
  split
  · have := decDigits_len n.natAbs 19 (by omega) (by decide)
    simp only [List.length_cons]; omega
  · have := decDigits_len n.toNat 19 (by omega) (by decide)
    omega
theorem text1_len {k n : Int} {s : ByteArray} {l : Nat} (h : simpleB k n s l = true) (hn : In64 n) : (text1 k n s).length ≤ 98 := by
  rcases simple_kinds h with rfl | ⟨rfl, hs⟩
  · have := itoa_len n hn
    simp [text1]; omega
  · have h1 := qu_len s.data.toList
    have h2 : s.data.toList.length = s.size := by simp
    simp only [text1]
    rw [if_neg (by decide)]
    simp only [quoteL, List.length_append, List.length_cons, List.length_nil]
    omega
theorem join_len (ls : List (List UInt8)) (N : Nat) (h : ∀ l ∈ ls, l.length ≤ N) : (Lib.join ls [44]).length ≤ (N + 1) * ls.length := by
  cases ls with
  | nil => simp [Lib.join_nil]
  | cons x r =>
    rw [Lib.join_cons]
    have hx := h x (by simp)
    have : (Lib.joinTail [44] r).length ≤ (N + 1) * r.length := by
      have hr : ∀ l ∈ r, l.length ≤ N := fun l hl => h l (by simp [hl])
      clear h
      induction r with
      | nil => simp [Lib.joinTail]
      | cons y r ih =>
        have hy := hr y (by simp)
        have := ih (fun l hl => hr l (by simp [hl]))
        simp only [Lib.joinTail, List.map_cons, List.flatten_cons, List.length_append, List.length_cons, List.length_nil] at *
        rw [Nat.mul_add]
        omega
    simp only [List.length_append, List.length_cons]
    rw [Nat.mul_add]
    omega
theorem list_text_len (L : List It) (h8 : L.length ≤ 8) (hm : ∀ j (hj : j < L.length), L[j].may = true) (hn : ∀ j (hj : j < L.length), In64 L[j].n) : (Lib.join (L.map It.text) [44]).length ≤ 792 := by
  have := join_len (L.map It.text) 98 (fun l hl => by
    obtain ⟨x, hx, rfl⟩ := List.mem_map.1 hl
    obtain ⟨j, hj, rfl⟩ := List.getElem_of_mem hx
    exact text1_len (hm j hj) (hn j hj))
  simp only [List.length_map] at this
  omega

theorem RowIs.n64 {w : World} {a : Option Addr} {l : List It} (h : RowIs w a l) : ∀ j (hj : j < l.length), In64 l[j].n := fun j hj => by
  obtain ⟨_, _, _, _, _, _, _, _, _, _, _, hn⟩ := h.at_ j hj
  exact hn

set_option maxRecDepth 100000 in
set_option maxHeartbeats 2000000 in
theorem text_list (L : List It) (a : Option Addr) (c : Nat) (w : World) (h8 : L.length ≤ 8) (hm : ∀ j (hj : j < L.length), L[j].may = true) (hr : RowIs w a L) (hG : Globs w) :
    Calls Tryz.prog 77 #[dv 3 0 ⟨#[]⟩ a L.length c] w fun e w' => e = .returned (.string ⟨([91] ++ Lib.join (L.map It.text) [44] ++ [93]).toArray⟩) ∧ Below w.heap.size w w' := by
  go_enter Tryz.func77, Tryz.ntmps77
  go_wp2
  go_loopw [3, 21] (fun o k wr => ∃ j : Nat, j ≤ L.length ∧ k = .int .i64 j ∧ Strs wr (w.heap.size + 1) o (itTexts (L.take j)) ∧ Below w.heap.size w wr ∧ w.heap.size + 1 ≤ wr.heap.size) (fun _ k _ => L.length - (intOf k).toNat)
  case atStart => exact ⟨0, Nat.zero_le _, rfl, Strs.nil _ _, (Below.refl w.heap.size w).alloc (Nat.le_refl _) _, by simp⟩
  case round =>
    obtain ⟨j, hj, rfl, hb2, hbl2, hz2⟩ := hrel
    by_cases hlt : j < L.length
    · obtain ⟨b, off, a', c', rfl, g0, g1, g2, g3, _, _, hn⟩ := (hr.below hbl2).at_ j hlt
      have hm' : simpleB L[j].k L[j].n L[j].s L[j].ln = true := hm j hlt
      have HL := itTexts_len L j
      have hG2 : Globs wr := hG.below hbl2
      go_wp2_with fail
      refine (text_simple L[j].k L[j].n L[j].s a' L[j].ln c' _ hm' hn (hG2.below (by go_grown))).mono ?_
      rintro e w3 ⟨rfl, hb3⟩
      have hz3 := hb3.size
      simp only [World.size_alloc] at hz3
      have hs3 := (hb2.alloc (.cells #[.int .i64 L[j].k, .int .i64 L[j].n, .string L[j].s, .slice a' L[j].ln c'] 24)).later hb3
      go_wp2_with (at_builtin; go_must (refine wp_appT rfl (.tmp 25) (.tmp 28) rfl (w.heap.size + 1) _ _ rfl hs3 ⟨(text1 L[j].k L[j].n L[j].s).toArray⟩ _ 1 rfl (by simp) (by omega) (by omega) ?_); intro v4 w4 hb4 hbl4 hz4)
      go_roundw
      case rel => exact ⟨j + 1, by omega, by go_num, by rw [itTexts_succ L j hlt]; exact hb4, ((hbl2.alloc (by omega) _).trans (hb3.mono (by simp; omega))).trans (hbl4.mono (by omega)), by omega⟩
      case measure => simp [intOf]; omega
    · have hlen := list_text_len L h8 hm hr.n64
      rw [List.take_of_length_le (by omega)] at hb2
      have hlen' : (Lib.join ((itTexts L).map (·.data.toList)) (⟨#[44]⟩ : ByteArray).data.toList).length ≤ 140737488355328 := by rw [itTexts_map]; exact Nat.le_trans hlen (by omega)
      go_wp2_with fail
      refine (join_any wr (w.heap.size + 1) u3 (itTexts L) ⟨#[44]⟩ hb2 hlen' (by simp [itTexts]; omega)).mono ?_
      rintro e w3 ⟨rfl, hb3⟩
      rw [itTexts_map]
      generalize hJ : Lib.join (L.map It.text) (⟨#[44]⟩ : ByteArray).data.toList = J
      have hJl : J.length ≤ 792 := by rw [← hJ]; exact hlen
      have hJs : (⟨J.toArray⟩ : ByteArray).size ≤ 792 := by show J.toArray.size ≤ 792; simpa using hJl
      have HJ := Lib.hid hJ
      clear hJ
      go_wp2
      go_ret
      refine ⟨ret_str ?_, hbl2.trans (hb3.mono (by omega))⟩
      rw [show Lib.join (L.map It.text) [44] = J from HJ.out]
      exact ba_three [91] J [93]

theorem text_any (d : Da) (a : Option Addr) (c : Nat) (w : World) (hm : d.may = true) (hd : DaIs w d a) (hG : Globs w) :
    Calls Tryz.prog 77 #[dv d.k d.n d.s a d.l.length c] w fun e w' => e = .returned (.string ⟨d.text.toArray⟩) ∧ Below w.heap.size w w' := by
  by_cases h3 : d.k = 3
  · obtain ⟨h0, hs, h8, hit⟩ := may_items hm h3
    have := text_list d.l a c w h8 hit hd.row hG
    simpa [Da.text, h3, h0, hs] using this
  · have hm' : simpleB d.k d.n d.s d.l.length = true := by simpa [Da.may, h3] using hm
    have := text_simple d.k d.n d.s a d.l.length c w hm' hd.n hG
    simpa [Da.text, h3] using this

def printAns (d : Da) : Value := if d.may then .tuple #[.string ⟨d.text.toArray⟩, .int .i64 0] else .tuple #[.string ⟨#[]⟩, .int .i64 11]

set_option maxRecDepth 100000 in
theorem print_any (d : Da) (a : Option Addr) (c : Nat) (w : World) (hd : DaIs w d a) (hG : Globs w) :
    Calls Tryz.prog 60 #[dv d.k d.n d.s a d.l.length c] w fun e w' => e = .returned (printAns d) ∧ Below w.heap.size w w' := by
  by_cases hm : d.may = true
  · have HA := Lib.hid (show printAns d = .tuple #[.string ⟨d.text.toArray⟩, .int .i64 0] by simp [printAns, hm])
    go_enter Tryz.func60, Tryz.ntmps60
    go_wp2_with fail
    refine (check_any d a c _ (hd.row.below (by go_grown)) hd.l).mono ?_
    rintro e w1 ⟨rfl, hb1⟩
    rw [hm, if_pos rfl]
    obtain ⟨hc1, hf1⟩ := bcell hb1
    simp only [World.size_alloc] at hc1 hf1
    have hz1 : w.heap.size < w1.heap.size := by have := hb1.size; simp at this; omega
    have hb01 : Below w.heap.size w w1 := ((Below.refl w.heap.size w).alloc (Nat.le_refl _) _).trans (hb1.mono (by simp))
    have HM := Lib.hid hm
    clear hm
    go_wp2_with fail
    refine (text_any d a c _ HM.out (hd.below hb01) (hG.below hb01)).mono ?_
    rintro e w2 ⟨rfl, hb2⟩
    go_wp2
    go_ret2
    exact ⟨ret_val HA.out.symm, hb01.trans (hb2.mono (by omega))⟩
  · have HA := Lib.hid (show printAns d = .tuple #[.string ⟨#[]⟩, .int .i64 11] by simp [printAns, hm])
    go_enter Tryz.func60, Tryz.ntmps60
    go_wp2_with fail
    refine (check_any d a c _ (hd.row.below (by go_grown)) hd.l).mono ?_
    rintro e w1 ⟨rfl, hb1⟩
    rw [if_neg hm]
    go_wp2
    go_ret2
    exact ⟨ret_val HA.out.symm, ((Below.refl w.heap.size w).alloc (Nat.le_refl _) _).trans (hb1.mono (by simp))⟩
end Go.Proofs.YtdjlbfepddcmeaaGreatDoor
