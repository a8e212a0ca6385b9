/- A predicate's text read: plain lemmas. A reader in memory; what it leaves alone; takes. What is young; datum.Parse, its row young. -/
import Derived.Test.YtdjlbfepddcmeaaGreatDoorQ29
import Derived.Test.YtdjlbfepddcmeaaGreatDoorQ11
import Derived.Maps.AppendAt
import Derived.Deep.AppendLies
set_option linter.unusedVariables false
set_option linter.unusedSimpArgs false
namespace Go.Proofs.YtdjlbfepddcmeaaGreatDoor
open Go.RowKit

/-- Where a datum's text ends: at a blank or a bracket outside of quotes. -/
def scanD : Bool → List UInt8 → Nat
  | _, [] => 0
  | q, c :: r =>
    let q' := if c = 39 then !q else q
    if q' = false ∧ (c = 32 ∨ c = 41) then 0 else 1 + scanD q' r
def Pass (t : List UInt8) : Prop := ∀ rest, scanD false (t ++ rest) = t.length + scanD false rest
theorem Pass.nil : Pass [] := fun rest => by simp
theorem Pass.append {s t : List UInt8} (h : Pass s) (h2 : Pass t) : Pass (s ++ t) := fun rest => by
  rw [List.append_assoc, h, h2, List.length_append]; omega
theorem scan_plain : ∀ (t : List UInt8), (∀ c ∈ t, ¬ c = 39 ∧ ¬ c = 32 ∧ ¬ c = 41) → Pass t
  | [], _ => Pass.nil
  | c :: t, h => fun rest => by
    obtain ⟨h1, h2, h3⟩ := h c List.mem_cons_self
    have ih := scan_plain t (fun x hx => h x (List.mem_cons_of_mem _ hx)) rest
    simp only [List.cons_append, scanD, if_neg h1]
    rw [if_neg (by simp [h2, h3]), ih, List.length_cons]; omega
theorem scan_in : ∀ (t rest : List UInt8), (∀ c ∈ t, ¬ c = 39) → scanD true (t ++ rest) = t.length + scanD true rest
  | [], rest, _ => by simp
  | c :: t, rest, h => by
    have h1 := h c List.mem_cons_self
    have ih := scan_in t rest (fun x hx => h x (List.mem_cons_of_mem _ hx))
    simp only [List.cons_append, scanD, if_neg h1]
    rw [if_neg (by simp), ih, List.length_cons]; omega
theorem scan_open (r : List UInt8) : scanD false (39 :: r) = 1 + scanD true r := by
  simp [scanD]
theorem scan_shut (r : List UInt8) : scanD true (39 :: r) = 1 + scanD false r := by
  simp [scanD]
theorem pass_quote (t : List UInt8) : Pass (quoteL t) := fun rest => by
  unfold quoteL
  simp only [List.cons_append, List.nil_append, List.append_assoc]
  rw [scan_open, scan_in _ _ (qu_no39 t), scan_shut]
  simp only [List.length_cons, List.length_append, List.length_nil]
  omega
theorem pass_itoa (n : Int) : Pass (Lib.itoa n) := scan_plain _ fun c hc => by
  have := itoa_chars n c hc
  refine ⟨?_, ?_, ?_⟩ <;> (rintro rfl; revert this; decide)
theorem pass_text1 (k n : Int) (s : ByteArray) : Pass (text1 k n s) := by
  unfold text1
  split
  · exact pass_itoa n
  · exact pass_quote _
theorem pass_one (c : UInt8) (h : ¬ c = 39 ∧ ¬ c = 32 ∧ ¬ c = 41) : Pass [c] := scan_plain _ fun x hx => by
  simp at hx; subst hx; exact h
theorem pass_join : ∀ (l : List (List UInt8)), (∀ t ∈ l, Pass t) → Pass (Lib.join l [44])
  | [], _ => by rw [Lib.join_nil]; exact Pass.nil
  | [x], h => by rw [Lib.join_one]; exact h x List.mem_cons_self
  | x :: y :: r, h => by
    rw [join_two]
    exact (h x List.mem_cons_self).append ((pass_one 44 (by decide)).append (pass_join (y :: r) (fun t ht => h t (List.mem_cons_of_mem _ ht))))
theorem pass_text (d : Da) : Pass d.text := by
  unfold Da.text
  split
  · refine ((pass_one 91 (by decide)).append (pass_join _ ?_)).append (pass_one 93 (by decide))
    intro t ht
    obtain ⟨x, _, rfl⟩ := List.mem_map.1 ht
    exact pass_text1 _ _ _
  · exact pass_text1 _ _ _

/-- What may follow a part's text. -/
def Stop (rest : List UInt8) : Prop := rest = [] ∨ ∃ r, rest = 32 :: r ∨ rest = 41 :: r
theorem scan_stop {rest : List UInt8} (h : Stop rest) : scanD false rest = 0 := by
  rcases h with rfl | ⟨r, rfl | rfl⟩
  · rfl
  · simp [scanD]
  · simp [scanD]
theorem scan_text (d : Da) {rest : List UInt8} (h : Stop rest) : scanD false (d.text ++ rest) = d.text.length := by
  rw [pass_text d rest, scan_stop h]; rfl

-- words

/-- What a text begins with: a word, then a blank. -/
def headW (s : List UInt8) : List UInt8 := s.takeWhile letter
theorem headW_append {nm r : List UInt8} (h : nm.all letter = true) (hr : ∀ c t, r = c :: t → letter c = false) : headW (nm ++ r) = nm := by
  unfold headW
  induction nm with
  | nil =>
    cases r with
    | nil => rfl
    | cons c t => simp [hr c t rfl]
  | cons c nm ih =>
    simp only [List.all_cons, Bool.and_eq_true] at h
    simp only [List.cons_append, List.takeWhile_cons, h.1, if_true]
    rw [ih h.2]
theorem prefix_word {nm y s : List UInt8} (h : nm.all letter = true) (hp : (nm ++ 32 :: y).isPrefixOf s = true) : headW s = nm ∧ ∃ r, s = nm ++ 32 :: r ∧ y.isPrefixOf r = true := by
  obtain ⟨r, rfl⟩ := List.isPrefixOf_iff_prefix.1 hp
  refine ⟨?_, y ++ r, by simp, by simp⟩
  rw [List.append_assoc, List.cons_append]
  refine headW_append h fun c t e => ?_
  injection e with e1 e2
  rw [← e1]; decide

theorem sign_nosp (op : Int) : ∀ c ∈ signL op, ¬ c = 32 := by
  unfold signL
  repeat' split
  all_goals decide
theorem upto_sp {a b r r' : List UInt8} (ha : ∀ c ∈ a, ¬ c = 32) (hb : ∀ c ∈ b, ¬ c = 32) (h : a ++ 32 :: r = b ++ 32 :: r') : a = b ∧ r = r' := by
  induction a generalizing b with
  | nil =>
    cases b with
    | nil => simp at h; exact ⟨rfl, h⟩
    | cons c b =>
      simp only [List.nil_append, List.cons_append, List.cons.injEq] at h
      exact absurd h.1.symm (hb c List.mem_cons_self)
  | cons c a ih =>
    cases b with
    | nil =>
      simp only [List.nil_append, List.cons_append, List.cons.injEq] at h
      exact absurd h.1 (ha c List.mem_cons_self)
    | cons c' b =>
      simp only [List.cons_append, List.cons.injEq] at h
      obtain ⟨e1, e2⟩ := ih (fun x hx => ha x (List.mem_cons_of_mem _ hx)) (fun x hx => hb x (List.mem_cons_of_mem _ hx)) h.2
      exact ⟨by rw [h.1, e1], e2⟩
theorem signL_inj {a b : Int} (ha : 1 ≤ a ∧ a ≤ 6) (hb : 1 ≤ b ∧ b ≤ 6) (h : signL a = signL b) : a = b := by
  rcases six ha with rfl | rfl | rfl | rfl | rfl | rfl <;> rcases six hb with rfl | rfl | rfl | rfl | rfl | rfl <;> first | rfl | (revert h; decide)

/-- What a part over column i begins with. -/
def leadL (nm : List UInt8) (op : Int) : List UInt8 := nm ++ [32] ++ signL op ++ [32]

theorem lead_only {nm nm' r : List UInt8} {op op' : Int} (hn : nm.all letter = true) (hn' : nm'.all letter = true) (ho : 1 ≤ op ∧ op ≤ 6) (ho' : 1 ≤ op' ∧ op' ≤ 6)
    (h : (leadL nm' op').isPrefixOf (leadL nm op ++ r) = true) : nm' = nm ∧ op' = op := by
  have e1 : leadL nm' op' = nm' ++ 32 :: (signL op' ++ [32]) := by simp [leadL]
  have e2 : leadL nm op ++ r = nm ++ 32 :: (signL op ++ 32 :: r) := by simp [leadL]
  rw [e1, e2] at h
  obtain ⟨h1, r1, h2, h3⟩ := prefix_word hn' h
  have hw : headW (nm ++ 32 :: (signL op ++ 32 :: r)) = nm := headW_append hn fun c t e => by
    injection e with e1 e2
    rw [← e1]; decide
  have hnm : nm' = nm := h1.symm.trans hw
  subst hnm
  have h4 := List.append_cancel_left h2
  simp only [List.cons.injEq, true_and] at h4
  rw [← h4] at h3
  obtain ⟨r2, h5⟩ := List.isPrefixOf_iff_prefix.1 h3
  have h6 : signL op' ++ 32 :: r2 = signL op ++ 32 :: r := by rw [← h5]; simp
  exact ⟨rfl, signL_inj ho' ho (upto_sp (sign_nosp op') (sign_nosp op) h6).1⟩

/-- No column's part begins so. -/
theorem lead_none {nm s : List UInt8} {op : Int} (hn : nameB nm = true) (hs : wordsL.contains (headW s) = true ∨ headW s = []) : (leadL nm op).isPrefixOf s = false := by
  cases h : (leadL nm op).isPrefixOf s with
  | false => rfl
  | true =>
    exfalso
    simp only [nameB, Bool.and_eq_true, decide_eq_true_eq, Bool.not_eq_true'] at hn
    have e1 : leadL nm op = nm ++ 32 :: (signL op ++ [32]) := by simp [leadL]
    rw [e1] at h
    obtain ⟨h1, -⟩ := prefix_word hn.1.2 h
    rw [h1] at hs
    rcases hs with hs | hs
    · rw [hn.2] at hs; cases hs
    · rw [hs] at hn; simp at hn

theorem head_true {rest : List UInt8} (h : Stop rest) : headW ([116, 114, 117, 101] ++ rest) = [116, 114, 117, 101] := headW_append (by decide) fun c t e => by
  rcases h with h | ⟨r, h | h⟩ <;> rw [h] at e
  · cases e
  · injection e with e1 _; rw [← e1]; decide
  · injection e with e1 _; rw [← e1]; decide
theorem head_not (rest : List UInt8) : headW ([110, 111, 116, 32] ++ rest) = [110, 111, 116] := by
  simp [headW, letter]
theorem head_par (rest : List UInt8) : headW (40 :: rest) = [] := by
  simp [headW, letter]
end Go.Proofs.YtdjlbfepddcmeaaGreatDoor

namespace Go.Proofs.YtdjlbfepddcmeaaGreatDoor
open Go.RowKit

/-- Every cell that w has, w1 has. -/
def Ext (w w1 : World) : Prop := ∀ p v, w.cell? p = some v → w1.cell? p = some v
theorem Ext.trans {a b c : World} (h : Ext a b) (k : Ext b c) : Ext a c := fun p v hp => k p v (h p v hp)
theorem RowIs.ext {w w1 : World} {a : Option Addr} {l : List It} (h : RowIs w a l) (e : Ext w w1) : RowIs w1 a l := by
  rcases h with h | ⟨b, off, ha, h⟩
  · exact .inl h
  · refine .inr ⟨b, off, ha, fun i hi => ?_⟩
    obtain ⟨h0, h1, h2, ⟨a', c', h3⟩, h4⟩ := h i hi
    exact ⟨e _ _ h0, e _ _ h1, e _ _ h2, ⟨a', c', e _ _ h3⟩, h4⟩
theorem DaIs.ext {w w1 : World} {d : Da} {a : Option Addr} (h : DaIs w d a) (e : Ext w w1) : DaIs w1 d a := ⟨h.row.ext e, h.n, h.l, h.s⟩
theorem PCells.ext {w w1 : World} {b o : Nat} {t : PT} {a : Option Addr} {c : Nat} {pa : Option Addr} {pc : Nat} (h : PCells w b o t a c pa pc) (e : Ext w w1) : PCells w1 b o t a c pa pc :=
  ⟨e _ _ h.c0, e _ _ h.c1, e _ _ h.c2, e _ _ h.c3, e _ _ h.c4, e _ _ h.c5, e _ _ h.c6⟩
theorem PredIs.ext : ∀ {n : Nat} {w w1 : World} {t : PT} {a pa : Option Addr}, PredIs n w t a pa → Ext w w1 → PredIs n w1 t a pa
  | 0, _, _, _, _, _, h, _ => h
  | n + 1, w, w1, t, a, pa, ⟨h0, h1, h2, h3, h4⟩, e => by
    refine ⟨h0.ext e, h1, h2, h3, ?_⟩
    rcases h4 with h | ⟨b, off, ha, h⟩
    · exact .inl h
    · refine .inr ⟨b, off, ha, fun i hi => ?_⟩
      obtain ⟨a', c', pa', pc', hc, hp⟩ := h i hi
      exact ⟨a', c', pa', pc', hc.ext e, PredIs.ext hp e⟩
theorem ColIs.ext {w w1 : World} {a : Option Addr} {l : List Co} (h : ColIs w a l) (e : Ext w w1) : ColIs w1 a l := by
  rcases h with h | ⟨b, off, ha, h⟩
  · exact .inl h
  · refine .inr ⟨b, off, ha, fun i hi => ?_⟩
    obtain ⟨h0, h1, h2⟩ := h i hi
    exact ⟨e _ _ h0, e _ _ h1, h2⟩
theorem Globs.ext {w w1 : World} {B : Nat} (h : Globs w) (hb : Below B w w1) (hB : 8 ≤ B) : Globs w1 := h.belowB hb hB

/-- Only block r, and what is new, has turned. -/
abbrev Only (r : Nat) (a w : World) : Prop := a.grownBy w (some r)
theorem Only.refl (r : Nat) (w : World) : Only r w w := World.grownBy.refl w _
theorem Only.of_below {a w : World} (r : Nat) (h : Below a.heap.size a w) : Only r a w := only_of_below h _
theorem Only.set {r : Nat} {a w : World} (h : Only r a w) (p : Addr) (hp : p.block = r ∨ a.heap.size ≤ p.block) (u : Value) : Only r a (w.setCell p u) :=
  ⟨h.os, h.tape, h.output, by simpa [World.setCell] using h.size, fun i hi hne => (Below.heap_setCell w p u i (by
    rintro rfl
    rcases hp with hp | hp
    · exact hne (by rw [hp])
    · omega)).trans (h.block i hi hne)⟩
theorem Only.below {r : Nat} {a w w1 : World} (h : Only r a w) (hb : Below w.heap.size w w1) : Only r a w1 := h.trans (Only.of_below r hb)
theorem Only.cell {r : Nat} {a w : World} (h : Only r a w) {p : Addr} {v : Value} (hp : a.cell? p = some v) (hne : p.block ≠ r) : w.cell? p = some v :=
  (h.cell_far p (World.block_lt_of_cell? _ _ hp) (by simpa using hne)).trans hp
/-- Only r, seen from below r: nothing. -/
theorem Only.under {r : Nat} {a w : World} (h : Only r a w) {B : Nat} (hB : B ≤ r) (hs : B ≤ a.heap.size) : Below B a w :=
  (Below.refl B a).grown h hs (fun k hk => by cases hk; exact hB)

/-- The world without what block r holds. -/
def blank (w : World) (r : Nat) : World := { w with heap := w.heap.setIfInBounds r (.cells #[] 0 (0, 0)) }
theorem blank_cell {w : World} {r : Nat} {p : Addr} {v : Value} (h : (blank w r).cell? p = some v) : p.block ≠ r ∧ w.cell? p = some v := by
  unfold blank World.cell? at h
  simp only at h
  by_cases e : p.block = r
  · exfalso
    rw [e] at h
    by_cases hr : r < w.heap.size
    · simp [hr] at h
    · simp [hr] at h
  · refine ⟨e, ?_⟩
    rw [Array.getElem?_setIfInBounds_ne (fun h' => e h'.symm)] at h
    exact h
theorem cell_blank {w : World} {r : Nat} {p : Addr} {v : Value} (hne : p.block ≠ r) (h : w.cell? p = some v) : (blank w r).cell? p = some v := by
  unfold blank World.cell?
  simp only
  rw [Array.getElem?_setIfInBounds_ne (fun h' => hne h'.symm)]
  exact h
theorem blank_ext (w : World) (r : Nat) : Ext (blank w r) w := fun _ _ h => (blank_cell h).2
theorem Only.ext {r : Nat} {a w : World} (h : Only r a w) : Ext (blank a r) (blank w r) := fun p v hp => by
  obtain ⟨hne, hp'⟩ := blank_cell hp
  exact cell_blank hne (h.cell hp' hne)

/-- The reader in block r: its text, its columns. -/
abbrev RdL (r : Nat) (ac : Option Addr) (n cc : Nat) (l : List UInt8) (w : World) : Prop := w.heap[r]? = some (.cells #[.string ⟨l.toArray⟩, .slice ac n cc] 71 (0, 0))
theorem RdL.c0 {r : Nat} {ac : Option Addr} {n cc : Nat} {l : List UInt8} {w : World} (h : RdL r ac n cc l w) : w.cell? ⟨r, 0, none⟩ = some (.string ⟨l.toArray⟩) := by unfold World.cell?; rw [h]; rfl
theorem RdL.c1 {r : Nat} {ac : Option Addr} {n cc : Nat} {l : List UInt8} {w : World} (h : RdL r ac n cc l w) : w.cell? ⟨r, 1, none⟩ = some (.slice ac n cc) := by unfold World.cell?; rw [h]; rfl
theorem RdL.f0 {r : Nat} {ac : Option Addr} {n cc : Nat} {l : List UInt8} {w : World} (h : RdL r ac n cc l w) : w.frozen? ⟨r, 0, none⟩ = false := by unfold World.frozen?; rw [h]; rfl
theorem RdL.lt {r : Nat} {ac : Option Addr} {n cc : Nat} {l : List UInt8} {w : World} (h : RdL r ac n cc l w) : r < w.heap.size := World.block_lt_of_cell? _ _ h.c0
theorem RdL.below {r : Nat} {ac : Option Addr} {n cc : Nat} {l : List UInt8} {w w1 : World} (h : RdL r ac n cc l w) (hb : Below w.heap.size w w1) : RdL r ac n cc l w1 := (hb.block r h.lt).trans h
theorem RdL.set {r : Nat} {ac : Option Addr} {n cc : Nat} {l : List UInt8} {w : World} (h : RdL r ac n cc l w) (l' : List UInt8) : RdL r ac n cc l' (w.setCell ⟨r, 0, none⟩ (.string ⟨l'.toArray⟩)) := by
  unfold RdL World.setCell
  simp only [Array.getElem?_modify, if_true, h, Option.map_some]
  rfl

/-- A row of items is not the reader. -/
theorem row_apart {r : Nat} {ac : Option Addr} {n cc : Nat} {s : List UInt8} {w : World} (h : RdL r ac n cc s w) {a : Option Addr} {l : List It} (hl : RowIs w a l) : RowIs (blank w r) a l := by
  rcases hl with hl | ⟨b, off, ha, hl⟩
  · exact .inl hl
  · by_cases h0 : l = []
    · exact .inl h0
    · have hne : b ≠ r := by
        rintro rfl
        obtain ⟨h1, _⟩ := hl 0 (List.length_pos_iff.2 h0)
        unfold World.cell? at h1
        rw [h] at h1
        simp only [Nat.zero_mul, Nat.add_zero] at h1
        match off, h1 with
        | 0, h1 => simp at h1
        | 1, h1 => simp at h1
        | k + 2, h1 => simp at h1
      refine .inr ⟨b, off, ha, fun i hi => ?_⟩
      obtain ⟨h0, h1, h2, ⟨a', c', h3⟩, h4⟩ := hl i hi
      exact ⟨cell_blank hne h0, cell_blank hne h1, cell_blank hne h2, ⟨a', c', cell_blank hne h3⟩, h4⟩
theorem da_apart {r : Nat} {ac : Option Addr} {n cc : Nat} {s : List UInt8} {w : World} (h : RdL r ac n cc s w) {d : Da} {a : Option Addr} (hd : DaIs w d a) : DaIs (blank w r) d a := ⟨row_apart h hd.row, hd.n, hd.l, hd.s⟩

theorem takes_yes (r : Nat) (ac : Option Addr) (n cc : Nat) (t : ByteArray) (rest : List UInt8) (w : World) (h : RdL r ac n cc (t.data.toList ++ rest) w) :
    Calls Tryz.prog 65 #[.pointer (some ⟨r, 0, none⟩), .string t] w fun e w' => e = .returned (.bool true) ∧ RdL r ac n cc rest w' ∧ Only r w w' := by
  have hc0 := h.c0
  have hf0 := h.f0
  have HP := Lib.hid (Tryz.strings_CutPrefix ⟨(t.data.toList ++ rest).toArray⟩ t w)
  have e1 : Lib.hasPrefix (⟨(t.data.toList ++ rest).toArray⟩ : ByteArray).data.toList t.data.toList = true := by
    simp [Lib.hasPrefix]
  have e2 : (Lib.trimPrefix (⟨(t.data.toList ++ rest).toArray⟩ : ByteArray).data.toList t.data.toList) = rest := by
    rw [Lib.trimPrefix, if_pos e1]
    simp
  rw [e1, e2] at HP
  have HS := Lib.hid (h.set rest)
  clear e1 e2
  generalize (⟨(t.data.toList ++ rest).toArray⟩ : ByteArray) = S at *
  generalize (⟨rest.toArray⟩ : ByteArray) = R at *
  go_enter Tryz.func65, Tryz.ntmps65
  go_wp2_with (go_at_call 80; refine HP.out.mono ?_; rintro e w' ⟨rfl, rfl⟩)
  go_ret
  exact ⟨rfl, HS.out, (Only.refl r w').set _ (.inl rfl) _⟩

theorem takes_no (r : Nat) (ac : Option Addr) (n cc : Nat) (t : ByteArray) (s : List UInt8) (w : World) (h : RdL r ac n cc s w) (hn : t.data.toList.isPrefixOf s = false) :
    Calls Tryz.prog 65 #[.pointer (some ⟨r, 0, none⟩), .string t] w fun e w' => e = .returned (.bool false) ∧ RdL r ac n cc s w' ∧ Only r w w' := by
  have hc0 := h.c0
  have hf0 := h.f0
  have HP := Lib.hid (Tryz.strings_CutPrefix ⟨s.toArray⟩ t w)
  have e1 : Lib.hasPrefix (⟨s.toArray⟩ : ByteArray).data.toList t.data.toList = false := by
    simpa [Lib.hasPrefix] using hn
  have e2 : (Lib.trimPrefix (⟨s.toArray⟩ : ByteArray).data.toList t.data.toList) = s := by
    rw [Lib.trimPrefix, e1]
    simp
  rw [e1, e2] at HP
  have HS := Lib.hid (h.set s)
  clear e1 e2
  generalize (⟨s.toArray⟩ : ByteArray) = S at *
  go_enter Tryz.func65, Tryz.ntmps65
  go_wp2_with (go_at_call 80; refine HP.out.mono ?_; rintro e w' ⟨rfl, rfl⟩)
  go_ret
  exact ⟨rfl, HS.out, (Only.refl r w').set _ (.inl rfl) _⟩
end Go.Proofs.YtdjlbfepddcmeaaGreatDoor

namespace Go.Proofs.YtdjlbfepddcmeaaGreatDoor
open Go.RowKit

/-- The world without the blocks below B. -/
def veil (B : Nat) (w : World) : World := { w with heap := w.heap.mapIdx fun i o => if i < B then .cells #[] 0 (0, 0) else o }
theorem veil_size (B : Nat) (w : World) : (veil B w).heap.size = w.heap.size := by simp [veil]
theorem veil_cell {B : Nat} {w : World} {p : Addr} {v : Value} (h : (veil B w).cell? p = some v) : B ≤ p.block ∧ w.cell? p = some v := by
  unfold veil World.cell? at h
  simp only [Array.getElem?_mapIdx] at h
  by_cases e : p.block < B
  · exfalso
    cases hh : w.heap[p.block]? with
    | none => rw [hh] at h; simp at h
    | some o => rw [hh] at h; simp [e] at h
  · refine ⟨by omega, ?_⟩
    unfold World.cell?
    cases hh : w.heap[p.block]? with
    | none => rw [hh] at h; simp at h
    | some o => rw [hh] at h; simpa [e] using h
theorem cell_veil {B : Nat} {w : World} {p : Addr} {v : Value} (hB : B ≤ p.block) (h : w.cell? p = some v) : (veil B w).cell? p = some v := by
  unfold veil World.cell?
  simp only [Array.getElem?_mapIdx]
  unfold World.cell? at h
  cases hh : w.heap[p.block]? with
  | none => rw [hh] at h; simp at h
  | some o => rw [hh] at h; simpa [show ¬ p.block < B by omega] using h
theorem veil_ext (B : Nat) (w : World) : Ext (veil B w) w := fun _ _ h => (veil_cell h).2
theorem veil_mono {B B' : Nat} (w : World) (h : B' ≤ B) : Ext (veil B w) (veil B' w) := fun p v hp => by
  obtain ⟨h1, h2⟩ := veil_cell hp
  exact cell_veil (by omega) h2
theorem veil_only {B r : Nat} {w w1 : World} (h : Only r w w1) (hr : r < B) : Ext (veil B w) (veil B w1) := fun p v hp => by
  obtain ⟨h1, h2⟩ := veil_cell hp
  exact cell_veil h1 (h.cell h2 (by omega))
theorem veil_below {B : Nat} {w w1 : World} (h : Below w.heap.size w w1) : Ext (veil B w) (veil B w1) := fun p v hp => by
  obtain ⟨h1, h2⟩ := veil_cell hp
  exact cell_veil h1 ((h.cell (World.block_lt_of_cell? w _ h2)).trans h2)
theorem veil_set {B : Nat} {w : World} {p : Addr} (hp : p.block < B) (u : Value) : Ext (veil B w) (veil B (w.setCell p u)) := fun q v hq => by
  obtain ⟨h1, h2⟩ := veil_cell hq
  refine cell_veil h1 ?_
  unfold World.cell? at h2 ⊢
  unfold World.setCell
  simp only [Array.getElem?_modify, if_neg (show ¬ p.block = q.block by omega)]
  exact h2
theorem row_young {w : World} {B : Nat} {a : Option Addr} {l : List It} (h : RowIs w a l) (hb : ∀ b off, a = some ⟨b, off, none⟩ → B ≤ b) : RowIs (veil B w) a l := by
  rcases h with h | ⟨b, off, ha, h⟩
  · exact .inl h
  · have hB := hb b off ha
    refine .inr ⟨b, off, ha, fun i hi => ?_⟩
    obtain ⟨h0, h1, h2, ⟨a', c', h3⟩, h4⟩ := h i hi
    exact ⟨cell_veil hB h0, cell_veil hB h1, cell_veil hB h2, ⟨a', c', cell_veil hB h3⟩, h4⟩
theorem da_young {w : World} {B : Nat} {d : Da} {a : Option Addr} (h : DaIs w d a) (hb : ∀ b off, a = some ⟨b, off, none⟩ → B ≤ b) : DaIs (veil B w) d a := ⟨row_young h.row hb, h.n, h.l, h.s⟩

set_option maxRecDepth 100000 in
set_option maxHeartbeats 2000000 in
theorem parse_young (s : ByteArray) (d : Da) (w : World) (hs : s.size ≤ 4194304) (hG : Globs w) (hp : parseDa s = some d) :
    Calls Tryz.prog 90 #[.string s] w fun e w' => ∃ a c, e = .returned (.tuple #[dv d.k d.n d.s a d.l.length c, .int .i64 0]) ∧ DaIs w' d a ∧ (∀ b off, a = some ⟨b, off, none⟩ → w.heap.size + 1 ≤ b) ∧ Below w.heap.size w w' := by
  obtain ⟨hd, hm, ht⟩ : readDa s = d ∧ d.may = true ∧ d.text = s.data.toList := by
    unfold parseDa at hp
    split at hp
    · rename_i h
      injection hp with hp
      subst hp
      exact ⟨rfl, h.1, h.2⟩
    · cases hp
  have HD := Lib.hid hd
  clear hd hp
  go_enter Tryz.func90, Tryz.ntmps90
  go_wp2_with fail
  refine (read_any s _ hs (hG.below (by go_grown))).mono ?_
  rintro e w1 ⟨a, c, rfl, hda, hab, hb1⟩
  rw [HD.out] at hda ⊢
  have HAB := Lib.hid (show ∀ b off, a = some ⟨b, off, none⟩ → w.heap.size + 1 ≤ b from fun b off e => by have := hab b off e; simpa using this)
  obtain ⟨hc1, hf1⟩ := bcell hb1
  simp only [World.size_alloc] at hc1 hf1
  have hz1 : w.heap.size < w1.heap.size := by have := hb1.size; simp at this; omega
  have hb01 : Below w.heap.size w w1 := ((Below.refl w.heap.size w).alloc (Nat.le_refl _) _).trans (hb1.mono (by simp))
  go_wp2_with fail
  refine (print_any d a c _ (hda.below (by go_grown)) ((hG.below hb01).below (by go_grown))).mono ?_
  rintro e w2 ⟨rfl, hb2⟩
  rw [show printAns d = .tuple #[.string ⟨d.text.toArray⟩, .int .i64 0] by simp [printAns, hm]]
  rw [show (⟨d.text.toArray⟩ : ByteArray) = s by rw [ht]]
  clear hm ht
  obtain ⟨hc2, hf2⟩ := bcell hb2
  simp only [World.size_alloc] at hc2 hf2
  have hz2 : w1.heap.size < w2.heap.size := by have := hb2.size; simp at this; omega
  have hb02 : Below w.heap.size w w2 := (hb01.alloc (by omega) _).trans (hb2.mono (by simp; omega))
  have e0 : w2.cell? ⟨w.heap.size, 0, none⟩ = some (.int .i64 0) := by rw [hc2 _ _ (by omega), (bcell ((Below.refl w1.heap.size w1).alloc (Nat.le_refl _) _)).1 _ _ (by omega), hc1 _ _ (by omega)]; go_simp
  have g0 : w2.frozen? ⟨w.heap.size, 0, none⟩ = false := by rw [hf2 _ _ (by omega), (bcell ((Below.refl w1.heap.size w1).alloc (Nat.le_refl _) _)).2 _ _ (by omega), hf1 _ _ (by omega)]; go_simp
  have e1 : w2.cell? ⟨w.heap.size, 1, none⟩ = some (.int .i64 0) := by rw [hc2 _ _ (by omega), (bcell ((Below.refl w1.heap.size w1).alloc (Nat.le_refl _) _)).1 _ _ (by omega), hc1 _ _ (by omega)]; go_simp
  have g1 : w2.frozen? ⟨w.heap.size, 1, none⟩ = false := by rw [hf2 _ _ (by omega), (bcell ((Below.refl w1.heap.size w1).alloc (Nat.le_refl _) _)).2 _ _ (by omega), hf1 _ _ (by omega)]; go_simp
  have e2 : w2.cell? ⟨w.heap.size, 2, none⟩ = some (.string ⟨#[]⟩) := by rw [hc2 _ _ (by omega), (bcell ((Below.refl w1.heap.size w1).alloc (Nat.le_refl _) _)).1 _ _ (by omega), hc1 _ _ (by omega)]; go_simp
  have g2 : w2.frozen? ⟨w.heap.size, 2, none⟩ = false := by rw [hf2 _ _ (by omega), (bcell ((Below.refl w1.heap.size w1).alloc (Nat.le_refl _) _)).2 _ _ (by omega), hf1 _ _ (by omega)]; go_simp
  have e3 : w2.cell? ⟨w.heap.size, 3, none⟩ = some (.slice none 0 0) := by rw [hc2 _ _ (by omega), (bcell ((Below.refl w1.heap.size w1).alloc (Nat.le_refl _) _)).1 _ _ (by omega), hc1 _ _ (by omega)]; go_simp
  have g3 : w2.frozen? ⟨w.heap.size, 3, none⟩ = false := by rw [hf2 _ _ (by omega), (bcell ((Below.refl w1.heap.size w1).alloc (Nat.le_refl _) _)).2 _ _ (by omega), hf1 _ _ (by omega)]; go_simp
  have d0 : w2.cell? ⟨w1.heap.size, 0, none⟩ = some (.int .i64 d.k) := by rw [hc2 _ _ (by omega)]; go_simp
  have d1 : w2.cell? ⟨w1.heap.size, 1, none⟩ = some (.int .i64 d.n) := by rw [hc2 _ _ (by omega)]; go_simp
  have d2 : w2.cell? ⟨w1.heap.size, 2, none⟩ = some (.string d.s) := by rw [hc2 _ _ (by omega)]; go_simp
  have d3 : w2.cell? ⟨w1.heap.size, 3, none⟩ = some (.slice a d.l.length c) := by rw [hc2 _ _ (by omega)]; go_simp
  clear hc1 hf1 hc2 hf2
  go_wp2
  (try simp only [Exit.inBlock, Exit.then])
  refine bodyPost_ret (v := .tuple #[dv d.k d.n d.s a d.l.length c, .int .i64 0]) ?_ rfl ⟨a, c, rfl, ?_, HAB.out, ?_⟩
  · rw [results_cell_tmp rfl]
    go_simp
    try rfl
  · have hR : ∀ b off, a = some ⟨b, off, none⟩ → b ≠ w.heap.size := fun b off e => by have := hab b off e; simp at this; omega
    have hb12 : Below w1.heap.size w1 w2 := ((Below.refl w1.heap.size w1).alloc (Nat.le_refl _) _).trans (hb2.mono (by simp))
    exact ⟨((((hda.row.below hb12).setCell ⟨w.heap.size, 0, none⟩ _ hR).setCell ⟨w.heap.size, 1, none⟩ _ hR).setCell ⟨w.heap.size, 2, none⟩ _ hR).setCell ⟨w.heap.size, 3, none⟩ _ hR, hda.n, hda.l, hda.s⟩
  · exact (((hb02.setCell (p := ⟨w.heap.size, 0, none⟩) (Nat.le_refl _) _).setCell (p := ⟨w.heap.size, 1, none⟩) (Nat.le_refl _) _).setCell (p := ⟨w.heap.size, 2, none⟩) (Nat.le_refl _) _).setCell (p := ⟨w.heap.size, 3, none⟩) (Nat.le_refl _) _
end Go.Proofs.YtdjlbfepddcmeaaGreatDoor
