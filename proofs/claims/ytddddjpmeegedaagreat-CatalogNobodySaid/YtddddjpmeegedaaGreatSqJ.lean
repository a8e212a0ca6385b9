/- Whether columns may be: the program's (from the texts of the predicates). -/
import Derived.Test.YtddddjpmeegedaaGreatSqI
set_option linter.unusedVariables false
set_option linter.unusedSimpArgs false
namespace Go.Proofs.YtddddjpmeegedaaGreat
open Go.RowKit
open Go.Maps (Keyed IsMap Tidy)

def In64 (n : Int) : Prop := -9223372036854775808 ≤ n ∧ n ≤ 9223372036854775807
theorem bcell {W w1 : World} (hb : Below W.heap.size W w1) : (∀ b o, b < W.heap.size → w1.cell? ⟨b, o, none⟩ = W.cell? ⟨b, o, none⟩) ∧ (∀ b o, b < W.heap.size → w1.frozen? ⟨b, o, none⟩ = W.frozen? ⟨b, o, none⟩) :=
  ⟨fun b o h => hb.cell (p := ⟨b, o, none⟩) h, fun b o h => hb.frozen (p := ⟨b, o, none⟩) h⟩
theorem ret_bool {a b : Bool} (h : a = b) : Ending.returned (.bool a) = .returned (.bool b) := by rw [h]
theorem ret_int {k : IntKind} {a b : Int} (h : a = b) : Ending.returned (.int k a) = .returned (.int k b) := by rw [h]
theorem any_take_succ {α : Type} (l : List α) (p : α → Bool) (k : Nat) (h : k < l.length) : (l.take (k + 1)).any p = ((l.take k).any p || p l[k]) := by
  rw [List.take_succ_eq_append_getElem h, List.any_append]; simp
theorem any_true_of {α : Type} (l : List α) (p : α → Bool) (k : Nat) (h : k < l.length) (hp : p l[k] = true) : l.any p = true := by
  rw [List.any_eq_true]; exact ⟨_, List.getElem_mem h, hp⟩
def idxOr (b : Bool) (e : Ending) : Prop := if b = true then ∃ n : Int, 0 ≤ n ∧ e = .returned (.int .i64 n) else e = .returned (.int .i64 (-1))

def ColIs (w : World) (a : Option Addr) (l : List Co) : Prop :=
  l = [] ∨ ∃ b off, a = some ⟨b, off, none⟩ ∧ ∀ i (h : i < l.length),
    w.cell? ⟨b, off + i * 2, none⟩ = some (.string l[i].name) ∧ w.cell? ⟨b, off + i * 2 + 1, none⟩ = some (.int .i64 l[i].kind) ∧ l[i].name.size ≤ 140737488351232 ∧ In64 l[i].kind
theorem ColIs.below {w w1 : World} {a : Option Addr} {l : List Co} (h : ColIs w a l) (hb : Below w.heap.size w w1) : ColIs w1 a l := by
  rcases h with h | ⟨b, off, ha, h⟩
  · exact .inl h
  · refine .inr ⟨b, off, ha, fun i hi => ?_⟩
    obtain ⟨h0, h1, h2⟩ := h i hi
    exact ⟨(hb.cell (World.block_lt_of_cell? w _ h0)).trans h0, (hb.cell (World.block_lt_of_cell? w _ h1)).trans h1, h2⟩
theorem ColIs.at_ {w : World} {a : Option Addr} {l : List Co} (h : ColIs w a l) (i : Nat) (hi : i < l.length) : ∃ b off, a = some ⟨b, off, none⟩ ∧
    w.cell? ⟨b, off + i * 2, none⟩ = some (.string l[i].name) ∧ w.cell? ⟨b, off + i * 2 + 1, none⟩ = some (.int .i64 l[i].kind) ∧ l[i].name.size ≤ 140737488351232 ∧ In64 l[i].kind := by
  rcases h with h | ⟨b, off, ha, h⟩
  · subst h; simp at hi
  · exact ⟨b, off, ha, h i hi⟩
def letter (b : UInt8) : Bool := decide (97 ≤ b.toNat) && decide (b.toNat ≤ 122)
def wordsL : List (List UInt8) := [[97, 110, 100], [111, 114], [110, 111, 116], [116, 114, 117, 101], [104, 97, 115]]
/-- May a text be a column's name? -/
def nameB (s : List UInt8) : Bool := decide (1 ≤ s.length) && decide (s.length ≤ 16) && s.all letter && !wordsL.contains s
def kindB (k : Int) : Bool := decide (1 ≤ k) && decide (k ≤ 3)
def Co.ok (c : Co) : Bool := nameB c.name.data.toList && kindB c.kind
def seenB (l : List Co) (s : List UInt8) : Bool := l.any fun d => d.name.data.toList == s
/-- The first k of columns may be. -/
def goodTo (l : List Co) : Nat → Bool
  | 0 => true
  | k + 1 => goodTo l k && (match l[k]? with
    | some c => c.ok && !seenB (l.take k) c.name.data.toList
    | none => true)
def colsB (l : List Co) : Bool := decide (1 ≤ l.length) && decide (l.length ≤ 4) && goodTo l l.length
def colE (l : List Co) : Int := if colsB l then 0 else 160

theorem goodTo_succ (l : List Co) (k : Nat) (h : k < l.length) : goodTo l (k + 1) = (goodTo l k && (l[k].ok && !seenB (l.take k) l[k].name.data.toList)) := by
  simp [goodTo, h]
theorem goodTo_down (l : List Co) (k : Nat) (hk : goodTo l k = false) : ∀ j, goodTo l (k + j) = false
  | 0 => hk
  | j + 1 => by rw [← Nat.add_assoc, goodTo, goodTo_down l k hk j]; rfl
theorem colsB_no (l : List Co) (k : Nat) (h : k < l.length) (hn : (l[k].ok && !seenB (l.take k) l[k].name.data.toList) = false) : colsB l = false := by
  have h1 : goodTo l (k + 1) = false := by rw [goodTo_succ l k h, hn]; simp
  have := goodTo_down l (k + 1) h1 (l.length - (k + 1))
  rw [show k + 1 + (l.length - (k + 1)) = l.length by omega] at this
  simp [colsB, this]
theorem colsB_yes (l : List Co) (h1 : 1 ≤ l.length) (h4 : l.length ≤ 4) (h : goodTo l l.length = true) : colsB l = true := by simp [colsB, h1, h4, h]
theorem goodTo_at (l : List Co) : ∀ k, goodTo l k = true → ∀ j (h : j < l.length), j < k → l[j].ok = true ∧ seenB (l.take j) l[j].name.data.toList = false
  | 0, _, _, _, hj => by omega
  | k + 1, hg, j, h, hj => by
    rw [goodTo, Bool.and_eq_true] at hg
    by_cases e : j = k
    · subst e
      have := hg.2
      rw [List.getElem?_eq_getElem h] at this
      simpa using this
    · exact goodTo_at l k hg.1 j h (by omega)


/-- Strings in a row. -/
def StrsAt (w : World) (a : Option Addr) (l : List ByteArray) : Prop := ∃ b off, a = some ⟨b, off, none⟩ ∧ ∀ i (h : i < l.length), w.cell? ⟨b, off + i, none⟩ = some (.string l[i])

theorem sindex_any (L : List ByteArray) (a : Option Addr) (c : Nat) (s : ByteArray) (w : World) (hr : StrsAt w a L) (hl : L.length ≤ 1000) :
    Calls Tryz.prog 147 #[.slice a L.length c, .string s] w fun e w' => idxOr (L.any fun x => x.toList == s.toList) e ∧ w' = w := by
  obtain ⟨b, off, rfl, hc⟩ := hr
  have HC := Lib.hid hc
  clear hc
  go_enter Tryz.func147, Tryz.ntmps147
  go_wp2
  go_loop [8] (fun i => ∃ j : Nat, j ≤ L.length ∧ i = .int .i64 j ∧ (L.take j).any (fun x => x.toList == s.toList) = false) (fun i => L.length - (intOf i).toNat)
  case atStart => exact ⟨0, Nat.zero_le _, rfl, rfl⟩
  case round =>
    obtain ⟨j, hj, rfl, hall⟩ := hrel
    have HA := Lib.hid hall
    clear hall
    by_cases hlt : j < L.length
    · have g0 := HC.out j hlt
      by_cases he : (s.toList == L[j].toList) = true
      · have he' : (L[j].toList == s.toList) = true := by rw [beq_iff_eq] at he ⊢; exact he.symm
        have HE := Lib.hid he'
        clear he'
        go_wp2
        go_ret
        refine ⟨?_, rfl⟩
        rw [any_true_of L (fun x => x.toList == s.toList) j hlt HE.out]
        exact ⟨j, by omega, rfl⟩
      · have he' : (L[j].toList == s.toList) = false := by
          rw [beq_iff_eq] at he; rw [beq_eq_false_iff_ne]; exact fun e => he e.symm
        have HE := Lib.hid he'
        have he2 : (s.toList == L[j].toList) = false := by simpa using he
        clear he' he
        go_wp2
        go_round
        case rel => exact ⟨j + 1, by omega, by go_num, by rw [any_take_succ _ _ _ hlt, HA.out, HE.out]; rfl⟩
        case measure => simp [intOf]; omega
    · go_wp2
      go_ret
      refine ⟨?_, rfl⟩
      have : L.any (fun x => x.toList == s.toList) = false := by rw [← HA.out, List.take_of_length_le (by omega)]
      rw [this]; rfl

theorem scontains_any (L : List ByteArray) (a : Option Addr) (c : Nat) (s : ByteArray) (w : World) (hr : StrsAt w a L) (hl : L.length ≤ 1000) :
    Calls Tryz.prog 109 #[.slice a L.length c, .string s] w fun e w' => e = .returned (.bool (L.any fun x => x.toList == s.toList)) ∧ w' = w := by
  cases hq : L.any fun x => x.toList == s.toList with
  | true =>
    go_enter Tryz.func109, Tryz.ntmps109
    go_wp2_with fail
    refine (sindex_any L a c s _ hr hl).mono ?_
    rintro e w' ⟨he, rfl⟩
    rw [hq] at he
    obtain ⟨n, hn, rfl⟩ := he
    go_wp2
    go_ret
    exact ⟨ret_bool (by simp), rfl⟩
  | false =>
    go_enter Tryz.func109, Tryz.ntmps109
    go_wp2_with fail
    refine (sindex_any L a c s _ hr hl).mono ?_
    rintro e w' ⟨he, rfl⟩
    rw [hq] at he
    obtain rfl : e = .returned (.int .i64 (-1)) := he
    go_wp2
    go_ret
    exact ⟨rfl, rfl⟩

-- runes and letters

def oddR (x : Nat) : Bool := decide (x < 97) || decide (122 < x)
theorem odd_pays (w : World) : PredGrows Tryz.prog 108 #[] oddR w := fun W x _ _ => by
  by_cases h1 : x < 97
  · go_enter Tryz.func108, Tryz.ntmps108
    go_wp2
    go_ret
    exact ⟨ret_bool (by simp [oddR, h1]), Below.refl _ _⟩
  · by_cases h2 : 122 < x
    all_goals
      go_enter Tryz.func108, Tryz.ntmps108
      go_wp2
      go_ret
      exact ⟨ret_bool (by simp [oddR, h1, h2] <;> omega), Below.refl _ _⟩

theorem get_at (s : ByteArray) (i : Nat) (hi : i < s.size) : s.get! i = s[i] := by
  obtain ⟨d⟩ := s
  exact getElem!_pos d i hi
theorem decode_ascii (s : ByteArray) (i : Nat) (hi : i < s.size) (h : s[i].toNat < 128) : Utf8.decode s i = (s[i].toNat, 1) := by
  unfold Utf8.decode
  simp only [Nat.add_zero, get_at s i hi]
  rw [if_pos (by omega)]
theorem decode_wide (s : ByteArray) (i : Nat) (hi : i < s.size) (h : ¬ s[i].toNat < 128) : 128 ≤ (Utf8.decode s i).1 := by
  unfold Utf8.decode
  simp only [Nat.add_zero, get_at s i hi]
  rw [if_neg (by omega)]
  unfold Utf8.runeError
  repeat' split
  all_goals simp_all
  all_goals omega

theorem drop_at (s : ByteArray) (j : Nat) (hj : j < s.size) : s.data.toList.drop j = s[j] :: s.data.toList.drop (j + 1) := by
  rw [List.drop_eq_getElem_cons (by simpa using hj)]; rfl
theorem odd_from (s : ByteArray) : ∀ f pos, s.size ≤ pos + f → decide (0 ≤ Lib.idxFuncFrom oddR true s f pos) = !((s.data.toList.drop pos).all letter)
  | 0, pos, h => by
    rw [Lib.idxFuncFrom, List.drop_of_length_le (by simpa using h)]
    rfl
  | f + 1, pos, h => by
    rw [Lib.idxFuncFrom]
    by_cases hp : pos < s.size
    · rw [if_pos hp, drop_at s pos hp, List.all_cons]
      by_cases ha : s[pos].toNat < 128
      · rw [decode_ascii s pos hp ha]
        by_cases hl : letter s[pos] = true
        · have hl' := hl
          simp only [letter, Bool.and_eq_true, decide_eq_true_eq] at hl'
          rw [if_neg (by simp [oddR]; omega), odd_from s f (pos + 1) (by omega), hl, Bool.true_and]
        · have hl' : letter s[pos] = false := by simpa using hl
          rw [if_pos, hl', Bool.false_and]
          · simp
          · simp [letter] at hl'
            simp [oddR]; omega
      · have hd := decode_wide s pos hp ha
        rw [if_pos (by simp [oddR]; omega)]
        have hl' : letter s[pos] = false := by simp [letter]; omega
        rw [hl', Bool.false_and]
        simp
    · rw [if_neg hp, List.drop_of_length_le (by simp; omega)]
      rfl
theorem odd_any (s : ByteArray) : decide (0 ≤ Lib.idxFunc oddR true s) = !(s.data.toList.all letter) := by
  unfold Lib.idxFunc
  rw [odd_from s s.size 0 (by omega)]; rfl

def wordsB : List ByteArray := [⟨#[97, 110, 100]⟩, ⟨#[111, 114]⟩, ⟨#[110, 111, 116]⟩, ⟨#[116, 114, 117, 101]⟩, ⟨#[104, 97, 115]⟩]
theorem words_any (s : ByteArray) : (wordsB.any fun x => x.toList == s.toList) = wordsL.contains s.data.toList := by
  rw [Lib.toList_data s]
  simp only [wordsB, wordsL, List.any_cons, List.any_nil, Lib.toList_data, List.contains_cons, List.contains_nil]
  simp only [Bool.beq_comm (a := s.data.toList)]

theorem odd_call (s : ByteArray) (w : World) (b : Bool) (hb : s.data.toList.all letter = b) :
    Calls Tryz.prog 81 #[.string s, .func (.func 108) #[] #[]] w fun e w' => e = .returned (.bool (!b)) ∧ Below w.heap.size w w' := by
  rw [← hb, ← odd_any]
  exact Tryz.strings_ContainsFunc_grows 108 #[] (fun _ _ => by kernel_rfl) oddR s w (odd_pays w)

theorem words_call (s : ByteArray) (w : World) (g : Nat) (c : Nat) (b : Bool) (hb : wordsL.contains s.data.toList = b)
    (h0 : w.cell? ⟨g, 0, none⟩ = some (.string ⟨#[97, 110, 100]⟩)) (h1 : w.cell? ⟨g, 1, none⟩ = some (.string ⟨#[111, 114]⟩)) (h2 : w.cell? ⟨g, 2, none⟩ = some (.string ⟨#[110, 111, 116]⟩))
    (h3 : w.cell? ⟨g, 3, none⟩ = some (.string ⟨#[116, 114, 117, 101]⟩)) (h4 : w.cell? ⟨g, 4, none⟩ = some (.string ⟨#[104, 97, 115]⟩)) :
    Calls Tryz.prog 109 #[.slice (some ⟨g, 0, none⟩) 5 c, .string s] w fun e w' => e = .returned (.bool b) ∧ w' = w := by
  rw [← hb, ← words_any]
  refine scontains_any wordsB _ c s w ⟨g, 0, rfl, fun i hi => ?_⟩ (by decide)
  match i, hi with
  | 0, _ => simpa [wordsB] using h0
  | 1, _ => simpa [wordsB] using h1
  | 2, _ => simpa [wordsB] using h2
  | 3, _ => simpa [wordsB] using h3
  | 4, _ => simpa [wordsB] using h4

set_option maxHeartbeats 1000000 in
theorem name_any (s : ByteArray) (w : World) (hs : s.size ≤ 140737488351232) :
    Calls Tryz.prog 63 #[.string s] w fun e w' => e = .returned (.bool (nameB s.data.toList)) ∧ Below w.heap.size w w' := by
  have hsz : s.data.toList.length = s.size := by simp
  have HS := Lib.hid hsz
  clear hsz
  by_cases h1 : 1 ≤ s.size
  · have e1 : s.toList.isEmpty = false := by rw [Lib.toList_data, List.isEmpty_eq_false_iff]; intro e; have := HS.out; rw [e] at this; simp at this; omega
    have e1' : ¬ s.toList = [] := by simpa using e1
    by_cases h2 : s.size ≤ 16
    · have e2 : decide ((s.size : Int) ≤ 16) = true := by simp; omega
      cases h3 : s.data.toList.all letter with
      | false =>
        have HN := Lib.hid (show nameB s.data.toList = false by simp [nameB, h3])
        have HC := Lib.hid (odd_call s · false h3)
        clear h3
        go_enter Tryz.func63, Tryz.ntmps63
        go_wp2_with (go_at_call 81; refine (HC.out _).mono ?_; rintro e w' ⟨rfl, hb⟩)
        go_ret
        exact ⟨ret_bool HN.out.symm, hb⟩
      | true =>
        have HC := Lib.hid (odd_call s · true h3)
        cases h4 : wordsL.contains s.data.toList with
        | true =>
          have HN := Lib.hid (show nameB s.data.toList = false by simp [nameB]; intro _ _ _; simpa using h4)
          have HW := Lib.hid (words_call s · · · true h4)
          clear h3 h4
          go_enter Tryz.func63, Tryz.ntmps63
          go_wp2_with (go_at_call 81; refine (HC.out _).mono ?_; rintro e w' ⟨rfl, hb⟩)
          refine (HW.out _ _ _ ?_ ?_ ?_ ?_ ?_).mono ?_
          · go_simp
          · go_simp
          · go_simp
          · go_simp
          · go_simp
          rintro e w2 ⟨rfl, rfl⟩
          go_wp2
          go_ret
          exact ⟨ret_bool HN.out.symm, hb.alloc (by have := hb.size; omega) _⟩
        | false =>
          have HN := Lib.hid (show nameB s.data.toList = true by simp [nameB, h3, HS.out, h1, h2]; simpa using h4)
          have HW := Lib.hid (words_call s · · · false h4)
          clear h3 h4
          go_enter Tryz.func63, Tryz.ntmps63
          go_wp2_with (go_at_call 81; refine (HC.out _).mono ?_; rintro e w' ⟨rfl, hb⟩)
          refine (HW.out _ _ _ ?_ ?_ ?_ ?_ ?_).mono ?_
          · go_simp
          · go_simp
          · go_simp
          · go_simp
          · go_simp
          rintro e w2 ⟨rfl, rfl⟩
          go_wp2
          go_ret
          exact ⟨ret_bool HN.out.symm, hb.alloc (by have := hb.size; omega) _⟩
    · have e2 : decide ((s.size : Int) ≤ 16) = false := by simp; omega
      have HN := Lib.hid (show nameB s.data.toList = false by simp [nameB, HS.out]; omega)
      go_enter Tryz.func63, Tryz.ntmps63
      go_wp2
      go_ret
      exact ⟨ret_bool HN.out.symm, by go_grown⟩
  · have e1 : s.toList.isEmpty = true := by rw [Lib.toList_data, List.isEmpty_iff, ← List.length_eq_zero_iff, HS.out]; omega
    have e1' : s.toList = [] := by simpa using e1
    have HN := Lib.hid (show nameB s.data.toList = false by simp [nameB, HS.out]; omega)
    go_enter Tryz.func63, Tryz.ntmps63
    go_wp2
    go_ret
    exact ⟨ret_bool HN.out.symm, by go_grown⟩

theorem plainElem_bool_back {H : Type} {P : Program} {e : TypeId} (he : P.underlying e = some .bool) {v : Value} {z : DataW H × List MemPlace} (h : plainElem P e v = some z) : ∃ x, v = .bool x ∧ z = (.lit (.bool x), []) := by
  unfold plainElem at h
  rw [he] at h
  cases v <;> simp at h
  rename_i x
  exact ⟨x, rfl, h.symm⟩
theorem ownsMap_lookup_bool {H : Type} {P : Program} {k : TypeId} {w : World} {b n : Nat} {D : DataW H} {t e : TypeId} (h : w.ownsMap P k (plainElem P e) b n D) (K : Keyed P k) (ht : P.underlying t = some (.map k e)) (he : P.underlying e = some .bool) (hz : (zeroValue e).run P w = .ok (.bool false) w)
    {key : Value} {kl : Lit} (hkey : keyOf P k key = some kl) : ∃ c, (Instr.lookup t (.map (some b)) key false).run P w = .ok (.bool c) w ∧ D.atKey kl (.lit (.bool false)) = .lit (.bool c) := by
  obtain ⟨v, ps, hrun, hv⟩ := h.lookup K ht hz (plainElem_bool he false) hkey
  obtain ⟨c, rfl, hc⟩ := plainElem_bool_back he hv
  simp only [Prod.mk.injEq] at hc
  exact ⟨c, hrun, hc.1⟩

def keysN (l : List Co) (k : Nat) : List Lit := (l.take k).map fun c => .string c.name.data.toList
def seenN {H : Type} (l : List Co) (k : Nat) : DataW H := Maps.setOf (.lit (.bool true)) (keysN l k)
theorem keysN_succ (l : List Co) (k : Nat) (hk : k < l.length) : keysN l (k + 1) = keysN l k ++ [.string l[k].name.data.toList] := by
  unfold keysN
  rw [List.take_succ_eq_append_getElem hk, List.map_append]; rfl
theorem seenN_succ {H : Type} (l : List Co) (k : Nat) (hk : k < l.length) : seenN (H := H) l (k + 1) = (seenN l k).put (.string l[k].name.data.toList) (.lit (.bool true)) := by
  unfold seenN
  rw [keysN_succ l k hk, Maps.setOf_snoc]
theorem seenN_zero {H : Type} (l : List Co) : seenN (H := H) l 0 = .map [] := by simp [seenN, keysN, Maps.setOf]

theorem seenN_isMap {H : Type} (l : List Co) (k : Nat) : IsMap (seenN (H := H) l k) := by
  unfold seenN Maps.setOf
  have : ∀ (acc : List Lit) (m : DataW H), IsMap m → IsMap (acc.foldl (fun m x => m.put x (.lit (.bool true))) m) := fun acc => by
    induction acc with
    | nil => exact fun m h => h
    | cons x r ih => exact fun m h => ih _ (h.put x _)
  exact this _ _ Maps.isMap_empty

theorem seenN_at {H : Type} (l : List Co) (s : List UInt8) : ∀ k, k ≤ l.length → (seenN (H := H) l k).atKey (.string s) (.lit (.bool false)) = .lit (.bool (seenB (l.take k) s))
  | 0, _ => by rw [seenN_zero]; rfl
  | k + 1, hk => by
    have hk' : k < l.length := by omega
    rw [seenN_succ l k hk', seenB, any_take_succ _ _ _ hk']
    by_cases e : l[k].name.data.toList = s
    · subst e
      rw [Maps.atKey_put_same (seenN_isMap l k) (by simp [WideAt.IsKeyLit])]
      simp
    · rw [Maps.atKey_put_other (by simpa using fun h => e h.symm), seenN_at l s k (by omega)]
      have : (l[k].name.data.toList == s) = false := by simpa using e
      rw [this, Bool.or_false]; rfl

theorem lawS : Keyed Tryz.prog 9 := Maps.string_keyed Tryz.underlying9

theorem only_of_below {a w : World} (h : Below a.heap.size a w) (row : Option Nat) : a.grownBy w row := ⟨h.os, h.tape, h.output, h.size, fun i hi _ => h.block i hi⟩
def okB (nm kd sn : Bool) : Bool := nm && kd && !sn

theorem good_no (l : List Co) (k : Nat) (h : k < l.length) (hn : l[k].ok = false ∨ seenB (l.take k) l[k].name.data.toList = true) : colsB l = false := by
  refine colsB_no l k h ?_
  rcases hn with h | h <;> simp [h]

set_option maxRecDepth 100000 in
set_option maxHeartbeats 2000000 in
theorem columns_any (l : List Co) (a : Option Addr) (c : Nat) (w : World) (hr : ColIs w a l) (hl : l.length ≤ 140737488351232) :
    Calls Tryz.prog 26 #[.slice a l.length c] w fun e w' => e = .returned (.int .i64 (colE l)) ∧ Below w.heap.size w w' := by
  have hmm := @run_makeMap Tryz.prog
  by_cases h1 : 1 ≤ l.length
  · by_cases h4 : l.length ≤ 4
    · have e1 : decide ((l.length : Int) < 1) = false := by simp; omega
      have e4 : decide ((4 : Int) < (l.length : Int)) = false := by simp; omega
      go_enter Tryz.func26, Tryz.ntmps26
      go_wp2
      go_loopw [17] (fun i wr => ∃ k : Nat, k ≤ l.length ∧ i = .int .i64 k ∧ goodTo l k = true ∧ wr.ownsMap Tryz.prog 9 (plainElem Tryz.prog 4) w.heap.size k (seenN (H := Unit) l k) ∧ Below w.heap.size w wr)
        (fun i _ => l.length - (intOf i).toNat)
      case atStart => exact ⟨0, Nat.zero_le _, rfl, rfl, by rw [seenN_zero]; exact World.ownsMap_made _ _ _ _, (Below.refl _ _).alloc (Nat.le_refl _) _⟩
      case round =>
        obtain ⟨k, hk, rfl, hgood, hown, hb⟩ := hrel
        have HGD := Lib.hid hgood
        clear hgood
        by_cases hlt : k < l.length
        · obtain ⟨b, off, rfl, g0, g1, hsz, hin⟩ := (hr.below hb).at_ k hlt
          have hkey : keyOf Tryz.prog 9 (.string l[k].name) = some (.string l[k].name.data.toList) := WideMaps.keyOf_string_mk Tryz.underlying9 (by unfold maxLen; omega)
          have HAT := Lib.hid (seenN_at (H := Unit) l l[k].name.data.toList k hk)
          have HNO := Lib.hid (good_no l k hlt)
          have HYES := Lib.hid (goodTo_succ l k hlt)
          have HPUT := Lib.hid (seenN_succ (H := Unit) l k hlt)
          generalize hnm : l[k].name = nm at *
          generalize hkd : l[k].kind = kd at *
          have HOK := Lib.hid (show l[k].ok = (nameB nm.data.toList && kindB kd) by rw [Co.ok, hnm, hkd])
          clear hnm hkd
          have hlo := hown.lt
          have hz := hb.size
          cases hn : nameB nm.data.toList with
          | false =>
            have HC := Lib.hid (show colsB l = false from HNO.out (.inl (by rw [HOK.out, hn]; rfl)))
            have HNM := Lib.hid (name_any nm · hsz)
            rw [hn] at HNM
            go_wp2_with (go_at_call 63; refine (HNM.out _).mono ?_; rintro e w' ⟨rfl, hb'⟩)
            go_ret
            exact ⟨ret_int (by rw [colE, HC.out]; rfl), (hb.alloc hz _).trans (hb'.mono (by simp; omega))⟩
          | true =>
            have HNM := Lib.hid (name_any nm · hsz)
            rw [hn] at HNM
            go_wp2_with fail
            refine (HNM.out _).mono ?_
            rintro e w' ⟨rfl, hb'⟩
            have hb0 : Below w.heap.size w w' := (hb.alloc hz _).trans (hb'.mono (by simp; omega))
            obtain ⟨hc1, hf1⟩ := bcell hb'
            simp only [World.size_alloc] at hc1 hf1
            have d0 : w'.cell? ⟨wr.heap.size, 0, none⟩ = some (.string nm) := by rw [hc1 _ _ (by omega)]; go_simp
            have d1 : w'.cell? ⟨wr.heap.size, 1, none⟩ = some (.int .i64 kd) := by rw [hc1 _ _ (by omega)]; go_simp
            clear hc1 hf1
            have hown' : w'.ownsMap Tryz.prog 9 (plainElem Tryz.prog 4) w.heap.size k (seenN (H := Unit) l k) :=
              (hown.alloc _).kept (row := none) (only_of_below hb' none) (by simp)
            obtain ⟨sn, hrun, hat⟩ := ownsMap_lookup_bool hown' lawS Tryz.underlying126 Tryz.underlying4 (by kernel_rfl) hkey
            rw [HAT.out] at hat
            obtain rfl : seenB (l.take k) nm.data.toList = sn := by injection hat with h; injection h
            by_cases k1 : 1 ≤ kd
            · by_cases k3 : kd ≤ 3
              · cases hs : seenB (l.take k) nm.data.toList with
                | true =>
                  rw [hs] at hrun
                  have HC := Lib.hid (show colsB l = false from HNO.out (.inr hs))
                  clear hs
                  go_wp2
                  go_ret
                  exact ⟨ret_int (by rw [colE, HC.out]; rfl), hb0⟩
                | false =>
                  rw [hs] at hrun
                  have HG := Lib.hid (show goodTo l (k + 1) = true by rw [HYES.out, HGD.out, HOK.out, hn, hs]; simp [kindB, k1, k3])
                  clear hs hn
                  go_wp2_with (at_mapUpdate; refine wpList_mapUpdate_own _ rfl _ _ _ 126 rfl 9 4 lawS Tryz.underlying126 (plainElem (H := Unit) Tryz.prog 4) w.heap.size k _ rfl hown' (by unfold maxLen; omega) _ _ _ rfl rfl hkey _ [] (plainElem_bool Tryz.underlying4 true) ?_; intro w1 hown1 hgrow1)
                  go_roundw
                  case rel => exact ⟨k + 1, by omega, by go_num, HG.out, by rw [HPUT.out]; exact hown1, hb0.grown hgrow1 hb0.size (fun j hj => by cases hj; exact Nat.le_refl _)⟩
                  case measure => simp [intOf]; omega
              · have HC := Lib.hid (show colsB l = false from HNO.out (.inl (by rw [HOK.out, hn]; simp [kindB, k3])))
                go_wp2
                go_ret
                exact ⟨ret_int (by rw [colE, HC.out]; rfl), hb0⟩
            · have HC := Lib.hid (show colsB l = false from HNO.out (.inl (by rw [HOK.out, hn]; simp [kindB, k1])))
              go_wp2
              go_ret
              exact ⟨ret_int (by rw [colE, HC.out]; rfl), hb0⟩
        · go_wp2
          go_ret
          exact ⟨ret_int (by rw [colE, colsB_yes l h1 h4 (by have := HGD.out; rwa [show k = l.length by omega] at this)]; rfl), hb⟩
    · have e1 : decide ((l.length : Int) < 1) = false := by simp; omega
      have e4 : decide ((4 : Int) < (l.length : Int)) = true := by simp; omega
      have HC := Lib.hid (show colsB l = false by simp [colsB]; omega)
      go_enter Tryz.func26, Tryz.ntmps26
      go_wp2
      go_ret
      exact ⟨ret_int (by rw [colE, HC.out]; rfl), Below.refl _ _⟩
  · have e1 : decide ((l.length : Int) < 1) = true := by simp; omega
    have HC := Lib.hid (show colsB l = false by simp [colsB]; omega)
    go_enter Tryz.func26, Tryz.ntmps26
    go_wp2
    go_ret
    exact ⟨ret_int (by rw [colE, HC.out]; rfl), Below.refl _ _⟩
end Go.Proofs.YtddddjpmeegedaaGreat
