/- Reading texts: datum.items. -/
import Derived.Test.YtekcoddjdjllhaaDoorDatP
namespace Go.Proofs.YtekcoddjdjllhaaDoor
open Go.RowKit

/-- The parts of a list's text. -/
def itemsL (q : Bool) (cur : List UInt8) : List UInt8 → List (List UInt8)
  | [] => [cur]
  | c :: r => if c = 39 then itemsL (!q) (cur ++ [c]) r else if c = 44 ∧ q = false then cur :: itemsL false [] r else itemsL q (cur ++ [c]) r

def toBA (l : List UInt8) : ByteArray := ⟨l.toArray⟩
def sub (s : ByteArray) (f j : Nat) : List UInt8 := (s.data.toList.take j).drop f

theorem extract_sub (s : ByteArray) (f j : Nat) (hj : j ≤ s.size) : s.extract f j = toBA (sub s f j) := by
  apply ByteArray.ext
  apply Array.toList_inj.1
  rw [ByteArray.data_extract, Array.toList_extract]
  simp [toBA, sub, List.extract_eq_take_drop, List.drop_take]

theorem sub_snoc (s : ByteArray) (f j : Nat) (hf : f ≤ j) (hj : j < s.size) : sub s f (j + 1) = sub s f j ++ [s[j]] := by
  unfold sub
  have h : j < s.data.toList.length := by simpa using hj
  rw [List.take_succ_eq_append_getElem h, List.drop_append_of_le_length (by simp; omega)]
  rfl
theorem sub_nil (s : ByteArray) (j : Nat) : sub s j j = [] := by
  unfold sub
  rw [List.drop_eq_nil_iff]; simp; omega

theorem itemsL_q (q : Bool) (cur r : List UInt8) : itemsL q cur (39 :: r) = itemsL (!q) (cur ++ [39]) r := by rw [itemsL, if_pos rfl]
theorem itemsL_c (cur r : List UInt8) : itemsL false cur (44 :: r) = cur :: itemsL false [] r := by rw [itemsL, if_neg (by decide), if_pos ⟨rfl, rfl⟩]
theorem itemsL_o (q : Bool) (cur r : List UInt8) (c : UInt8) (h1 : c ≠ 39) (h2 : ¬ (c = 44 ∧ q = false)) : itemsL q cur (c :: r) = itemsL q (cur ++ [c]) r := by rw [itemsL, if_neg h1, if_neg h2]

theorem itemsL_len (r : List UInt8) : ∀ q cur, (itemsL q cur r).length ≤ r.length + 1 := by
  induction r with
  | nil => intro q cur; simp [itemsL]
  | cons c r ih =>
    intro q cur
    rw [itemsL]
    split
    · have := ih (!q) (cur ++ [c]); simp only [List.length_cons]; omega
    · split
      · have := ih false []; simp only [List.length_cons]; omega
      · have := ih q (cur ++ [c]); simp only [List.length_cons]; omega

theorem u8_beq (x y : UInt8) (h : x = y) (k : Int) (hk : (y.toNat : Int) = k) : ((x.toNat : Int) == k) = true := by subst h; rw [hk]; simp
theorem u8_bne (x y : UInt8) (h : ¬ x = y) (k : Int) (hk : (y.toNat : Int) = k) : ((x.toNat : Int) == k) = false := by
  simp only [beq_eq_false_iff_ne, ne_eq]
  intro e
  exact h (UInt8.toNat_inj.1 (by omega))

set_option maxRecDepth 100000 in
set_option maxHeartbeats 2000000 in
theorem items_any (s : ByteArray) (w : World) (hs : s.size ≤ 4194304) :
    Calls Tryd.prog 49 #[.string s] w fun e w' => ∃ v, e = .returned v ∧ Strs w' w.heap.size v ((itemsL false [] s.data.toList).map toBA) ∧ Below w.heap.size w w' := by
  go_enter Tryd.func49, Tryd.ntmps49
  go_wp2
  go_loopw [3, 4, 5, 9] (fun o q f k wr => ∃ (j fr : Nat) (b : Bool) (done : List (List UInt8)), j ≤ s.size ∧ fr ≤ j ∧ k = .int .i64 j ∧ f = .int .i64 fr ∧ q = .bool b ∧ done ++ itemsL b (sub s fr j) (s.data.toList.drop j) = itemsL false [] s.data.toList ∧ done.length ≤ j ∧ Strs wr w.heap.size o (done.map toBA) ∧ Below w.heap.size w wr) (fun _ _ _ k _ => s.size - (intOf k).toNat)
  case atStart => exact ⟨0, 0, false, [], Nat.zero_le _, Nat.le_refl _, rfl, rfl, rfl, by simp [sub], by simp, Strs.nil _ _, Below.refl _ _⟩
  case round =>
    obtain ⟨j, fr, b, done, hj, hfr, rfl, rfl, rfl, hd, hdl, hb2, hbl2⟩ := hrel
    by_cases hlt : j < s.size
    · have HD := Lib.hid hd
      clear hd
      by_cases h39 : s[j] = 39
      · have hc := u8_beq _ _ h39 39 rfl
        have HH := Lib.hid h39
        clear h39
        go_wp2
        go_roundw
        case rel => exact ⟨j + 1, fr, !b, done, by omega, by omega, by go_num, rfl, rfl, by rw [← HD.out, drop_byte s j hlt, HH.out, itemsL_q, sub_snoc s fr j hfr hlt, HH.out], by omega, hb2, hbl2⟩
        case measure => simp [intOf]; omega
      · have hc := u8_bne _ _ h39 39 rfl
        by_cases h44 : s[j] = 44 ∧ b = false
        · obtain ⟨h44, rfl⟩ := h44
          have hc2 := u8_beq _ _ h44 44 rfl
          have HH := Lib.hid h44
          clear h44 h39
          have hms : (done.map toBA).length ≤ 1099511627776 := by simp; omega
          go_wp2_with (at_builtin; go_must (refine wp_appT rfl (.tmp 28) (.tmp 33) rfl w.heap.size _ _ rfl hb2 (s.extract fr j) _ 1 rfl (by simp) (by omega) hbl2.size ?_); intro v4 w4 hb4 hbl4 hz4)
          go_roundw
          case rel => exact ⟨j + 1, j + 1, false, done ++ [sub s fr j], by omega, by omega, by go_num, by go_num, rfl, by rw [← HD.out, drop_byte s j hlt, HH.out, itemsL_c, sub_nil]; simp, by simp; omega, by rw [List.map_append, List.map_cons, List.map_nil, ← extract_sub s fr j hj]; exact hb4, hbl2.trans hbl4⟩
          case measure => simp [intOf]; omega
        · have HO := Lib.hid (itemsL_o b (sub s fr j) (s.data.toList.drop (j + 1)) s[j] h39 h44)
          have hcon : ((s[j].toNat : Int) == 44) = false ∨ (((s[j].toNat : Int) == 44) = true ∧ b = true) := by
            by_cases h : s[j] = 44
            · refine .inr ⟨u8_beq _ _ h 44 rfl, ?_⟩
              cases b
              · exact absurd ⟨h, rfl⟩ h44
              · rfl
            · exact .inl (u8_bne _ _ h 44 rfl)
          clear h44 h39
          rcases hcon with hc2 | ⟨hc2, rfl⟩
          all_goals
            go_wp2
            go_roundw
            case rel => exact ⟨j + 1, fr, _, done, by omega, by omega, by go_num, rfl, rfl, by rw [← HD.out, drop_byte s j hlt, HO.out, sub_snoc s fr j hfr hlt], by omega, hb2, hbl2⟩
            case measure => simp [intOf]; omega
    · have hje : j = s.size := by omega
      subst hje
      have hms : (done.map toBA).length ≤ 1099511627776 := by simp; omega
      rw [List.drop_of_length_le (by simp), itemsL] at hd
      go_wp2_with (at_builtin; go_must (refine wp_appT rfl (.tmp 38) (.tmp 42) rfl w.heap.size _ _ rfl hb2 (s.extract fr s.size) _ 1 rfl (by simp) (by omega) hbl2.size ?_); intro v4 w4 hb4 hbl4 hz4)
      go_ret
      exact ⟨_, rfl, by rw [← hd, List.map_append, List.map_cons, List.map_nil, ← extract_sub s fr s.size (Nat.le_refl _)]; exact hb4, hbl2.trans hbl4⟩
end Go.Proofs.YtekcoddjdjllhaaDoor
