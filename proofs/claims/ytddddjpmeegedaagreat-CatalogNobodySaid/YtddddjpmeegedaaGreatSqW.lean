/- A catalog, a tree, an action that nobody made. -/
import Derived.Test.YtddddjpmeegedaaGreatSqT
set_option linter.unusedVariables false
set_option linter.unusedSimpArgs false
namespace Go.Proofs.YtddddjpmeegedaaGreat
open Go.RowKit

theorem goingA_nil (w : World) : Calls Tryz.prog 47 #[.pointer none] w fun e w' => e = .returned (.int .i64 1) ∧ w' = w := by
  go_enter Tryz.func47, Tryz.ntmps47
  go_wp2
  go_ret
  exact ⟨rfl, rfl⟩
theorem rootA_nil (k : Int) (w : World) : Calls Tryz.prog 59 #[.pointer none, .int .i64 k] w fun e w' => e = .returned (.tuple #[.int .i64 0, .int .i64 1]) ∧ w' = w := by
  have H := Lib.hid (goingA_nil w)
  go_enter Tryz.func59, Tryz.ntmps59
  go_wp2_with fail
  refine H.out.mono ?_
  rintro e w1 ⟨rfl, rfl⟩
  go_wp2
  go_ret2
  exact ⟨rfl, rfl⟩
theorem treeNew_nil (k : Int) (w : World) : Calls Tryz.prog 24 #[.pointer none, .int .i64 k] w fun e w' => e = .returned (.tuple #[.pointer none, .int .i64 1]) ∧ w' = w := by
  have H := Lib.hid (rootA_nil k w)
  go_enter Tryz.func24, Tryz.ntmps24
  go_wp2_with fail
  refine H.out.mono ?_
  rintro e w1 ⟨rfl, rfl⟩
  go_wp2
  go_ret2
  exact ⟨rfl, rfl⟩
theorem top_nil (w : World) : Calls Tryz.prog 60 #[.pointer none] w fun e w' => e = .returned (.tuple #[.int .i64 0, .int .i64 1]) ∧ w' = w := by
  go_enter Tryz.func60, Tryz.ntmps60
  go_wp2
  go_ret2
  exact ⟨rfl, rfl⟩
theorem Get_nil (s : ByteArray) (w : World) : Calls Tryz.prog 68 #[.pointer none, .string s] w fun e w' => e = .returned (.tuple #[.string ⟨#[]⟩, .int .i64 1]) ∧ w' = w := by
  have H := Lib.hid (top_nil w)
  go_enter Tryz.func68, Tryz.ntmps68
  go_wp2_with fail
  refine H.out.mono ?_
  rintro e w1 ⟨rfl, rfl⟩
  go_wp2
  go_ret2
  exact ⟨rfl, rfl⟩
theorem New_nil (w : World) : Calls Tryz.prog 6 #[.pointer none] w fun e w' => e = .returned (.tuple #[.pointer none, .int .i64 1]) ∧ w' = w := by
  have H := Lib.hid (treeNew_nil 0 w)
  go_enter Tryz.func6, Tryz.ntmps6
  go_wp2_with fail
  refine H.out.mono ?_
  rintro e w1 ⟨rfl, rfl⟩
  go_wp2
  go_ret2
  exact ⟨rfl, rfl⟩
theorem Make_nil (v : Value) (w : World) : Calls Tryz.prog 7 #[.pointer none, v] w fun e w' => e = .returned (.int .i64 1) ∧ w' = w := by
  have H := Lib.hid (treeNew_nil 0 w)
  go_enter Tryz.func7, Tryz.ntmps7
  go_wp2_with fail
  refine H.out.mono ?_
  rintro e w1 ⟨rfl, rfl⟩
  go_wp2
  go_ret
  exact ⟨rfl, rfl⟩

/-- A catalog that nobody made: nil, or one of noughts. -/
def NoCat (w : World) (c : Value) : Prop := c = .pointer none ∨ ∃ g, c = .pointer (some ⟨g, 0, none⟩) ∧ w.heap[g]? = some (.cells #[.pointer none, .pointer none] 34)
theorem NoCat.below {w w' : World} {c : Value} (h : NoCat w c) (hb : Below w.heap.size w w') : NoCat w' c := by
  rcases h with h | ⟨g, hg, hh⟩
  · exact .inl h
  · exact .inr ⟨g, hg, (hb.block g (Array.getElem?_eq_some_iff.1 hh).1).trans hh⟩
theorem going_no {w : World} {c : Value} (h : NoCat w c) : Calls Tryz.prog 30 #[c] w fun e w' => e = .returned (.int .i64 1) ∧ w' = w := by
  rcases h with rfl | ⟨g, rfl, hg⟩
  · go_enter Tryz.func30, Tryz.ntmps30
    go_wp2
    go_ret
    exact ⟨rfl, rfl⟩
  · have c1 : w.cell? ⟨g, 1, none⟩ = some (.pointer none) := by unfold World.cell?; rw [hg]; rfl
    have H := Lib.hid (Get_nil ⟨#[99]⟩ w)
    clear hg
    go_enter Tryz.func30, Tryz.ntmps30
    go_wp2_with fail
    refine H.out.mono ?_
    rintro e w1 ⟨rfl, rfl⟩
    go_wp2
    go_ret
    exact ⟨rfl, rfl⟩
theorem get_no {w : World} {c : Value} (h : NoCat w c) (s : ByteArray) : Calls Tryz.prog 28 #[c, .string s] w fun e w' => e = .returned (.tuple #[.string ⟨#[]⟩, .int .i64 1]) ∧ w' = w := by
  have H := Lib.hid (going_no h)
  go_enter Tryz.func28, Tryz.ntmps28
  go_wp2_with fail
  refine H.out.mono ?_
  rintro e w1 ⟨rfl, rfl⟩
  go_wp2
  go_ret2
  exact ⟨rfl, rfl⟩
theorem Open_no {w : World} {c : Value} (h : NoCat w c) (s : ByteArray) : Calls Tryz.prog 9 #[c, .string s] w fun e w' => e = .returned (.tuple #[Value.nilIface, .int .i64 1]) ∧ w' = w := by
  have H := Lib.hid (get_no h s)
  go_enter Tryz.func9, Tryz.ntmps9
  go_wp2_with fail
  refine H.out.mono ?_
  rintro e w1 ⟨rfl, rfl⟩
  go_wp2
  go_ret2
  exact ⟨rfl, rfl⟩
theorem Set_no {w : World} {c : Value} (h : NoCat w c) (s : ByteArray) (k : Int) : Calls Tryz.prog 11 #[c, .string s, .int .i64 k] w fun e w' => e = .returned (.int .i64 1) ∧ w' = w := by
  have H := Lib.hid (get_no h s)
  go_enter Tryz.func11, Tryz.ntmps11
  go_wp2_with fail
  refine H.out.mono ?_
  rintro e w1 ⟨rfl, rfl⟩
  go_wp2
  go_ret
  exact ⟨rfl, rfl⟩
theorem Drop_no {w : World} {c : Value} (h : NoCat w c) (s : ByteArray) : Calls Tryz.prog 12 #[c, .string s] w fun e w' => e = .returned (.int .i64 1) ∧ w' = w := by
  have H := Lib.hid (Open_no h s)
  go_enter Tryz.func12, Tryz.ntmps12
  go_wp2_with fail
  refine H.out.mono ?_
  rintro e w1 ⟨rfl, rfl⟩
  go_wp2
  go_ret
  exact ⟨rfl, rfl⟩
theorem Add_no {w : World} {c : Value} (h : NoCat w c) (x : Xi) : Calls Tryz.prog 10 #[c, xiV x] w fun e w' => e = .returned (.int .i64 1) ∧ Below w.heap.size w w' := by
  have hb : Below w.heap.size w (w.alloc (xiO x)) := by go_grown
  have H := Lib.hid (And.intro (going_no (h.below hb)) hb)
  clear hb
  go_enter Tryz.func10, Tryz.ntmps10
  go_wp2_with fail
  refine H.out.1.mono ?_
  rintro e w1 ⟨rfl, rfl⟩
  go_wp2
  go_ret
  exact ⟨rfl, H.out.2⟩
theorem each_no {w : World} {c : Value} (h : NoCat w c) (s : ByteArray) (f : Value) : Calls Tryz.prog 37 #[c, .string s, f] w fun e w' => e = .returned (.tuple #[]) ∧ w' = w := by
  have H := Lib.hid (going_no h)
  go_enter Tryz.func37, Tryz.ntmps37
  go_wp2_with fail
  refine H.out.mono ?_
  rintro e w1 ⟨rfl, rfl⟩
  go_wp2
  exact bodyPost_ret (v := .tuple #[]) (results_none rfl _ _ _) rfl ⟨rfl, rfl⟩
theorem Columns_no {w : World} {c : Value} (h : NoCat w c) : Calls Tryz.prog 13 #[c] w fun e w' => e = .returned (.slice none 0 0) ∧ Below w.heap.size w w' := by
  have hb : Below w.heap.size w (w.alloc (.cells #[.slice none 0 0] 29)) := by go_grown
  have H := Lib.hid (And.intro (fun s f => each_no (h.below hb) s f) hb)
  clear hb
  go_enter Tryz.func13, Tryz.ntmps13
  go_wp2_with fail
  refine (H.out.1 _ _).mono ?_
  rintro e w1 ⟨rfl, rfl⟩
  go_wp2
  go_ret
  exact ⟨rfl, H.out.2⟩
theorem Indexes_no {w : World} {c : Value} (h : NoCat w c) : Calls Tryz.prog 14 #[c] w fun e w' => e = .returned (.slice none 0 0) ∧ Below w.heap.size w w' := by
  have hb : Below w.heap.size w (w.alloc (.cells #[.slice none 0 0] 43)) := by go_grown
  have H := Lib.hid (And.intro (fun s f => each_no (h.below hb) s f) hb)
  clear hb
  go_enter Tryz.func14, Tryz.ntmps14
  go_wp2_with fail
  refine (H.out.1 _ _).mono ?_
  rintro e w1 ⟨rfl, rfl⟩
  go_wp2
  go_ret
  exact ⟨rfl, H.out.2⟩
end Go.Proofs.YtddddjpmeegedaaGreat
