/- The reference's Parse: the walk. -/
import Derived.Test.YtekcoddjdjllhaaDoorRdX
import Derived.Test.YtekcoddjdjllhaaDoorDeO
namespace Go.Proofs.YtekcoddjdjllhaaDoor
open Go.RowKit

/-- Whose text a text is. -/
def PSpec (s : List UInt8) (o : Option Da) : Prop :=
  match o with
  | some d => d.may = true ∧ In64 d.n ∧ (∀ x ∈ d.l, In64 x.n) ∧ d.text = s
  | none => ∀ d : Da, d.may = true → In64 d.n → (∀ x ∈ d.l, In64 x.n) → d.text ≠ s

theorem da_list {d : Da} (h : d.may = true) (h3 : d.k = 3) (hx : ∀ x ∈ d.l, In64 x.n) : Val d.l ∧ d.text = listText d.l ∧ d = ⟨3, 0, ⟨#[]⟩, d.l⟩ := by
  obtain ⟨h0, hs, h8, hit⟩ := may_items h h3
  refine ⟨⟨h8, fun x hx' => ?_⟩, ?_, ?_⟩
  · obtain ⟨j, hj, rfl⟩ := List.getElem_of_mem hx'
    exact ⟨hit j hj, hx _ hx'⟩
  · simp [Da.text, h3, listText]
  · obtain ⟨k, n, s, l⟩ := d
    simp only at h3 h0 hs
    rw [h3, h0, hs]

theorem pspec_simple {s : List UInt8} {o : Option It} (h : RdOk s o) (hs : s.length < 2 ∨ s.head? ≠ some 91) : PSpec s (o.map fun x => ⟨x.k, x.n, x.s, []⟩) := by
  cases o with
  | some x =>
    obtain ⟨hm, hok, ht⟩ := h
    have hp := it_parts hm
    have hk : ¬ x.k = 3 := by rcases hp.2 with h | h <;> omega
    refine ⟨?_, hok.2.2, (by simp), ?_⟩
    · have : simpleB x.k x.n x.s x.ln = true := hm
      rw [hp.1] at this
      simpa [Da.may, hk] using this
    · simp only [Da.text, hk, if_false]
      exact ht
  | none =>
    intro d hm hn hx ht
    by_cases h3 : d.k = 3
    · obtain ⟨_, e, _⟩ := da_list hm h3 hx
      rw [e] at ht
      rcases hs with hs | hs
      · rw [← ht] at hs; simp [listText] at hs; omega
      · rw [← ht] at hs; exact hs rfl
    · have sm : simpleB d.k d.n d.s d.l.length = true := by simpa [Da.may, h3] using hm
      have hl := may_short hm h3
      rw [hl] at sm
      refine h ⟨d.k, d.n, d.s, 0⟩ sm hn ?_
      rw [← ht]
      simp [It.text, Da.text, h3]

set_option maxRecDepth 100000 in
set_option maxHeartbeats 4000000 in
theorem rparse_simple (s : ByteArray) (w : World) (hs : s.size ≤ 4194304) (hG : Globs w) (hc : (s.size : Int) < 2 ∨ (¬ (s.size : Int) < 2 ∧ ∃ h : 0 < s.size, ((s[0].toNat : Int) == 91) = false)) :
    Calls Tryd.prog 17 #[.string s] w fun e w' => ∃ o, PSpec s.data.toList o ∧ ParsePost w o e w' := by
  have hW : Below w.heap.size w (w.alloc (.cells #[.int .i64 0, .int .i64 0, .string ⟨#[]⟩, .slice none 0 0] 24)) := (Below.refl _ _).alloc (Nat.le_refl _) _
  have zr0 : Zb (w.alloc (.cells #[.int .i64 0, .int .i64 0, .string ⟨#[]⟩, .slice none 0 0] 24)) w.heap.size := ⟨by go_simp, by go_simp, by go_simp, by go_simp, by go_simp, by go_simp, by go_simp, by go_simp⟩
  have hps : s.data.toList.length < 2 ∨ s.data.toList.head? ≠ some 91 := by
    rcases hc with hc | ⟨hc, h0, h91⟩
    · exact .inl (by rw [size_list]; omega)
    · refine .inr (fun e => ?_)
      rw [head0 s h0 91 91 rfl, e] at h91
      simp at h91
  have HP := Lib.hid hps
  clear hps
  rcases hc with hc | ⟨hc, h0, h91⟩
  all_goals
    try have h0i : (0 : Int) < (s.size : Int) := by omega
    try have h91' : ((s[0].toNat : Int) != 91) = true := by rw [bne, h91]; rfl
    go_enter Tryd.func17, Tryd.ntmps17
    go_wp2_with fail
    refine (rread_any s _ hs (hG.below hW)).mono ?_
    rintro e w1 ⟨o, k, n, t, hok, rfl, hx, hb1⟩
    have zz := hb1.size
    simp at zz
    have hb01 := hW.trans (hb1.mono (by simp))
    have zr1 := zr0.later hb1 (by simp)
    have zr2 := zr1.alloc (.cells #[.int .i64 k, .int .i64 n, .string t, .slice none 0 0] 24) (by omega)
    have hb02 := hb01.alloc (by omega) (.cells #[.int .i64 k, .int .i64 n, .string t, .slice none 0 0] 24)
    have bq := zr2
    obtain ⟨r0, r1, r2, r3, q0, q1, q2, q3⟩ := bq
    clear zr0 zr1 zr2 hW
    have HS := Lib.hid (pspec_simple hok HP.out)
    cases o with
    | none =>
      clear hok hx
      simp only [Option.isSome_none]
      go_wp2
      (try simp only [Exit.inBlock, Exit.then])
      refine bodyPost_ret (v := .tuple #[dv 0 0 ⟨#[]⟩ none 0 0, .int .i64 11]) ?_ rfl ⟨none, HS.out, none, 0, rfl, ?_⟩
      · rw [results_cell_tmp rfl]
        go_simp
        try rfl
      · exact (((hb02.setCell (p := ⟨w.heap.size, 0, none⟩) (Nat.le_refl _) _).setCell (p := ⟨w.heap.size, 1, none⟩) (Nat.le_refl _) _).setCell (p := ⟨w.heap.size, 2, none⟩) (Nat.le_refl _) _).setCell (p := ⟨w.heap.size, 3, none⟩) (Nat.le_refl _) _
    | some x =>
      obtain rfl := hx x rfl
      have hxo := Lib.hid hok.2.1
      clear hok hx
      simp only [Option.isSome_some]
      go_wp2
      (try simp only [Exit.inBlock, Exit.then])
      refine bodyPost_ret (v := .tuple #[dv k n t none 0 0, .int .i64 0]) ?_ rfl ⟨some ⟨k, n, t, []⟩, HS.out, none, 0, ⟨rfl, ⟨.inl rfl, hxo.out.2.2, by show 0 ≤ _; omega, hxo.out.2.1⟩⟩, ?_⟩
      · rw [results_cell_tmp rfl]
        go_simp
        try rfl
      · exact (((hb02.setCell (p := ⟨w.heap.size, 0, none⟩) (Nat.le_refl _) _).setCell (p := ⟨w.heap.size, 1, none⟩) (Nat.le_refl _) _).setCell (p := ⟨w.heap.size, 2, none⟩) (Nat.le_refl _) _).setCell (p := ⟨w.heap.size, 3, none⟩) (Nat.le_refl _) _
end Go.Proofs.YtekcoddjdjllhaaDoor
