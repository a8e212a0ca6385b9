/- A space's page 0 over an empty disk. -/
import Derived.Test.YtddddjpmeegedaaGreatSpI
set_option linter.unusedVariables false
set_option linter.unusedSimpArgs false
namespace Go.Proofs.YtddddjpmeegedaaGreat
open Go.RowKit

theorem below_conv (w : World) (e : TypeId) (s : ByteArray) : Below w.heap.size w (Lib.bytesWorld w e s) := by
  refine ⟨?_, ?_, ?_, ?_, fun k hk => Lib.bytesWorld_at_old w e s k hk⟩
  · unfold Lib.bytesWorld World.freeze; split <;> rfl
  · unfold Lib.bytesWorld World.freeze; split <;> rfl
  · unfold Lib.bytesWorld World.freeze; split <;> rfl
  · rw [Lib.bytesWorld_size]; omega
theorem page_conv (w : World) (l : List UInt8) (hl : l.length = 512) : PageAt (Lib.bytesWorld w 5 ⟨l.toArray⟩) w.heap.size (grownCap w 512 0 5) l := by
  have hs : (⟨l.toArray⟩ : ByteArray).size = 512 := by show l.toArray.size = 512; simp [hl]
  have hge := grownCap_ge w 512 0 5
  have hz : (Lib.bytesCells w 5 ⟨l.toArray⟩).size = grownCap w 512 0 5 := by
    unfold Lib.bytesCells
    rw [hs]
    simp [hl]
    omega
  refine ⟨hl, _, _, Lib.bytesWorld_at_new w 5 ⟨l.toArray⟩, hz, hge, grownCap_le_maxLen w 512 0 5 (by unfold maxLen; omega), ?_, .inr (by show 512 ≤ _; rw [hz]; exact hge)⟩
  unfold Lib.bytesCells
  rw [Array.toList_append, List.take_append_of_le_length (by simp [hl]), List.take_of_length_le (by simp [hl])]
  simp [Lib.byteCells]

set_option maxRecDepth 100000 in
set_option maxHeartbeats 1000000 in
theorem bytes_zero {w : World} {bs bp bat bf bb c : Nat} (h : PoolAt w bp bat bf bb c 0) (hs : w.cell? ⟨bs, 1, none⟩ = some (.pointer (some ⟨bp, 0, none⟩))) (hne : bs ≠ bf) :
    Calls Tryz.prog 56 #[.pointer (some ⟨bs, 0, none⟩), .int .i64 0] w fun e w' =>
      ∃ b cap, e = .returned (.slice (some ⟨b, 0, none⟩) 512 cap) ∧ PageAt w' b cap zeros ∧ PoolAt w' bp bat bf bb c 0 ∧ w.heap.size ≤ b ∧ Off (· = bf) w w' := by
  have HP := Lib.hid (pin_any h)
  clear h
  go_enter Tryz.func56, Tryz.ntmps56
  go_wp2_with fail
  refine HP.out.mono ?_
  rintro e w1 ⟨rfl, h1, ho1⟩
  have hs1 := ho1.cell hs hne
  have HR := Lib.hid (pread_any h1 (by omega))
  have H1 := Lib.hid (And.intro h1 ho1)
  clear h1 ho1 HP hs
  go_wp2_with fail
  refine HR.out.mono ?_
  rintro e w2 ⟨rfl, hb2⟩
  obtain ⟨ch, late, hf⟩ := H1.out.1.f
  have h2 : PoolAt w2 bp bat bf bb c 1 := H1.out.1.turn (Off.of_below hb2) ⟨ch, late, (hb2.block bf H1.out.1.bf_lt).trans hf⟩
  have hs2 : w2.cell? ⟨bs, 1, none⟩ = some (.pointer (some ⟨bp, 0, none⟩)) := (hb2.cell (World.block_lt_of_cell? w1 _ hs1)).trans hs1
  have HU := Lib.hid (unpin_any h2)
  have H2 := Lib.hid (H1.out.2.trans (Off.of_below hb2 (F := fun _ => False)) (fun _ _ h => h.elim))
  clear h2 hb2 hf HR hs1
  go_wp2_with fail
  refine HU.out.mono ?_
  rintro e w3 ⟨rfl, h3, ho3⟩
  have hconv := Lib.run_convert_string_bytes (P := Tryz.prog) w3 9 74 5 ⟨zeros.toArray⟩ Tryz.underlying9 Tryz.underlying74 Tryz.underlying5
  have hz : (⟨zeros.toArray⟩ : ByteArray).size = 512 := by show zeros.toArray.size = 512; simp [zeros]
  rw [hz] at hconv
  have H3 := Lib.hid (And.intro h3 (H2.out.trans ho3 (fun _ _ h => h)))
  clear h3 ho3 HU hs2
  go_wp2
  go_ret
  have hbc := below_conv w3 5 ⟨zeros.toArray⟩
  obtain ⟨ch, late, hf⟩ := H3.out.1.f
  exact ⟨w3.heap.size, grownCap w3 512 0 5, rfl, page_conv w3 zeros (by simp [zeros]), H3.out.1.turn (Off.of_below hbc) ⟨ch, late, (hbc.block bf H3.out.1.bf_lt).trans hf⟩, H3.out.2.size, H3.out.2.trans (Off.of_below hbc (F := fun _ => False)) (fun _ _ h => h.elim)⟩

/-- What lies under an action on an empty disk. -/
def base0 (bs : Nat) : Base bs where
  is w F := ∃ bp bat bf bb c, PoolAt w bp bat bf bb c 0 ∧ w.cell? ⟨bs, 1, none⟩ = some (.pointer (some ⟨bp, 0, none⟩)) ∧ bs ≠ bf ∧ ∀ k, F k ↔ k = bs ∨ k = bp ∨ k = bat ∨ k = bf ∨ k = bb
  dom p := p = 0
  view _ := zeros
  own := by
    rintro w F ⟨bp, bat, bf, bb, c, h, hs, hne, hF⟩ k hk
    rcases (hF k).1 hk with rfl | rfl | rfl | rfl | rfl
    · exact World.block_lt_of_cell? w _ hs
    · exact World.block_lt_of_cell? w _ h.p1
    · exact h.m.lt
    · exact h.bf_lt
    · exact h.pg.lt
  keep := by
    rintro w w' F ⟨bp, bat, bf, bb, c, h, hs, hne, hF⟩ e
    have cell : ∀ b i v, F b → w.cell? ⟨b, i, none⟩ = some v → w'.cell? ⟨b, i, none⟩ = some v := fun b i v hb hv => by
      rw [World.cell?_of_block (e b hb)]; exact hv
    obtain ⟨ch, late, hf⟩ := h.f
    exact ⟨bp, bat, bf, bb, c, ⟨cell _ _ _ ((hF bp).2 (.inr (.inl rfl))) h.p1, cell _ _ _ ((hF bp).2 (.inr (.inl rfl))) h.p4, h.m.keep (e bat ((hF bat).2 (.inr (.inr (.inl rfl))))), ⟨ch, late, (e bf ((hF bf).2 (.inr (.inr (.inr (.inl rfl)))))).trans hf⟩, h.pg.keep (e bb ((hF bb).2 (.inr (.inr (.inr (.inr rfl)))))), h.ne⟩,
      cell _ _ _ ((hF bs).2 (.inl rfl)) hs, hne, hF⟩
  bytes := by
    rintro w F p ⟨bp, bat, bf, bb, c, h, hs, hne, hF⟩ rfl
    refine (bytes_zero h hs hne).mono ?_
    rintro e w' ⟨b, cap, rfl, hpg, hpool, hy, ho⟩
    refine ⟨b, cap, F, rfl, hpg, ⟨bp, bat, bf, bb, c, hpool, ho.cell hs hne, hne, hF⟩, ?_, hy, fun _ _ h => h, ho.mono fun k hk => (hF k).2 (.inr (.inr (.inr (.inl hk))))⟩
    intro hb
    have hlt : b < w.heap.size := by
      rcases (hF b).1 hb with rfl | rfl | rfl | rfl | rfl
      · exact World.block_lt_of_cell? w _ hs
      · exact World.block_lt_of_cell? w _ h.p1
      · exact h.m.lt
      · exact h.bf_lt
      · exact h.pg.lt
    omega
end Go.Proofs.YtddddjpmeegedaaGreat
