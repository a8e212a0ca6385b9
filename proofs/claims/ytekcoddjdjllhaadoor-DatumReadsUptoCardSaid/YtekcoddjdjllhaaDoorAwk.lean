/- vestibulelaw01.awake: true. -/
import Derived.Test.YtekcoddjdjllhaaDoorDatZ
import Derived.Test.YtekcoddjdjllhaaDoorDatO
namespace Go.Proofs.YtekcoddjdjllhaaDoor
open Go.RowKit

def aw : ByteArray := ⟨#[91, 49, 44, 39, 120, 39, 93]⟩
theorem items_aw : itemsL false [] [49, 44, 39, 120, 39] = [[49], [39, 120, 39]] := by decide
theorem atoi_aw : atoiV [49] = 1 := by decide
theorem read1_a : read1 (toBA [49]) = ⟨1, 1, ⟨#[]⟩, 0⟩ := by
  rw [read1, if_neg (by decide), show (toBA [49]).data.toList = [49] from rfl, atoi_aw]
theorem read1_b : read1 (toBA [39, 120, 39]) = ⟨2, 0, ⟨#[120]⟩, 0⟩ := by
  rw [read1, if_pos (by decide)]; rfl
def awd : Da := ⟨3, 0, ⟨#[]⟩, [⟨1, 1, ⟨#[]⟩, 0⟩, ⟨2, 0, ⟨#[120]⟩, 0⟩]⟩
theorem read_aw : readDa aw = awd := by
  have h1 : sub aw 1 (aw.size - 1) = [49, 44, 39, 120, 39] := rfl
  rw [readDa, if_pos ⟨by decide, rfl⟩, if_neg (by rw [Lib.toList_data]; decide), h1, items_aw, if_neg (by decide)]
  simp only [List.map_cons, List.map_nil, read1_a, read1_b]
  rfl
theorem text_aw : awd.text = aw.data.toList := by
  simp [awd, Da.text, It.text, text1, Lib.join, Lib.itoa, Lib.decDigits, quoteL, qu1, escB]
  rfl
theorem may_aw : awd.may = true := by
  simp [awd, Da.may, It.may, simpleB, Lib.toList_data]
  decide
theorem parse_aw : parseDa aw = some awd := by
  rw [parseDa, read_aw, if_pos ⟨may_aw, text_aw⟩]
theorem print_aw : printAns awd = .tuple #[.string aw, .int .i64 0] := by
  rw [printAns, may_aw, if_pos rfl, text_aw]
theorem cmp_aw : cmpAns ⟨1, 7, ⟨#[]⟩, []⟩ ⟨2, 0, ⟨#[]⟩, []⟩ = .tuple #[.int .i64 (-1), .int .i64 0] := by
  simp [cmpAns, Da.may, simpleB, Lib.toList_data, ordB]
  decide

set_option maxRecDepth 100000 in
set_option maxHeartbeats 2000000 in
theorem awake_any (w : World) (hG : Globs w) :
    Calls Tryd.prog 12 #[] w fun e w' => e = .returned (.bool true) ∧ Below w.heap.size w w' := by
  go_enter Tryd.func12, Tryd.ntmps12
  go_wp2_with fail
  refine (parse_any aw _ (by decide) hG).mono ?_
  rintro e w1 ⟨a, c, hp, hb1⟩
  rw [parse_aw] at hp
  obtain ⟨rfl, hda⟩ := hp
  go_wp2_with fail
  refine (print_any awd a c _ (hda.below (by go_grown)) ((hG.below hb1).below (by go_grown))).mono ?_
  rintro e w2 ⟨rfl, hb2⟩
  rw [print_aw]
  obtain ⟨hc2, hf2⟩ := bcell hb2
  simp only [World.size_alloc] at hc2 hf2
  have hz2 : w1.heap.size < w2.heap.size := by have := hb2.size; simp at this; omega
  have hz1 := hb1.size
  have hb02 : Below w.heap.size w w2 := (hb1.alloc hz1 _).trans (hb2.mono (by simp; omega))
  have d3 : w2.cell? ⟨w1.heap.size, 3, none⟩ = some (.slice a 2 c) := by rw [hc2 _ _ (by omega)]; go_simp; rfl
  clear hc2 hf2
  go_wp2_with fail
  refine (compare_any ⟨1, 7, ⟨#[]⟩, []⟩ ⟨2, 0, ⟨#[]⟩, []⟩ none 0 none 0 _ (.inl rfl) (by show 0 ≤ _; omega) (.inl rfl) (by show 0 ≤ _; omega)).mono ?_
  rintro e w3 ⟨rfl, hb3⟩
  rw [cmp_aw]
  have d33 : w3.cell? ⟨w1.heap.size, 3, none⟩ = some (.slice a 2 c) := (hb3.cell (p := ⟨w1.heap.size, 3, none⟩) hz2).trans d3
  have hl : (aw.toList == [91, 49, 44, 39, 120, 39, 93]) = true := by rw [Lib.toList_data]; rfl
  go_wp2
  go_ret
  exact ⟨rfl, hb02.trans (hb3.mono (by omega))⟩
end Go.Proofs.YtekcoddjdjllhaaDoor
