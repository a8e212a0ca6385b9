/- vestibulelaw01.DatumBytes: the walk. -/
import Derived.Test.YtekcoddjdjllhaaDoorAwk
import Derived.Test.YtekcoddjdjllhaaDoorDatH
namespace Go.Proofs.YtekcoddjdjllhaaDoor
open Go.RowKit

def bS (d : Da) : ByteArray := if d.may then ⟨d.enc.toArray⟩ else ⟨#[]⟩
def dE (d : Da) : Int := if d.may then 0 else 11
def tS (d : Da) : ByteArray := if d.may then ⟨d.text.toArray⟩ else ⟨#[]⟩
theorem bytesAns_eq (d : Da) : bytesAns d = .tuple #[.string (bS d), .int .i64 (dE d)] := by unfold bytesAns bS dE; split <;> rfl
theorem printAns_eq (d : Da) : printAns d = .tuple #[.string (tS d), .int .i64 (dE d)] := by unfold printAns tS dE; split <;> rfl

set_option maxRecDepth 100000 in
set_option maxHeartbeats 4000000 in
theorem bytes_law (x : Da) (a : Option Addr) (c : Nat) (w : World) (hx : DaIs w x a) (hG : GlobsM w) (h16 : 8 ≤ w.heap.size) :
    Calls Tryd.prog 5 #[dv x.k x.n x.s a x.l.length c] w fun e w' => e = .returned (.bool true) ∧ Below w.heap.size w w' := by
  have hW : Below w.heap.size w (w.alloc (.cells #[.int .i64 x.k, .int .i64 x.n, .string x.s, .slice a x.l.length c] 24)) := (Below.refl _ _).alloc (Nat.le_refl _) _
  have B1 := bytesAns_eq x
  have B2 := printAns_eq x
  generalize bS x = S at B1
  generalize tS x = T at B2
  generalize dE x = E at B1 B2
  have HB1 := Lib.hid B1
  have HB2 := Lib.hid B2
  clear B1 B2
  go_enter Tryd.func5, Tryd.ntmps5
  go_wp2_with fail
  refine (bytes_any x a c _ (hx.below hW) (hG.below hW) (by simp; omega)).mono ?_
  rintro e w1 ⟨rfl, hb1⟩
  rw [HB1.out]
  obtain ⟨hc1, hf1⟩ := bcell hb1
  simp only [World.size_alloc] at hc1 hf1
  have hz1 : w.heap.size < w1.heap.size := by have := hb1.size; simp at this; omega
  have hb01 : Below w.heap.size w w1 := hW.trans (hb1.mono (by simp))
  go_wp2_with fail
  refine (rbytes_any x a c _ (hx.below hb01)).mono ?_
  rintro e w2 ⟨rfl, hb2⟩
  rw [HB1.out]
  obtain ⟨hc2, hf2⟩ := bcell hb2
  have hz2 : w.heap.size < w2.heap.size := by have := hb2.size; omega
  have hb02 : Below w.heap.size w w2 := hb01.trans (hb2.mono (by omega))
  go_wp2_with fail
  refine (print_any x a c _ (hx.below hb02) (hG.toGlobs.below hb02)).mono ?_
  rintro e w3 ⟨rfl, hb3⟩
  rw [HB2.out]
  obtain ⟨hc3, hf3⟩ := bcell hb3
  have hz3 : w.heap.size < w3.heap.size := by have := hb3.size; omega
  have hb03 : Below w.heap.size w w3 := hb02.trans (hb3.mono (by omega))
  go_wp2_with fail
  refine (rprint_any x a c _ (hx.below hb03) (hG.toGlobs.below hb03)).mono ?_
  rintro e w4 ⟨rfl, hb4⟩
  rw [HB2.out]
  have hz4 : w.heap.size < w4.heap.size := by have := hb4.size; omega
  have hb04 : Below w.heap.size w w4 := hb03.trans (hb4.mono (by omega))
  go_wp2_with fail
  refine (awake_any _ (hG.toGlobs.below hb04)).mono ?_
  rintro e w5 ⟨rfl, hb5⟩
  go_wp2
  go_ret
  exact ⟨rfl, hb04.trans (hb5.mono (by omega))⟩
end Go.Proofs.YtekcoddjdjllhaaDoor
