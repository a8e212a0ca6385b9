/- Calls of Compare; boxed data. -/
import Derived.Test.YtekcoddjdjllhaaDoorAwk
import Derived.Test.YtekcoddjdjllhaaDoorPur
namespace Go.Proofs.YtekcoddjdjllhaaDoor
open Go.RowKit

theorem DaIs.later {w w1 : World} {B : Nat} {d : Da} {a : Option Addr} (h : DaIs w d a) (hb : Below B w w1) (hB : w.heap.size ≤ B) : DaIs w1 d a := h.below (hb.mono hB)

theorem cmp_call (x y : Da) (a : Option Addr) (c : Nat) (a' : Option Addr) (c' : Nat) (w : World) (hx : DaIs w x a) (hy : DaIs w y a') :
    Calls Tryd.prog 10 #[dv x.k x.n x.s a x.l.length c, dv y.k y.n y.s a' y.l.length c'] w fun e w' => e = .returned (.tuple #[.int .i64 (cV x y), .int .i64 (cE x y)]) ∧ Below w.heap.size w w' := by
  rw [← cmpAns_eq]
  exact compare_any x y a c a' c' w hx.row hx.l hy.row hy.l
theorem rcmp_call (x y : Da) (a : Option Addr) (c : Nat) (a' : Option Addr) (c' : Nat) (w : World) (hx : DaIs w x a) (hy : DaIs w y a') :
    Calls Tryd.prog 11 #[dv x.k x.n x.s a x.l.length c, dv y.k y.n y.s a' y.l.length c'] w fun e w' => e = .returned (.tuple #[.int .i64 (cV x y), .int .i64 (cE x y)]) ∧ Below w.heap.size w w' := by
  rw [← cmpAns_eq]
  exact rcompare_any x y a c a' c' w hx.row hx.l hy.row hy.l hx.s hy.s

/-- A boxed datum. -/
structure Bx (w : World) (b : Nat) (x : Da) (a : Option Addr) (c : Nat) : Prop where
  c0 : w.cell? ⟨b, 0, none⟩ = some (.int .i64 x.k)
  c1 : w.cell? ⟨b, 1, none⟩ = some (.int .i64 x.n)
  c2 : w.cell? ⟨b, 2, none⟩ = some (.string x.s)
  c3 : w.cell? ⟨b, 3, none⟩ = some (.slice a x.l.length c)
theorem Bx.later {w w1 : World} {B b : Nat} {x : Da} {a : Option Addr} {c : Nat} (h : Bx w b x a c) (hb : Below B w w1) (hlt : b < B) : Bx w1 b x a c :=
  ⟨(hb.cell (p := ⟨b, 0, none⟩) hlt).trans h.c0, (hb.cell (p := ⟨b, 1, none⟩) hlt).trans h.c1, (hb.cell (p := ⟨b, 2, none⟩) hlt).trans h.c2, (hb.cell (p := ⟨b, 3, none⟩) hlt).trans h.c3⟩
end Go.Proofs.YtekcoddjdjllhaaDoor
