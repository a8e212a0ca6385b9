/- The calls of a datum law, each by its answer. -/
import Derived.Test.YtekcoddjdjllhaaDoorBtW
import Derived.Test.YtekcoddjdjllhaaDoorBx
namespace Go.Proofs.YtekcoddjdjllhaaDoor
open Go.RowKit

theorem Bx.drew {w : World} {b : Nat} {x : Da} {a : Option Addr} {c : Nat} (h : Bx w b x a c) : Bx w.drew b x a c :=
  ⟨by simpa using h.c0, by simpa using h.c1, by simpa using h.c2, by simpa using h.c3⟩

def hV (d : Da) : Int := if d.may then hashL d.enc else 0
theorem hashAns_eq (d : Da) : hashAns d = .tuple #[.int .i64 (hV d), .int .i64 (dE d)] := by unfold hashAns hV dE; split <;> rfl
theorem check_call (d : Da) (a : Option Addr) (c : Nat) (w : World) (hd : DaIs w d a) :
    Calls Tryd.prog 25 #[dv d.k d.n d.s a d.l.length c] w fun e w' => e = .returned (.int .i64 (dE d)) ∧ Below w.heap.size w w' := check_any d a c w hd.row hd.l
theorem rcheck_call (d : Da) (a : Option Addr) (c : Nat) (w : World) (hd : DaIs w d a) :
    Calls Tryd.prog 22 #[dv d.k d.n d.s a d.l.length c] w fun e w' => e = .returned (.int .i64 (dE d)) ∧ Below w.heap.size w w' := rcheck_any d a c w hd.row hd.s hd.l
theorem bytes_call (d : Da) (a : Option Addr) (c : Nat) (w : World) (hd : DaIs w d a) (hG : GlobsM w) (h16 : 8 ≤ w.heap.size) :
    Calls Tryd.prog 18 #[dv d.k d.n d.s a d.l.length c] w fun e w' => e = .returned (.tuple #[.string (bS d), .int .i64 (dE d)]) ∧ Below w.heap.size w w' := by
  rw [← bytesAns_eq]
  exact bytes_any d a c w hd hG h16
theorem print_call (d : Da) (a : Option Addr) (c : Nat) (w : World) (hd : DaIs w d a) (hG : Globs w) :
    Calls Tryd.prog 20 #[dv d.k d.n d.s a d.l.length c] w fun e w' => e = .returned (.tuple #[.string (tS d), .int .i64 (dE d)]) ∧ Below w.heap.size w w' := by
  rw [← printAns_eq]
  exact print_any d a c w hd hG
theorem hash_call (d : Da) (a : Option Addr) (c : Nat) (w : World) (hd : DaIs w d a) (hG : GlobsM w) (h16 : 8 ≤ w.heap.size) :
    Calls Tryd.prog 23 #[dv d.k d.n d.s a d.l.length c] w fun e w' => e = .returned (.tuple #[.int .i64 (hV d), .int .i64 (dE d)]) ∧ Below w.heap.size w w' := by
  rw [← hashAns_eq]
  exact hash_any d a c w hd hG h16
theorem rhash_call (d : Da) (a : Option Addr) (c : Nat) (w : World) (hd : DaIs w d a) :
    Calls Tryd.prog 24 #[dv d.k d.n d.s a d.l.length c] w fun e w' => e = .returned (.tuple #[.int .i64 (hV d), .int .i64 (dE d)]) ∧ Below w.heap.size w w' := by
  rw [← hashAns_eq]
  exact rhash_any d a c w hd
end Go.Proofs.YtekcoddjdjllhaaDoor
