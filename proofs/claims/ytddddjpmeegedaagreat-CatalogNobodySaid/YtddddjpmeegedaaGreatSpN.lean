/- A tree's leaf: its bytes, and how a text is read from them. -/
import Derived.Test.YtddddjpmeegedaaGreatSpM
set_option linter.unusedVariables false
set_option linter.unusedSimpArgs false
namespace Go.Proofs.YtddddjpmeegedaaGreat
open Go.RowKit

/-- A key and what it holds. -/
structure KV where
  k : ByteArray
  v : ByteArray
def KV.ok (x : KV) : Prop := x.k.size ≤ 96 ∧ x.v.size ≤ 32
def lenB (s : ByteArray) : List UInt8 := UInt8.ofNat s.size :: s.data.toList
def itemB (x : KV) : List UInt8 := lenB x.k ++ lenB x.v
def leafB (L : List KV) : List UInt8 := 1 :: UInt8.ofNat L.length :: L.flatMap itemB
def pageL (l : List UInt8) : List UInt8 := l ++ List.replicate (512 - l.length) 0
theorem lenB_length (s : ByteArray) : (lenB s).length = s.size + 1 := by simp [lenB]
theorem itemB_length (x : KV) : (itemB x).length = x.k.size + x.v.size + 2 := by simp [itemB, lenB]; omega
theorem pageL_length {l : List UInt8} (h : l.length ≤ 512) : (pageL l).length = 512 := by simp [pageL]; omega

set_option maxRecDepth 100000 in
set_option maxHeartbeats 1000000 in
theorem text_any {w : World} {vb va bb cap : Nat} {l : List UInt8} (hb : w.cell? ⟨vb, 0, none⟩ = some (.slice (some ⟨bb, 0, none⟩) 512 cap)) (a : Nat) (ha : w.cell? ⟨va, 0, none⟩ = some (.int .i64 a)) (hf : w.frozen? ⟨va, 0, none⟩ = false) (hne : vb ≠ va)
    (hp : PageAt w bb cap l) (hpa : bb ≠ va) (h5 : a < 512) (k : Nat) (hk : (l.getD a 0).toNat = k) (hfit : a + 1 + k ≤ 512) :
    Calls Tryz.prog 125 #[.pointer (some ⟨vb, 0, none⟩), .pointer (some ⟨va, 0, none⟩)] w fun e w' => e = .returned (.string ⟨((l.drop (a + 1)).take k).toArray⟩) ∧ w' = w.setCell ⟨va, 0, none⟩ (.int .i64 (a + 1 + k : Nat)) := by
  have hc := hp.cell a h5
  rw [hk] at hc
  have hcap : 512 ≤ cap := by obtain ⟨_, _, _, _, _, h, _⟩ := hp; exact h
  have hkn : k < 256 := by have := (l.getD a 0).toNat_lt; omega
  have ho : ∀ j, j ≠ va → (w.setCell ⟨va, 0, none⟩ (.int .i64 ((a : Int) + (1 + (k : Int))))).heap[j]? = w.heap[j]? := fun j hj => Below.heap_setCell _ _ _ _ hj
  have HP := Lib.hid (hp.keep (ho bb hpa))
  have hval : (a : Int) + (1 + (k : Int)) = ((a + 1 + k : Nat) : Int) := by omega
  have HV := Lib.hid hval
  clear hp ho hk hval
  generalize hK : (k : Int) = K at *
  have HK := Lib.hid hK
  have hK0 : 0 ≤ K ∧ K < 256 := by omega
  have hin : 0 ≤ (a : Int) + (1 + K) ∧ (a : Int) + (1 + K) ≤ (cap : Int) := by omega
  clear hK
  go_enter Tryz.func125, Tryz.ntmps125
  go_wp2
  · have hk := HK.out
    have hk0 : k = 0 := by omega
    rw [HP.out.sub _ _ _ (by omega)]
    go_wp2
    go_ret
    refine ⟨?_, by rw [HV.out]⟩
    rw [hk0]
    simp
  · have hk := HK.out
    rw [HP.out.sub _ _ _ (by omega)]
    go_wp2
    go_ret
    have e1 : ((a : Int) + (1 + K) - K).toNat = a + 1 := by omega
    have e2 : ((a : Int) + (1 + K)).toNat - (a + 1) = k := by omega
    rw [e1, e2]
    exact ⟨rfl, by rw [HV.out]⟩
end Go.Proofs.YtddddjpmeegedaaGreat
