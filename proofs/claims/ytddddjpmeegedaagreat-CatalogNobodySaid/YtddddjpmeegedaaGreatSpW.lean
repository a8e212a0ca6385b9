/- slices.Insert of items, at the end. -/
import Derived.Test.YtddddjpmeegedaaGreatSpV
set_option linter.unusedVariables false
set_option linter.unusedSimpArgs false
namespace Go.Proofs.YtddddjpmeegedaaGreat
open Go.RowKit

/-- append of an item that lies at an address. -/
theorem wp_appI {ops : Array Oper} {rest : List Oper} {o : Oper} {a : Act} {Q : Exit → Act → World → Prop} {w : World} (hgd : o.guard = none) (s x : Operand)
    (ho : o.op = .call { callee := .builtin .append, args := #[s, x], argTypes := #[122, 122] })
    (B : Nat) (v : Value) (l : List KV) (hs : a.eval s = v) (hb : Items w B v l) (y : KV) (k c : Nat) (hx : a.eval x = .slice (some ⟨k, 0, none⟩) 1 c) (h0 : w.cell? ⟨k, 0, none⟩ = some (.string y.k)) (h1 : w.cell? ⟨k, 1, none⟩ = some (.string y.v))
    (hlen : l.length ≤ 1099511627776) (hB : B ≤ w.heap.size)
    (h : ∀ v' w', Items w' B v' (l ++ [y]) → Below B w w' → w.grownBy w' v.ownBlock → wpList Tryz.prog ops Q rest (a.put o.dst v') w') : wpList Tryz.prog ops Q (o :: rest) a w := by
  obtain ⟨i0, hi, hz0, hz1, hz2⟩ := info_of info_item
  refine wpList_append_own w hgd s x 122 ho B 133 i0 _ 2 32 Tryz.underlying122 hi hz0 hz1 hz2 rfl (by decide) v l.length (l.flatMap kvCells) hs hb ⟨k, 0, none⟩ 1 c (kvCells y) hx rfl ?_ ?_ (by unfold maxLen; omega) (by omega) hB ?_
  · intro j u hj
    match j, hj with
    | 0, hj => simp [kvCells] at hj; subst hj; simpa [Addr.add] using h0
    | 1, hj => simp [kvCells] at hj; subst hj; simpa [Addr.add] using h1
  · intro u hu
    simp [kvCells] at hu
    rcases hu with rfl | rfl <;> rfl
  · intro v' w' hown hg _
    refine h v' w' ?_ (hb.below hB hg) hg
    unfold Items
    rw [List.length_append, List.flatMap_append]
    simpa using hown

set_option maxRecDepth 100000 in
set_option maxHeartbeats 2000000 in
theorem insert_end {w : World} {M n c : Nat} {A : Option Addr} {L : List KV} (h : Items w M (.slice A L.length c) L) (hM : M ≤ w.heap.size) (y : KV) (k c' : Nat) (h0 : w.cell? ⟨k, 0, none⟩ = some (.string y.k)) (h1 : w.cell? ⟨k, 1, none⟩ = some (.string y.v)) (hn : L.length ≤ 65536) :
    Calls Tryz.prog 115 #[.slice A L.length c, .int .i64 L.length, .slice (some ⟨k, 0, none⟩) 1 c'] w fun e w' => ∃ v', e = .returned v' ∧ Items w' M v' (L ++ [y]) ∧ Below M w w' ∧ w.grownBy w' (Value.ownBlock (.slice A L.length c)) := by
  have hcap : L.length ≤ c := by
    rcases h.2 with ⟨e, e0⟩ | ⟨g, cap, cur, e, _, _, hle, _⟩
    · omega
    · simp only [Value.slice.injEq] at e
      obtain ⟨_, _, rfl⟩ := e
      exact hle
  have hd := h
  go_enter Tryz.func115, Tryz.ntmps115
  go_wp2_with (at_builtin; refine wp_appI rfl _ _ rfl M _ L rfl hd y k c' rfl h0 h1 (by omega) hM ?_; intro v' w' hit hbel hgr)
  all_goals
    go_ret
    have e : ∀ m m', Value.ownBlock (.slice A m m') = Value.ownBlock (.slice A L.length c) := fun m m' => by cases A <;> rfl
    refine ⟨v', rfl, hit, hbel, ?_⟩
    rw [e]
    exact hgr
end Go.Proofs.YtddddjpmeegedaaGreat
