/- What the calls know of the library's variables. -/
import Derived.Test.YtekcoddjdjllhaaDoorShelf
import Derived.Test.YtekcoddjdjllhaaDoorDatE
import Derived.Lib.Replace
import Derived.Lib.SplitLaws
import Derived.WalkSmall
import Derived.Lib.LaidTab
namespace Go.Proofs.YtekcoddjdjllhaaDoor
open Go.RowKit

structure Globs (w : World) : Prop where
  pow : Lib.TabIs Tryd.prog w "internal/strconv.uint64pow10" .u64 Lib.pow10Tab
  syn : ∃ tp p, w.cell? ⟨1, 0, none⟩ = some (.iface tp p)
  rng : ∃ tp p, w.cell? ⟨2, 0, none⟩ = some (.iface tp p)

theorem replaceK_past (old new : List UInt8) (ho : old = [0]) (b : UInt8) (hb : ¬ b = 0) (s : List UInt8) : ∀ k, Lib.replaceK old new k (b :: s) = b :: Lib.replaceK old new k s := by
  subst ho
  intro k
  cases k with
  | zero => rfl
  | succ k =>
    have hp : ([0] : List UInt8).isPrefixOf (b :: s) = false := by
      simp [List.isPrefixOf]; exact fun e => hb e.symm
    have hix : Lib.index (b :: s) [0] = if Lib.index s [0] == -1 then -1 else Lib.index s [0] + 1 := by
      rw [Lib.index, hp]; simp
    by_cases h : Lib.index s [0] = -1
    · rw [Lib.replaceK, Lib.replaceK, hix, h]; simp
    · have hge := Lib.index_ge s [0]
      obtain ⟨i, hi⟩ : ∃ i : Nat, Lib.index s [0] = i := ⟨(Lib.index s [0]).toNat, by omega⟩
      rw [Lib.replaceK_hit [0] new k s i hi, Lib.replaceK_hit [0] new k (b :: s) (i + 1) (by rw [hix, hi, if_neg (by simp)]; omega)]
      simp [List.take_succ_cons, List.drop_succ_cons, Nat.add_right_comm]

theorem replaceK_esc (s : List UInt8) : ∀ k, s.count 0 ≤ k → Lib.replaceK [0] [0, 255] k s = esc s := by
  induction s with
  | nil => intro k _; cases k <;> simp [Lib.replaceK, Lib.index, esc]
  | cons b s ih =>
    intro k hk
    by_cases hb : b = 0
    · subst hb
      obtain ⟨m, rfl⟩ : ∃ m, k = m + 1 := ⟨k - 1, by simp at hk; omega⟩
      rw [Lib.replaceK_hit [0] [0, 255] m (0 :: s) 0 (by rw [Lib.index]; simp [List.isPrefixOf])]
      simp only [List.take_zero, List.nil_append, List.length_cons, List.length_nil, Nat.zero_add, List.drop_succ_cons, List.drop_zero, esc, if_true]
      rw [ih m (by simp at hk; omega)]
    · rw [replaceK_past [0] [0, 255] rfl b hb s k, ih k (by rw [List.count_cons] at hk; omega)]
      simp [esc, hb]

theorem replaceAll_esc (s : List UInt8) : Lib.replaceAll s [0] [0, 255] = esc s := by
  unfold Lib.replaceAll Lib.replace Lib.replaceNum
  rw [if_neg (by decide), if_pos (.inl (by decide)), Lib.count_one]
  exact replaceK_esc s _ (Nat.le_refl _)

theorem Globs.below {w w1 : World} (h : Globs w) (hb : Below w.heap.size w w1) : Globs w1 := by
  obtain ⟨h2, ⟨t1, p1, h3⟩, ⟨t2, p2, h4⟩⟩ := h
  have hg : Tryd.prog.globalNamed "internal/strconv.uint64pow10" = some 5 := by kernel_rfl
  have hc := World.var?_cell hg h2 0
  exact ⟨var?_below hb hg (World.block_lt_of_cell? w _ hc) h2, ⟨t1, p1, (hb.cell (World.block_lt_of_cell? w _ h3)).trans h3⟩, ⟨t2, p2, (hb.cell (World.block_lt_of_cell? w _ h4)).trans h4⟩⟩

theorem Globs.belowB {w w1 : World} {B : Nat} (h : Globs w) (hb : Below B w w1) (hB : 8 ≤ B) : Globs w1 := by
  obtain ⟨h2, ⟨t1, p1, h3⟩, ⟨t2, p2, h4⟩⟩ := h
  have hg : Tryd.prog.globalNamed "internal/strconv.uint64pow10" = some 5 := by kernel_rfl
  exact ⟨var?_below hb hg (by omega) h2, ⟨t1, p1, (hb.cell (p := ⟨1, 0, none⟩) (by simp; omega)).trans h3⟩, ⟨t2, p2, (hb.cell (p := ⟨2, 0, none⟩) (by simp; omega)).trans h4⟩⟩

/-- With what strings.ReplaceAll asks for. -/
structure GlobsM (w : World) : Prop extends Globs w where
  maxlen : ∃ m, w.cell? ⟨0, 0, none⟩ = some (.int .i64 m)

theorem GlobsM.below {w w1 : World} (h : GlobsM w) (hb : Below w.heap.size w w1) : GlobsM w1 := by
  obtain ⟨m, hm⟩ := h.maxlen
  exact { toGlobs := h.toGlobs.below hb, maxlen := ⟨m, (hb.cell (World.block_lt_of_cell? w _ hm)).trans hm⟩ }

theorem GlobsM.belowB {w w1 : World} {B : Nat} (h : GlobsM w) (hb : Below B w w1) (hB : 8 ≤ B) : GlobsM w1 := by
  obtain ⟨m, hm⟩ := h.maxlen
  exact { toGlobs := h.toGlobs.belowB hb hB, maxlen := ⟨m, (hb.cell (p := ⟨0, 0, none⟩) (by simp; omega)).trans hm⟩ }
end Go.Proofs.YtekcoddjdjllhaaDoor
