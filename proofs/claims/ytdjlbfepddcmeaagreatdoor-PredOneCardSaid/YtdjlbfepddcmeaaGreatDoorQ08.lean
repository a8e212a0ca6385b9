/- The text of data: the reference's. -/
import Derived.Test.YtdjlbfepddcmeaaGreatDoorQ05
import Derived.Deep.RegionHeld3
set_option linter.unusedVariables false
set_option linter.unusedSimpArgs false
namespace Go.Proofs.YtdjlbfepddcmeaaGreatDoor
open Go.RowKit

theorem Buf.built1 (W : World) (B : Nat) (hB : B ≤ W.heap.size) (x : UInt8) : Buf (W.alloc (.cells #[.int .u8 x.toNat] 5)) B (.slice (some ⟨W.heap.size, 0, none⟩) 1 1) [x] := by
  refine ⟨rfl, .inr ⟨W.heap.size, 1, #[.int .u8 x.toNat], rfl, hB, heap_alloc_new W _, Nat.le_refl _, by unfold maxLen; omega, rfl, rfl⟩⟩

/-- append of three bytes that have just been laid. -/
theorem wp_app3 {ops : Array Oper} {rest : List Oper} {o : Oper} {a : Act} {Q : Exit → Act → World → Prop} {W : World} (hgd : o.guard = none) (s x : Operand)
    (ho : o.op = .call { callee := .builtin .append, args := #[s, x], argTypes := #[60, 60] })
    (B : Nat) (v : Value) (l : List UInt8) (hs : a.eval s = v) (hb : Buf W B v l) (x0 x1 x2 : Int) (b0 b1 b2 : UInt8) (hx0 : x0 = (b0.toNat : Int)) (hx1 : x1 = (b1.toNat : Int)) (hx2 : x2 = (b2.toNat : Int)) (k c : Nat) (hx : a.eval x = .slice (some ⟨k, 0, none⟩) 3 c) (hk : k = W.heap.size)
    (hlen : l.length ≤ 35184372088832) (hB : B ≤ W.heap.size)
    (h : ∀ v' w', Buf w' B v' (l ++ [b0, b1, b2]) → Below B W w' → W.grownBy w' v.ownBlock → W.heap.size ≤ w'.heap.size → wpList Tryz.prog ops Q rest (a.put o.dst v') w') : wpList Tryz.prog ops Q (o :: rest) a (W.alloc (.cells #[.int .u8 x0, .int .u8 x1, .int .u8 x2] 5)) := by
  subst hx0 hx1 hx2 hk
  refine wp_appB hgd s x ho B v l hs (hb.alloc _) ⟨W.heap.size, 0, none⟩ 3 c [b0, b1, b2] hx rfl ?_ (by simp; omega) (by simp; omega) ?_
  · intro j u hj
    match j, hj with
    | 0, hj => simp [Lib.byteCells] at hj; subst hj; simp [Addr.add]
    | 1, hj => simp [Lib.byteCells] at hj; subst hj; simp [Addr.add]
    | 2, hj => simp [Lib.byteCells] at hj; subst hj; simp [Addr.add]
  · intro v' w' h1 h2 h3
    exact h v' w' h1 (((Below.refl B W).alloc hB _).trans h2) (grown_alloc h3) (by have := h2.size; simp at this; omega)

theorem news3 (W : World) (x0 x1 x2 : Int) (b0 b1 b2 : UInt8) (h0 : x0 = (b0.toNat : Int)) (h1 : x1 = (b1.toNat : Int)) (h2 : x2 = (b2.toNat : Int)) :
    ∀ j u, (Lib.byteCells [b0, b1, b2])[j]? = some u → ((W.alloc (.cells #[.int .u8 x0, .int .u8 x1, .int .u8 x2] 5)).drew).cell? ((⟨W.heap.size, 0, none⟩ : Addr).add j) = some u := by
  subst h0 h1 h2
  intro j u hj
  match j, hj with
  | 0, hj => simp [Lib.byteCells] at hj; subst hj; simp [Addr.add]
  | 1, hj => simp [Lib.byteCells] at hj; subst hj; simp [Addr.add]
  | 2, hj => simp [Lib.byteCells] at hj; subst hj; simp [Addr.add]

theorem drew_keep {W : World} {k : Nat} {o : Obj} (h : W.heap[k]? = some o) (o' : Obj) : ((W.alloc o').drew).heap[k]? = some o := by
  show (W.alloc o').heap[k]? = some o
  rw [heap_alloc_old W o' (Array.getElem?_eq_some_iff.1 h).1]; exact h

theorem qTo_step {w : World} {B : Nat} {v : Value} {s : ByteArray} {j : Nat} (hj : j < s.size) (he : escB s[j] = true) {n : Nat} (hn : s[j].toNat = n) (h : Buf w B v (quoteTo s j ++ [37, hexd (n / 16), hexd (n % 16)])) : Buf w B v (quoteTo s (j + 1)) := by
  rw [quoteTo_succ s j hj, qu1, if_pos he, hn]; exact h
theorem qTo_plain {w : World} {B : Nat} {v : Value} {s : ByteArray} {j : Nat} (hj : j < s.size) (he : escB s[j] = false) (h : Buf w B v (quoteTo s j ++ [s[j]])) : Buf w B v (quoteTo s (j + 1)) := by
  rw [quoteTo_succ s j hj, qu1, he]; exact h
theorem esc_parts {b : UInt8} : escB b = true ↔ b.toNat < 33 ∨ 126 < b.toNat ∨ b.toNat = 39 ∨ b.toNat = 37 := by simp [escB, or_assoc]

set_option maxRecDepth 100000 in
set_option maxHeartbeats 2000000 in
theorem rtext_text (n : Int) (s : ByteArray) (a : Option Addr) (ln c : Nat) (w : World) (hs : s.size ≤ 32) :
    Calls Tryz.prog 78 #[dv 2 n s a ln c] w fun e w' => e = .returned (.string ⟨(quoteL s.data.toList).toArray⟩) ∧ Below w.heap.size w w' := by
  have hb0 := Buf.built1 (w.alloc (.cells #[.int .i64 2, .int .i64 n, .string s, .slice a ln c] 24)) (w.heap.size + 1) (by simp) 39
  have HB0 := Lib.hid hb0
  clear hb0
  go_enter Tryz.func78, Tryz.ntmps78
  go_wp2
  go_loopw [3, 4] (fun o k wr => ∃ j : Nat, j ≤ s.size ∧ k = .int .i64 j ∧ Buf wr (w.heap.size + 1) o (quoteTo s j) ∧ wr.heap[w.heap.size]? = some (.cells #[.int .i64 2, .int .i64 n, .string s, .slice a ln c] 24 (0, 0)) ∧ Below w.heap.size w wr ∧ w.heap.size + 1 ≤ wr.heap.size) (fun _ k _ => s.size - (intOf k).toNat)
  case atStart =>
    refine ⟨0, Nat.zero_le _, rfl, ?_, ?_, ((Below.refl w.heap.size w).alloc (Nat.le_refl _) _).alloc (by simp) _, by simp⟩
    · have := HB0.out
      simpa [quoteTo] using this
    · rw [heap_alloc_old _ _ (by simp)]; exact heap_alloc_new w _
  case round =>
    obtain ⟨j, hj, rfl, hb2, hk2, hbl2, hz2⟩ := hrel
    have hcS : wr.cell? ⟨w.heap.size, 2, none⟩ = some (.string s) := by rw [Lib.cell_of_heap hk2]; rfl
    have HL := quoteTo_len s hs j
    by_cases hlt : j < s.size
    · have hbt : (s[j].toNat : Int) < 256 := by have := s[j].toNat_lt; omega
      by_cases he : escB s[j] = true
      · have hp := esc_parts.1 he
        have HE := Lib.hid he
        clear he
        rcases (show (s[j].toNat : Int) < 33 ∨ (¬ (s[j].toNat : Int) < 33 ∧ (126 : Int) < (s[j].toNat : Int)) ∨ s[j].toNat = 39 ∨ s[j].toNat = 37 from by omega) with h | ⟨h, h'⟩ | h | h
        · clear hp
          go_wp2
          clear h
          generalize hbN : s[j].toNat = m at hbt
          have HB := Lib.hid hbN
          clear hbN
          have hq1 : IntKind.u8.wrap ((m : Int) / 16) = (m : Int) / 16 := by rw [IntKind.wrap_u8']; omega
          have ht : (m : Int).tmod 16 = (m : Int) % 16 := Int.tmod_eq_emod_of_nonneg (by omega)
          have ht0 : (0 : Int) ≤ (m : Int) % 16 := by omega
          have ht1 : (m : Int) % 16 < 16 := by omega
          have hq0 : (0 : Int) ≤ (m : Int) / 16 := by omega
          have hq2 : (m : Int) / 16 < 16 := by omega
          go_region_held3 (fun _ => True) (trivial) ((refine step_appB (by rfl) (.tmp 38) (.tmp 45) (by rfl) (w.heap.size + 1) _ _ (by rfl) ((hb2.alloc _).drew) ⟨wr.heap.size, 0, none⟩ 3 3 [37, hexd (m / 16), hexd (m % 16)] (by rfl) (by rfl) (news3 wr _ _ _ 37 (hexd (m / 16)) (hexd (m % 16)) rfl (by rw [digit_hi m (by omega)]) (by rw [digit_lo m])) (by simp only [List.length_cons, List.length_nil]; omega) (by simp; omega) ?_; intro v3 w3 hb3 hbl3 hg3))
          all_goals
            have hk3 := ((hb2.alloc _).drew).keep hg3 (drew_keep hk2 _) rfl
            have hz3 := hbl3.size
            simp only [World.size_alloc, World.size_drew] at hz3
            have hq := hbl2.trans ((((Below.refl (w.heap.size + 1) wr).alloc hz2 _).drew.trans hbl3).mono (by omega))
            clear hbl3 hg3
            go_wp2
            go_roundw
            case rel => exact ⟨j + 1, by omega, by go_num, qTo_step hlt HE.out HB.out hb3, hk3, hq, by omega⟩
            case measure => simp [intOf]; omega
        · clear hp
          go_wp2
          clear h h'
          generalize hbN : s[j].toNat = m at hbt
          have HB := Lib.hid hbN
          clear hbN
          have hq1 : IntKind.u8.wrap ((m : Int) / 16) = (m : Int) / 16 := by rw [IntKind.wrap_u8']; omega
          have ht : (m : Int).tmod 16 = (m : Int) % 16 := Int.tmod_eq_emod_of_nonneg (by omega)
          have ht0 : (0 : Int) ≤ (m : Int) % 16 := by omega
          have ht1 : (m : Int) % 16 < 16 := by omega
          have hq0 : (0 : Int) ≤ (m : Int) / 16 := by omega
          have hq2 : (m : Int) / 16 < 16 := by omega
          go_region_held3 (fun _ => True) (trivial) ((refine step_appB (by rfl) (.tmp 38) (.tmp 45) (by rfl) (w.heap.size + 1) _ _ (by rfl) ((hb2.alloc _).drew) ⟨wr.heap.size, 0, none⟩ 3 3 [37, hexd (m / 16), hexd (m % 16)] (by rfl) (by rfl) (news3 wr _ _ _ 37 (hexd (m / 16)) (hexd (m % 16)) rfl (by rw [digit_hi m (by omega)]) (by rw [digit_lo m])) (by simp only [List.length_cons, List.length_nil]; omega) (by simp; omega) ?_; intro v3 w3 hb3 hbl3 hg3))
          all_goals
            have hk3 := ((hb2.alloc _).drew).keep hg3 (drew_keep hk2 _) rfl
            have hz3 := hbl3.size
            simp only [World.size_alloc, World.size_drew] at hz3
            have hq := hbl2.trans ((((Below.refl (w.heap.size + 1) wr).alloc hz2 _).drew.trans hbl3).mono (by omega))
            clear hbl3 hg3
            go_wp2
            go_roundw
            case rel => exact ⟨j + 1, by omega, by go_num, qTo_step hlt HE.out HB.out hb3, hk3, hq, by omega⟩
            case measure => simp [intOf]; omega
        · have h1 : ¬ (s[j].toNat : Int) < 33 := by omega
          have h2 : ¬ (126 : Int) < (s[j].toNat : Int) := by omega
          have h3 : ((s[j].toNat : Int) == 39) = true := by simp; omega
          clear hp h
          go_wp2
          clear h1 h2 h3
          generalize hbN : s[j].toNat = m at hbt
          have HB := Lib.hid hbN
          clear hbN
          have hq1 : IntKind.u8.wrap ((m : Int) / 16) = (m : Int) / 16 := by rw [IntKind.wrap_u8']; omega
          have ht : (m : Int).tmod 16 = (m : Int) % 16 := Int.tmod_eq_emod_of_nonneg (by omega)
          have ht0 : (0 : Int) ≤ (m : Int) % 16 := by omega
          have ht1 : (m : Int) % 16 < 16 := by omega
          have hq0 : (0 : Int) ≤ (m : Int) / 16 := by omega
          have hq2 : (m : Int) / 16 < 16 := by omega
          go_region_held3 (fun _ => True) (trivial) ((refine step_appB (by rfl) (.tmp 38) (.tmp 45) (by rfl) (w.heap.size + 1) _ _ (by rfl) ((hb2.alloc _).drew) ⟨wr.heap.size, 0, none⟩ 3 3 [37, hexd (m / 16), hexd (m % 16)] (by rfl) (by rfl) (news3 wr _ _ _ 37 (hexd (m / 16)) (hexd (m % 16)) rfl (by rw [digit_hi m (by omega)]) (by rw [digit_lo m])) (by simp only [List.length_cons, List.length_nil]; omega) (by simp; omega) ?_; intro v3 w3 hb3 hbl3 hg3))
          all_goals
            have hk3 := ((hb2.alloc _).drew).keep hg3 (drew_keep hk2 _) rfl
            have hz3 := hbl3.size
            simp only [World.size_alloc, World.size_drew] at hz3
            have hq := hbl2.trans ((((Below.refl (w.heap.size + 1) wr).alloc hz2 _).drew.trans hbl3).mono (by omega))
            clear hbl3 hg3
            go_wp2
            go_roundw
            case rel => exact ⟨j + 1, by omega, by go_num, qTo_step hlt HE.out HB.out hb3, hk3, hq, by omega⟩
            case measure => simp [intOf]; omega
        · have h1 : ¬ (s[j].toNat : Int) < 33 := by omega
          have h2 : ¬ (126 : Int) < (s[j].toNat : Int) := by omega
          have h3 : ((s[j].toNat : Int) == 39) = false := by simp; omega
          have h4 : ((s[j].toNat : Int) == 37) = true := by simp; omega
          clear hp h
          go_wp2
          clear h1 h2 h3 h4
          generalize hbN : s[j].toNat = m at hbt
          have HB := Lib.hid hbN
          clear hbN
          have hq1 : IntKind.u8.wrap ((m : Int) / 16) = (m : Int) / 16 := by rw [IntKind.wrap_u8']; omega
          have ht : (m : Int).tmod 16 = (m : Int) % 16 := Int.tmod_eq_emod_of_nonneg (by omega)
          have ht0 : (0 : Int) ≤ (m : Int) % 16 := by omega
          have ht1 : (m : Int) % 16 < 16 := by omega
          have hq0 : (0 : Int) ≤ (m : Int) / 16 := by omega
          have hq2 : (m : Int) / 16 < 16 := by omega
          go_region_held3 (fun _ => True) (trivial) ((refine step_appB (by rfl) (.tmp 38) (.tmp 45) (by rfl) (w.heap.size + 1) _ _ (by rfl) ((hb2.alloc _).drew) ⟨wr.heap.size, 0, none⟩ 3 3 [37, hexd (m / 16), hexd (m % 16)] (by rfl) (by rfl) (news3 wr _ _ _ 37 (hexd (m / 16)) (hexd (m % 16)) rfl (by rw [digit_hi m (by omega)]) (by rw [digit_lo m])) (by simp only [List.length_cons, List.length_nil]; omega) (by simp; omega) ?_; intro v3 w3 hb3 hbl3 hg3))
          all_goals
            have hk3 := ((hb2.alloc _).drew).keep hg3 (drew_keep hk2 _) rfl
            have hz3 := hbl3.size
            simp only [World.size_alloc, World.size_drew] at hz3
            have hq := hbl2.trans ((((Below.refl (w.heap.size + 1) wr).alloc hz2 _).drew.trans hbl3).mono (by omega))
            clear hbl3 hg3
            go_wp2
            go_roundw
            case rel => exact ⟨j + 1, by omega, by go_num, qTo_step hlt HE.out HB.out hb3, hk3, hq, by omega⟩
            case measure => simp [intOf]; omega
      · have he' : escB s[j] = false := by simpa using he
        have hn : ¬ (s[j].toNat < 33 ∨ 126 < s[j].toNat ∨ s[j].toNat = 39 ∨ s[j].toNat = 37) := fun h => he (esc_parts.2 h)
        have h1 : ¬ (s[j].toNat : Int) < 33 := by omega
        have h2 : ¬ (126 : Int) < (s[j].toNat : Int) := by omega
        have h3 : ((s[j].toNat : Int) == 39) = false := by simp; omega
        have h4 : ((s[j].toNat : Int) == 37) = false := by simp; omega
        clear hn
        go_wp2_with (at_builtin; go_must (refine wp_app1 rfl (.tmp 47) (.tmp 49) rfl (w.heap.size + 1) _ _ rfl hb2 _ s[j] rfl _ 1 rfl (by simp) (by omega) (by omega) ?_); intro v3 w3 hb3 hbl3 hg3 hz3)
        have hk3 := hb2.keep hg3 hk2 rfl
        go_roundw
        case rel => exact ⟨j + 1, by omega, by go_num, qTo_plain hlt he' hb3, hk3, hbl2.trans (hbl3.mono (by omega)), by omega⟩
        case measure => simp [intOf]; omega
    · go_wp2_with (at_builtin; go_must (refine wp_app1 rfl (.tmp 51) (.tmp 52) rfl (w.heap.size + 1) _ _ rfl hb2 _ 39 rfl _ 1 rfl (by simp) (by omega) (by omega) ?_); intro v3 w3 hb3 hbl3 hg3 hz3; have hs3 := hb3.string)
      go_ret
      refine ⟨ret_str ?_, hbl2.trans (hbl3.mono (by omega))⟩
      congr 1
      simp only [quoteL, quoteTo]
      rw [List.take_of_length_le (by simp; omega)]
end Go.Proofs.YtdjlbfepddcmeaaGreatDoor
