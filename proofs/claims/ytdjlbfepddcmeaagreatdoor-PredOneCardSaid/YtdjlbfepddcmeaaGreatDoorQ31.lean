/- The datum that stands next is read. -/
import Derived.Test.YtdjlbfepddcmeaaGreatDoorQ30
set_option linter.unusedVariables false
set_option linter.unusedSimpArgs false
namespace Go.Proofs.YtdjlbfepddcmeaaGreatDoor
open Go.RowKit

theorem scan_at (s : ByteArray) (j : Nat) (q : Bool) (hj : j < s.size) (q' : Bool) (hq : q' = if s[j] = 39 then !q else q) :
    scanD q (s.data.toList.drop j) = if q' = false ∧ (s[j] = 32 ∨ s[j] = 41) then 0 else 1 + scanD q' (s.data.toList.drop (j + 1)) := by
  rw [drop_at s j hj, scanD]
  subst hq
  rfl

def RdPost (r : Nat) (ac : Option Addr) (n cc : Nat) (rest : List UInt8) (d : Da) (w : World) (e : Ending) (w' : World) : Prop :=
  ∃ a c, e = .returned (dv d.k d.n d.s a d.l.length c) ∧ DaIs (veil w.heap.size w') d a ∧ RdL r ac n cc rest w' ∧ Only r w w'

theorem RdL.off {r : Nat} {ac : Option Addr} {n cc : Nat} {l : List UInt8} {w : World} (h : RdL r ac n cc l w) (p : Addr) (hp : p.block ≠ r) (u : Value) : RdL r ac n cc l (w.setCell p u) := by
  unfold RdL World.setCell
  simp only [Array.getElem?_modify, if_neg hp]
  exact h
theorem rd_end {r z : Nat} {ac : Option Addr} {n cc : Nat} {l rest : List UInt8} {w w2 : World} {d : Da} {a : Option Addr} {c : Nat} (X : Obj)
    (hz : z = w.heap.size) (hr2 : RdL r ac n cc l w2)
    (hbw : Below z w w2) (hda : DaIs (veil (z + 1) w2) d a) (hrl : r < z) :
    DaIs (veil z ((((((w2.setCell ⟨r, 0, none⟩ (.string ⟨rest.toArray⟩)).setCell ⟨z, 0, none⟩ (.int .i64 d.k)).setCell ⟨z, 1, none⟩ (.int .i64 d.n)).setCell ⟨z, 2, none⟩ (.string d.s)).setCell ⟨z, 3, none⟩ (.slice a d.l.length c)).alloc X)) d a
    ∧ RdL r ac n cc rest ((((((w2.setCell ⟨r, 0, none⟩ (.string ⟨rest.toArray⟩)).setCell ⟨z, 0, none⟩ (.int .i64 d.k)).setCell ⟨z, 1, none⟩ (.int .i64 d.n)).setCell ⟨z, 2, none⟩ (.string d.s)).setCell ⟨z, 3, none⟩ (.slice a d.l.length c)).alloc X)
    ∧ Only r w ((((((w2.setCell ⟨r, 0, none⟩ (.string ⟨rest.toArray⟩)).setCell ⟨z, 0, none⟩ (.int .i64 d.k)).setCell ⟨z, 1, none⟩ (.int .i64 d.n)).setCell ⟨z, 2, none⟩ (.string d.s)).setCell ⟨z, 3, none⟩ (.slice a d.l.length c)).alloc X) := by
  have hne : z ≠ r := by omega
  have hR := ((((hr2.set rest).off ⟨z, 0, none⟩ hne (.int .i64 d.k)).off ⟨z, 1, none⟩ hne (.int .i64 d.n)).off ⟨z, 2, none⟩ hne (.string d.s)).off ⟨z, 3, none⟩ hne (.slice a d.l.length c)
  have hrow := ((((hda.ext (veil_set (p := ⟨r, 0, none⟩) (by show r < _; omega) (.string ⟨rest.toArray⟩))).ext (veil_set (p := ⟨z, 0, none⟩) (by show z < _; omega) (.int .i64 d.k))).ext (veil_set (p := ⟨z, 1, none⟩) (by show z < _; omega) (.int .i64 d.n))).ext (veil_set (p := ⟨z, 2, none⟩) (by show z < _; omega) (.string d.s))).ext (veil_set (p := ⟨z, 3, none⟩) (by show z < _; omega) (.slice a d.l.length c))
  have hO := (((((Only.of_below r (hbw.mono (by omega))).set ⟨r, 0, none⟩ (.inl rfl) (.string ⟨rest.toArray⟩)).set ⟨z, 0, none⟩ (.inr (by show _ ≤ z; omega)) (.int .i64 d.k)).set ⟨z, 1, none⟩ (.inr (by show _ ≤ z; omega)) (.int .i64 d.n)).set ⟨z, 2, none⟩ (.inr (by show _ ≤ z; omega)) (.string d.s)).set ⟨z, 3, none⟩ (.inr (by show _ ≤ z; omega)) (.slice a d.l.length c)
  generalize (((((w2.setCell ⟨r, 0, none⟩ (.string ⟨rest.toArray⟩)).setCell ⟨z, 0, none⟩ (.int .i64 d.k)).setCell ⟨z, 1, none⟩ (.int .i64 d.n)).setCell ⟨z, 2, none⟩ (.string d.s)).setCell ⟨z, 3, none⟩ (.slice a d.l.length c)) = W at *
  have hb : Below W.heap.size W (W.alloc X) := by go_grown
  exact ⟨(hrow.ext (veil_below hb)).ext (veil_mono _ (by omega)), hR.below hb, hO.below hb⟩

set_option maxRecDepth 100000 in
set_option maxHeartbeats 4000000 in
theorem rdatum_any (r : Nat) (ac : Option Addr) (n cc : Nat) (d : Da) (rest : List UInt8) (w : World) (h : RdL r ac n cc (d.text ++ rest) w) (hd : Good d) (hst : Stop rest) (hlen : (d.text ++ rest).length ≤ 4194304) (hG : Globs w) :
    Calls Tryz.prog 79 #[.pointer (some ⟨r, 0, none⟩)] w (RdPost r ac n cc rest d w) := by
  have hb0 : Below w.heap.size w (w.alloc (.cells #[.int .i64 0, .int .i64 0, .string ⟨#[]⟩, .slice none 0 0] 24)).drew := (by go_grown : Below w.heap.size w (w.alloc (.cells #[.int .i64 0, .int .i64 0, .string ⟨#[]⟩, .slice none 0 0] 24))).drew
  have h1 := h.below hb0
  have HSC := Lib.hid (scan_text d hst)
  have hsz : (⟨(d.text ++ rest).toArray⟩ : ByteArray).size = (d.text ++ rest).length := by rw [ba_size]
  have hdt : (⟨(d.text ++ rest).toArray⟩ : ByteArray).data.toList = d.text ++ rest := by simp
  have HX1 := Lib.hid (show (⟨(d.text ++ rest).toArray⟩ : ByteArray).extract 0 d.text.length = ⟨d.text.toArray⟩ by
    rw [extract_sub _ _ _ (by rw [hsz]; simp), sub, hdt]; simp [toBA])
  have HX2 := Lib.hid (show (⟨(d.text ++ rest).toArray⟩ : ByteArray).extract d.text.length (⟨(d.text ++ rest).toArray⟩ : ByteArray).size = ⟨rest.toArray⟩ by
    rw [extract_sub _ _ _ (Nat.le_refl _), sub, hdt, hsz, List.take_length]; simp [toBA])
  have htl : d.text.length ≤ (⟨(d.text ++ rest).toArray⟩ : ByteArray).size := by rw [hsz]; simp
  have hN : (⟨(d.text ++ rest).toArray⟩ : ByteArray).size ≤ 4194304 := by rw [hsz]; exact hlen
  have HPS := Lib.hid (parseDa_text d hd.may hd.n hd.l)
  have hc0 := h.c0
  have hc1 := h1.c0
  have HH := Lib.hid (And.intro h h1)
  have hrl := h.lt
  have hrne : r ≠ w.heap.size := by omega
  rw [← hdt] at HSC
  have htz : (⟨d.text.toArray⟩ : ByteArray).size ≤ 4194304 := by
    rw [ba_size]
    have := text_len hd
    omega
  clear hsz hdt hlen h h1
  generalize hS : (⟨(d.text ++ rest).toArray⟩ : ByteArray) = S at *
  have HSE := Lib.hid hS
  clear hS
  have HB00 := Lib.hid (show Below w.heap.size w (w.alloc (.cells #[.int .i64 0, .int .i64 0, .string ⟨#[]⟩, .slice none 0 0] 24)) by go_grown)
  clear hb0
  have hbx : (w.alloc (.cells #[.int .i64 0, .int .i64 0, .string ⟨#[]⟩, .slice none 0 0] 24)).heap[w.heap.size]? = some (.cells #[.int .i64 0, .int .i64 0, .string ⟨#[]⟩, .slice none 0 0] 24) := heap_alloc_new w _
  have HBX := Lib.hid hbx
  clear hbx
  go_enter Tryz.func79, Tryz.ntmps79
  go_wp2
  go_quiet (fail)
  have hq1 : ((w.alloc (.cells #[.int .i64 0, .int .i64 0, .string ⟨#[]⟩, .slice none 0 0] 24)).drewN nq).cell? ⟨r, 0, none⟩ = some (.string S) := by simpa using hc1
  have HQB := Lib.hid (below_drewNg (w.alloc (.cells #[.int .i64 0, .int .i64 0, .string ⟨#[]⟩, .slice none 0 0] 24)) nq)
  clear hc1 hc0
  go_wp2
  go_loop [3, 4, 19] (fun u v i => ∃ (j : Nat) (q : Bool), j ≤ S.size ∧ i = .int .i64 j ∧ u = .bool q ∧ v = .int .i64 S.size ∧ scanD false S.data.toList = j + scanD q (S.data.toList.drop j)) (fun _ _ i => S.size - (intOf i).toNat)
  case atStart => exact ⟨0, false, Nat.zero_le _, rfl, rfl, rfl, by simp⟩
  case round =>
    obtain ⟨j, q, hj, rfl, rfl, rfl, hsc⟩ := hrel
    rw [HSC.out] at hsc
    have HS := Lib.hid hsc
    clear hsc
    by_cases hlt : j < S.size
    · have HAT := Lib.hid (scan_at S j q hlt)
      by_cases h39 : S[j] = 39
      · have c39 : ((S[j].toNat : Int) == 39) = true := u8_beq _ _ h39 39 rfl
        have c32 : ((S[j].toNat : Int) == 32) = false := u8_bne _ _ (by rw [h39]; decide : ¬ S[j] = 32) 32 rfl
        have c41 : ((S[j].toNat : Int) == 41) = false := u8_bne _ _ (by rw [h39]; decide : ¬ S[j] = 41) 41 rfl
        have HN := Lib.hid (show d.text.length = (j + 1 : Nat) + scanD (!q) (S.data.toList.drop (j + 1)) by
          rw [HS.out, HAT.out (!q) (by rw [if_pos h39]), if_neg (by rintro ⟨_, h | h⟩ <;> (rw [h39] at h; revert h; decide))]; omega)
        clear h39
        cases q with
        | true =>
          go_wp2
          go_round
          case rel => exact ⟨j + 1, false, by omega, by go_num, rfl, rfl, by rw [HSC.out]; exact HN.out⟩
          case measure => simp [intOf]; omega
        | false =>
          go_wp2
          go_round
          case rel => exact ⟨j + 1, true, by omega, by go_num, rfl, rfl, by rw [HSC.out]; exact HN.out⟩
          case measure => simp [intOf]; omega
      · have c39 : ((S[j].toNat : Int) == 39) = false := u8_bne _ _ h39 39 rfl
        cases q with
        | true =>
          have HN := Lib.hid (show d.text.length = (j + 1 : Nat) + scanD true (S.data.toList.drop (j + 1)) by
            rw [HS.out, HAT.out true (by rw [if_neg h39]), if_neg (by simp)]; omega)
          clear h39
          go_wp2
          go_round
          case rel => exact ⟨j + 1, true, by omega, by go_num, rfl, rfl, by rw [HSC.out]; exact HN.out⟩
          case measure => simp [intOf]; omega
        | false =>
          by_cases h32 : S[j] = 32
          · have c32 : ((S[j].toNat : Int) == 32) = true := u8_beq _ _ h32 32 rfl
            obtain rfl : j = d.text.length := by
              have := HS.out
              rw [HAT.out false (by rw [if_neg h39]), if_pos ⟨rfl, .inl h32⟩] at this
              omega
            clear h39 h32
            go_wp2_with fail
            rw [HX1.out]
            refine (parse_young ⟨d.text.toArray⟩ d _ htz (hG.below (HB00.out.trans (HQB.out.mono (by simp)))) HPS.out).mono ?_
            rintro e w2 ⟨a, c, rfl, hda, hab, hb2⟩
            replace hda : DaIs (veil (w.heap.size + 1) w2) d a := da_young hda fun b off e => by have := hab b off e; simp at this; omega
            clear hab
            have hbw : Below w.heap.size w w2 := (HB00.out.trans (HQB.out.mono (by simp))).trans (hb2.mono (by simp))
            have hr2 : RdL r ac n cc (d.text ++ rest) w2 := HH.out.1.below hbw
            have hbx2 : w2.heap[w.heap.size]? = some (.cells #[.int .i64 0, .int .i64 0, .string ⟨#[]⟩, .slice none 0 0] 24) := (hb2.block w.heap.size (by simp)).trans HBX.out
            have hzz : w.heap.size < w2.heap.size := by have := hb2.size; simp at this; omega
            have hrz : r < w2.heap.size := by omega
            have q0 := hr2.c0
            have f0 := hr2.f0
            rw [HSE.out] at q0
            have e0 : w2.cell? ⟨w.heap.size, 0, none⟩ = some (.int .i64 0) := by unfold World.cell?; rw [hbx2]; rfl
            have e1 : w2.cell? ⟨w.heap.size, 1, none⟩ = some (.int .i64 0) := by unfold World.cell?; rw [hbx2]; rfl
            have e2 : w2.cell? ⟨w.heap.size, 2, none⟩ = some (.string ⟨#[]⟩) := by unfold World.cell?; rw [hbx2]; rfl
            have e3 : w2.cell? ⟨w.heap.size, 3, none⟩ = some (.slice none 0 0) := by unfold World.cell?; rw [hbx2]; rfl
            have k0 : w2.frozen? ⟨w.heap.size, 0, none⟩ = false := by unfold World.frozen?; rw [hbx2]; rfl
            have k1 : w2.frozen? ⟨w.heap.size, 1, none⟩ = false := by unfold World.frozen?; rw [hbx2]; rfl
            have k2 : w2.frozen? ⟨w.heap.size, 2, none⟩ = false := by unfold World.frozen?; rw [hbx2]; rfl
            have k3 : w2.frozen? ⟨w.heap.size, 3, none⟩ = false := by unfold World.frozen?; rw [hbx2]; rfl
            have hrb : ¬ w.heap.size = r := fun e => hrne e.symm
            have hrb' : ¬ r = w.heap.size := hrne
            have n1 : ¬ r = w2.heap.size := by omega
            have n2 : ¬ w.heap.size = w2.heap.size := by omega
            have n3 : ¬ w2.heap.size = r := by omega
            have n4 : ¬ w2.heap.size = w.heap.size := by omega
            have HDA := Lib.hid hda
            have HR2 := Lib.hid hr2
            have HBX2 := Lib.hid hbx2
            have HBW := Lib.hid hbw
            clear hda hr2 hbx2 hbw hb2
            go_wp2
            (try simp only [Exit.inBlock, Exit.then])
            rw [HX2.out]
            refine bodyPost_ret (v := dv d.k d.n d.s a d.l.length c) ?_ rfl ⟨a, c, rfl, rd_end _ rfl HR2.out HBW.out HDA.out hrl⟩
            rw [results_cell1 rfl]
            go_simp
            try rfl
          · have c32 : ((S[j].toNat : Int) == 32) = false := u8_bne _ _ h32 32 rfl
            by_cases h41 : S[j] = 41
            · have c41 : ((S[j].toNat : Int) == 41) = true := u8_beq _ _ h41 41 rfl
              obtain rfl : j = d.text.length := by
                have := HS.out
                rw [HAT.out false (by rw [if_neg h39]), if_pos ⟨rfl, .inr h41⟩] at this
                omega
              clear h39 h32 h41
              go_wp2_with fail
              rw [HX1.out]
              refine (parse_young ⟨d.text.toArray⟩ d _ htz (hG.below (HB00.out.trans (HQB.out.mono (by simp)))) HPS.out).mono ?_
              rintro e w2 ⟨a, c, rfl, hda, hab, hb2⟩
              replace hda : DaIs (veil (w.heap.size + 1) w2) d a := da_young hda fun b off e => by have := hab b off e; simp at this; omega
              clear hab
              have hbw : Below w.heap.size w w2 := (HB00.out.trans (HQB.out.mono (by simp))).trans (hb2.mono (by simp))
              have hr2 : RdL r ac n cc (d.text ++ rest) w2 := HH.out.1.below hbw
              have hbx2 : w2.heap[w.heap.size]? = some (.cells #[.int .i64 0, .int .i64 0, .string ⟨#[]⟩, .slice none 0 0] 24) := (hb2.block w.heap.size (by simp)).trans HBX.out
              have hzz : w.heap.size < w2.heap.size := by have := hb2.size; simp at this; omega
              have hrz : r < w2.heap.size := by omega
              have q0 := hr2.c0
              have f0 := hr2.f0
              rw [HSE.out] at q0
              have e0 : w2.cell? ⟨w.heap.size, 0, none⟩ = some (.int .i64 0) := by unfold World.cell?; rw [hbx2]; rfl
              have e1 : w2.cell? ⟨w.heap.size, 1, none⟩ = some (.int .i64 0) := by unfold World.cell?; rw [hbx2]; rfl
              have e2 : w2.cell? ⟨w.heap.size, 2, none⟩ = some (.string ⟨#[]⟩) := by unfold World.cell?; rw [hbx2]; rfl
              have e3 : w2.cell? ⟨w.heap.size, 3, none⟩ = some (.slice none 0 0) := by unfold World.cell?; rw [hbx2]; rfl
              have k0 : w2.frozen? ⟨w.heap.size, 0, none⟩ = false := by unfold World.frozen?; rw [hbx2]; rfl
              have k1 : w2.frozen? ⟨w.heap.size, 1, none⟩ = false := by unfold World.frozen?; rw [hbx2]; rfl
              have k2 : w2.frozen? ⟨w.heap.size, 2, none⟩ = false := by unfold World.frozen?; rw [hbx2]; rfl
              have k3 : w2.frozen? ⟨w.heap.size, 3, none⟩ = false := by unfold World.frozen?; rw [hbx2]; rfl
              have hrb : ¬ w.heap.size = r := fun e => hrne e.symm
              have hrb' : ¬ r = w.heap.size := hrne
              have n1 : ¬ r = w2.heap.size := by omega
              have n2 : ¬ w.heap.size = w2.heap.size := by omega
              have n3 : ¬ w2.heap.size = r := by omega
              have n4 : ¬ w2.heap.size = w.heap.size := by omega
              have HDA := Lib.hid hda
              have HR2 := Lib.hid hr2
              have HBX2 := Lib.hid hbx2
              have HBW := Lib.hid hbw
              clear hda hr2 hbx2 hbw hb2
              go_wp2
              (try simp only [Exit.inBlock, Exit.then])
              rw [HX2.out]
              refine bodyPost_ret (v := dv d.k d.n d.s a d.l.length c) ?_ rfl ⟨a, c, rfl, rd_end _ rfl HR2.out HBW.out HDA.out hrl⟩
              rw [results_cell1 rfl]
              go_simp
              try rfl
            · have c41 : ((S[j].toNat : Int) == 41) = false := u8_bne _ _ h41 41 rfl
              have HN := Lib.hid (show d.text.length = (j + 1 : Nat) + scanD false (S.data.toList.drop (j + 1)) by
                rw [HS.out, HAT.out false (by rw [if_neg h39]), if_neg (by rintro ⟨_, h | h⟩; exact h32 h; exact h41 h)]; omega)
              clear h39 h32 h41
              go_wp2
              go_round
              case rel => exact ⟨j + 1, false, by omega, by go_num, rfl, rfl, by rw [HSC.out]; exact HN.out⟩
              case measure => simp [intOf]; omega
    · have hjs : S.size = d.text.length := by
        have := HS.out
        rw [List.drop_of_length_le (by simp; omega), scanD] at this
        omega
      rw [hjs] at *
      go_wp2_with fail
      rw [HX1.out]
      refine (parse_young ⟨d.text.toArray⟩ d _ htz (hG.below (HB00.out.trans (HQB.out.mono (by simp)))) HPS.out).mono ?_
      rintro e w2 ⟨a, c, rfl, hda, hab, hb2⟩
      replace hda : DaIs (veil (w.heap.size + 1) w2) d a := da_young hda fun b off e => by have := hab b off e; simp at this; omega
      clear hab
      have hbw : Below w.heap.size w w2 := (HB00.out.trans (HQB.out.mono (by simp))).trans (hb2.mono (by simp))
      have hr2 : RdL r ac n cc (d.text ++ rest) w2 := HH.out.1.below hbw
      have hbx2 : w2.heap[w.heap.size]? = some (.cells #[.int .i64 0, .int .i64 0, .string ⟨#[]⟩, .slice none 0 0] 24) := (hb2.block w.heap.size (by simp)).trans HBX.out
      have hzz : w.heap.size < w2.heap.size := by have := hb2.size; simp at this; omega
      have hrz : r < w2.heap.size := by omega
      have q0 := hr2.c0
      have f0 := hr2.f0
      rw [HSE.out] at q0
      have e0 : w2.cell? ⟨w.heap.size, 0, none⟩ = some (.int .i64 0) := by unfold World.cell?; rw [hbx2]; rfl
      have e1 : w2.cell? ⟨w.heap.size, 1, none⟩ = some (.int .i64 0) := by unfold World.cell?; rw [hbx2]; rfl
      have e2 : w2.cell? ⟨w.heap.size, 2, none⟩ = some (.string ⟨#[]⟩) := by unfold World.cell?; rw [hbx2]; rfl
      have e3 : w2.cell? ⟨w.heap.size, 3, none⟩ = some (.slice none 0 0) := by unfold World.cell?; rw [hbx2]; rfl
      have k0 : w2.frozen? ⟨w.heap.size, 0, none⟩ = false := by unfold World.frozen?; rw [hbx2]; rfl
      have k1 : w2.frozen? ⟨w.heap.size, 1, none⟩ = false := by unfold World.frozen?; rw [hbx2]; rfl
      have k2 : w2.frozen? ⟨w.heap.size, 2, none⟩ = false := by unfold World.frozen?; rw [hbx2]; rfl
      have k3 : w2.frozen? ⟨w.heap.size, 3, none⟩ = false := by unfold World.frozen?; rw [hbx2]; rfl
      have hrb : ¬ w.heap.size = r := fun e => hrne e.symm
      have hrb' : ¬ r = w.heap.size := hrne
      have n1 : ¬ r = w2.heap.size := by omega
      have n2 : ¬ w.heap.size = w2.heap.size := by omega
      have n3 : ¬ w2.heap.size = r := by omega
      have n4 : ¬ w2.heap.size = w.heap.size := by omega
      have HDA := Lib.hid hda
      have HR2 := Lib.hid hr2
      have HBX2 := Lib.hid hbx2
      have HBW := Lib.hid hbw
      clear hda hr2 hbx2 hbw hb2
      go_wp2
      (try simp only [Exit.inBlock, Exit.then])
      rw [HX2.out]
      refine bodyPost_ret (v := dv d.k d.n d.s a d.l.length c) ?_ rfl ⟨a, c, rfl, rd_end _ rfl HR2.out HBW.out HDA.out hrl⟩
      rw [results_cell1 rfl]
      go_simp
      try rfl
end Go.Proofs.YtdjlbfepddcmeaaGreatDoor
