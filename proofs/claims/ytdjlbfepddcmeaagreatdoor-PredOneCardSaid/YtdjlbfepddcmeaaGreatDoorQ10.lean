/- Reading texts: lists; datum.read. -/
import Derived.Test.YtdjlbfepddcmeaaGreatDoorQ09
set_option linter.unusedVariables false
set_option linter.unusedSimpArgs false
namespace Go.Proofs.YtdjlbfepddcmeaaGreatDoor
open Go.RowKit

theorem Strs.at_ {w : World} {B : Nat} {v : Value} {l : List ByteArray} (h : Strs w B v l) (hl : 0 < l.length) : ∃ g cap, v = .slice (some ⟨g, 0, none⟩) l.length cap ∧ B ≤ g ∧ g < w.heap.size ∧ ∀ j (hj : j < l.length), w.cell? ⟨g, j, none⟩ = some (.string l[j]) := by
  rcases h.2 with ⟨_, h0⟩ | ⟨g, cap, cur, rfl, hB, hh, _⟩
  · omega
  · refine ⟨g, cap, rfl, hB, (Array.getElem?_eq_some_iff.1 hh).1, fun j hj => ?_⟩
    have := World.ownsRow.cells h (g := g) rfl j (.string l[j]) (by simp [strVals, hj])
    have ha : (⟨g, 0, none⟩ : Addr).add j = ⟨g, j, none⟩ := by unfold Addr.add; split <;> simp_all
    rw [← ha]; exact this

theorem toBA_size (l : List UInt8) : (toBA l).size = l.length := by show l.toArray.size = _; simp
theorem toBA_list (l : List UInt8) : (toBA l).data.toList = l := by simp [toBA]

theorem itemsL_ne (q : Bool) (cur r : List UInt8) : 0 < (itemsL q cur r).length := by
  induction r generalizing q cur with
  | nil => simp [itemsL]
  | cons c r ih =>
    rw [itemsL]
    split
    · exact ih _ _
    · split
      · simp
      · exact ih _ _

theorem itemsL_size (r : List UInt8) : ∀ q cur, ∀ x ∈ itemsL q cur r, x.length ≤ cur.length + r.length := by
  induction r with
  | nil => intro q cur x hx; simp [itemsL] at hx; subst hx; simp
  | cons c r ih =>
    intro q cur x hx
    rw [itemsL] at hx
    split at hx
    · have := ih _ _ x hx; simp at *; omega
    · split at hx
      · rcases List.mem_cons.1 hx with rfl | hx
        · simp
        · have := ih _ _ x hx; simp at *; omega
      · have := ih _ _ x hx; simp at *; omega

theorem read1_ok (s : ByteArray) (hs : s.size ≤ 4194304) : (read1 s).ok := by
  unfold read1
  split
  · refine ⟨rfl, ?_, by show In64 0; exact ⟨by omega, by omega⟩⟩
    have h1 := unq_len (sub s 1 (s.size - 1))
    have h2 : (sub s 1 (s.size - 1)).length ≤ s.size := by unfold sub; simp; omega
    show (unq (sub s 1 (s.size - 1))).toArray.size ≤ _
    simp only [List.size_toArray]
    omega
  · exact ⟨rfl, by show 0 ≤ _; omega, atoiV_in _⟩

def isOpen (s : ByteArray) : Bool := s.data.toList.head? == some 91
/-- The datum of a text, loosely. -/
def readDa (s : ByteArray) : Da :=
  if 2 ≤ s.size ∧ isOpen s = true then
    if s.toList == [91, 93] then ⟨3, 0, ⟨#[]⟩, []⟩
    else if ((itemsL false [] (sub s 1 (s.size - 1))).map toBA).any isOpen then ⟨0, 0, ⟨#[]⟩, []⟩
    else ⟨3, 0, ⟨#[]⟩, ((itemsL false [] (sub s 1 (s.size - 1))).map toBA).map read1⟩
  else ⟨(read1 s).k, (read1 s).n, (read1 s).s, []⟩

def ReadPost (w : World) (d : Da) (e : Ending) (w' : World) : Prop := ∃ a c, e = .returned (dv d.k d.n d.s a d.l.length c) ∧ DaIs w' d a ∧ (∀ b off, a = some ⟨b, off, none⟩ → w.heap.size ≤ b) ∧ Below w.heap.size w w'

set_option maxRecDepth 100000 in
set_option maxHeartbeats 2000000 in
theorem read_list (s : ByteArray) (w : World) (hs : s.size ≤ 4194304) (hG : Globs w) (h2 : 2 ≤ s.size) (h91 : s[0] = 91) (hbr : (s.toList == [91, 93]) = false) (L : List ByteArray) (hL : (itemsL false [] (sub s 1 (s.size - 1))).map toBA = L) (d : Da) (hdd : RowKit.Hid (d = if L.any isOpen = true then ⟨0, 0, ⟨#[]⟩, []⟩ else ⟨3, 0, ⟨#[]⟩, L.map read1⟩)) :
    Calls Tryz.prog 98 #[.string s] w  (ReadPost w d) := by
  have hc := u8_beq _ _ h91 91 rfl
  have hc0 := u8_bne s[0] 39 (by rw [h91]; decide) 39 rfl
  have hh : 2 ≤ (s.size : Int) := by omega
  have hx : s.extract 1 (s.size - 1) = toBA (sub s 1 (s.size - 1)) := extract_sub s 1 (s.size - 1) (by omega)
  have hxs : (toBA (sub s 1 (s.size - 1))).size ≤ 4194304 := by rw [← hx]; simp; omega
  have hLn : 0 < L.length := by rw [← hL, List.length_map]; exact itemsL_ne _ _ _
  have hLl : L.length ≤ 4194305 := by
    have h1 := itemsL_len (sub s 1 (s.size - 1)) false []
    have h3 := toBA_size (sub s 1 (s.size - 1))
    rw [← hL, List.length_map]; omega
  have hLs : ∀ x ∈ L, x.size ≤ 4194304 := by
    intro x hx'
    rw [← hL] at hx'
    obtain ⟨y, hy, rfl⟩ := List.mem_map.1 hx'
    have h1 := itemsL_size _ _ _ y hy
    have h3 := toBA_size (sub s 1 (s.size - 1))
    simp only [List.length_nil] at h1
    show y.toArray.size ≤ _
    simp only [List.size_toArray]; omega
  clear h91
  go_enter Tryz.func98, Tryz.ntmps98
  go_wp2_with fail
  refine (items_any _ _ hxs).mono ?_
  rintro e w1 ⟨v, rfl, hst, hb1⟩
  rw [toBA_list, hL] at hst
  obtain ⟨g, cap, rfl, hgB, hgl, hel⟩ := hst.at_ hLn
  obtain ⟨hc1, hf1⟩ := bcell hb1
  simp only [World.size_alloc] at hc1 hf1 hgB
  have hz1 : w.heap.size + 1 < w1.heap.size := by have := hb1.size; simp at this; omega
  have hb01 : Below w.heap.size w w1 := (((Below.refl w.heap.size w).alloc (Nat.le_refl _) _).alloc (by simp) _).trans (hb1.mono (by simp; omega))
  go_wp2
  go_loopw [45] (fun k wr => ∃ (j : Nat) (v' : Value), j ≤ L.length ∧ k = .int .i64 j ∧ (L.take j).any isOpen = false ∧ Data wr w1.heap.size v' ((L.take j).map read1) ∧ Below w.heap.size w wr ∧ w1.heap.size ≤ wr.heap.size ∧
      (∀ b o, b < w1.heap.size → ¬ (b = w.heap.size + 1 ∧ o = 3) → wr.cell? ⟨b, o, none⟩ = w1.cell? ⟨b, o, none⟩) ∧ (∀ b o, b < w1.heap.size → wr.frozen? ⟨b, o, none⟩ = w1.frozen? ⟨b, o, none⟩) ∧ wr.cell? ⟨w.heap.size + 1, 3, none⟩ = some v') (fun k _ => L.length - (intOf k).toNat)
  case atStart => exact ⟨0, .slice none 0 0, Nat.zero_le _, rfl, rfl, Data.nil _ _, hb01, Nat.le_refl _, fun _ _ _ _ => rfl, fun _ _ _ => rfl, by rw [hc1 _ _ (by omega)]; go_simp⟩
  case round =>
    obtain ⟨j, v', hj, rfl, hany, hda, hbl, hzr, hcr, hfr, hv3⟩ := hrel
    have q0 : wr.cell? ⟨w.heap.size + 1, 0, none⟩ = some (.int .i64 3) := by rw [hcr _ _ (by omega) (by simp), hc1 _ _ (by omega)]; go_simp
    have q1 : wr.cell? ⟨w.heap.size + 1, 1, none⟩ = some (.int .i64 0) := by rw [hcr _ _ (by omega) (by simp), hc1 _ _ (by omega)]; go_simp
    have q2 : wr.cell? ⟨w.heap.size + 1, 2, none⟩ = some (.string ⟨#[]⟩) := by rw [hcr _ _ (by omega) (by simp), hc1 _ _ (by omega)]; go_simp
    have qf : wr.frozen? ⟨w.heap.size + 1, 3, none⟩ = false := by rw [hfr _ _ (by omega), hf1 _ _ (by omega)]; go_simp
    by_cases hlt : j < L.length
    · have hg := (hcr g j hgl (by omega)).trans (hel j hlt)
      have hsz := hLs _ (List.getElem_mem hlt)
      by_cases hop : isOpen L[j] = true
      · have HA := Lib.hid (any_true_of L isOpen j hlt hop)
        generalize hx : L[j] = x at hg hop hsz
        have hxe : 0 < x.size := by
          rcases Nat.eq_zero_or_pos x.size with h | h
          · exfalso
            have h2 : x.data.toList.length = x.size := by simp
            rw [isOpen, List.eq_nil_of_length_eq_zero (h2.trans h)] at hop
            simp at hop
          · exact h
        have hx0 : x[0] = 91 := by rw [isOpen, head_at x hxe] at hop; simpa using hop
        have hxc := u8_beq _ _ hx0 91 rfl
        have hxi : (0 : Int) < (x.size : Int) := by omega
        have hne : (x.toList == []) = false := by
          rw [beq_eq_false_iff_ne, Lib.toList_data]
          intro e
          have h1 : x.data.toList.length = 0 := by rw [e]; rfl
          have h2 : x.data.toList.length = x.size := by simp
          omega
        have e0 : wr.cell? ⟨w.heap.size, 0, none⟩ = some (.int .i64 0) := by rw [hcr _ _ (by omega) (by omega), hc1 _ _ (by omega)]; go_simp
        have e1 : wr.cell? ⟨w.heap.size, 1, none⟩ = some (.int .i64 0) := by rw [hcr _ _ (by omega) (by omega), hc1 _ _ (by omega)]; go_simp
        have e2 : wr.cell? ⟨w.heap.size, 2, none⟩ = some (.string ⟨#[]⟩) := by rw [hcr _ _ (by omega) (by omega), hc1 _ _ (by omega)]; go_simp
        have e3 : wr.cell? ⟨w.heap.size, 3, none⟩ = some (.slice none 0 0) := by rw [hcr _ _ (by omega) (by omega), hc1 _ _ (by omega)]; go_simp
        have g0 : wr.frozen? ⟨w.heap.size, 0, none⟩ = false := by rw [hfr _ _ (by omega), hf1 _ _ (by omega)]; go_simp
        have g1 : wr.frozen? ⟨w.heap.size, 1, none⟩ = false := by rw [hfr _ _ (by omega), hf1 _ _ (by omega)]; go_simp
        have g2 : wr.frozen? ⟨w.heap.size, 2, none⟩ = false := by rw [hfr _ _ (by omega), hf1 _ _ (by omega)]; go_simp
        have g3 : wr.frozen? ⟨w.heap.size, 3, none⟩ = false := by rw [hfr _ _ (by omega), hf1 _ _ (by omega)]; go_simp
        clear hcr hfr hc1 hf1 hx hx0 hop hany
        go_wp2
        (try simp only [Exit.inBlock, Exit.then])
        have hdv := hdd.out
        rw [HA.out, if_pos rfl] at hdv
        subst hdv
        refine bodyPost_ret (v := dv 0 0 ⟨#[]⟩ none 0 0) ?_ rfl ⟨none, 0, rfl, ?_, (by simp), ?_⟩
        · rw [results_cell1 rfl]
          go_simp
          try rfl
        · exact ⟨.inl rfl, by show In64 0; exact ⟨by omega, by omega⟩, by show 0 ≤ _; omega, by show 0 ≤ _; omega⟩
        · exact (((hbl.setCell (p := ⟨w.heap.size, 0, none⟩) (Nat.le_refl _) _).setCell (p := ⟨w.heap.size, 1, none⟩) (Nat.le_refl _) _).setCell (p := ⟨w.heap.size, 2, none⟩) (Nat.le_refl _) _).setCell (p := ⟨w.heap.size, 3, none⟩) (Nat.le_refl _) _
      replace hop : isOpen L[j] = false := by simpa using hop
      have hany5 : (L.take (j + 1)).any isOpen = false := by rw [any_take_succ _ _ _ hlt, hany, hop]; rfl
      have hG2 : Globs wr := hG.below hbl
      generalize hx : L[j] = x at hg hop hsz
      have HX := Lib.hid hx
      clear hx
      have hvd : ¬ w1.heap.size ≤ w.heap.size + 1 := by omega
      have HXN := Lib.hid (show x.data.toList.head? ≠ some 91 by simpa [isOpen] using hop)
      by_cases hxe : 0 < x.size
      · have hx0 : ¬ x[0] = 91 := fun h => by rw [isOpen, head_at x hxe, h] at hop; simp at hop
        have hxc := u8_bne _ _ hx0 91 rfl
        have hxi : (0 : Int) < (x.size : Int) := by omega
        have hne : (x.toList == []) = false := by
          rw [beq_eq_false_iff_ne, Lib.toList_data]
          intro e
          have h1 : x.data.toList.length = 0 := by rw [e]; rfl
          have h2 : x.data.toList.length = x.size := by simp
          omega
        go_wp2
        go_region_law (first
          | (refine step_appD (by rfl) (.tmp 58) (.tmp 61) (by rfl) w1.heap.size v' ((L.take j).map read1) (by rfl) hd3 (read1 x) _ 1 (by rfl) (by rfl) (by simp; omega) (by omega) ?_; intro v4 w4 hd4 hb4 hg4; obtain ⟨A4, c4, rfl⟩ := hd4.slice; have k4 : w4.cell? ⟨w.heap.size + 1, 3, none⟩ = some v' := (by rw [hb4.cell (p := ⟨w.heap.size + 1, 3, none⟩) (by simp; omega), hc3 _ _ (by omega)]; simpa using hv3); have f4 : w4.frozen? ⟨w.heap.size + 1, 3, none⟩ = false := (by rw [hb4.frozen (p := ⟨w.heap.size + 1, 3, none⟩) (by simp; omega), hf3 _ _ (by omega)]; simpa using qf))
          | (go_simp; go_at_call 98; refine (read_simple x _ hsz (hG2.below (by go_grown)) (fun _ => HXN.out)).mono ?_; rintro e w3 ⟨rfl, hb3⟩; obtain ⟨hc3, hf3⟩ := bcell hb3; simp only [World.size_drew] at hc3 hf3; have hd3 := hda.drew.later hb3; have hz3 := hb3.size; simp only [World.size_drew] at hz3; have k3 : w3.cell? ⟨w.heap.size + 1, 3, none⟩ = some v' := (by rw [hc3 _ _ (by omega)]; simpa using hv3); have z3 : w.heap.size + 1 < w3.heap.size := (by omega); have y3 : ¬ w.heap.size + 1 = w3.heap.size := (by omega)))
        all_goals
          have hlen4 : ((L.take j).map read1 ++ [read1 x]).length = j + 1 := by simp; omega
          rw [hlen4] at hd4
          have hd5 : Data (w4.setCell ⟨w.heap.size + 1, 3, none⟩ (.slice A4 (j + 1) c4)) w1.heap.size (.slice A4 (j + 1) c4) ((L.take (j + 1)).map read1) := by
            have := ownsRow_setCell_below hd4 (a := ⟨w.heap.size + 1, 3, none⟩) (by show w.heap.size + 1 < _; omega) (.slice A4 (j + 1) c4)
            rw [List.take_succ_eq_append_getElem hlt, List.map_append, List.map_cons, List.map_nil, HX.out]
            exact this
          have hb5 : Below w.heap.size w (w4.setCell ⟨w.heap.size + 1, 3, none⟩ (.slice A4 (j + 1) c4)) := ((hbl.drew.trans (hb3.mono (by simp; omega))).trans (hb4.mono (by omega))).setCell (p := ⟨w.heap.size + 1, 3, none⟩) (by simp) _
          have hz5 := hb4.size
          have hc5 : ∀ b o, b < w1.heap.size → ¬ (b = w.heap.size + 1 ∧ o = 3) → (w4.setCell ⟨w.heap.size + 1, 3, none⟩ (.slice A4 (j + 1) c4)).cell? ⟨b, o, none⟩ = w1.cell? ⟨b, o, none⟩ := fun b o h h' => by
            rw [World.cell?_setCell_other _ _ _ _ (by simpa using fun e1 e2 => h' ⟨e1.symm, e2.symm⟩), hb4.cell (p := ⟨b, o, none⟩) h, hc3 _ _ (by omega), ← hcr b o h h']; simp
          have hf5 : ∀ b o, b < w1.heap.size → (w4.setCell ⟨w.heap.size + 1, 3, none⟩ (.slice A4 (j + 1) c4)).frozen? ⟨b, o, none⟩ = w1.frozen? ⟨b, o, none⟩ := fun b o h => by
            rw [World.frozen?_setCell, hb4.frozen (p := ⟨b, o, none⟩) h, hf3 _ _ (by omega), ← hfr b o h]; simp
          have hk5 : (w4.setCell ⟨w.heap.size + 1, 3, none⟩ (.slice A4 (j + 1) c4)).cell? ⟨w.heap.size + 1, 3, none⟩ = some (.slice A4 (j + 1) c4) := by
            go_simp
          have hs5 : w1.heap.size ≤ (w4.setCell ⟨w.heap.size + 1, 3, none⟩ (.slice A4 (j + 1) c4)).heap.size := by simp; omega
          clear hc3 hf3 hd3 k3 k4 f4 hd4 hb4 hg4 hb3
          go_wp2
          go_roundw
          case rel => exact ⟨j + 1, _, by omega, by go_num, hany5, hd5, hb5, hs5, hc5, hf5, hk5⟩
          case measure => simp [intOf]; omega
      · have hxi : ¬ (0 : Int) < (x.size : Int) := by omega
        have hne : (x.toList == []) = true := by
          rw [beq_iff_eq, Lib.toList_data]
          have h2 : x.data.toList.length = x.size := by simp
          exact List.eq_nil_of_length_eq_zero (by omega)
        go_wp2
        go_region_law (first
          | (refine step_appD (by rfl) (.tmp 58) (.tmp 61) (by rfl) w1.heap.size v' ((L.take j).map read1) (by rfl) hd3 (read1 x) _ 1 (by rfl) (by rfl) (by simp; omega) (by omega) ?_; intro v4 w4 hd4 hb4 hg4; obtain ⟨A4, c4, rfl⟩ := hd4.slice; have k4 : w4.cell? ⟨w.heap.size + 1, 3, none⟩ = some v' := (by rw [hb4.cell (p := ⟨w.heap.size + 1, 3, none⟩) (by simp; omega), hc3 _ _ (by omega)]; simpa using hv3); have f4 : w4.frozen? ⟨w.heap.size + 1, 3, none⟩ = false := (by rw [hb4.frozen (p := ⟨w.heap.size + 1, 3, none⟩) (by simp; omega), hf3 _ _ (by omega)]; simpa using qf))
          | (go_simp; go_at_call 98; refine (read_simple x _ hsz (hG2.below (by go_grown)) (fun _ => HXN.out)).mono ?_; rintro e w3 ⟨rfl, hb3⟩; obtain ⟨hc3, hf3⟩ := bcell hb3; simp only [World.size_drew] at hc3 hf3; have hd3 := hda.drew.later hb3; have hz3 := hb3.size; simp only [World.size_drew] at hz3; have k3 : w3.cell? ⟨w.heap.size + 1, 3, none⟩ = some v' := (by rw [hc3 _ _ (by omega)]; simpa using hv3); have z3 : w.heap.size + 1 < w3.heap.size := (by omega); have y3 : ¬ w.heap.size + 1 = w3.heap.size := (by omega)))
        all_goals
          have hlen4 : ((L.take j).map read1 ++ [read1 x]).length = j + 1 := by simp; omega
          rw [hlen4] at hd4
          have hd5 : Data (w4.setCell ⟨w.heap.size + 1, 3, none⟩ (.slice A4 (j + 1) c4)) w1.heap.size (.slice A4 (j + 1) c4) ((L.take (j + 1)).map read1) := by
            have := ownsRow_setCell_below hd4 (a := ⟨w.heap.size + 1, 3, none⟩) (by show w.heap.size + 1 < _; omega) (.slice A4 (j + 1) c4)
            rw [List.take_succ_eq_append_getElem hlt, List.map_append, List.map_cons, List.map_nil, HX.out]
            exact this
          have hb5 : Below w.heap.size w (w4.setCell ⟨w.heap.size + 1, 3, none⟩ (.slice A4 (j + 1) c4)) := ((hbl.drew.trans (hb3.mono (by simp; omega))).trans (hb4.mono (by omega))).setCell (p := ⟨w.heap.size + 1, 3, none⟩) (by simp) _
          have hz5 := hb4.size
          have hc5 : ∀ b o, b < w1.heap.size → ¬ (b = w.heap.size + 1 ∧ o = 3) → (w4.setCell ⟨w.heap.size + 1, 3, none⟩ (.slice A4 (j + 1) c4)).cell? ⟨b, o, none⟩ = w1.cell? ⟨b, o, none⟩ := fun b o h h' => by
            rw [World.cell?_setCell_other _ _ _ _ (by simpa using fun e1 e2 => h' ⟨e1.symm, e2.symm⟩), hb4.cell (p := ⟨b, o, none⟩) h, hc3 _ _ (by omega), ← hcr b o h h']; simp
          have hf5 : ∀ b o, b < w1.heap.size → (w4.setCell ⟨w.heap.size + 1, 3, none⟩ (.slice A4 (j + 1) c4)).frozen? ⟨b, o, none⟩ = w1.frozen? ⟨b, o, none⟩ := fun b o h => by
            rw [World.frozen?_setCell, hb4.frozen (p := ⟨b, o, none⟩) h, hf3 _ _ (by omega), ← hfr b o h]; simp
          have hk5 : (w4.setCell ⟨w.heap.size + 1, 3, none⟩ (.slice A4 (j + 1) c4)).cell? ⟨w.heap.size + 1, 3, none⟩ = some (.slice A4 (j + 1) c4) := by
            go_simp
          have hs5 : w1.heap.size ≤ (w4.setCell ⟨w.heap.size + 1, 3, none⟩ (.slice A4 (j + 1) c4)).heap.size := by simp; omega
          clear hc3 hf3 hd3 k3 k4 f4 hd4 hb4 hg4 hb3
          go_wp2
          go_roundw
          case rel => exact ⟨j + 1, _, by omega, by go_num, hany5, hd5, hb5, hs5, hc5, hf5, hk5⟩
          case measure => simp [intOf]; omega
    · have hje : (L.take j) = L := List.take_of_length_le (by omega)
      rw [hje] at hda hany
      have HDV := Lib.hid (hdd.out.trans (by rw [hany, if_neg (by decide)]))
      obtain ⟨A, c, rfl⟩ := hda.slice
      have e0 : wr.cell? ⟨w.heap.size, 0, none⟩ = some (.int .i64 0) := by rw [hcr _ _ (by omega) (by omega), hc1 _ _ (by omega)]; go_simp
      have e1 : wr.cell? ⟨w.heap.size, 1, none⟩ = some (.int .i64 0) := by rw [hcr _ _ (by omega) (by omega), hc1 _ _ (by omega)]; go_simp
      have e2 : wr.cell? ⟨w.heap.size, 2, none⟩ = some (.string ⟨#[]⟩) := by rw [hcr _ _ (by omega) (by omega), hc1 _ _ (by omega)]; go_simp
      have e3 : wr.cell? ⟨w.heap.size, 3, none⟩ = some (.slice none 0 0) := by rw [hcr _ _ (by omega) (by omega), hc1 _ _ (by omega)]; go_simp
      have g0 : wr.frozen? ⟨w.heap.size, 0, none⟩ = false := by rw [hfr _ _ (by omega), hf1 _ _ (by omega)]; go_simp
      have g1 : wr.frozen? ⟨w.heap.size, 1, none⟩ = false := by rw [hfr _ _ (by omega), hf1 _ _ (by omega)]; go_simp
      have g2 : wr.frozen? ⟨w.heap.size, 2, none⟩ = false := by rw [hfr _ _ (by omega), hf1 _ _ (by omega)]; go_simp
      have g3 : wr.frozen? ⟨w.heap.size, 3, none⟩ = false := by rw [hfr _ _ (by omega), hf1 _ _ (by omega)]; go_simp
      clear hcr hfr hc1 hf1
      go_wp2
      (try simp only [Exit.inBlock, Exit.then])
      have hdv := HDV.out
      subst hdv
      refine bodyPost_ret (v := dv 3 0 ⟨#[]⟩ A (L.map read1).length c) ?_ rfl ⟨A, c, rfl, ?_, (fun b off e => by have := hda.base b off e; omega), ?_⟩
      · rw [results_cell1 rfl]
        go_simp
        try rfl
      · refine ⟨?_, ?_, ?_, ?_⟩
        · refine Data.row (B := w1.heap.size) (n := (L.map read1).length) (c := c) ?_ ?_
          · exact ownsRow_setCell_below (a := ⟨w.heap.size, 3, none⟩) (ownsRow_setCell_below (a := ⟨w.heap.size, 2, none⟩) (ownsRow_setCell_below (a := ⟨w.heap.size, 1, none⟩) (ownsRow_setCell_below (a := ⟨w.heap.size, 0, none⟩) hda (by show w.heap.size < _; omega) _) (by show w.heap.size < _; omega) _) (by show w.heap.size < _; omega) _) (by show w.heap.size < _; omega) _
          · intro x hx'
            obtain ⟨y, hy, rfl⟩ := List.mem_map.1 hx'
            exact read1_ok y (hLs y hy)
        · show In64 0; exact ⟨by omega, by omega⟩
        · show (L.map read1).length ≤ _; simp; omega
        · show 0 ≤ _; omega
      · exact (((hbl.setCell (p := ⟨w.heap.size, 0, none⟩) (Nat.le_refl _) _).setCell (p := ⟨w.heap.size, 1, none⟩) (Nat.le_refl _) _).setCell (p := ⟨w.heap.size, 2, none⟩) (Nat.le_refl _) _).setCell (p := ⟨w.heap.size, 3, none⟩) (Nat.le_refl _) _
end Go.Proofs.YtdjlbfepddcmeaaGreatDoor
