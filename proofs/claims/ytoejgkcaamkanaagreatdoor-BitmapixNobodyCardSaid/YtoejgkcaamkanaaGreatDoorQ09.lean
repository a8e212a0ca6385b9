/- slices.Insert of items, before others. -/
import Derived.Test.YtoejgkcaamkanaaGreatDoorQ07
import Derived.Shelf.Spec.SlicesInsert
import Derived.Lib.AppendZerosOnto
import Derived.Lib.Overlaps
import Derived.Deep.RegionHeld3
import Derived.Deep.RegionLaw
import Derived.BigRegion
import Derived.Laws.NewBlocks
set_option linter.unusedVariables false
set_option linter.unusedSimpArgs false
namespace Go.Proofs.YtoejgkcaamkanaaGreatDoor
open Go.RowKit

/-- copy between rows whose elements are of s cells. -/
theorem run_copy_rowS {P : Program} (w : World) (dT sT ty elem : TypeId) (g o dLen dCap : Nat) (a : Addr) (sLen sCap : Nat) (cur : Array Value) (t : TypeId) (cs : List Value) (s : Nat)
    (hu : P.underlying dT = some (.slice elem)) (hs : (P.info? elem).map (·.size) = some s)
    (hg : w.heap[g]? = some (.cells cur t (0, 0))) (hn : cs.length = Nat.min sLen dLen * s)
    (hsrc : ∀ j v, cs[j]? = some v → w.cell? (a.add j) = some v) (hfit : o + cs.length ≤ cur.size) (h1 : ∀ v ∈ cs, v.oneCell' = true) :
    (Builtin.copy_ #[dT, sT] ty #[.slice (some ⟨g, o, none⟩) dLen dCap, .slice (some a) sLen sCap]).run P w =
      .ok (goInt (Nat.min sLen dLen)) (w.setRow g (cur.toList.take o ++ cs ++ cur.toList.drop (o + cs.length)).toArray) := by
  have hl := run_loadCells_list (P := P) w a cs hsrc
  have hst := run_storeCells_at P g o t cs 0 cur w hg (by simpa using hfit) h1
  cases hq : P.info? elem with
  | none => simp [hq] at hs
  | some i =>
    have hi : i.size = s := by simpa [hq] using hs
    simp [Builtin.copy_, run_underlying hu, Builtin.lenOf, Builtin.firstCells, sizeOf, typeInfo, hq, hi, ← hn, hl, hst]

theorem flat_len (L : List KV) : (L.flatMap kvCells).length = L.length * 2 := by
  induction L with
  | nil => rfl
  | cons x L ih => rw [List.flatMap_cons, List.length_append, ih, List.length_cons]; show 2 + _ = _; omega
theorem flat_one (L : List KV) : ∀ v ∈ L.flatMap kvCells, v.oneCell' = true := fun v hv => by
  obtain ⟨x, _, h⟩ := List.mem_flatMap.1 hv
  simp [kvCells] at h
  rcases h with rfl | rfl <;> rfl
theorem flat_drop : ∀ (L : List KV) (i : Nat), (L.flatMap kvCells).drop (i * 2) = (L.drop i).flatMap kvCells
  | [], i => by simp
  | x :: L, 0 => by simp
  | x :: L, i + 1 => by
    rw [List.flatMap_cons, List.drop_succ_cons, ← flat_drop L i, show (i + 1) * 2 = (kvCells x).length + i * 2 by show _ = 2 + _; omega, ← List.drop_drop, List.drop_left']
    rfl
theorem flat_take : ∀ (L : List KV) (i : Nat), (L.flatMap kvCells).take (i * 2) = (L.take i).flatMap kvCells
  | [], i => by simp
  | x :: L, 0 => by simp
  | x :: L, i + 1 => by
    rw [List.flatMap_cons, List.take_succ_cons, List.flatMap_cons, ← flat_take L i, show (i + 1) * 2 = (kvCells x).length + i * 2 by show _ = 2 + _; omega, List.take_length_add_append]

theorem arr_mid (cur : List Value) (L : List KV) (y : KV) (i c : Nat) (hi : i < L.length) (hroom : L.length + 1 ≤ c) (hsz : cur.length = c * 2) (htk : cur.take (L.length * 2) = L.flatMap kvCells) (cs1 a1 a2 : List Value) (h1 : cs1 = (L.drop i).flatMap kvCells)
    (h2 : a1 = cur.take ((i + 1) * 2) ++ cs1 ++ cur.drop ((i + 1) * 2 + cs1.length)) (h3 : a2 = a1.take (i * 2) ++ kvCells y ++ a1.drop (i * 2 + (kvCells y).length)) :
    a1.length = c * 2 ∧ a2.length = c * 2 ∧ a2.take ((L.length + 1) * 2) = (L.take i ++ y :: L.drop i).flatMap kvCells := by
  have l1 : cs1.length = (L.length - i) * 2 := by rw [h1, flat_len, List.length_drop]
  have ly : (kvCells y).length = 2 := rfl
  have la : a1.length = c * 2 := by
    rw [h2]
    simp only [List.length_append, List.length_take, List.length_drop]
    omega
  have t1 : a1.take (i * 2) = (L.take i).flatMap kvCells := by
    rw [h2, List.append_assoc, List.take_append_of_le_length (by rw [List.length_take]; omega), List.take_take, ← flat_take, ← htk, List.take_take]
    congr 1
    simp only [Nat.min_def]
    split <;> split <;> omega
  have d1 : a1.drop (i * 2 + 2) = cs1 ++ cur.drop ((i + 1) * 2 + cs1.length) := by
    rw [h2, List.append_assoc, List.drop_left' (by rw [List.length_take]; omega)]
  have e2 : a2 = (L.take i ++ y :: L.drop i).flatMap kvCells ++ cur.drop ((i + 1) * 2 + cs1.length) := by
    rw [h3, ly, t1, d1, h1, List.flatMap_append, List.flatMap_cons]
    simp only [List.append_assoc]
  have lf : ((L.take i ++ y :: L.drop i).flatMap kvCells).length = (L.length + 1) * 2 := by
    rw [flat_len]
    simp only [List.length_append, List.length_take, List.length_cons, List.length_drop]
    omega
  refine ⟨la, ?_, ?_⟩
  · rw [e2, List.length_append, lf, List.length_drop]
    omega
  · rw [e2, List.take_left' lf]
/-- What an owned row is made of. -/
theorem Items.open {w : World} {M c : Nat} {A : Option Addr} {L : List KV} (h : Items w M (.slice A L.length c) L) (h0 : L ≠ []) : ∃ g cur, A = some ⟨g, 0, none⟩ ∧ M ≤ g ∧ w.heap[g]? = some (.cells cur 89 (0, 0)) ∧ L.length ≤ c ∧ c ≤ maxLen ∧ cur.size = c * 2 ∧ cur.toList.take (L.length * 2) = L.flatMap kvCells := by
  rcases h.2 with ⟨e, e0⟩ | ⟨g, cap, cur, e, hM, hg, hle, hmax, hsz, ht⟩
  · exact absurd (List.length_eq_zero_iff.1 e0) h0
  · simp only [Value.slice.injEq] at e
    obtain ⟨rfl, _, rfl⟩ := e
    exact ⟨g, cur, rfl, hM, hg, hle, hmax, hsz, ht⟩

set_option maxRecDepth 100000 in
set_option maxHeartbeats 4000000 in
theorem insert_room {w : World} {M c : Nat} {A : Option Addr} {L : List KV} (h : Items w M (.slice A L.length c) L) (hM : M ≤ w.heap.size) (y : KV) (k c' : Nat) (hk : w.heap[k]? = some (itemO y)) (hkA : Value.ownBlock (.slice A L.length c) ≠ some k) (i : Nat) (hi : i < L.length) (hn : L.length ≤ 65536) (hroom : L.length + 1 ≤ c) :
    Calls Tryz.prog 134 #[.slice A L.length c, .int .i64 i, .slice (some ⟨k, 0, none⟩) 1 c'] w fun e w' => ∃ v', e = .returned v' ∧ Items w' M v' (L.take i ++ y :: L.drop i) ∧ Below M w w' ∧ w.grownBy w' (Value.ownBlock (.slice A L.length c)) := by
  obtain ⟨g, cur, rfl, hMg, hg, hle, hmax, hsz, htk⟩ := h.open (by intro e; rw [e] at hi; simp at hi)
  have hkg : k ≠ g := fun e => hkA (by rw [e]; rfl)
  have hsh : (Tryz.prog.info? 89).map (·.size) = some 2 := by
    obtain ⟨i0, hi0, hz0, hz1, hz2⟩ := info_of info_item
    rw [hi0]; simp [hz1]
  have hov : ∀ lb cb o, (callFunc 178 #[.slice (some ⟨k, 0, none⟩) 1 c', .slice (some ⟨g, o, none⟩) lb cb]).run Tryz.prog w = .ok (.value (.bool false)) w := fun lb cb o => by
    rw [run_callFunc_extern Tryz.func178 (by kernel_rfl) (by kernel_rfl) (by kernel_rfl) (e := Extern.SlicesOverlaps.overlaps #[159, 159] #[4]) (by kernel_rfl),
      Lib.run_overlaps_apart w 159 4 89 Tryz.underlying159 2 Tryz.sizeOf89 ⟨k, 0, none⟩ ⟨g, o, none⟩ 1 c' lb cb hkg 89 89 2 cur.size (by unfold World.shape?; rw [hk]; rfl) (by unfold World.shape?; rw [hg]) (by rw [hsz]; omega) (by unfold World.frozen?; rw [hk]; rfl) (by unfold World.frozen?; rw [hk]; rfl)]
    rfl
  have hz2 : ¬ ((i : Int) = (L.length : Int)) := by omega
  have hd : (L.drop i).flatMap kvCells = (L.flatMap kvCells).drop (i * 2) := (flat_drop L i).symm
  have hdl : ((L.drop i).flatMap kvCells).length = (L.length - i) * 2 := by rw [flat_len, List.length_drop]
  have hw1 : IntKind.i64.wrap ((i : Int) + 1) = (i : Int) + 1 := by rw [IntKind.wrap_i64]; omega
  have hw2 : IntKind.i64.wrap ((L.length : Int) + 1) = (L.length : Int) + 1 := by rw [IntKind.wrap_i64]; omega
  have hb1 : (0 : Int) ≤ (i : Int) + 1 := by omega
  have htn : ((i : Int) + 1).toNat = i + 1 := by omega
  have hb2 : ¬ (c = i + 1) := by omega
  have hb3 : (i : Int) ≤ (L.length : Int) + 1 := by omega
  have hb4 : ¬ (c = i) := by omega
  have hin : i ≤ L.length := by omega
  have hcell : ∀ p v, (L.flatMap kvCells)[p]? = some v → w.cell? ⟨g, p, none⟩ = some v := fun p v hv => by
    have := World.ownsRow.cells h (g := g) rfl p v hv
    have ha : (⟨g, 0, none⟩ : Addr).add p = ⟨g, p, none⟩ := by unfold Addr.add; split <;> simp_all
    rw [← ha]; exact this
  have hszl : cur.toList.length = c * 2 := by rw [Array.length_toList]; exact hsz
  obtain ⟨cs1, hcs1⟩ : ∃ cs1, cs1 = (L.drop i).flatMap kvCells := ⟨_, rfl⟩
  obtain ⟨a1, ha1⟩ : ∃ a1, a1 = cur.toList.take ((i + 1) * 2) ++ cs1 ++ cur.toList.drop ((i + 1) * 2 + cs1.length) := ⟨_, rfl⟩
  obtain ⟨a2, ha2⟩ : ∃ a2, a2 = a1.take (i * 2) ++ kvCells y ++ a1.drop (i * 2 + (kvCells y).length) := ⟨_, rfl⟩
  obtain ⟨q1, q2, q3⟩ := arr_mid cur.toList L y i c hi hroom hszl htk cs1 a1 a2 hcs1 ha1 ha2
  have l1 : cs1.length = (L.length - i) * 2 := by rw [hcs1]; exact hdl
  have hcp1 : ∀ ty dc sc, (Builtin.copy_ #[159, 159] ty #[.slice (some ⟨g, (i + 1) * 2, none⟩) (L.length - i) dc, .slice (some ⟨g, i * 2, none⟩) (L.length + 1 - i) sc]).run Tryz.prog w.drew = .ok (goInt (Nat.min (L.length + 1 - i) (L.length - i))) (w.drew.setRow g a1.toArray) := fun ty dc sc => by
    rw [ha1]
    exact run_copy_rowS w.drew _ _ ty 89 g ((i + 1) * 2) (L.length - i) dc ⟨g, i * 2, none⟩ (L.length + 1 - i) sc cur 89 cs1 2 Tryz.underlying159 hsh hg (by rw [l1]; simp only [Nat.min_def]; split <;> omega)
      (fun j v hj => by
        have ha : (⟨g, i * 2, none⟩ : Addr).add j = ⟨g, i * 2 + j, none⟩ := by unfold Addr.add; split <;> simp_all
        rw [ha]
        exact hcell _ v (by rw [hcs1, hd, List.getElem?_drop] at hj; exact hj)) (by omega) (fun v hv => by rw [hcs1] at hv; exact flat_one _ v hv)
  obtain ⟨W1, hW1⟩ : ∃ W1, W1 = w.drew.setRow g a1.toArray := ⟨_, rfl⟩
  have hg1 : W1.heap[g]? = some (.cells a1.toArray 89 (0, 0)) := by rw [hW1]; exact setRow_heap _ g cur _ _ _ hg
  have hk1 : W1.heap[k]? = some (itemO y) := by rw [hW1]; exact (setRow_other _ g k _ hkg).trans hk
  have hcp2 : ∀ (W : World), (W.heap = W1.heap) → ∀ ty dc, (Builtin.copy_ #[159, 159] ty #[.slice (some ⟨g, i * 2, none⟩) (L.length + 1 - i) dc, .slice (some ⟨k, 0, none⟩) 1 c']).run Tryz.prog W = .ok (goInt (Nat.min 1 (L.length + 1 - i))) (W.setRow g a2.toArray) := fun W hW ty dc => by
    have := run_copy_rowS (P := Tryz.prog) W 159 159 ty 89 g (i * 2) (L.length + 1 - i) dc ⟨k, 0, none⟩ 1 c' a1.toArray 89 (kvCells y) 2 Tryz.underlying159 hsh (by rw [hW]; exact hg1) (by simp only [Nat.min_def]; split <;> first | rfl | omega)
      (fun j v hj => by
        have ha : (⟨k, 0, none⟩ : Addr).add j = ⟨k, j, none⟩ := by unfold Addr.add; split <;> simp_all
        rw [ha]
        unfold World.cell?
        rw [hW, hk1]
        match j, hj with
        | 0, hj => simp [kvCells] at hj; subst hj; rfl
        | 1, hj => simp [kvCells] at hj; subst hj; rfl) (by show _ + 2 ≤ a1.toArray.size; rw [List.size_toArray, q1]; omega) (fun v hv => by simp [kvCells] at hv; rcases hv with rfl | rfl <;> rfl)
    rw [this, ha2]
  rw [← hW1] at hcp1
  have HE := Lib.hid (show ∀ W2 : World, W2.heap = (W1.setRow g a2.toArray).heap → W2.os = w.os → W2.tape = w.tape → W2.output = w.output → Items W2 M (.slice (some ⟨g, 0, none⟩) (L.length + 1) c) (L.take i ++ y :: L.drop i) ∧ Below M w W2 ∧ w.grownBy W2 (some g) from fun W2 e1 e2 e3 e4 => by
    have ho : ∀ j, j ≠ g → W2.heap[j]? = w.heap[j]? := fun j hj => by rw [e1, setRow_other _ g j _ hj, hW1, setRow_other _ g j _ hj]; rfl
    have hs : W2.heap.size = w.heap.size := by rw [e1, setRow_size, hW1, setRow_size]; rfl
    have hln : (L.take i ++ y :: L.drop i).length = L.length + 1 := by simp only [List.length_append, List.length_take, List.length_cons, List.length_drop]; omega
    refine ⟨?_, ⟨e2, e3, e4, Nat.le_of_eq hs.symm, fun j hj => ho j (by omega)⟩, ⟨e2, e3, e4, Nat.le_of_eq hs.symm, fun j _ hj => ho j (fun e => hj (by rw [e]))⟩⟩
    unfold Items
    rw [hln]
    refine ⟨by rw [flat_len, hln], .inr ⟨g, c, a2.toArray, rfl, hMg, by rw [e1]; exact setRow_heap _ g _ _ _ _ hg1, hroom, hmax, by rw [List.size_toArray]; exact q2, q3⟩⟩)
  clear hg1 hk1 q1 q2 q3 ha1 ha2 hcs1 hcell hszl l1 hdl hd hg htk hk h
  go_enter Tryz.func134, Tryz.ntmps134
  go_wp2_with (simp only [hov])
  refine wp_region_noPanic ?_
  refine wp_region_held_drew (S := (fun w' => True)) (by kernel_rfl) trivial (fun hS => ?_)
  refine wpAnyH_take (i := 0) (v := ?_) rfl (by kernel_rfl) (by kernel_rfl) (by kernel_rfl) (fun _ _ _ h => h) (Or.inl ⟨by rfl, ?_⟩) hS ?_
  rotate_left
  · intro w9 t0
    go_simp
    try with_reducible rfl
  try simp only [Act.put, List.getElem_toArray, List.getElem_cons_succ, List.getElem_cons_zero, List.setIfInBounds_toArray, List.set_cons_zero, List.set_cons_succ]
  refine wpAnyH_take (i := 1) (v := ?_) rfl (by kernel_rfl) (by kernel_rfl) (by kernel_rfl) (fun _ _ _ h => h) (Or.inl ⟨by rfl, ?_⟩) hS ?_
  rotate_left
  · intro w9 t0
    go_simp
    try with_reducible rfl
  try simp only [Act.put, List.getElem_toArray, List.getElem_cons_succ, List.getElem_cons_zero, List.setIfInBounds_toArray, List.set_cons_zero, List.set_cons_succ]
  refine wpAnyH_take (i := 2) (v := ?_) rfl (by kernel_rfl) (by kernel_rfl) (by kernel_rfl) (fun _ _ _ h => h) (Or.inl ⟨by rfl, ?_⟩) hS ?_
  rotate_left
  · intro w9 t0
    go_simp
    try with_reducible rfl
  try simp only [Act.put, List.getElem_toArray, List.getElem_cons_succ, List.getElem_cons_zero, List.setIfInBounds_toArray, List.set_cons_zero, List.set_cons_succ]
  refine wpAnyH_take (i := 3) (v := ?_) rfl (by kernel_rfl) (by kernel_rfl) (by kernel_rfl) (fun _ _ _ h => h) (Or.inl ⟨by rfl, ?_⟩) hS ?_
  rotate_left
  · intro w9 t0
    go_simp
    try with_reducible rfl
  try simp only [Act.put, List.getElem_toArray, List.getElem_cons_succ, List.getElem_cons_zero, List.setIfInBounds_toArray, List.set_cons_zero, List.set_cons_succ]
  refine wpAnyH_take (i := 4) (v := ?_) rfl (by kernel_rfl) (by kernel_rfl) (by kernel_rfl) (fun _ _ _ h => h) (Or.inl ⟨by rfl, ?_⟩) hS ?_
  rotate_left
  · intro w9 t0
    go_simp
    try with_reducible rfl
  try simp only [Act.put, List.getElem_toArray, List.getElem_cons_succ, List.getElem_cons_zero, List.setIfInBounds_toArray, List.set_cons_zero, List.set_cons_succ]
  refine wpAnyH_take (i := 5) (v := ?_) rfl (by kernel_rfl) (by kernel_rfl) (by kernel_rfl) (fun _ _ _ h => h) (Or.inl ⟨by rfl, ?_⟩) hS ?_
  rotate_left
  · intro w9 t0
    go_simp
    try with_reducible rfl
  try simp only [Act.put, List.getElem_toArray, List.getElem_cons_succ, List.getElem_cons_zero, List.setIfInBounds_toArray, List.set_cons_zero, List.set_cons_succ]
  refine wpAnyH_take (i := 6) (v := ?_) rfl (by kernel_rfl) (by kernel_rfl) (by kernel_rfl) (fun _ _ _ h => h) (Or.inl ⟨by rfl, ?_⟩) hS ?_
  rotate_left
  · intro w9 t0
    go_simp
    try with_reducible rfl
  try simp only [Act.put, List.getElem_toArray, List.getElem_cons_succ, List.getElem_cons_zero, List.setIfInBounds_toArray, List.set_cons_zero, List.set_cons_succ]
  refine wpAnyH_take (i := 7) (v := ?_) rfl (by kernel_rfl) (by kernel_rfl) (by kernel_rfl) (fun _ _ _ h => h) (Or.inl ⟨by rfl, ?_⟩) hS ?_
  rotate_left
  · intro w9 t0
    go_simp
    try with_reducible rfl
  try simp only [Act.put, List.getElem_toArray, List.getElem_cons_succ, List.getElem_cons_zero, List.setIfInBounds_toArray, List.set_cons_zero, List.set_cons_succ]
  refine wpAnyH_ready (rs := [8]) (by kernel_rfl) (by simp) ?_
  refine AllReadyH.cons rfl (fun K hK => ?_) AllReadyH.nil
  refine Go.Proofs.step_copy_runI rfl _ _ 159 159 rfl _ _ (by simp [Act.eval, Act.put]) (by simp [Act.eval, Act.put]) (hcp1 _ (c - (i + 1)) (c - i)) ?_
  refine hK.out _ _ trivial (fun _ => ?_)
  clear hK K
  try simp only [Act.put, List.getElem_toArray, List.getElem_cons_succ, List.getElem_cons_zero, List.setIfInBounds_toArray, List.set_cons_zero, List.set_cons_succ]
  refine wpAnyH_done (by kernel_rfl) ?_ _
  refine NoPanic.normal ?_
  go_wp2_with (at_builtin; refine Go.Proofs.wpList_copy_runI _ rfl _ _ 159 159 rfl _ _ rfl rfl (hcp2 _ rfl _ _) ?_)
  go_ret
  have hq := HE.out (W1.setRow g a2.toArray) rfl (by rw [hW1]; rfl) (by rw [hW1]; rfl) (by rw [hW1]; rfl)
  rw [hW1] at hq
  exact ⟨_, rfl, hq⟩

theorem arr_new (row : List Value) (L : List KV) (y : KV) (i G : Nat) (hi : i < L.length) (hG : L.length + 1 ≤ G) (hsz : row.length = G * 2) (htk : row.take (i * 2) = (L.take i).flatMap kvCells) (a1 a2 : List Value)
    (h2 : a1 = row.take (i * 2) ++ kvCells y ++ row.drop (i * 2 + (kvCells y).length)) (h3 : a2 = a1.take ((i + 1) * 2) ++ (L.drop i).flatMap kvCells ++ a1.drop ((i + 1) * 2 + ((L.drop i).flatMap kvCells).length)) :
    a1.length = G * 2 ∧ a2.length = G * 2 ∧ a2.take ((L.length + 1) * 2) = (L.take i ++ y :: L.drop i).flatMap kvCells := by
  have l1 : ((L.drop i).flatMap kvCells).length = (L.length - i) * 2 := by rw [flat_len, List.length_drop]
  have l0 : ((L.take i).flatMap kvCells).length = i * 2 := by rw [flat_len, List.length_take]; omega
  have ly : (kvCells y).length = 2 := rfl
  have la : a1.length = G * 2 := by
    rw [h2]
    simp only [List.length_append, List.length_take, List.length_drop]
    omega
  have t1 : a1.take ((i + 1) * 2) = (L.take i).flatMap kvCells ++ kvCells y := by
    rw [h2, htk, List.take_left' (by rw [List.length_append, l0, ly]; omega)]
  have e2 : a2 = (L.take i ++ y :: L.drop i).flatMap kvCells ++ a1.drop ((i + 1) * 2 + ((L.drop i).flatMap kvCells).length) := by
    rw [h3, t1, List.flatMap_append, List.flatMap_cons]
    simp only [List.append_assoc]
  have lf : ((L.take i ++ y :: L.drop i).flatMap kvCells).length = (L.length + 1) * 2 := by
    rw [flat_len]
    simp only [List.length_append, List.length_take, List.length_cons, List.length_drop]
    omega
  refine ⟨la, ?_, ?_⟩
  · rw [e2, List.length_append, lf, List.length_drop]
    omega
  · rw [e2, List.take_left' lf]

set_option maxRecDepth 100000 in
set_option maxHeartbeats 4000000 in
theorem insert_grow {w : World} {M c : Nat} {A : Option Addr} {L : List KV} (h : Items w M (.slice A L.length c) L) (hM : M ≤ w.heap.size) (y : KV) (k c' : Nat) (hk : w.heap[k]? = some (itemO y)) (i : Nat) (hi : i < L.length) (hn : L.length ≤ 65536) (hroom : c < L.length + 1) :
    Calls Tryz.prog 134 #[.slice A L.length c, .int .i64 i, .slice (some ⟨k, 0, none⟩) 1 c'] w fun e w' => ∃ v', e = .returned v' ∧ Items w' M v' (L.take i ++ y :: L.drop i) ∧ Below M w w' ∧ w.grownBy w' (Value.ownBlock (.slice A L.length c)) := by
  obtain ⟨g, cur, rfl, hMg, hg, hle, hmax, hsz, htk⟩ := h.open (by intro e; rw [e] at hi; simp at hi)
  have hc : c = L.length := by omega
  subst hc
  obtain ⟨i0, hi0, hz0, hzs, hzb⟩ := info_of info_item
  have hsh : (Tryz.prog.info? 89).map (·.size) = some 2 := by
    rw [hi0]; simp [hzs]
  have hgw : g < w.heap.size := (Array.getElem?_eq_some_iff.1 hg).1
  have hkw : k < w.heap.size := (Array.getElem?_eq_some_iff.1 hk).1
  have hz2 : ¬ ((i : Int) = (L.length : Int)) := by omega
  have hd : (L.drop i).flatMap kvCells = (L.flatMap kvCells).drop (i * 2) := (flat_drop L i).symm
  have htkf : (L.take i).flatMap kvCells = (L.flatMap kvCells).take (i * 2) := (flat_take L i).symm
  have l1 : ((L.drop i).flatMap kvCells).length = (L.length - i) * 2 := by rw [flat_len, List.length_drop]
  have l0 : ((L.take i).flatMap kvCells).length = i * 2 := by rw [flat_len, List.length_take]; omega
  have hcell : ∀ p v, (L.flatMap kvCells)[p]? = some v → w.cell? ⟨g, p, none⟩ = some v := fun p v hv => by
    have := World.ownsRow.cells h (g := g) rfl p v hv
    have ha : (⟨g, 0, none⟩ : Addr).add p = ⟨g, p, none⟩ := by unfold Addr.add; split <;> simp_all
    rw [← ha]; exact this
  have hold : (Builtin.firstCells i0.size i (.slice (some ⟨g, 0, none⟩) i L.length)).run Tryz.prog w.drew = .ok ((L.take i).flatMap kvCells).toArray w.drew := by
    rw [hzs]
    exact run_firstCells_some w.drew 2 i ⟨g, 0, none⟩ i L.length _ l0 (fun j v hj => by
      have ha : (⟨g, 0, none⟩ : Addr).add j = ⟨g, j, none⟩ := by unfold Addr.add; split <;> simp_all
      rw [ha]
      rw [htkf, List.getElem?_take] at hj
      split at hj
      · exact hcell j v hj
      · cases hj)
  have hkk : (L.length : Int) + 1 - (i : Int) = ((L.length + 1 - i : Nat) : Int) := by omega
  have hik : i + (L.length + 1 - i) = L.length + 1 := by omega
  obtain ⟨G, hG⟩ : ∃ G, G = grownCap w (L.length + 1) L.length 89 := ⟨_, rfl⟩
  obtain ⟨ROW, hROW⟩ : ∃ ROW : Array Value, ROW = ((L.take i).flatMap kvCells).toArray ++ Builtin.zeroCells (Value.agg #[.string ⟨#[]⟩, .string ⟨#[]⟩]).cells (L.length + 1 - i) ++ Builtin.zeroCells (Value.agg #[.string ⟨#[]⟩, .string ⟨#[]⟩]).cells (G - (L.length + 1)) := ⟨_, rfl⟩
  have hrz : ∀ ty, (Builtin.append_ #[159, 3] ty #[.slice (some ⟨g, 0, none⟩) i L.length, .int .i64 ((L.length : Int) + 1 - (i : Int))]).run Tryz.prog w = .ok (.slice (some ⟨w.heap.size, 0, none⟩) (L.length + 1) G) (w.drew.alloc (.cells ROW 89)) := fun ty => by
    have hh := Lib.run_append_grow_zeros w 159 3 ty 89 i0 _ .i64 .i64 Tryz.underlying159 Tryz.underlying3 hi0 hz0 (some ⟨g, 0, none⟩) i L.length _ hold (L.length + 1 - i) (by omega) (by omega) (by omega) (by omega) (by rw [hzb]; omega) (by rw [hzb, hik]; exact growslice_fits (by omega) (by omega))
    rw [hik, ← hG] at hh
    rw [hkk, hROW]
    exact hh
  have hGn : L.length + 1 ≤ G := by rw [hG]; exact grownCap_ge w _ _ _
  have hGm : G ≤ maxLen := by rw [hG]; exact grownCap_le_maxLen w _ _ _ (by unfold maxLen; omega)
  have hG63 : G ≤ 9223372036854775807 := by unfold maxLen at hGm; omega
  have hzl : ∀ m, (Builtin.zeroCells (Value.agg #[.string ⟨#[]⟩, .string ⟨#[]⟩]).cells m).size = m * 2 := fun m => by simp [Builtin.zeroCells, Value.cells]
  have hRl : ROW.toList.length = G * 2 := by
    rw [Array.length_toList, hROW, Array.size_append, Array.size_append, hzl, hzl, List.size_toArray, l0]
    omega
  have hRt : ROW.toList.take (i * 2) = (L.take i).flatMap kvCells := by
    rw [hROW, Array.toList_append, Array.toList_append, List.append_assoc, List.take_left' l0]
  obtain ⟨a1, ha1⟩ : ∃ a1, a1 = ROW.toList.take (i * 2) ++ kvCells y ++ ROW.toList.drop (i * 2 + (kvCells y).length) := ⟨_, rfl⟩
  obtain ⟨a2, ha2⟩ : ∃ a2, a2 = a1.take ((i + 1) * 2) ++ (L.drop i).flatMap kvCells ++ a1.drop ((i + 1) * 2 + ((L.drop i).flatMap kvCells).length) := ⟨_, rfl⟩
  obtain ⟨q1, q2, q3⟩ := arr_new ROW.toList L y i G hi hGn hRl hRt a1 a2 ha1 ha2
  obtain ⟨N, hN⟩ : ∃ N, N = w.heap.size := ⟨_, rfl⟩
  obtain ⟨W1, hW1⟩ : ∃ W1, W1 = w.drew.alloc (.cells ROW 89) := ⟨_, rfl⟩
  rw [← hW1, ← hN] at hrz
  have hgN : W1.heap[N]? = some (.cells ROW 89 (0, 0)) := by rw [hW1, hN]; exact hnew w.drew _
  have hold1 : ∀ j, j < w.heap.size → W1.heap[j]? = w.heap[j]? := fun j hj => by rw [hW1]; exact Below.heap_alloc w.drew _ _ hj
  have hcp1 : ∀ ty dc, (Builtin.copy_ #[159, 159] ty #[.slice (some ⟨N, i * 2, none⟩) (L.length + 1 - i) dc, .slice (some ⟨k, 0, none⟩) 1 c']).run Tryz.prog W1 = .ok (goInt (Nat.min 1 (L.length + 1 - i))) (W1.setRow N a1.toArray) := fun ty dc => by
    have := run_copy_rowS (P := Tryz.prog) W1 159 159 ty 89 N (i * 2) (L.length + 1 - i) dc ⟨k, 0, none⟩ 1 c' ROW 89 (kvCells y) 2 Tryz.underlying159 hsh hgN (by simp only [Nat.min_def]; split <;> first | rfl | omega)
      (fun j v hj => by
        have ha : (⟨k, 0, none⟩ : Addr).add j = ⟨k, j, none⟩ := by unfold Addr.add; split <;> simp_all
        rw [ha]
        unfold World.cell?
        rw [hold1 k hkw, hk]
        match j, hj with
        | 0, hj => simp [kvCells] at hj; subst hj; rfl
        | 1, hj => simp [kvCells] at hj; subst hj; rfl) (by show _ + 2 ≤ ROW.size; rw [← Array.length_toList, hRl]; omega) (fun v hv => by simp [kvCells] at hv; rcases hv with rfl | rfl <;> rfl)
    rw [this, ha1]
  have hg2 : (W1.setRow N a1.toArray).heap[N]? = some (.cells a1.toArray 89 (0, 0)) := setRow_heap _ N _ _ _ _ hgN
  have hcp2 : ∀ (W : World), W.heap = (W1.setRow N a1.toArray).heap → ∀ ty dc sc, (Builtin.copy_ #[159, 159] ty #[.slice (some ⟨N, (i + 1) * 2, none⟩) (L.length - i) dc, .slice (some ⟨g, i * 2, none⟩) (L.length - i) sc]).run Tryz.prog W = .ok (goInt (Nat.min (L.length - i) (L.length - i))) (W.setRow N a2.toArray) := fun W hW ty dc sc => by
    have := run_copy_rowS (P := Tryz.prog) W 159 159 ty 89 N ((i + 1) * 2) (L.length - i) dc ⟨g, i * 2, none⟩ (L.length - i) sc a1.toArray 89 ((L.drop i).flatMap kvCells) 2 Tryz.underlying159 hsh (by rw [hW]; exact hg2) (by rw [l1]; simp only [Nat.min_def]; split <;> omega)
      (fun j v hj => by
        have ha : (⟨g, i * 2, none⟩ : Addr).add j = ⟨g, i * 2 + j, none⟩ := by unfold Addr.add; split <;> simp_all
        rw [ha]
        have := hcell (i * 2 + j) v (by rw [hd, List.getElem?_drop] at hj; exact hj)
        unfold World.cell? at this ⊢
        rw [hW, setRow_other _ N g _ (by omega), hold1 g hgw]
        exact this) (by rw [List.size_toArray, q1, l1]; omega) (flat_one _)
    rw [this, ha2]
  have HE := Lib.hid (show ∀ W2 : World, W2.heap = ((W1.setRow N a1.toArray).setRow N a2.toArray).heap → W2.os = w.os → W2.tape = w.tape → W2.output = w.output → Items W2 M (.slice (some ⟨N, 0, none⟩) (L.length + 1) G) (L.take i ++ y :: L.drop i) ∧ Below M w W2 ∧ w.grownBy W2 (some g) from fun W2 e1 e2 e3 e4 => by
    have ho : ∀ j, j < w.heap.size → W2.heap[j]? = w.heap[j]? := fun j hj => by rw [e1, setRow_other _ N j _ (by omega), setRow_other _ N j _ (by omega)]; exact hold1 j hj
    have hs : w.heap.size ≤ W2.heap.size := by rw [e1, setRow_size, setRow_size, hW1]; simp
    have hln : (L.take i ++ y :: L.drop i).length = L.length + 1 := by simp only [List.length_append, List.length_take, List.length_cons, List.length_drop]; omega
    refine ⟨?_, ⟨e2, e3, e4, hs, fun j hj => ho j (by omega)⟩, ⟨e2, e3, e4, hs, fun j hj _ => ho j hj⟩⟩
    unfold Items
    rw [hln]
    exact ⟨by rw [flat_len, hln], .inr ⟨N, G, a2.toArray, rfl, by omega, by rw [e1]; exact setRow_heap _ N _ _ _ _ hg2, hGn, hGm, by rw [List.size_toArray]; exact q2, q3⟩⟩)
  have hin : i ≤ L.length := by omega
  have hb3 : (i : Int) ≤ (L.length : Int) + 1 := by omega
  have hb1 : (0 : Int) ≤ (i : Int) + 1 := by omega
  have htn : ((i : Int) + 1).toNat = i + 1 := by omega
  have hw1 : IntKind.i64.wrap ((i : Int) + 1) = (i : Int) + 1 := by rw [IntKind.wrap_i64]; omega
  have hw2 : IntKind.i64.wrap ((L.length : Int) + 1) = (L.length : Int) + 1 := by rw [IntKind.wrap_i64]; omega
  have hw3 : IntKind.i64.wrap ((L.length : Int) + 1 - (i : Int)) = (L.length : Int) + 1 - (i : Int) := by rw [IntKind.wrap_i64]; omega
  have hGi : ¬ (G = i) := by omega
  have hGim : ¬ (G = i + 1) := by omega
  have hci : ¬ (L.length = i) := by omega
  have hroom' : ¬ ((L.length : Int) + 1 ≤ (L.length : Int)) := by omega
  have HW1 := Lib.hid hW1
  have HNN := Lib.hid hN
  clear hN hW1 hgN hold1 hg2 q1 q2 q3 ha1 ha2 hRl hRt hzl hGm hROW hold hcell l0 l1 hd htkf hg htk hk h hi0 hz0 hzs hzb hkk hik hsz hG
  go_enter Tryz.func134, Tryz.ntmps134
  go_wp2_with (at_builtin; first | (refine Lib.wpList_append_run _ rfl _ _ _ _ rfl _ _ rfl rfl _ _ (hrz _) ?_) | (refine Go.Proofs.wpList_copy_runI _ rfl _ _ 159 159 rfl _ _ rfl rfl (hcp1 _ _) ?_))
  refine wp_region_noPanic ?_
  refine wp_region_held_drew (S := (fun w' => True)) (by kernel_rfl) trivial (fun hS => ?_)
  refine wpAnyH_take (i := 0) (v := ?_) rfl (by kernel_rfl) (by kernel_rfl) (by kernel_rfl) (fun _ _ _ h => h) (Or.inl ⟨by rfl, ?_⟩) hS ?_
  rotate_left
  · intro w9 t0
    go_simp
    try with_reducible rfl
  try simp only [Act.put, List.getElem_toArray, List.getElem_cons_succ, List.getElem_cons_zero, List.setIfInBounds_toArray, List.set_cons_zero, List.set_cons_succ]
  refine wpAnyH_take (i := 1) (v := ?_) rfl (by kernel_rfl) (by kernel_rfl) (by kernel_rfl) (fun _ _ _ h => h) (Or.inl ⟨by rfl, ?_⟩) hS ?_
  rotate_left
  · intro w9 t0
    go_simp
    try with_reducible rfl
  try simp only [Act.put, List.getElem_toArray, List.getElem_cons_succ, List.getElem_cons_zero, List.setIfInBounds_toArray, List.set_cons_zero, List.set_cons_succ]
  refine wpAnyH_take (i := 2) (v := ?_) rfl (by kernel_rfl) (by kernel_rfl) (by kernel_rfl) (fun _ _ _ h => h) (Or.inl ⟨by rfl, ?_⟩) hS ?_
  rotate_left
  · intro w9 t0
    go_simp
    try with_reducible rfl
  try simp only [Act.put, List.getElem_toArray, List.getElem_cons_succ, List.getElem_cons_zero, List.setIfInBounds_toArray, List.set_cons_zero, List.set_cons_succ]
  refine wpAnyH_take (i := 3) (v := ?_) rfl (by kernel_rfl) (by kernel_rfl) (by kernel_rfl) (fun _ _ _ h => h) (Or.inl ⟨by rfl, ?_⟩) hS ?_
  rotate_left
  · intro w9 t0
    go_simp
    try with_reducible rfl
  try simp only [Act.put, List.getElem_toArray, List.getElem_cons_succ, List.getElem_cons_zero, List.setIfInBounds_toArray, List.set_cons_zero, List.set_cons_succ]
  refine wpAnyH_take (i := 4) (v := ?_) rfl (by kernel_rfl) (by kernel_rfl) (by kernel_rfl) (fun _ _ _ h => h) (Or.inl ⟨by rfl, ?_⟩) hS ?_
  rotate_left
  · intro w9 t0
    go_simp
    try with_reducible rfl
  try simp only [Act.put, List.getElem_toArray, List.getElem_cons_succ, List.getElem_cons_zero, List.setIfInBounds_toArray, List.set_cons_zero, List.set_cons_succ]
  refine wpAnyH_take (i := 5) (v := ?_) rfl (by kernel_rfl) (by kernel_rfl) (by kernel_rfl) (fun _ _ _ h => h) (Or.inl ⟨by rfl, ?_⟩) hS ?_
  rotate_left
  · intro w9 t0
    go_simp
    try with_reducible rfl
  try simp only [Act.put, List.getElem_toArray, List.getElem_cons_succ, List.getElem_cons_zero, List.setIfInBounds_toArray, List.set_cons_zero, List.set_cons_succ]
  refine wpAnyH_take (i := 6) (v := ?_) rfl (by kernel_rfl) (by kernel_rfl) (by kernel_rfl) (fun _ _ _ h => h) (Or.inl ⟨by rfl, ?_⟩) hS ?_
  rotate_left
  · intro w9 t0
    go_simp
    try with_reducible rfl
  try simp only [Act.put, List.getElem_toArray, List.getElem_cons_succ, List.getElem_cons_zero, List.setIfInBounds_toArray, List.set_cons_zero, List.set_cons_succ]
  refine wpAnyH_take (i := 7) (v := ?_) rfl (by kernel_rfl) (by kernel_rfl) (by kernel_rfl) (fun _ _ _ h => h) (Or.inl ⟨by rfl, ?_⟩) hS ?_
  rotate_left
  · intro w9 t0
    go_simp
    try with_reducible rfl
  try simp only [Act.put, List.getElem_toArray, List.getElem_cons_succ, List.getElem_cons_zero, List.setIfInBounds_toArray, List.set_cons_zero, List.set_cons_succ]
  refine wpAnyH_ready (rs := [8]) (by kernel_rfl) (by simp) ?_
  refine AllReadyH.cons rfl (fun K hK => ?_) AllReadyH.nil
  refine Go.Proofs.step_copy_runI rfl _ _ 159 159 rfl (.slice (some ⟨N, (i + 1) * 2, none⟩) (L.length - i) (G - (i + 1))) (.slice (some ⟨g, i * 2, none⟩) (L.length - i) (L.length - i)) (by simp [Act.eval, Act.put]) (by simp [Act.eval, Act.put]) (hcp2 (W1.setRow N a1.toArray).drew rfl _ (G - (i + 1)) (L.length - i)) ?_
  refine hK.out _ _ trivial (fun _ => ?_)
  clear hK K
  try simp only [Act.put, List.getElem_toArray, List.getElem_cons_succ, List.getElem_cons_zero, List.setIfInBounds_toArray, List.set_cons_zero, List.set_cons_succ]
  refine wpAnyH_done (by kernel_rfl) ?_ _
  refine NoPanic.normal ?_
  go_wp2
  go_ret
  have hq := HE.out (((W1.setRow N a1.toArray).drew).setRow N a2.toArray) rfl (by rw [HW1.out]; rfl) (by rw [HW1.out]; rfl) (by rw [HW1.out]; rfl)
  exact ⟨_, rfl, hq⟩
end Go.Proofs.YtoejgkcaamkanaaGreatDoor
