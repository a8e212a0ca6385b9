/- slices.Delete of an item. A key is taken out of a leaf. How many a tree that is one leaf, or empty, holds. -/
import Derived.Test.YtoejgkcaamkanaaGreatDoorQ10
import Derived.Lib.SliceRun
import Derived.Test.YtoejgkcaamkanaaGreatDoorQ08
import Derived.Great.Walk
set_option linter.unusedVariables false
set_option linter.unusedSimpArgs false
namespace Go.Proofs.YtoejgkcaamkanaaGreatDoor
open Go.RowKit

theorem cell_row {w : World} {g j : Nat} {cur : Array Value} {t : TypeId} (hg : w.heap[g]? = some (.cells cur t (0, 0))) (hlt : j < cur.size) : w.cell? ⟨g, j, none⟩ = some cur[j] := by simp [World.cell?, hg, hlt]
theorem setCells_row (w : World) (g o : Nat) (cur : Array Value) (t : TypeId) (vs : List Value) (hg : w.heap[g]? = some (.cells cur t (0, 0))) (hl : o + vs.length ≤ cur.size) (h1 : ∀ v ∈ vs, v.oneCell' = true) :
    w.setCells g o vs = w.setRow g (cur.toList.take o ++ vs ++ cur.toList.drop (o + vs.length)).toArray := by
  have a := run_storeCells_at Tryz.prog g o t vs 0 cur w hg (by simpa using hl) h1
  have hc : ∀ j, j < vs.length → (w.cell? ⟨g, o + 0 + j, none⟩).isSome = true := fun j hj => by
    have hlt : o + 0 + j < cur.size := by omega
    rw [cell_row hg hlt]
    rfl
  have hf : ∀ j, j < vs.length → w.frozen? ⟨g, o + 0 + j, none⟩ = false := fun j hj => by
    unfold World.frozen?
    rw [hg]
    simp
  have b := run_storeCells_cells (P := Tryz.prog) g o vs 0 w hc hf h1
  rw [a] at b
  simp only [Nat.add_zero] at b
  injection b with _ b
  exact b.symm

theorem run_clear_one (w : World) (ty : TypeId) (b o c : Nat) (hc : ∀ j, j < 2 → (w.cell? ⟨b, o + j, none⟩).isSome = true) (hf : ∀ j, j < 2 → w.frozen? ⟨b, o + j, none⟩ = false) :
    (Builtin.clear_ #[159] ty #[.slice (some ⟨b, o, none⟩) 1 c]).run Tryz.prog w = .ok (.tuple #[]) (w.setCells b o [.string ⟨#[]⟩, .string ⟨#[]⟩]) := by
  have hv : ∀ w, (zeroValue 89).run Tryz.prog w = .ok (.agg #[.string ⟨#[]⟩, .string ⟨#[]⟩]) w := Tryz.zeroValue89
  have hzc : (Builtin.zeroCells (Value.agg #[.string ⟨#[]⟩, .string ⟨#[]⟩]).cells 1).toList = [.string ⟨#[]⟩, .string ⟨#[]⟩] := by kernel_rfl
  have hst := run_storeCells_cells (P := Tryz.prog) b o [.string ⟨#[]⟩, .string ⟨#[]⟩] 0 w (by simpa using hc) (by simpa using hf) (by intro v hv'; simp at hv'; rcases hv' with rfl | rfl <;> rfl)
  simp only [Nat.add_zero] at hst
  simp [Builtin.clear_, run_underlying Tryz.underlying159, hv, hzc, hst]

theorem arr_del (cur : List Value) (L : List KV) (i c : Nat) (hi : i < L.length) (hc : L.length ≤ c) (hsz : cur.length = c * 2) (htk : cur.take (L.length * 2) = L.flatMap kvCells) (a1 a2 : List Value)
    (h1 : a1 = cur.take (i * 2) ++ (L.drop (i + 1)).flatMap kvCells ++ cur.drop (i * 2 + ((L.drop (i + 1)).flatMap kvCells).length))
    (h2 : a2 = a1.take ((L.length - 1) * 2) ++ [.string ⟨#[]⟩, .string ⟨#[]⟩] ++ a1.drop ((L.length - 1) * 2 + [Value.string ⟨#[]⟩, Value.string ⟨#[]⟩].length)) :
    a1.length = c * 2 ∧ a2.length = c * 2 ∧ a2.take ((L.length - 1) * 2) = (L.eraseIdx i).flatMap kvCells := by
  have l1 : ((L.drop (i + 1)).flatMap kvCells).length = (L.length - 1 - i) * 2 := by rw [flat_len, List.length_drop]; omega
  have l0 : ((L.take i).flatMap kvCells).length = i * 2 := by rw [flat_len, List.length_take]; omega
  have ct : cur.take (i * 2) = (L.take i).flatMap kvCells := by
    rw [← flat_take, ← htk, List.take_take]
    congr 1
    simp only [Nat.min_def]
    split <;> omega
  have la : a1.length = c * 2 := by
    rw [h1]
    simp only [List.length_append, List.length_take, List.length_drop]
    omega
  have t1 : a1.take ((L.length - 1) * 2) = (L.take i).flatMap kvCells ++ (L.drop (i + 1)).flatMap kvCells := by
    rw [h1, ct, List.take_left' (by rw [List.length_append, l0, l1]; omega)]
  have e : (L.eraseIdx i).flatMap kvCells = (L.take i).flatMap kvCells ++ (L.drop (i + 1)).flatMap kvCells := by
    rw [List.eraseIdx_eq_take_drop_succ, List.flatMap_append]
  refine ⟨la, ?_, ?_⟩
  · rw [h2]
    simp only [List.length_append, List.length_take, List.length_drop, List.length_cons, List.length_nil]
    omega
  · rw [h2, List.append_assoc, List.take_left' (by rw [List.length_take]; omega), t1, e]

set_option maxRecDepth 100000 in
set_option maxHeartbeats 4000000 in
theorem delete_any {w : World} {M c : Nat} {A : Option Addr} {L : List KV} (h : Items w M (.slice A L.length c) L) (i : Nat) (hi : i < L.length) (hn : L.length ≤ 65536) :
    Calls Tryz.prog 137 #[.slice A L.length c, .int .i64 i, .int .i64 ((i : Int) + 1)] w fun e w' => ∃ v', e = .returned v' ∧ Items w' M v' (L.eraseIdx i) ∧ Below M w w' ∧ w.grownBy w' (Value.ownBlock (.slice A L.length c)) := by
  obtain ⟨g, cur, rfl, hMg, hg, hle, hmax, hsz, htk⟩ := h.open (by intro e; rw [e] at hi; simp at hi)
  obtain ⟨i0, hi0, hz0, hzs, hzb⟩ := info_of info_item
  have hszl : cur.toList.length = c * 2 := by rw [Array.length_toList]; exact hsz
  have hcell : ∀ p v, (L.flatMap kvCells)[p]? = some v → w.cell? ⟨g, p, none⟩ = some v := fun p v hv => by
    have := World.ownsRow.cells h (g := g) rfl p v hv
    have ha : (⟨g, 0, none⟩ : Addr).add p = ⟨g, p, none⟩ := by unfold Addr.add; split <;> simp_all
    rw [← ha]; exact this
  have hfz : ∀ j, w.frozen? ⟨g, j, none⟩ = false := fun j => World.ownsRow.frozenAt h j
  have hd : (L.drop (i + 1)).flatMap kvCells = (L.flatMap kvCells).drop ((i + 1) * 2) := (flat_drop L (i + 1)).symm
  obtain ⟨news, hnews⟩ : ∃ news, news = (L.drop (i + 1)).flatMap kvCells := ⟨_, rfl⟩
  have l1 : news.length = (L.length - 1 - i) * 2 := by rw [hnews, flat_len, List.length_drop]; omega
  have n1 : ∀ u ∈ news, u.oneCell' = true := fun u hu => by rw [hnews] at hu; exact flat_one _ u hu
  obtain ⟨a1, ha1⟩ : ∃ a1, a1 = cur.toList.take (i * 2) ++ news ++ cur.toList.drop (i * 2 + news.length) := ⟨_, rfl⟩
  obtain ⟨a2, ha2⟩ : ∃ a2, a2 = a1.take ((L.length - 1) * 2) ++ [.string ⟨#[]⟩, .string ⟨#[]⟩] ++ a1.drop ((L.length - 1) * 2 + [Value.string ⟨#[]⟩, Value.string ⟨#[]⟩].length) := ⟨_, rfl⟩
  obtain ⟨q1, q2, q3⟩ := arr_del cur.toList L i c hi hle hszl htk a1 a2 (by rw [ha1, hnews]) ha2
  obtain ⟨A2, hA2, hsrc⟩ : ∃ A2 : Addr, (if c = i + 1 then some (⟨g, 0, none⟩ : Addr) else some ⟨g, (i + 1) * 2, none⟩) = some A2 ∧ ∀ t u, news[t]? = some u → w.drew.cell? (A2.add t) = some u := by
    by_cases hh : c = i + 1
    · refine ⟨⟨g, 0, none⟩, by simp [hh], fun t u hu => ?_⟩
      have h0 : news.length = 0 := by rw [l1]; omega
      rw [List.length_eq_zero_iff.1 h0] at hu
      simp at hu
    · refine ⟨⟨g, (i + 1) * 2, none⟩, by simp [hh], fun t u hu => ?_⟩
      have ha : (⟨g, (i + 1) * 2, none⟩ : Addr).add t = ⟨g, (i + 1) * 2 + t, none⟩ := by unfold Addr.add; split <;> simp_all
      rw [ha]
      exact hcell _ u (by rw [hnews, hd, List.getElem?_drop] at hu; exact hu)
  have hsrc := Lib.hid hsrc
  have s1 := Lib.hid (show news.length = (L.length - (i + 1)) * 2 by rw [l1]; omega)
  have s2 := Lib.hid n1
  have s3 := Lib.hid (show ∀ t, t < news.length → (w.drew.cell? ⟨g, 0 + i * 2 + t, none⟩).isSome = true ∧ w.drew.frozen? ⟨g, 0 + i * 2 + t, none⟩ = false from fun t ht => by
    have hlt : 0 + i * 2 + t < (L.flatMap kvCells).length := by rw [flat_len]; omega
    refine ⟨?_, hfz _⟩
    rw [show w.drew.cell? ⟨g, 0 + i * 2 + t, none⟩ = w.cell? ⟨g, 0 + i * 2 + t, none⟩ from rfl, hcell _ _ (List.getElem?_eq_getElem hlt)]
    rfl)
  obtain ⟨W1, hW1⟩ : ∃ W1, W1 = w.drew.setCells g (0 + i * 2) news := ⟨_, rfl⟩
  have hW1r : W1 = w.drew.setRow g a1.toArray := by
    rw [hW1, Nat.zero_add, setCells_row w.drew g (i * 2) cur 89 news hg (by omega) n1, ha1]
  have hg1 : W1.heap[g]? = some (.cells a1.toArray 89 (0, 0)) := by rw [hW1r]; exact setRow_heap _ g cur _ _ _ hg
  have hcl : ∀ ty dc, (Builtin.clear_ #[159] ty #[.slice (some ⟨g, (L.length - 1) * 2, none⟩) 1 dc]).run Tryz.prog W1 = .ok (.tuple #[]) (W1.setRow g a2.toArray) := fun ty dc => by
    have hz : ∀ j, j < 2 → (W1.cell? ⟨g, (L.length - 1) * 2 + j, none⟩).isSome = true := fun j hj => by
      have hlt : (L.length - 1) * 2 + j < a1.toArray.size := by rw [List.size_toArray, q1]; omega
      rw [cell_row hg1 hlt]
      rfl
    rw [run_clear_one W1 ty g ((L.length - 1) * 2) dc hz (fun j _ => by unfold World.frozen?; rw [hg1]; simp),
      setCells_row W1 g ((L.length - 1) * 2) a1.toArray 89 _ hg1 (by rw [List.size_toArray, q1]; show _ + 2 ≤ _; omega) (fun v hv => by simp at hv; rcases hv with rfl | rfl <;> rfl), ha2]
  have HE := Lib.hid (show ∀ W2 : World, W2 = W1.setRow g a2.toArray → Items W2 M (.slice (some ⟨g, 0, none⟩) (L.length - 1) c) (L.eraseIdx i) ∧ Below M w W2 ∧ w.grownBy W2 (some g) from fun W2 e => by
    have ho : ∀ j, j ≠ g → W2.heap[j]? = w.heap[j]? := fun j hj => by rw [e, setRow_other _ g j _ hj, hW1r, setRow_other _ g j _ hj]; rfl
    have hs : W2.heap.size = w.heap.size := by rw [e, setRow_size, hW1r, setRow_size]; rfl
    have e2 : W2.os = w.os := by rw [e, hW1r]; rfl
    have e3 : W2.tape = w.tape := by rw [e, hW1r]; rfl
    have e4 : W2.output = w.output := by rw [e, hW1r]; rfl
    have hln : (L.eraseIdx i).length = L.length - 1 := List.length_eraseIdx_of_lt hi
    refine ⟨?_, ⟨e2, e3, e4, Nat.le_of_eq hs.symm, fun j hj => ho j (by omega)⟩, ⟨e2, e3, e4, Nat.le_of_eq hs.symm, fun j _ hj => ho j (fun e => hj (by rw [e]))⟩⟩
    unfold Items
    rw [hln]
    refine ⟨by rw [flat_len, hln], .inr ⟨g, c, a2.toArray, rfl, hMg, by rw [e]; exact setRow_heap _ g _ _ _ _ hg1, by omega, hmax, by rw [List.size_toArray]; exact q2, q3⟩⟩)
  have HW1 := Lib.hid hW1
  have hic : i ≤ c := by omega
  have hjc : i + 1 ≤ c := by omega
  have hij : ¬ ((i : Int) = (i : Int) + 1) := by omega
  have hilt : (i : Int) + 1 ≤ L.length := by omega
  have hllc : (L.length : Int) ≤ c := by omega
  have htn : ((i : Int) + 1).toNat = i + 1 := by omega
  have hb1 : (0 : Int) ≤ (i : Int) + 1 := by omega
  have hii : (i : Int) ≤ (i : Int) + 1 := by omega
  have hx1 : i + (L.length - (i + 1)) = L.length - 1 := by omega
  have hx2 : L.length - (L.length - 1) = 1 := by omega
  have hx3 : ¬ (c = L.length - 1) := by omega
  have hx4 : ((L.length - 1 : Nat) : Int) ≤ L.length := by omega
  clear hW1 hW1r hg1 q1 q2 q3 ha1 ha2 hnews l1 n1 hd hfz hcell hszl htk hsz hg h hzb hz0
  have mixed : Tryz.prog.follows Departure.mixedOrders = true := by kernel_rfl
  go_enter Tryz.func137, Tryz.ntmps137
  go_wp2_with fail
  go_region_law_o (refine step_append_room rfl (.tmp 22) (.tmp 25) 159 rfl 89 i0 2 Tryz.underlying159 hi0 hzs g 0 i c (by simp [Act.eval, Act.put]) A2 (L.length - (i + 1)) (c - (i + 1)) news (by simp [Act.eval, Act.put]) s1.out hsrc.out s2.out (by omega) s3.out ?_; rw [← HW1.out, hx1])
  go_wp2
  go_ret
  have hq := HE.out _ rfl
  exact ⟨_, rfl, hq⟩
end Go.Proofs.YtoejgkcaamkanaaGreatDoor

namespace Go.Proofs.YtoejgkcaamkanaaGreatDoor
open Go.RowKit

theorem Sorted.erase {L : List KV} (hs : Sorted L) (i : Nat) : Sorted (L.eraseIdx i) := by
  intro s t hs' ht' hst
  rw [List.getElem_eraseIdx, List.getElem_eraseIdx]
  have hl := List.length_eraseIdx_le L i
  by_cases h : i < L.length
  · have hl2 := List.length_eraseIdx_of_lt h
    split <;> split <;> exact hs _ _ _ _ (by omega)
  · have e : L.eraseIdx i = L := List.eraseIdx_of_length_le (by omega)
    have l3 : (L.eraseIdx i).length = L.length := by rw [e]
    rw [dif_pos (by omega), dif_pos (by omega)]
    exact hs _ _ _ _ hst
theorem erase_bytes (L : List KV) (i : Nat) : (leafB (L.eraseIdx i)).length ≤ (leafB L).length := by
  have e : (L.flatMap itemB).length = ((L.take i).flatMap itemB).length + ((L.drop i).flatMap itemB).length := by
    rw [← List.length_append, ← List.flatMap_append, List.take_append_drop]
  have e2 : ((L.drop (i + 1)).flatMap itemB).length ≤ ((L.drop i).flatMap itemB).length := by
    cases h : L.drop i with
    | nil =>
      have : L.drop (i + 1) = [] := by rw [← List.drop_drop, h]; rfl
      rw [this]
      exact Nat.le_refl _
    | cons x r =>
      have : L.drop (i + 1) = r := by rw [← List.drop_drop, h]; rfl
      rw [this, List.flatMap_cons, List.length_append]
      omega
  unfold leafB
  rw [List.eraseIdx_eq_take_drop_succ]
  simp only [List.length_cons, List.flatMap_append, List.length_append]
  omega

set_option maxRecDepth 100000 in
set_option maxHeartbeats 4000000 in
theorem del_leaf {bs : Nat} {B : Base bs} {w : World} {tb ba root : Nat} {F : Nat → Prop} {R : Raw} (ht : w.heap[tb]? = some (treeO ba root)) (hA : ActIs B w ba F R) (hc : Cov B R) (htF : ¬ F tb) (p : Int) (hp : thereE R p = 0) (L : List KV) (hL : R.page p = pageL (leafB L)) (hok : ∀ x ∈ L, x.ok)
    (hs : Sorted L) (key : ByteArray) (i : Nat) (hend : Cut L key i ∧ isAt L key i = true) (hlen : (leafB L).length ≤ 512) (hn : L.length < 256) :
    Calls Tryz.prog 94 #[.pointer (some ⟨tb, 0, none⟩), .int .i64 p, .string key] w fun e w' =>
      e = .returned (.bool (decide (L.length = 1))) ∧ Step B ba w F (R.put p 0 (pageL (leafB (L.eraseIdx i)))) w' := by
  have hltb : tb < w.heap.size := (Array.getElem?_eq_some_iff.1 ht).1
  have HR := Lib.hid (read_leaf ht hA hc htF p hp L hL hok hlen (by omega))
  have H := Lib.hid (And.intro ht (And.intro hc (And.intro hp (And.intro hok (And.intro hs (And.intro hend hlen))))))
  clear ht hA hc hp hL hok hs hend hlen
  go_enter Tryz.func94, Tryz.ntmps94
  go_wp2_with fail
  refine HR.out.mono ?_
  rintro e w2 ⟨nb, v, F2, M, rfl, hnb2, hit2, hM, hMn, hA2, hF2M, hF2, ho2⟩
  obtain ⟨A, c, rfl⟩ := hit2.slice
  have hMw : M ≤ nb := hMn
  have hnlt : nb < w2.heap.size := (Array.getElem?_eq_some_iff.1 hnb2).1
  have ht2 : w2.heap[tb]? = some (treeO ba root) := (ho2.block tb hltb htF).trans H.out.1
  have HF := Lib.hid (find_any hnb2 hit2.read (by omega) H.out.2.2.2.2.1 key)
  obtain ⟨n0, n1, n2, nf⟩ := node3 hnb2
  have H2 := Lib.hid (And.intro hnb2 (And.intro hit2 (And.intro hA2 (And.intro hF2M (And.intro hF2 (And.intro ho2 ht2))))))
  clear hnb2 hit2 hA2 hF2M hF2 ho2 ht2 HR nf hMn
  go_wp2_with fail
  refine HF.out.mono ?_
  rintro e w3 ⟨i', rfl, hcut, hb3⟩
  obtain rfl := hcut.uniq H.out.2.2.2.2.2.1.1
  have hat := H.out.2.2.2.2.2.1.2
  obtain ⟨hilt, hkey⟩ := isAt_key hat
  rw [hat]
  have hnb3 := (hb3.block nb hnlt).trans H2.out.1
  have hit3 := H2.out.2.1.later hb3
  have hsz3 := hb3.size
  obtain ⟨n0, n1, n2, nf⟩ := node3 hnb3
  have HD := Lib.hid (delete_any hit3 i' hilt (by omega))
  have H3 := Lib.hid (And.intro hnb3 (And.intro hit3 (And.intro hb3 hkey)))
  have hw1 : IntKind.i64.wrap ((i' : Int) + 1) = (i' : Int) + 1 := by rw [IntKind.wrap_i64]; omega
  clear hcut hb3 hnb3 nf HF hat hit3 hkey
  go_wp2_with fail
  refine HD.out.mono ?_
  rintro e w4 ⟨v4, rfl, hit4, hb4, hg4⟩
  obtain ⟨A4, c4, rfl⟩ := hit4.slice
  have hln : (L.eraseIdx i').length = L.length - 1 := List.length_eraseIdx_of_lt hilt
  have hnb4 : w4.heap[nb]? = some (nodeO true (.slice A L.length c) (.slice none 0 0)) := (hg4.block nb (by omega) (fun e => H3.out.2.1.ne_block H3.out.1 (by decide) e.symm)).trans H3.out.1
  obtain ⟨z0, z1, z2, zf⟩ := node3 hnb4
  have zf1 := zf 1
  have ho8 : ∀ k, k ≠ nb → (w4.setCell ⟨nb, 1, none⟩ (.slice A4 (L.eraseIdx i').length c4)).heap[k]? = w4.heap[k]? := fun k hk => Below.heap_setCell _ _ _ _ hk
  have hM8 : Below M w2 (w4.setCell ⟨nb, 1, none⟩ (.slice A4 (L.eraseIdx i').length c4)) := ((H3.out.2.2.1.mono (by omega)).trans hb4).setCell hMw _
  have hnbW : (w4.setCell ⟨nb, 1, none⟩ (.slice A4 (L.eraseIdx i').length c4)).heap[nb]? = some (nodeO true (.slice A4 (L.eraseIdx i').length c4) (.slice none 0 0)) := heap_set hnb4
  have hitW : Items (w4.setCell ⟨nb, 1, none⟩ (.slice A4 (L.eraseIdx i').length c4)) M (.slice A4 (L.eraseIdx i').length c4) (L.eraseIdx i') := by
    obtain ⟨q1, q2⟩ := hit4
    refine ⟨q1, ?_⟩
    rcases q2 with q2 | ⟨g, cap, cur, hv, hg, hh, r⟩
    · exact .inl q2
    · exact .inr ⟨g, cap, cur, hv, hg, (ho8 g (fun e => by
        subst e
        rw [hnb4] at hh
        cases hh)).trans hh, r⟩
  have hAW : ActIs B (w4.setCell ⟨nb, 1, none⟩ (.slice A4 (L.eraseIdx i').length c4)) ba F2 R := H2.out.2.2.1.keep (fun k hk => hM8.block k (H2.out.2.2.2.1 k hk)) hM8.size
  have htbM : tb < M := by omega
  have htW := (hM8.block tb htbM).trans H2.out.2.2.2.2.2.2
  have htF2 : ¬ F2 tb := fun e => htF (H2.out.2.2.2.2.1 tb hltb e)
  have hnF2 : ¬ F2 nb := fun e => by have := H2.out.2.2.2.1 _ e; omega
  have HWr := Lib.hid (write_leaf htW hAW H.out.2.1 htF2 p H.out.2.2.1 hnbW hitW.read (fun y hy => H.out.2.2.2.1 y (List.mem_of_mem_eraseIdx hy)) (Nat.le_trans (erase_bytes L i') H.out.2.2.2.2.2.2) (by rw [hln]; omega))
  have HO := Lib.hid (show Off F w (w4.setCell ⟨nb, 1, none⟩ (.slice A4 (L.eraseIdx i').length c4)) from H2.out.2.2.2.2.2.1.trans (show Off (fun k => ¬ k < M) w2 (w4.setCell ⟨nb, 1, none⟩ (.slice A4 (L.eraseIdx i').length c4)) from ⟨hM8.os, hM8.tape, hM8.output, hM8.size, fun k hk hn => hM8.block k (by
    by_cases h : k < M
    · exact h
    · exact absurd h hn)⟩) (fun k hk e => by
      have e' : ¬ k < M := e
      omega))
  have HN := Lib.hid (And.intro hnbW hnF2)
  have HLn := Lib.hid hln
  clear hit4 hb4 hg4 hnb4 ho8 hM8 hnbW hitW hAW htW htF2 hnF2 zf HD hln
  go_wp2_with fail
  refine HWr.out.mono ?_
  rintro e w9 ⟨rfl, hst⟩
  obtain ⟨y0, y1, y2, yf⟩ := node3 (hst.block HN.out.1 HN.out.2)
  have HS := Lib.hid (Step.trans HO.out (fun k hk h => H2.out.2.2.2.2.1 k hk h) hst)
  clear hst yf
  have hl1 : ((L.eraseIdx i').length == 0) = decide (L.length = 1) := by rw [HLn.out]; by_cases h : L.length = 1 <;> simp [h] <;> omega
  have HL1 := Lib.hid hl1
  clear hl1
  generalize (L.eraseIdx i').length = ln at *
  by_cases hl : ln = 0
  · subst hl
    go_wp2
    go_ret
    exact ⟨by rw [← HL1.out]; rfl, HS.out⟩
  · have hl' : ((ln : Int) == 0) = false := by rw [beq_eq_false_iff_ne]; omega
    go_wp2
    go_ret
    exact ⟨by rw [← HL1.out]; simp [hl], HS.out⟩

/-- What a leaf is behind Del. -/
structure DelIs {bs : Nat} (B : Base bs) (R : Raw) (k : Nat) (L : List KV) (i : Nat) (R' : Raw) : Prop where
  fine : Fine B R'
  leaf : Leaf R' k (L.eraseIdx i)
  total : R'.total = R.total
  root : ∀ j, j < 16 → R'.root j = R.root j
  page : ∀ p, p ≠ 0 → p ≠ R.root k → R'.page p = R.page p
theorem delIs {bs : Nat} {B : Base bs} {R : Raw} (hf : Fine B R) {k : Nat} (hk : k < 16) {L : List KV} (hL : Leaf R k L) (i : Nat) : DelIs B R k L i ((R.put (R.root k) 0 (pageL (leafB (L.eraseIdx i)))).put 0 (8 + 4 * k) (digL (R.root k))) := by
  obtain ⟨n1, n2, n3, n4⟩ := hL.next hf (fun y hy => hL.ok y (List.mem_of_mem_eraseIdx hy)) (hL.rises.erase i) (Nat.le_trans (erase_bytes L i) hL.len) (Nat.lt_of_le_of_lt (List.length_eraseIdx_le L i) hL.few)
  have hr : 0 ≤ R.root k ∧ R.root k ≤ 2147483647 := by
    have h1 := hL.top
    have h2 := hf.cov.2
    omega
  have er : (R.put (R.root k) 0 (pageL (leafB (L.eraseIdx i)))).root k = R.root k := congrArg (fun q => num q (8 + 4 * k)) n3
  have et : (R.put (R.root k) 0 (pageL (leafB (L.eraseIdx i)))).total = R.total := congrArg (fun q => num q 0) n3
  obtain ⟨f1, s1, t1, r1, p1⟩ := Fine.setRoot n1 k hk (R.root k) hr
  have hp : R.root k ≠ 0 := by have := hL.top.1; omega
  refine ⟨f1, ⟨?_, ?_, n2.ok, n2.rises, n2.len, n2.few⟩, t1.trans et, fun j hj => ?_, fun p h0 h1 => (p1 p h0).trans (n4 p h1)⟩
  · rw [s1, t1, et]
    exact hL.top
  · rw [s1, p1 _ hp]
    have := n2.page
    rw [er] at this
    exact this
  · by_cases e : j = k
    · rw [e]; exact s1
    · exact (r1 j e).trans (congrArg (fun q => num q (8 + 4 * j)) n3)

set_option maxRecDepth 100000 in
set_option maxHeartbeats 4000000 in
theorem Del_leaf {bs : Nat} {B : Base bs} {w : World} {tb ba k : Nat} {F : Nat → Prop} {R : Raw} (ht : w.heap[tb]? = some (treeO ba k)) (hA : ActIs B w ba F R) (hf : Fine B R) (htF : ¬ F tb) (hk : k < 16) {L : List KV} (hL : Leaf R k L) (key : ByteArray) (i : Nat) (hcut : Cut L key i) (hat : isAt L key i = true) (h2 : 2 ≤ L.length) :
    Calls Tryz.prog 46 #[.pointer (some ⟨tb, 0, none⟩), .string key] w fun e w' => e = .returned (.int .i64 0) ∧ ∃ R', DelIs B R k L i R' ∧ Step B ba w F R' w' := by
  have HG := Lib.hid (Get_leaf ht hA hf htF hk hL key)
  have hltb : tb < w.heap.size := (Array.getElem?_eq_some_iff.1 ht).1
  have H := Lib.hid (And.intro ht (And.intro hf (And.intro hL (And.intro hcut (And.intro hat (delIs hf hk hL i))))))
  have hroot : ¬ R.root k = 0 := by have := hL.top.1; omega
  clear ht hA hf hL hcut hat
  go_enter Tryz.func46, Tryz.ntmps46
  go_wp2_with fail
  refine HG.out.mono ?_
  rintro e w1 ⟨j, hcj, rfl, hst⟩
  obtain rfl := hcj.uniq H.out.2.2.2.1
  unfold gotR
  rw [if_pos H.out.2.2.2.2.1]
  have ht1 := hst.block H.out.1 htF
  obtain ⟨F1, h1A, hF1, ho1⟩ := hst
  have htF1 : ¬ F1 tb := fun e => htF (hF1 tb hltb e)
  have HT := Lib.hid (top_any ht1 h1A H.out.2.1.cov htF1 hk)
  have H1 := Lib.hid (And.intro ht1 (And.intro htF1 (And.intro ho1 hF1)))
  generalize (L.getD j ⟨⟨#[]⟩, ⟨#[]⟩⟩).v = vv
  clear hcj ht1 h1A ho1 hF1 htF1 HG
  go_wp2_with fail
  refine HT.out.mono ?_
  rintro e w2 ⟨rfl, hst⟩
  have ht2 := hst.block H1.out.1 H1.out.2.1
  obtain ⟨F2, h2A, hF2, ho2⟩ := hst
  have hlt1 : tb < w1.heap.size := (Array.getElem?_eq_some_iff.1 H1.out.1).1
  have htF2 : ¬ F2 tb := fun e => H1.out.2.1 (hF2 tb hlt1 e)
  have HD := Lib.hid (del_leaf ht2 h2A H.out.2.1.cov htF2 (R.root k) (H.out.2.1.there H.out.2.2.1.top) L H.out.2.2.1.page H.out.2.2.1.ok H.out.2.2.1.rises key j ⟨H.out.2.2.2.1, H.out.2.2.2.2.1⟩ H.out.2.2.1.len H.out.2.2.1.few)
  have H2 := Lib.hid (And.intro ht2 (And.intro htF2 (And.intro (H1.out.2.2.1.trans ho2 (fun k hk e => H1.out.2.2.2 k hk e)) (fun k (hk : k < w.heap.size) (e : F2 k) => H1.out.2.2.2 k hk (hF2 k (Nat.lt_of_lt_of_le hk H1.out.2.2.1.size) e)))))
  clear ht2 h2A ho2 hF2 htF2 HT
  go_wp2_with fail
  refine HD.out.mono ?_
  rintro e w3 ⟨rfl, hst⟩
  have hl1 : decide (L.length = 1) = false := decide_eq_false (by omega)
  rw [hl1]
  have ht3 := hst.block H2.out.1 H2.out.2.1
  obtain ⟨F3, h3A, hF3, ho3⟩ := hst
  have hlt2 : tb < w2.heap.size := (Array.getElem?_eq_some_iff.1 H2.out.1).1
  have htF3 : ¬ F3 tb := fun e => H2.out.2.1 (hF3 tb hlt2 e)
  obtain ⟨n1, n2, n3, n4⟩ := H.out.2.2.1.next H.out.2.1 (fun y hy => H.out.2.2.1.ok y (List.mem_of_mem_eraseIdx hy)) (H.out.2.2.1.rises.erase j) (Nat.le_trans (erase_bytes L j) H.out.2.2.1.len) (Nat.lt_of_le_of_lt (List.length_eraseIdx_le L j) H.out.2.2.1.few)
  have er : (R.put (R.root k) 0 (pageL (leafB (L.eraseIdx j)))).root k = R.root k := congrArg (fun q => num q (8 + 4 * k)) n3
  have HRd := Lib.hid (read_leaf ht3 h3A n1.cov htF3 (R.root k) (by have := n1.there n2.top; rw [er] at this; exact this) (L.eraseIdx j) (by have := n2.page; rw [er] at this; exact this) n2.ok n2.len n2.few)
  have H3 := Lib.hid (And.intro ht3 (And.intro htF3 (And.intro (H2.out.2.2.1.trans ho3 (fun k hk e => H2.out.2.2.2 k hk e)) (And.intro (fun k (hk : k < w.heap.size) (e : F3 k) => H2.out.2.2.2 k hk (hF3 k (Nat.lt_of_lt_of_le hk H2.out.2.2.1.size) e)) n1.cov))))
  clear ht3 h3A ho3 hF3 htF3 HD hl1 n1 n2 n3 n4 er
  go_wp2_with fail
  refine HRd.out.mono ?_
  rintro e w4 ⟨nb, v, F4, M, rfl, hnb4, hit4, hM, hMn, hA4, hF4M, hF4, ho4⟩
  obtain ⟨n0, n1, n2, nf⟩ := node3 hnb4
  have hlt3 : tb < w3.heap.size := (Array.getElem?_eq_some_iff.1 H3.out.1).1
  have ht4 : w4.heap[tb]? = some (treeO ba k) := (ho4.block tb hlt3 H3.out.2.1).trans H3.out.1
  obtain ⟨t0, t1⟩ := tree2 ht4
  have hrr : 0 ≤ R.root k ∧ R.root k ≤ 2147483647 := by
    have h1 := H.out.2.2.1.top
    have h2 := H.out.2.1.cov.2
    omega
  have HSR := Lib.hid (setRoot_any hA4 H3.out.2.2.2.2 k hk (R.root k) hrr)
  have HSd := Lib.hid (setRoot_any (hA4.below ((Below.refl _ w4).drew)) H3.out.2.2.2.2 k hk (R.root k) hrr)
  have H4 := Lib.hid (And.intro (H3.out.2.2.1.trans ho4 (fun k hk e => H3.out.2.2.2.1 k hk e)) (fun k (hk : k < w.heap.size) (e : F4 k) => H3.out.2.2.2.1 k hk (hF4 k (Nat.lt_of_lt_of_le hk H3.out.2.2.1.size) e)))
  have H5 := Lib.hid (And.intro ht4 (fun e => H3.out.2.1 (hF4 tb hlt3 e)))
  clear hnb4 hit4 hA4 hF4M hF4 ho4 ht4 nf HRd
  go_wp2
  go_loopw [7, 9] (fun t n wr => t = .int .i64 (R.root k) ∧ n = .pointer (some ⟨nb, 0, none⟩) ∧ wr = w4) (fun _ _ _ => 0)
  case atStart => exact ⟨rfl, rfl, rfl⟩
  case round =>
    obtain ⟨rfl, rfl, rfl⟩ := hrel
    go_wp2
    refine wp_region_noPanic ?_
    refine wp_region_held_drew (S := (fun w' => w'.cell? ⟨tb, 0, none⟩ = some (.pointer (some ⟨ba, 0, none⟩)) ∧ w'.cell? ⟨tb, 1, none⟩ = some (.int .i64 k))) (by kernel_rfl) ⟨t0, t1⟩ (fun hS => ?_)
    refine wpAnyH_take (i := 0) (v := ?_) rfl (by kernel_rfl) (by kernel_rfl) (by kernel_rfl) (fun _ _ _ h => h) (Or.inl ⟨by rfl, ?_⟩) hS ?_
    rotate_left
    · rintro w9 ⟨t0, t1⟩
      go_simp
      try with_reducible rfl
    try simp only [Act.put, List.getElem_toArray, List.getElem_cons_succ, List.getElem_cons_zero, List.setIfInBounds_toArray, List.set_cons_zero, List.set_cons_succ]
    refine wpAnyH_take (i := 1) (v := ?_) rfl (by kernel_rfl) (by kernel_rfl) (by kernel_rfl) (fun _ _ _ h => h) (Or.inl ⟨by rfl, ?_⟩) hS ?_
    rotate_left
    · rintro w9 ⟨t0, t1⟩
      go_simp
      try with_reducible rfl
    try simp only [Act.put, List.getElem_toArray, List.getElem_cons_succ, List.getElem_cons_zero, List.setIfInBounds_toArray, List.set_cons_zero, List.set_cons_succ]
    refine wpAnyH_take (i := 2) (v := ?_) rfl (by kernel_rfl) (by kernel_rfl) (by kernel_rfl) (fun _ _ _ h => h) (Or.inl ⟨by rfl, ?_⟩) hS ?_
    rotate_left
    · rintro w9 ⟨t0, t1⟩
      go_simp
      try with_reducible rfl
    try simp only [Act.put, List.getElem_toArray, List.getElem_cons_succ, List.getElem_cons_zero, List.setIfInBounds_toArray, List.set_cons_zero, List.set_cons_succ]
    refine wpAnyH_take (i := 3) (v := ?_) rfl (by kernel_rfl) (by kernel_rfl) (by kernel_rfl) (fun _ _ _ h => h) (Or.inl ⟨by rfl, ?_⟩) hS ?_
    rotate_left
    · rintro w9 ⟨t0, t1⟩
      go_simp
      try with_reducible rfl
    try simp only [Act.put, List.getElem_toArray, List.getElem_cons_succ, List.getElem_cons_zero, List.setIfInBounds_toArray, List.set_cons_zero, List.set_cons_succ]
    refine wpAnyH_take (i := 4) (v := ?_) rfl (by kernel_rfl) (by kernel_rfl) (by kernel_rfl) (fun _ _ _ h => h) (Or.inl ⟨by rfl, ?_⟩) hS ?_
    rotate_left
    · rintro w9 ⟨t0, t1⟩
      go_simp
      try with_reducible rfl
    try simp only [Act.put, List.getElem_toArray, List.getElem_cons_succ, List.getElem_cons_zero, List.setIfInBounds_toArray, List.set_cons_zero, List.set_cons_succ]
    refine wpAnyH_take (i := 5) (v := ?_) rfl (by kernel_rfl) (by kernel_rfl) (by kernel_rfl) (fun _ _ _ h => h) (Or.inl ⟨by rfl, ?_⟩) hS ?_
    rotate_left
    · rintro w9 ⟨t0, t1⟩
      go_simp
      try with_reducible rfl
    try simp only [Act.put, List.getElem_toArray, List.getElem_cons_succ, List.getElem_cons_zero, List.setIfInBounds_toArray, List.set_cons_zero, List.set_cons_succ]
    refine wpAnyH_take (i := 6) (v := ?_) rfl (by kernel_rfl) (by kernel_rfl) (by kernel_rfl) (fun _ _ _ h => h) (Or.inl ⟨by rfl, ?_⟩) hS ?_
    rotate_left
    · rintro w9 ⟨t0, t1⟩
      go_simp
      try with_reducible rfl
    try simp only [Act.put, List.getElem_toArray, List.getElem_cons_succ, List.getElem_cons_zero, List.setIfInBounds_toArray, List.set_cons_zero, List.set_cons_succ]
    refine wpAnyH_take (i := 7) (v := ?_) rfl (by kernel_rfl) (by kernel_rfl) (by kernel_rfl) (fun _ _ _ h => h) (Or.inl ⟨by rfl, ?_⟩) hS ?_
    rotate_left
    · rintro w9 ⟨t0, t1⟩
      go_simp
      try with_reducible rfl
    try simp only [Act.put, List.getElem_toArray, List.getElem_cons_succ, List.getElem_cons_zero, List.setIfInBounds_toArray, List.set_cons_zero, List.set_cons_succ]
    refine wpAnyH_take (i := 8) (v := ?_) rfl (by kernel_rfl) (by kernel_rfl) (by kernel_rfl) (fun _ _ _ h => h) (Or.inl ⟨by rfl, ?_⟩) hS ?_
    rotate_left
    · rintro w9 ⟨t0, t1⟩
      go_simp
      try with_reducible rfl
    try simp only [Act.put, List.getElem_toArray, List.getElem_cons_succ, List.getElem_cons_zero, List.setIfInBounds_toArray, List.set_cons_zero, List.set_cons_succ]
    refine wpAnyH_ready (rs := [9]) (by kernel_rfl) (by simp) ?_
    refine AllReadyH.cons rfl (fun K hK => ?_) AllReadyH.nil
    go_simp
    refine HSd.out.mono ?_
    rintro e w5 ⟨rfl, hst⟩
    have hs5 := tree2 (hst.block (show wr.drew.heap[tb]? = some (treeO ba k) from H5.out.1) H5.out.2)
    have HS := Lib.hid (Step.trans (H4.out.1.trans (Off.of_below ((Below.refl _ wr).drew) (F := fun _ => False)) (fun _ _ e => e.elim)) H4.out.2 hst)
    clear hst
    refine hK.out _ _ hs5 (fun _ => ?_)
    clear hK K
    try simp only [Act.put, List.getElem_toArray, List.getElem_cons_succ, List.getElem_cons_zero, List.setIfInBounds_toArray, List.set_cons_zero, List.set_cons_succ]
    refine wpAnyH_take (i := 10) (v := ?_) rfl (by kernel_rfl) (by kernel_rfl) (by kernel_rfl) (fun _ _ _ h => h) (Or.inl ⟨by rfl, ?_⟩) hs5 ?_
    rotate_left
    · rintro w9 ⟨t0, t1⟩
      go_simp
      try with_reducible rfl
    try simp only [Act.put, List.getElem_toArray, List.getElem_cons_succ, List.getElem_cons_zero, List.setIfInBounds_toArray, List.set_cons_zero, List.set_cons_succ]
    refine wpAnyH_done (by kernel_rfl) ?_ _
    refine NoPanic.normal ?_
    go_wp2
    go_ret
    exact ⟨rfl, _, H.out.2.2.2.2.2, HS.out⟩
end Go.Proofs.YtoejgkcaamkanaaGreatDoor

namespace Go.Proofs.YtoejgkcaamkanaaGreatDoor
open Go.RowKit

set_option maxRecDepth 100000 in
set_option maxHeartbeats 2000000 in
theorem lenc_leaf {w : World} {nb cb n : Nat} {A : Option Addr} {c : Nat} {kv : Value} (h : w.heap[nb]? = some (nodeO true (.slice A n c) kv)) (hn : n < 256) (hcb : w.heap[cb]? = some (.cells #[.int .i64 0] 3)) (p d : Int) :
    Calls Tryz.prog 263 #[.int .i64 p, .int .i64 d, .pointer (some ⟨nb, 0, none⟩), .pointer (some ⟨cb, 0, none⟩)] w fun e w' => e = .returned (.tuple #[]) ∧ w'.heap[cb]? = some (.cells #[.int .i64 n] 3) ∧ Off (· = cb) w w' := by
  obtain ⟨n0, n1, n2, nf⟩ := node3 h
  have c0 : w.cell? ⟨cb, 0, none⟩ = some (.int .i64 0) := by unfold World.cell?; rw [hcb]; rfl
  have z0 : w.frozen? ⟨cb, 0, none⟩ = false := by unfold World.frozen?; rw [hcb]; rfl
  have H := Lib.hid (And.intro h (And.intro hcb n1))
  have hne : nb ≠ cb := by
    rintro rfl
    rw [h] at hcb
    cases hcb
  have HS9 := Lib.hid (show (w.setCell ⟨cb, 0, none⟩ (.int .i64 n)).drew.cell? ⟨nb, 1, none⟩ = some (.slice A n c) from (World.cell?_of_block (Below.heap_setCell w _ _ _ hne)).trans n1)
  have hwr : IntKind.i64.wrap (n : Int) = n := by rw [IntKind.wrap_i64]; omega
  clear h hcb nf
  go_enter Tryz.func263, Tryz.ntmps263
  go_wp2
  refine wp_region_noPanic ?_
  refine wp_region_held_drew (S := (fun w' => w'.cell? ⟨nb, 1, none⟩ = some (.slice A n c))) (by kernel_rfl) H.out.2.2 (fun hS => ?_)
  refine wpAnyH_take (i := 1) (v := ?_) rfl (by kernel_rfl) (by kernel_rfl) (by kernel_rfl) (fun _ _ _ h => h) (Or.inl ⟨by rfl, ?_⟩) hS ?_
  rotate_left
  · intro w9 t0
    go_simp
    try with_reducible rfl
  try simp only [Act.put, List.getElem_toArray, List.getElem_cons_succ, List.getElem_cons_zero, List.setIfInBounds_toArray, List.set_cons_zero, List.set_cons_succ]
  refine wpAnyH_take (i := 2) (v := ?_) rfl (by kernel_rfl) (by kernel_rfl) (by kernel_rfl) (fun _ _ _ h => h) (Or.inl ⟨by rfl, ?_⟩) hS ?_
  rotate_left
  · intro w9 t0
    go_simp
    try with_reducible rfl
  try simp only [Act.put, List.getElem_toArray, List.getElem_cons_succ, List.getElem_cons_zero, List.setIfInBounds_toArray, List.set_cons_zero, List.set_cons_succ]
  refine wpAnyH_take (i := 3) (v := ?_) rfl (by kernel_rfl) (by kernel_rfl) (by kernel_rfl) (fun _ _ _ h => h) (Or.inl ⟨by rfl, ?_⟩) hS ?_
  rotate_left
  · intro w9 t0
    go_simp
    try with_reducible rfl
  try simp only [Act.put, List.getElem_toArray, List.getElem_cons_succ, List.getElem_cons_zero, List.setIfInBounds_toArray, List.set_cons_zero, List.set_cons_succ]
  refine wpAnyH_take (i := 4) (v := ?_) rfl (by kernel_rfl) (by kernel_rfl) (by kernel_rfl) (fun _ _ _ h => h) (Or.inl ⟨by rfl, ?_⟩) hS ?_
  rotate_left
  · intro w9 t0
    go_simp
    try with_reducible rfl
  try simp only [Act.put, List.getElem_toArray, List.getElem_cons_succ, List.getElem_cons_zero, List.setIfInBounds_toArray, List.set_cons_zero, List.set_cons_succ]
  refine wpAnyH_take (i := 5) (v := ?_) rfl (by kernel_rfl) (by kernel_rfl) (by kernel_rfl) (fun _ _ _ h => h) (Or.inl ⟨by rfl, ?_⟩) hS ?_
  rotate_left
  · intro w9 t0
    go_simp
    try with_reducible rfl
  try simp only [Act.put, List.getElem_toArray, List.getElem_cons_succ, List.getElem_cons_zero, List.setIfInBounds_toArray, List.set_cons_zero, List.set_cons_succ]
  refine wpAnyH_ready (rs := [0]) (by kernel_rfl) (by simp) ?_
  refine AllReadyH.cons rfl (fun K hK => ?_) AllReadyH.nil
  go_simp
  refine hK.out _ _ H.out.2.2 (fun _ => ?_)
  clear hK K
  try simp only [Act.put, List.getElem_toArray, List.getElem_cons_succ, List.getElem_cons_zero, List.setIfInBounds_toArray, List.set_cons_zero, List.set_cons_succ]
  refine wpAnyH_take (i := 6) (v := ?_) rfl (by kernel_rfl) (by kernel_rfl) (by kernel_rfl) (fun _ _ _ h => h) (Or.inl ⟨by rfl, ?_⟩) H.out.2.2 ?_
  rotate_left
  · intro w9 t0
    go_simp
    try with_reducible rfl
  try simp only [Act.put, List.getElem_toArray, List.getElem_cons_succ, List.getElem_cons_zero, List.setIfInBounds_toArray, List.set_cons_zero, List.set_cons_succ]
  refine wpAnyH_ready (rs := [7]) (by kernel_rfl) (by simp) ?_
  refine AllReadyH.cons rfl (fun K hK => ?_) AllReadyH.nil
  go_simp
  refine hK.out _ _ HS9.out (fun _ => ?_)
  clear hK K
  try simp only [Act.put, List.getElem_toArray, List.getElem_cons_succ, List.getElem_cons_zero, List.setIfInBounds_toArray, List.set_cons_zero, List.set_cons_succ]
  refine wpAnyH_done (by kernel_rfl) ?_ _
  refine NoPanic.normal ?_
  go_wp2
  exact Great.bodyPost_end0 rfl rfl ⟨rfl, (show (w.setCell _ _).heap[cb]? = _ from heap_set H.out.2.1), (Off.set (k := cb) (Off.refl (fun j => j = cb) w) rfl _).trans (Off.of_below ((Below.refl _ _).drew)) (fun _ _ h => h)⟩

set_option maxRecDepth 100000 in
set_option maxHeartbeats 2000000 in
theorem walk_leaf {bs : Nat} {B : Base bs} {w : World} {tb ba k cb : Nat} {F : Nat → Prop} {R : Raw} (ht : w.heap[tb]? = some (treeO ba k)) (hA : ActIs B w ba F R) (hf : Fine B R) (htF : ¬ F tb) {L : List KV} (hL : Leaf R k L)
    (hcb : w.heap[cb]? = some (.cells #[.int .i64 0] 3)) (hcF : ¬ F cb) (d : Int) :
    Calls Tryz.prog 97 #[.pointer (some ⟨tb, 0, none⟩), .int .i64 (R.root k), .int .i64 d, .func (.func 263) #[] #[.pointer (some ⟨cb, 0, none⟩)]] w fun e w' => e = .returned (.tuple #[]) ∧ w'.heap[cb]? = some (.cells #[.int .i64 L.length] 3) ∧
      ∃ F', ActIs B w' ba F' R ∧ (∀ j, j < w.heap.size → F' j → F j) ∧ Off (fun j => F j ∨ j = cb) w w' ∧ ¬ F' cb := by
  have h1 : (R.root k == 0) = false := by have := hL.top.1; simp; omega
  have h1' : ¬ R.root k = 0 := by simpa using h1
  have hltb : tb < w.heap.size := (Array.getElem?_eq_some_iff.1 ht).1
  have hltc : cb < w.heap.size := (Array.getElem?_eq_some_iff.1 hcb).1
  have HP := Lib.hid (read_leaf ht hA hf.cov htF (R.root k) (hf.there hL.top) L hL.page hL.ok hL.len hL.few)
  have H := Lib.hid (And.intro hL (And.intro hcb hcF))
  clear ht hA hf hL hcb hcF
  go_enter Tryz.func97, Tryz.ntmps97
  go_wp2_with fail
  refine HP.out.mono ?_
  rintro e w2 ⟨nb, v, F2, M, rfl, hnb2, hit2, hM, hMn, hA2, hF2M, hF2, ho2⟩
  obtain ⟨A, c, rfl⟩ := hit2.slice
  have hcb2 := (ho2.block cb hltc H.out.2.2).trans H.out.2.1
  have hL2 := H.out.1.few
  have HC := Lib.hid (lenc_leaf hnb2 hL2 hcb2 (R.root k) d)
  have hnlt : nb < w2.heap.size := (Array.getElem?_eq_some_iff.1 hnb2).1
  have hF2c : ¬ F2 cb := fun e => H.out.2.2 (hF2 cb hltc e)
  have H2 := Lib.hid (And.intro hnb2 (And.intro hA2 (And.intro hF2 (And.intro ho2 hF2c))))
  clear hnb2 hit2 hA2 hF2M hF2 ho2 hcb2 hF2c HP
  go_wp2_with fail
  refine HC.out.mono ?_
  rintro e w3 ⟨rfl, hcb3, ho3⟩
  have hne : nb ≠ cb := by omega
  have hnb3 := (ho3.block nb hnlt hne).trans H2.out.1
  obtain ⟨n0, n1, n2, nf⟩ := node3 hnb3
  have hA3 : ActIs B w3 ba F2 R := H2.out.2.1.off ho3 (fun j hj e => H2.out.2.2.2.2 (by subst e; exact hj))
  have ho : Off (fun j => F j ∨ j = cb) w w3 := ((H2.out.2.2.2.1).mono (fun j h => Or.inl h)).trans (ho3.mono (fun j h => Or.inr h)) (fun j _ h => by
    rcases h with h | h
    · exact .inl h
    · exact .inr h)
  have H3 := Lib.hid (And.intro hcb3 (And.intro hA3 ho))
  clear hnb3 nf hcb3 ho3 hA3 ho HC
  go_wp2
  go_loopw [26] (fun i wr => i = .int .i64 0 ∧ wr = w3) (fun i _ => 0)
  case atStart => exact ⟨rfl, rfl⟩
  case round =>
    obtain ⟨rfl, rfl⟩ := hrel
    go_wp2
    exact Great.bodyPost_end0 rfl rfl ⟨rfl, H3.out.1, F2, H3.out.2.1, H2.out.2.2.1, H3.out.2.2, H2.out.2.2.2.2⟩

set_option maxRecDepth 100000 in
set_option maxHeartbeats 2000000 in
theorem Len_leaf {bs : Nat} {B : Base bs} {w : World} {tb ba k : Nat} {F : Nat → Prop} {R : Raw} (ht : w.heap[tb]? = some (treeO ba k)) (hA : ActIs B w ba F R) (hf : Fine B R) (htF : ¬ F tb) (hk : k < 16) {L : List KV} (hL : Leaf R k L) :
    Calls Tryz.prog 260 #[.pointer (some ⟨tb, 0, none⟩)] w fun e w' => e = .returned (.int .i64 L.length) ∧ Step B ba w F R w' := by
  have hltb : tb < w.heap.size := (Array.getElem?_eq_some_iff.1 ht).1
  have hb0 : Below w.heap.size w (w.alloc (.cells #[.int .i64 0] 3)) := by go_grown
  have ht0 := (hb0.block tb hltb).trans ht
  have HT := Lib.hid (top_any ht0 (hA.below hb0) hf.cov htF hk)
  have hnF : ¬ F w.heap.size := fun e => by have := hA.1 _ e; omega
  have hx0 := hnew w (.cells #[.int .i64 0] 3)
  have H := Lib.hid (And.intro hb0 (And.intro hf (And.intro hL (And.intro hnF (And.intro hx0 ht0)))))
  clear ht hA hf hL hb0 hnF hx0 ht0
  go_enter Tryz.func260, Tryz.ntmps260
  go_wp2_with fail
  refine HT.out.mono ?_
  rintro e w1 ⟨rfl, hst⟩
  have ht1 := hst.block H.out.2.2.2.2.2 htF
  have hx1 := hst.block H.out.2.2.2.2.1 H.out.2.2.2.1
  obtain ⟨F1, h1A, hF1, ho1⟩ := hst
  have htF1 : ¬ F1 tb := fun e => htF (hF1 tb (by simp; omega) e)
  have hgF1 : ¬ F1 w.heap.size := fun e => H.out.2.2.2.1 (hF1 w.heap.size (by simp) e)
  have HP := Lib.hid (walk_leaf ht1 h1A H.out.2.1 htF1 H.out.2.2.1 hx1 hgF1 0)
  have HO := Lib.hid (And.intro ho1 hF1)
  clear ht1 h1A ho1 hF1 htF1 HT hx1 hgF1
  go_wp2_with fail
  refine HP.out.mono ?_
  rintro e w2 ⟨rfl, hcb, F2, hA2, hF2, ho2, hc2⟩
  have c0 : w2.cell? ⟨w.heap.size, 0, none⟩ = some (.int .i64 L.length) := by unfold World.cell?; rw [hcb]; rfl
  have HS := Lib.hid (show Step B ba w F R w2 from by
    refine ⟨F2, hA2, fun j hj e => HO.out.2 j (by simp; omega) (hF2 j (by have := HO.out.1.size; simp at this; omega) e), ?_⟩
    have h01 : Off F w w1 := (Off.of_below H.out.1).trans HO.out.1 (fun _ _ h => h)
    refine ⟨ho2.os.trans h01.os, ho2.tape.trans h01.tape, ho2.output.trans h01.output, Nat.le_trans h01.size ho2.size, fun j hj hn => (ho2.block j (Nat.lt_of_lt_of_le hj h01.size) ?_).trans (h01.block j hj hn)⟩
    rintro (e | e)
    · exact hn (HO.out.2 j (by simp; omega) e)
    · omega)
  clear hcb hA2 hF2 ho2 hc2
  go_wp2
  go_ret
  exact ⟨rfl, HS.out⟩

set_option maxRecDepth 100000 in
set_option maxHeartbeats 2000000 in
theorem Len_none {bs : Nat} {B : Base bs} {w : World} {tb ba k : Nat} {F : Nat → Prop} {R : Raw} (ht : w.heap[tb]? = some (treeO ba k)) (hA : ActIs B w ba F R) (hf : Fine B R) (htF : ¬ F tb) (hk : k < 16) (hr : R.root k = 0) :
    Calls Tryz.prog 260 #[.pointer (some ⟨tb, 0, none⟩)] w fun e w' => e = .returned (.int .i64 0) ∧ Step B ba w F R w' := by
  have hltb : tb < w.heap.size := (Array.getElem?_eq_some_iff.1 ht).1
  have hb0 : Below w.heap.size w (w.alloc (.cells #[.int .i64 0] 3)) := by go_grown
  have ht0 := (hb0.block tb hltb).trans ht
  have HT := top_any ht0 (hA.below hb0) hf.cov htF hk
  rw [hr] at HT
  have HTh := Lib.hid HT
  have hnF : ¬ F w.heap.size := fun e => by have := hA.1 _ e; omega
  have hx0 := hnew w (.cells #[.int .i64 0] 3)
  have H := Lib.hid (And.intro hb0 (And.intro hnF hx0))
  clear ht hA hf hb0 hnF hx0 ht0 HT hr
  have HW := Lib.hid (show ∀ (w1 : World) (v : Value), Calls Tryz.prog 97 #[.pointer (some ⟨tb, 0, none⟩), .int .i64 0, .int .i64 0, v] w1 fun e w' => e = .returned (.tuple #[]) ∧ Below w1.heap.size w1 w' from by
    intro w1 v
    go_enter Tryz.func97, Tryz.ntmps97
    go_wp2
    exact bodyPost_ret (v := .tuple #[]) (results_none rfl _ _ _) rfl ⟨rfl, by first | exact Below.refl _ _ | go_grown⟩)
  go_enter Tryz.func260, Tryz.ntmps260
  go_wp2_with fail
  refine HTh.out.mono ?_
  rintro e w1 ⟨rfl, hst⟩
  have hx1 := hst.block H.out.2.2 H.out.2.1
  have HS := Lib.hid (Step.trans (Off.of_below H.out.1 (F := F)) (fun _ _ h => h) hst)
  have hlt1 : w.heap.size < w1.heap.size := (Array.getElem?_eq_some_iff.1 hx1).1
  have HX := Lib.hid hx1
  clear hst hx1
  go_wp2_with fail
  refine (HW.out _ _).mono ?_
  rintro e w2 ⟨rfl, hb⟩
  have hx2 := (hb.block w.heap.size hlt1).trans HX.out
  have c0 : w2.cell? ⟨w.heap.size, 0, none⟩ = some (.int .i64 0) := by unfold World.cell?; rw [hx2]; rfl
  have HB := Lib.hid hb
  clear hx2 hb
  go_wp2
  go_ret
  exact ⟨rfl, HS.out.below HB.out⟩
end Go.Proofs.YtoejgkcaamkanaaGreatDoor
