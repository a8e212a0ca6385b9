/- Nodes over predicates: plain laws. PredMorgan's two functions that make nodes. -/
import Derived.Test.YtdjlbfepddcmeaaGreatDoorQ38
set_option linter.unusedVariables false
set_option linter.unusedSimpArgs false
namespace Go.Proofs.YtdjlbfepddcmeaaGreatDoor
open Go.RowKit

abbrev zD : Da := ⟨0, 0, ⟨#[]⟩, []⟩
theorem all_imp {α : Type} {l : List α} {f g : α → Bool} (h : l.all f = true) (hi : ∀ x ∈ l, f x = true → g x = true) : l.all g = true := by
  rw [List.all_eq_true] at h ⊢
  exact fun x hx => hi x hx (h x hx)
theorem mayP_up (cols : List Co) : ∀ (n : Nat) (t : PT), mayP cols n t = true → mayP cols (n + 1) t = true
  | 0, t, h => by simp [mayP] at h
  | n + 1, t, h => by
    have ih := mayP_up cols n
    rw [mayP] at h ⊢
    by_cases h1 : 1 ≤ t.op ∧ t.op ≤ 6
    · rw [if_pos h1] at h ⊢; exact h
    · rw [if_neg h1] at h ⊢
      by_cases h2 : t.col ≠ 0 ∨ t.d.zero = false
      · rw [if_pos h2] at h; cases h
      · rw [if_neg h2] at h ⊢
        by_cases h3 : t.op = 7 ∨ t.op = 8
        · rw [if_pos h3] at h ⊢
          simp only [Bool.and_eq_true] at h ⊢
          exact ⟨h.1, all_imp h.2 fun x _ => ih x⟩
        · rw [if_neg h3] at h ⊢
          by_cases h4 : t.op = 9
          · rw [if_pos h4] at h ⊢
            simp only [Bool.and_eq_true] at h ⊢
            exact ⟨h.1, all_imp h.2 fun x _ => ih x⟩
          · rw [if_neg h4] at h ⊢; exact h
theorem all_eq {α : Type} {l : List α} {f g : α → Bool} (h : ∀ x ∈ l, f x = g x) : l.all f = l.all g := by
  induction l with
  | nil => rfl
  | cons x l ih => rw [List.all_cons, List.all_cons, h x List.mem_cons_self, ih fun y hy => h y (List.mem_cons_of_mem _ hy)]
theorem any_eq {α : Type} {l : List α} {f g : α → Bool} (h : ∀ x ∈ l, f x = g x) : l.any f = l.any g := by
  induction l with
  | nil => rfl
  | cons x l ih => rw [List.any_cons, List.any_cons, h x List.mem_cons_self, ih fun y hy => h y (List.mem_cons_of_mem _ hy)]
theorem trueP_up (cols : List Co) (cells : List El) : ∀ (n : Nat) (t : PT), mayP cols n t = true → trueP cells (n + 1) t = trueP cells n t
  | 0, t, h => by simp [mayP] at h
  | n + 1, t, h => by
    have ih := trueP_up cols cells n
    have hall := (mayP_all h).1
    rw [List.all_eq_true] at hall
    rw [trueP, trueP]
    by_cases h10 : t.op = 10
    · rw [if_pos h10, if_pos h10]
    · rw [if_neg h10, if_neg h10]
      by_cases h9 : t.op = 9
      · rw [if_pos h9, if_pos h9]
        cases hp : t.parts with
        | nil => rfl
        | cons p r => simp only; rw [ih p (hall p (by rw [hp]; exact List.mem_cons_self))]
      · rw [if_neg h9, if_neg h9]
        by_cases h7 : t.op = 7
        · rw [if_pos h7, if_pos h7]; exact all_eq fun x hx => ih x (hall x hx)
        · rw [if_neg h7, if_neg h7]
          by_cases h8 : t.op = 8
          · rw [if_pos h8, if_pos h8]; exact any_eq fun x hx => ih x (hall x hx)
          · rw [if_neg h8, if_neg h8]

def andP (p q : PT) : PT := .node 7 0 zD [p, q]
def orP (p q : PT) : PT := .node 8 0 zD [p, q]
def notP (p : PT) : PT := .node 9 0 zD [p]
theorem may_and (cols : List Co) (n : Nat) (p q : PT) : mayP cols (n + 1) (andP p q) = (mayP cols n p && mayP cols n q) := by
  rw [mayP]; simp [andP, PT.op, PT.col, PT.d, PT.parts, Da.zero]
theorem may_or (cols : List Co) (n : Nat) (p q : PT) : mayP cols (n + 1) (orP p q) = (mayP cols n p && mayP cols n q) := by
  rw [mayP]; simp [orP, PT.op, PT.col, PT.d, PT.parts, Da.zero]
theorem may_not (cols : List Co) (n : Nat) (p : PT) : mayP cols (n + 1) (notP p) = mayP cols n p := by
  rw [mayP]; simp [notP, PT.op, PT.col, PT.d, PT.parts, Da.zero]
theorem true_and_ (cells : List El) (n : Nat) (p q : PT) : trueP cells (n + 1) (andP p q) = (trueP cells n p && trueP cells n q) := by
  rw [trueP]; simp [andP, PT.op, PT.parts]
theorem true_or_ (cells : List El) (n : Nat) (p q : PT) : trueP cells (n + 1) (orP p q) = (trueP cells n p || trueP cells n q) := by
  rw [trueP]; simp [orP, PT.op, PT.parts]
theorem true_not_ (cells : List El) (n : Nat) (p : PT) : trueP cells (n + 1) (notP p) = !trueP cells n p := by
  rw [trueP]; simp [notP, PT.op, PT.parts]

theorem holdE_row {cols : List Co} {cells : List El} (h : rowE cols cells ≠ 0) (t : PT) : holdE cols cells t = rowE cols cells := by rw [holdE, if_neg h]
theorem holdE_may {cols : List Co} {cells : List El} (h : rowE cols cells = 0) (t : PT) : holdE cols cells t = if mayP cols 8 t then 0 else 150 := by
  have hc : colsB cols = true := by
    unfold rowE at h
    by_cases hc : colsB cols = true
    · exact hc
    · simp [hc] at h
  rw [holdE, if_pos h, predE, if_pos hc]
theorem checkE_hold {cols : List Co} {cells : List El} (h : rowE cols cells = 0) (t : PT) : predE cols t = holdE cols cells t := by rw [holdE, if_pos h]

/-- PredLogic, plainly. -/
theorem logic_errs (cols : List Co) (cells : List El) (p q : PT) (h : holdE cols cells p ≠ 0 ∨ holdE cols cells q ≠ 0) :
    holdE cols cells (andP p q) ≠ 0 ∧ holdE cols cells (orP q p) ≠ 0 ∧ (holdE cols cells p = 0 ∨ holdE cols cells (notP p) ≠ 0) := by
  by_cases hr : rowE cols cells = 0
  · simp only [holdE_may hr] at h ⊢
    have up := mayP_up cols 7
    rw [may_and, may_or, may_not]
    cases hp : mayP cols 7 p <;> cases hq : mayP cols 7 q <;> simp_all
  · simp only [holdE_row hr]
    exact ⟨hr, hr, .inr hr⟩
theorem logic_same (cols : List Co) (cells : List El) (p q : PT) : holdE cols cells (andP p q) = holdE cols cells (orP q p) := by
  by_cases hr : rowE cols cells = 0
  · simp only [holdE_may hr]
    rw [may_and, may_or, Bool.and_comm]
  · simp only [holdE_row hr]
theorem logic_vals (cols : List Co) (cells : List El) (p q : PT) (hr : rowE cols cells = 0) (hb : predE cols (andP p q) = 0) (hn : predE cols (notP p) = 0) :
    holdE cols cells (andP p q) = 0 ∧ holdE cols cells (orP q p) = 0 ∧ holdE cols cells (notP p) = 0 ∧
    holdV cols cells (andP p q) = (holdV cols cells p && holdV cols cells q) ∧ holdV cols cells (orP q p) = (holdV cols cells p || holdV cols cells q) ∧ holdV cols cells (notP p) = !holdV cols cells p := by
  rw [checkE_hold hr] at hb hn
  have hb' := hb
  have hn' := hn
  rw [holdE_may hr, may_and] at hb'
  have hm : mayP cols 7 p = true ∧ mayP cols 7 q = true := by
    cases hp : mayP cols 7 p <;> cases hq : mayP cols 7 q <;> simp_all
  have ho : holdE cols cells (orP q p) = 0 := by rw [← logic_same]; exact hb
  have hp : holdE cols cells p = 0 := by rw [holdE_may hr, if_pos (mayP_up cols 7 p hm.1)]
  have hq : holdE cols cells q = 0 := by rw [holdE_may hr, if_pos (mayP_up cols 7 q hm.2)]
  refine ⟨hb, ho, hn, ?_, ?_, ?_⟩
  · rw [holdV, if_pos hb, holdV, if_pos hp, holdV, if_pos hq, true_and_, trueP_up cols cells 7 p hm.1, trueP_up cols cells 7 q hm.2]
  · rw [holdV, if_pos ho, holdV, if_pos hp, holdV, if_pos hq, true_or_, trueP_up cols cells 7 p hm.1, trueP_up cols cells 7 q hm.2, Bool.or_comm]
  · rw [holdV, if_pos hn, holdV, if_pos hp, true_not_, trueP_up cols cells 7 p hm.1]
/-- PredMorgan, plainly. -/
theorem morgan (cols : List Co) (cells : List El) (p q : PT) :
    holdE cols cells (notP (andP p q)) = holdE cols cells (orP (notP p) (notP q)) ∧ holdE cols cells (notP (orP p q)) = holdE cols cells (andP (notP p) (notP q)) ∧ holdE cols cells (notP (andP p q)) = holdE cols cells (notP (orP p q)) ∧
    holdV cols cells (notP (andP p q)) = holdV cols cells (orP (notP p) (notP q)) ∧ holdV cols cells (notP (orP p q)) = holdV cols cells (andP (notP p) (notP q)) ∧
    (holdE cols cells (notP (andP p q)) = 0 → holdV cols cells (notP (andP p q)) = false → holdV cols cells (notP (orP p q)) = false) := by
  have e : holdE cols cells (notP (andP p q)) = holdE cols cells (orP (notP p) (notP q)) ∧ holdE cols cells (notP (orP p q)) = holdE cols cells (andP (notP p) (notP q)) ∧ holdE cols cells (notP (andP p q)) = holdE cols cells (notP (orP p q)) := by
    by_cases hr : rowE cols cells = 0
    · simp only [holdE_may hr, may_not, may_and, may_or]
      exact ⟨trivial, trivial, trivial⟩
    · simp only [holdE_row hr]
      exact ⟨trivial, trivial, trivial⟩
  refine ⟨e.1, e.2.1, e.2.2, ?_, ?_, ?_⟩
  · rw [holdV, holdV, e.1]
    by_cases h : holdE cols cells (orP (notP p) (notP q)) = 0
    · rw [if_pos h, if_pos h, true_not_, true_or_, true_and_, true_not_, true_not_, Bool.not_and]
    · rw [if_neg h, if_neg h]
  · rw [holdV, holdV, e.2.1]
    by_cases h : holdE cols cells (andP (notP p) (notP q)) = 0
    · rw [if_pos h, if_pos h, true_not_, true_or_, true_and_, true_not_, true_not_, Bool.not_or]
    · rw [if_neg h, if_neg h]
  · intro h hv
    rw [holdV, if_pos h, true_not_, true_and_] at hv
    rw [holdV, if_pos (e.2.2 ▸ h), true_not_, true_or_]
    revert hv
    cases trueP cells 6 p <;> cases trueP cells 6 q <;> simp
end Go.Proofs.YtdjlbfepddcmeaaGreatDoor

namespace Go.Proofs.YtdjlbfepddcmeaaGreatDoor
open Go.RowKit

theorem PCells.heap {w w1 : World} {g o : Nat} {t : PT} {a : Option Addr} {c : Nat} {pa : Option Addr} {pc : Nat} (h : PCells w g o t a c pa pc) (e : w1.heap[g]? = w.heap[g]?) : PCells w1 g o t a c pa pc := by
  have key : ∀ i v, w.cell? ⟨g, i, none⟩ = some v → w1.cell? ⟨g, i, none⟩ = some v := fun i v hv => by
    unfold World.cell? at hv ⊢
    simp only at hv ⊢
    rw [e]; exact hv
  exact ⟨key _ _ h.c0, key _ _ h.c1, key _ _ h.c2, key _ _ h.c3, key _ _ h.c4, key _ _ h.c5, key _ _ h.c6⟩
theorem node_at {n g : Nat} {w : World} (E : List PE) (hE : E.length ≤ 8) (hc : ∀ i (hi : i < E.length), PCells w g (0 + i * 7) E[i].t E[i].a E[i].c E[i].pa E[i].pc) (h : ∀ e ∈ E, PredIs n w e.t e.a e.pa) (op : Int) (ho : In64 op) :
    PredIs (n + 1) w (.node op 0 ⟨0, 0, ⟨#[]⟩, []⟩ (E.map (·.t))) none (some ⟨g, 0, none⟩) := by
  refine ⟨zeroD_is _, ho, (by show In64 0; exact ⟨by omega, by omega⟩), (by show (E.map (·.t)).length ≤ _; rw [List.length_map]; omega), .inr ⟨g, 0, rfl, fun i hi => ?_⟩⟩
  have hi' : i < E.length := by have : i < (E.map (·.t)).length := hi; simpa using this
  have e1 : E[i].t = (E.map (·.t))[i]'hi := (List.getElem_map (f := fun e : PE => e.t) (l := E) (i := i) (h := hi)).symm
  refine ⟨E[i].a, E[i].c, E[i].pa, E[i].pc, ?_, ?_⟩
  · show PCells _ g (0 + i * 7) ((E.map (·.t))[i]'hi) _ _ _ _
    rw [← e1]
    exact hc i hi'
  · show PredIs n _ ((E.map (·.t))[i]'hi) _ _
    rw [← e1]
    exact h E[i] (List.getElem_mem hi')
/-- A new row of predicates, and what else was laid or written elsewhere. -/
theorem node_new {n : Nat} {w0 w1 : World} (E : List PE) (hE : E.length ≤ 8) {g : Nat} (hg : w1.heap[g]? = some (.cells (E.flatMap peCells).toArray 27 (0, 0))) (hb : Below w0.heap.size w0 w1) (h : ∀ e ∈ E, PredIs n w0 e.t e.a e.pa) (op : Int) (ho : In64 op) :
    PredIs (n + 1) w1 (.node op 0 ⟨0, 0, ⟨#[]⟩, []⟩ (E.map (·.t))) none (some ⟨g, 0, none⟩) := by
  refine node_at E hE (fun i hi => ?_) (fun e he => (h e he).below hb) op ho
  have key : ∀ j v, j < 7 → (peCells E[i])[j]? = some v → w1.cell? ⟨g, 0 + i * 7 + j, none⟩ = some v := fun j v hj hv => by
    have hx : (E.flatMap peCells)[i * 7 + j]? = some v := by rw [peCells_at E i hi j hj]; exact hv
    unfold World.cell?
    simp only [hg]
    rw [show 0 + i * 7 + j = i * 7 + j by omega]
    simpa using hx
  exact ⟨key 0 _ (by omega) rfl, key 1 _ (by omega) rfl, key 2 _ (by omega) rfl, key 3 _ (by omega) rfl, key 4 _ (by omega) rfl, key 5 _ (by omega) rfl, key 6 _ (by omega) rfl⟩

set_option maxRecDepth 100000 in
set_option maxHeartbeats 2000000 in
theorem not_fn (n : Nat) (p : PT) (a : Option Addr) (c : Nat) (pa : Option Addr) (pc : Nat) (w : World) (hp : PredIs n w p a pa) :
    Calls Tryz.prog 22 #[pv p a c pa pc] w fun e w' => ∃ g, e = .returned (pv (notP p) none 0 (some ⟨g, 0, none⟩) 1) ∧ PredIs (n + 1) w' (notP p) none (some ⟨g, 0, none⟩) ∧ Below w.heap.size w w' := by
  unfold pv
  go_enter Tryz.func22, Tryz.ntmps22
  go_wp2
  (try simp only [Exit.inBlock, Exit.then])
  refine bodyPost_ret (v := pv (notP p) none 0 (some ⟨w.heap.size + 1 + 1, 0, none⟩) 1) ?_ rfl ⟨w.heap.size + 1 + 1, rfl, node_new [⟨p, a, c, pa, pc⟩] (by simp) ?_ ?_ (fun e he => by obtain rfl := List.mem_singleton.1 he; exact hp) 9 ⟨by omega, by omega⟩, ?_⟩
  · rw [results_cell1 rfl]
    go_simp
    try exact ⟨rfl, rfl, rfl, rfl, rfl, rfl, rfl⟩
  · have := heap_alloc_new ((w.alloc (pbox p a c pa pc)).alloc (nbox 9 (w.heap.size + 1 + 1) 1 1)) (pbox p a c pa pc)
    rw [show ((w.alloc (pbox p a c pa pc)).alloc (nbox 9 (w.heap.size + 1 + 1) 1 1)).heap.size = w.heap.size + 1 + 1 by simp] at this
    exact this
  · go_grown
  · go_grown

set_option maxRecDepth 100000 in
set_option maxHeartbeats 2000000 in
theorem two_fn (n : Nat) (op : Int) (ho : In64 op) (p : PT) (a : Option Addr) (c : Nat) (pa : Option Addr) (pc : Nat) (q : PT) (a' : Option Addr) (c' : Nat) (pa' : Option Addr) (pc' : Nat) (w : World) (hp : PredIs n w p a pa) (hq : PredIs n w q a' pa') :
    Calls Tryz.prog 23 #[.int .i64 op, pv p a c pa pc, pv q a' c' pa' pc'] w fun e w' => ∃ g, e = .returned (pv (.node op 0 zD [p, q]) none 0 (some ⟨g, 0, none⟩) 2) ∧ PredIs (n + 1) w' (.node op 0 zD [p, q]) none (some ⟨g, 0, none⟩) ∧ Below w.heap.size w w' := by
  unfold pv
  go_enter Tryz.func23, Tryz.ntmps23
  go_wp2
  (try simp only [Exit.inBlock, Exit.then])
  refine bodyPost_ret (v := pv (.node op 0 zD [p, q]) none 0 (some ⟨w.heap.size + 1 + 1 + 1, 0, none⟩) 2) ?_ rfl ⟨w.heap.size + 1 + 1 + 1, rfl, node_new [⟨p, a, c, pa, pc⟩, ⟨q, a', c', pa', pc'⟩] (by simp) ?_ ?_ (fun e he => by
    rcases List.mem_cons.1 he with rfl | he
    · exact hp
    · obtain rfl := List.mem_singleton.1 he
      exact hq) op ho, ?_⟩
  · rw [results_cell1 rfl]
    go_simp
    try exact ⟨rfl, rfl, rfl, rfl, rfl, rfl, rfl⟩
  · have := heap_alloc_new (((w.alloc (pbox p a c pa pc)).alloc (pbox q a' c' pa' pc')).alloc (nbox op (w.heap.size + 1 + 1 + 1) 2 2)) (.cells (([⟨p, a, c, pa, pc⟩, ⟨q, a', c', pa', pc'⟩] : List PE).flatMap peCells).toArray 27)
    rw [show (((w.alloc (pbox p a c pa pc)).alloc (pbox q a' c' pa' pc')).alloc (nbox op (w.heap.size + 1 + 1 + 1) 2 2)).heap.size = w.heap.size + 1 + 1 + 1 by simp] at this
    exact this
  · go_grown
  · go_grown
end Go.Proofs.YtdjlbfepddcmeaaGreatDoor
