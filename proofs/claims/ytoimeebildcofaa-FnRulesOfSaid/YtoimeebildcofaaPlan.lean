/- A region that draws its order, walked by a plan: loads first, each other operation when it alone may come up, and where several may, each of them. -/
import Derived.Test.YtoimeebildcofaaLift
namespace Go.Proofs.Ytoimeebildcofaa
open Go.RowKit Go.Proofs.YtoimeebildcofaaW.PrintLast
/-- A world in which F holds. -/
structure Kept (F : World → Prop) where
  w : World
  kept : F w
/-- The steps, as a tree: where several operations may come up, each has a way of its own. -/
inductive Plan (α : Type) | done | one (x : α) (k : Kind) (p : Plan α) | both (p q : Plan α)
def Plan.heads : Plan Nat → List Nat
  | .done => []
  | .one i _ _ => [i]
  | .both p q => p.heads ++ q.heads
def Plan.pick (l : List Oper) : Plan Nat → Plan Oper
  | .done => .done
  | .one i k p => match l[i]? with | some o => .one o k (p.pick l) | none => .done
  | .both p q => .both (p.pick l) (q.pick l)
section
variable {P : Program} {ops : Array Oper} {Q : Exit → Act → World → Prop} {md : Region.Mode} {S : World → Prop} {ds : List Nat}
def wpPlan (P : Program) (ops : Array Oper) (Q : Exit → Act → World → Prop) (S : World → Prop) : Plan Oper → Act → World → Prop
  | .done, a, w => Q .normal a w
  | .one o .load p, a, w => if Region.wanted o (yielded ops a.tmps) then ∃ v, (∀ w', S w' → (execOp a.eval o).run P w' = .ok (.value v) w') ∧ S w ∧ wpPlan P ops Q S p (a.put o.dst v) w else wpPlan P ops Q S p (a.put o.dst undef) w
  | .one o .pure p, a, w => if Region.wanted o (yielded ops a.tmps) then ∃ v, (∀ w', (execOp a.eval o).run P w' = .ok (.value v) w') ∧ wpPlan P ops Q S p (a.put o.dst v) w else wpPlan P ops Q S p (a.put o.dst undef) w
  | .one o .act p, a, w => wpList P ops (fun e a' w' => match e with | .normal => S w' ∧ wpPlan P ops Q S p a' w' | e => Q e a' w') [o] a w
  | .one o .last p, a, w => wpList P ops (fun e a' w' => match e with | .normal => wpPlan P ops Q S p a' w' | e => Q e a' w') [o] a w
  | .both p q, a, w => wpPlan P ops Q S p a w ∧ wpPlan P ops Q S q a w
def Plan.size : Plan Nat → Nat
  | .done => 0
  | .one _ _ p => p.size + 1
  | .both p _ => p.size
/-- The plan is sound: f: this is one way of several (its head is checked above). n: how many operations are left. -/
def planB (md : Region.Mode) (ops : Array Oper) (ds : List Nat) : Plan Nat → Bool → Nat → Array Bool → Bool
  | .done, f, _, l => !f && Region.ready md ops l == []
  | .one _ _ _, _, 0, _ => false
  | .one i .load p, f, n + 1, l => !f && decide (i < ops.size) && Region.noSelect ops && Region.free md ops l i && (Region.ready md ops l).contains i && Region.closedB md ops l && Region.lastB md ops l ds i && planB md ops ds p false n (l.setIfInBounds i true)
  | .one i .pure p, f, n + 1, l => !f && decide (i < ops.size) && Region.noSelect ops && Region.free md ops l i && (Region.ready md ops l).contains i && planB md ops ds p false n (l.setIfInBounds i true)
  | .one i .act p, f, n + 1, l => decide (i < ops.size) && (f || Region.ready md ops l == [i]) && planB md ops ds p false n (l.setIfInBounds i true)
  | .one i .last p, f, n + 1, l => !f && decide (i < ops.size) && (Region.ready md ops l == [i]) && ds.contains i && planB md ops ds p false n (l.setIfInBounds i true)
  | .both p q, f, n, l => (f || (Region.ready md ops l == p.heads ++ q.heads && !(p.heads ++ q.heads).isEmpty)) && planB md ops ds p true n l && planB md ops ds q true n l
/-- What is shown for a plan: f: of each of its heads alone. -/
theorem plan_last (hQ : ∀ c a d v w, Q (.panic c) (Act.put a d v) w → Q (.panic c) a w) : ∀ (p : Plan Nat) (f : Bool) (n : Nat) (l : Array Bool) (a : Act) (w : World), planB md ops ds p f n l = true →
    wpPlan P ops Q S (p.pick ops.toList) a w → (f = false → wpAnyLast P md ops Q S ds n l a w) ∧
      (f = true → ∀ j ∈ p.heads, ∃ m, n = m + 1 ∧ wpOp P ops Q j (fun a' w' => (j ∉ ds → S w → S w') ∧ wpAnyLast P md ops Q S ds m (l.setIfInBounds j true) a' w') a w)
  | .done, f, n, l, a, w, hB, h => by
    simp only [planB, Bool.and_eq_true, Bool.not_eq_true', beq_iff_eq] at hB
    exact ⟨fun _ => wpAnyLast_done hB.2 h n, fun hf => by rw [hB.1] at hf; cases hf⟩
  | .one i k p, f, 0, l, a, w, hB, h => by cases k <;> simp [planB] at hB
  | .one i k p, f, n + 1, l, a, w, hB, h => by
    have hlt : i < ops.size := by cases k <;> simp only [planB, Bool.and_eq_true, decide_eq_true_eq] at hB <;> simp_all
    obtain ⟨o, ho⟩ : ∃ o, ops[i]? = some o := ⟨_, Array.getElem?_eq_getElem hlt⟩
    have ho' : ops.toList[i]? = some o := by rw [Array.getElem?_toList]; exact ho
    have hany : ∀ v, Region.noSelect ops = true → Region.free md ops l i = true → (Region.ready md ops l).contains i = true → Yields P ops o v a → wpAnyLast P md ops Q S ds n (l.setIfInBounds i true) (a.put o.dst v) w → wpAnyLast P md ops Q S ds (n + 1) l a w :=
      fun v h1 h2 h3 hy hn => wpAnyLast_any ho (Region.noSelect_spec h1) (fun c a w => hQ c a _ v w) _ l a w (Region.free_spec ho h2) (by simpa using h3) hy hn
    simp only [Plan.pick, ho'] at h
    cases k with
    | load =>
      simp only [planB, Bool.and_eq_true, Bool.not_eq_true', decide_eq_true_eq] at hB
      obtain ⟨⟨⟨⟨⟨⟨⟨h0, _⟩, h1⟩, h2⟩, h3⟩, h4⟩, h5⟩, h6⟩ := hB
      refine ⟨fun _ => ?_, fun hf => by rw [h0] at hf; cases hf⟩
      simp only [wpPlan] at h
      by_cases hw : Region.wanted o (yielded ops a.tmps) = true
      · rw [if_pos hw] at h
        obtain ⟨v, g1, hS, g2⟩ := h
        exact wpAnyLast_take ho h1 h2 h3 h4 h5 (fun c a w => hQ c a _ v w) (.inl ⟨hw, g1⟩) hS ((plan_last hQ p false n _ _ _ h6 g2).1 rfl)
      · rw [if_neg hw] at h
        exact hany undef h1 h2 h3 (.inr ⟨by simpa using hw, rfl⟩) ((plan_last hQ p false n _ _ _ h6 h).1 rfl)
    | pure =>
      simp only [planB, Bool.and_eq_true, Bool.not_eq_true', decide_eq_true_eq] at hB
      obtain ⟨⟨⟨⟨⟨h0, _⟩, h1⟩, h2⟩, h3⟩, h6⟩ := hB
      refine ⟨fun _ => ?_, fun hf => by rw [h0] at hf; cases hf⟩
      simp only [wpPlan] at h
      by_cases hw : Region.wanted o (yielded ops a.tmps) = true
      · rw [if_pos hw] at h
        obtain ⟨v, g1, g2⟩ := h
        exact hany v h1 h2 h3 (.inl ⟨hw, g1⟩) ((plan_last hQ p false n _ _ _ h6 g2).1 rfl)
      · rw [if_neg hw] at h
        exact hany undef h1 h2 h3 (.inr ⟨by simpa using hw, rfl⟩) ((plan_last hQ p false n _ _ _ h6 h).1 rfl)
    | act =>
      simp only [planB, Bool.and_eq_true, decide_eq_true_eq] at hB
      simp only [wpPlan] at h
      have key : wpOp P ops Q i (fun a' w' => (i ∉ ds → S w → S w') ∧ wpAnyLast P md ops Q S ds n (l.setIfInBounds i true) a' w') a w :=
        wpOp_mono (fun a' w' h' => ⟨fun _ _ => h'.1, (plan_last hQ p false n _ _ _ hB.2 h'.2).1 rfl⟩) (wpOp_of_one ho h)
      refine ⟨fun hf => ?_, fun _ j hj => ?_⟩
      · rw [hf, Bool.false_or, beq_iff_eq] at hB
        exact wpAnyLast_all hB.1.2 (by simp) fun j hj => by rw [List.mem_singleton.1 hj]; exact key
      · rw [List.mem_singleton.1 hj]
        exact ⟨n, rfl, key⟩
    | last =>
      simp only [planB, Bool.and_eq_true, Bool.not_eq_true', decide_eq_true_eq, beq_iff_eq] at hB
      obtain ⟨⟨⟨⟨h0, _⟩, h1⟩, h2⟩, h3⟩ := hB
      simp only [wpPlan] at h
      refine ⟨fun _ => ?_, fun hf => by rw [h0] at hf; cases hf⟩
      refine wpAnyLast_all h1 (by simp) fun j hj => ?_
      rw [List.mem_singleton.1 hj]
      exact wpOp_mono (fun a' w' h' => ⟨fun hn _ => absurd (by simpa using h2) hn, (plan_last hQ p false n _ _ _ h3 h').1 rfl⟩) (wpOp_of_one ho h)
  | .both p q, f, n, l, a, w, hB, h => by
    simp only [planB, Bool.and_eq_true, Bool.or_eq_true, beq_iff_eq, Bool.not_eq_true'] at hB
    obtain ⟨⟨h1, h2⟩, h3⟩ := hB
    simp only [Plan.pick, wpPlan] at h
    have hp := (plan_last hQ p true n l a w h2 h.1).2 rfl
    have hq := (plan_last hQ q true n l a w h3 h.2).2 rfl
    have all : ∀ j ∈ p.heads ++ q.heads, ∃ m, n = m + 1 ∧ wpOp P ops Q j (fun a' w' => (j ∉ ds → S w → S w') ∧ wpAnyLast P md ops Q S ds m (l.setIfInBounds j true) a' w') a w :=
      fun j hj => (List.mem_append.1 hj).elim (hp j) (hq j)
    refine ⟨fun hf => ?_, fun _ => all⟩
    rw [hf] at h1
    rcases h1 with h1 | ⟨h1, h4⟩
    · cases h1
    · cases hh : p.heads ++ q.heads with
      | nil => rw [hh] at h4; cases h4
      | cons x xs =>
        obtain ⟨m, rfl, _⟩ := all x (by rw [hh]; simp)
        refine wpAnyLast_all h1 (by rw [hh]; simp) fun j hj => ?_
        obtain ⟨m', hm, h5⟩ := all j hj
        obtain rfl : m' = m := by omega
        exact h5
def planOk (l : List Oper) (ds : List Nat) (p : Plan Nat) : Bool := planB .any l.toArray ds p false l.length (Array.replicate l.length false)
theorem wp_region_plan {id : Nat} {a : Act} {w : World} {l : List Oper} (ds : List Nat) (p : Plan Nat) (S : World → Prop) (hm : P.follows .mixedOrders = true) (hB : planOk l ds p = true) (hQ : ∀ c a d v w, Q (.panic c) (Act.put a d v) w → Q (.panic c) a w)
    (h : wpPlan P l.toArray Q S (p.pick l) a w.drew) : (Code.region id l.toArray true).wp P Q a w := by
  refine wp_region_last (S := S) (ds := ds) hm ?_
  have hsz : l.toArray.size = l.length := by simp
  rw [hsz]
  exact (plan_last hQ p false l.length _ a _ hB (by simpa using h)).1 rfl
theorem plan_done {a : Act} {w : World} (h : Q .normal a w) : wpPlan P ops Q S .done a w := h
theorem plan_load {a : Act} {w : World} {o : Oper} {p : Plan Oper} (h : ∀ K : Act → World → Prop, (∀ a w, wpPlan P ops Q S p a w → K a w) → if Region.wanted o (yielded ops a.tmps) then ∃ v, (∀ w', S w' → (execOp a.eval o).run P w' = .ok (.value v) w') ∧ S w ∧ K (a.put o.dst v) w else K (a.put o.dst undef) w) :
    wpPlan P ops Q S (.one o .load p) a w := by simp only [wpPlan]; exact h _ (fun _ _ h => h)
theorem plan_pure {a : Act} {w : World} {o : Oper} {p : Plan Oper} (h : ∀ K : Act → World → Prop, (∀ a w, wpPlan P ops Q S p a w → K a w) → if Region.wanted o (yielded ops a.tmps) then ∃ v, (∀ w', (execOp a.eval o).run P w' = .ok (.value v) w') ∧ K (a.put o.dst v) w else K (a.put o.dst undef) w) :
    wpPlan P ops Q S (.one o .pure p) a w := by simp only [wpPlan]; exact h _ (fun _ _ h => h)
theorem plan_act {a : Act} {w : World} {o : Oper} {p : Plan Oper} (h : wpList P ops (fun e a' w' => match e with | .normal => S w' ∧ wpPlan P ops Q S p a' w' | e => Q e a' w') [o] a w) : wpPlan P ops Q S (.one o .act p) a w := by simp only [wpPlan]; exact h
theorem plan_last_ {a : Act} {w : World} {o : Oper} {p : Plan Oper} (h : wpList P ops (fun e a' w' => match e with | .normal => wpPlan P ops Q S p a' w' | e => Q e a' w') [o] a w) : wpPlan P ops Q S (.one o .last p) a w := by simp only [wpPlan]; exact h
theorem plan_both {a : Act} {w : World} {p q : Plan Oper} (h1 : wpPlan P ops Q S p a w) (h2 : wpPlan P ops Q S q a w) : wpPlan P ops Q S (.both p q) a w := ⟨h1, h2⟩
end
end Go.Proofs.Ytoimeebildcofaa
