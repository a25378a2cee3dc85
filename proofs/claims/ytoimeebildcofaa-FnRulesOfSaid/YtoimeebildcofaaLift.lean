/- A region that draws its order, whose loads may be taken first and whose other operations come in one forced order. -/
import Derived.Test.YtoimeebildcofaaLib
import Derived.Test.YtoimeebildcofaaWLast
namespace Go.Proofs.Ytoimeebildcofaa
open Go.RowKit Go.Proofs.YtoimeebildcofaaW.PrintLast
section
variable {P : Program} {ops : Array Oper} {Q : Exit → Act → World → Prop} {md : Region.Mode} {S : World → Prop} {ds : List Nat}
/-- load: of one value in every world of S; pure: of one value in every world; act: carried out, S is shown behind it; last: one of the last, carried out. -/
inductive Kind | load | pure | act | last
/-- The steps, in an order of the prover's. -/
def wpSteps (P : Program) (ops : Array Oper) (Q : Exit → Act → World → Prop) (S : World → Prop) : List (Oper × Kind) → Act → World → Prop
  | [], a, w => Q .normal a w
  | (o, .load) :: st, a, w => if Region.wanted o (yielded ops a.tmps) then ∃ v, (∀ w', S w' → (execOp a.eval o).run P w' = .ok (.value v) w') ∧ S w ∧ wpSteps P ops Q S st (a.put o.dst v) w else wpSteps P ops Q S st (a.put o.dst undef) w
  | (o, .pure) :: st, a, w => if Region.wanted o (yielded ops a.tmps) then ∃ v, (∀ w', (execOp a.eval o).run P w' = .ok (.value v) w') ∧ wpSteps P ops Q S st (a.put o.dst v) w else wpSteps P ops Q S st (a.put o.dst undef) w
  | (o, .act) :: st, a, w => wpList P ops (fun e a' w' => match e with | .normal => S w' ∧ wpSteps P ops Q S st a' w' | e => Q e a' w') [o] a w
  | (o, .last) :: st, a, w => wpList P ops (fun e a' w' => match e with | .normal => wpSteps P ops Q S st a' w' | e => Q e a' w') [o] a w
def stepsB (md : Region.Mode) (ops : Array Oper) (ds : List Nat) : List (Nat × Kind) → Array Bool → Bool
  | [], l => Region.ready md ops l == []
  | (i, .load) :: st, l => Region.noSelect ops && Region.free md ops l i && (Region.ready md ops l).contains i && Region.closedB md ops l && Region.lastB md ops l ds i && stepsB md ops ds st (l.setIfInBounds i true)
  | (i, .pure) :: st, l => Region.noSelect ops && Region.free md ops l i && (Region.ready md ops l).contains i && stepsB md ops ds st (l.setIfInBounds i true)
  | (i, .act) :: st, l => (Region.ready md ops l == [i]) && stepsB md ops ds st (l.setIfInBounds i true)
  | (i, .last) :: st, l => (Region.ready md ops l == [i]) && ds.contains i && stepsB md ops ds st (l.setIfInBounds i true)
/-- One operation carried out, then what is asked. -/
theorem wpOp_of_one {i : Nat} {o : Oper} {a : Act} {w : World} {K : Act → World → Prop} (ho : ops[i]? = some o) (h : wpList P ops (fun e a' w' => match e with | .normal => K a' w' | e => Q e a' w') [o] a w) : wpOp P ops Q i K a w := by
  unfold wpList at h
  unfold wpOp
  simp only [ho]
  split
  · rename_i hw
    rw [if_pos hw] at h
    rcases h with h | ⟨h1, h2⟩
    · left
      unfold Oper.wp at *
      generalize (execOp a.eval o).run P w = r at *
      cases r with
      | ok n w' =>
        cases n <;> simp only [Oper.upon] at h ⊢
        case value u => exact h
        case skip => exact h
        case defer d => exact h
        case enter f args =>
          refine Calls.mono h fun e w'' he => ?_
          cases e with
          | returned u => exact he
          | panicked c => exact he
          | outgrown => exact he
        case row row args => exact Rows.mono h fun u w'' he => he
      | halt x w' =>
        cases x <;> simp only [Oper.upon] at h ⊢
        case panic u => exact h
    · exact .inr ⟨h1, h2⟩
  · rename_i hw
    rw [if_neg hw] at h
    exact h
theorem filterMap_some {α β : Type} {f : α → Option β} : ∀ {xs : List α}, (∀ x ∈ xs, (f x).isSome = true) → (xs.filterMap f).length = xs.length ∧ ∀ (k : Nat) (x : α) (y : β), xs[k]? = some x → (xs.filterMap f)[k]? = some y → f x = some y
  | [], _ => ⟨rfl, fun k x y h => by simp at h⟩
  | x :: xs, h => by
    obtain ⟨y, hy⟩ := Option.isSome_iff_exists.1 (h x (by simp))
    obtain ⟨h1, h2⟩ := filterMap_some (xs := xs) (fun z hz => h z (by simp [hz]))
    rw [List.filterMap_cons_some hy]
    refine ⟨by simp [h1], fun k z u hk hu => ?_⟩
    cases k with
    | zero =>
      simp only [List.getElem?_cons_zero, Option.some.injEq] at hk hu
      rw [← hk, ← hu]
      exact hy
    | succ k =>
      simp only [List.getElem?_cons_succ] at hk hu
      exact h2 k z u hk hu
theorem steps_last (hQ : ∀ c a d v w, Q (.panic c) (Act.put a d v) w → Q (.panic c) a w) : ∀ (st : List (Nat × Kind)) (os : List (Oper × Kind)) (l : Array Bool) (a : Act) (w : World), stepsB md ops ds st l = true → os.length = st.length →
    (∀ (k i : Nat) (c : Kind) (o : Oper) (d : Kind), st[k]? = some (i, c) → os[k]? = some (o, d) → ops[i]? = some o ∧ d = c) → wpSteps P ops Q S os a w → wpAnyLast P md ops Q S ds st.length l a w
  | [], os, l, a, w, hB, hl, _, h => by
    obtain rfl := List.eq_nil_of_length_eq_zero hl
    exact ⟨by simpa [stepsB] using hB, h⟩
  | (i, c) :: st, [], _, _, _, _, hl, _, _ => by simp at hl
  | (i, c) :: st, (o, d) :: os, l, a, w, hB, hl, hs, h => by
    obtain ⟨ho, hd⟩ := hs 0 i c o d rfl rfl
    subst hd
    have ih := fun (hb : stepsB md ops ds st (l.setIfInBounds i true) = true) a' w' h' => steps_last hQ st os (l.setIfInBounds i true) a' w' hb (by simpa using hl) (fun k i' c' o' d' h1 h2 => hs (k + 1) i' c' o' d' h1 h2) h'
    have hany : ∀ v, Region.noSelect ops = true → Region.free md ops l i = true → (Region.ready md ops l).contains i = true → Yields P ops o v a → wpAnyLast P md ops Q S ds st.length (l.setIfInBounds i true) (a.put o.dst v) w → wpAnyLast P md ops Q S ds (st.length + 1) l a w :=
      fun v h1 h2 h3 hy hn => wpAnyLast_any ho (Region.noSelect_spec h1) (fun c a w => hQ c a _ v w) _ l a w (Region.free_spec ho h2) (by simpa using h3) hy hn
    cases d with
    | load =>
      simp only [stepsB, Bool.and_eq_true] at hB
      obtain ⟨⟨⟨⟨⟨h1, h2⟩, h3⟩, h4⟩, h5⟩, h6⟩ := hB
      simp only [wpSteps] at h
      by_cases hw : Region.wanted o (yielded ops a.tmps) = true
      · rw [if_pos hw] at h
        obtain ⟨v, g1, hS, g2⟩ := h
        exact wpAnyLast_take ho h1 h2 h3 h4 h5 (fun c a w => hQ c a _ v w) (.inl ⟨hw, g1⟩) hS (ih h6 _ _ g2)
      · rw [if_neg hw] at h
        exact hany undef h1 h2 h3 (.inr ⟨by simpa using hw, rfl⟩) (ih h6 _ _ h)
    | pure =>
      simp only [stepsB, Bool.and_eq_true] at hB
      obtain ⟨⟨⟨h1, h2⟩, h3⟩, h6⟩ := hB
      simp only [wpSteps] at h
      by_cases hw : Region.wanted o (yielded ops a.tmps) = true
      · rw [if_pos hw] at h
        obtain ⟨v, g1, g2⟩ := h
        exact hany v h1 h2 h3 (.inl ⟨hw, g1⟩) (ih h6 _ _ g2)
      · rw [if_neg hw] at h
        exact hany undef h1 h2 h3 (.inr ⟨by simpa using hw, rfl⟩) (ih h6 _ _ h)
    | act =>
      simp only [stepsB, Bool.and_eq_true, beq_iff_eq] at hB
      simp only [wpSteps] at h
      refine wpAnyLast_all hB.1 (by simp) fun j hj => ?_
      rw [List.mem_singleton.1 hj]
      exact wpOp_mono (fun a' w' h' => ⟨fun _ _ => h'.1, ih hB.2 a' w' h'.2⟩) (wpOp_of_one ho h)
    | last =>
      simp only [stepsB, Bool.and_eq_true, beq_iff_eq] at hB
      simp only [wpSteps] at h
      refine wpAnyLast_all hB.1.1 (by simp) fun j hj => ?_
      rw [List.mem_singleton.1 hj]
      exact wpOp_mono (fun a' w' h' => ⟨fun hn _ => absurd (by simpa using hB.1.2) hn, ih hB.2 a' w' h'⟩) (wpOp_of_one ho h)
def pickS (l : List Oper) (st : List (Nat × Kind)) : List (Oper × Kind) := st.filterMap (fun s => l[s.1]?.map (·, s.2))
def liftB (l : List Oper) (ds : List Nat) (st : List (Nat × Kind)) : Bool := stepsB .any l.toArray ds st (Array.replicate l.length false) && st.length == l.length && st.all (fun s => s.1 < l.length)
theorem wp_region_lift {id : Nat} {a : Act} {w : World} {l : List Oper} (ds : List Nat) (st : List (Nat × Kind)) (S : World → Prop) (hm : P.follows .mixedOrders = true) (hB : liftB l ds st = true) (hQ : ∀ c a d v w, Q (.panic c) (Act.put a d v) w → Q (.panic c) a w)
    (h : wpSteps P l.toArray Q S (pickS l st) a w.drew) : (Code.region id l.toArray true).wp P Q a w := by
  simp only [liftB, Bool.and_eq_true, beq_iff_eq, List.all_eq_true, decide_eq_true_eq] at hB
  obtain ⟨⟨h1, h2⟩, h3⟩ := hB
  obtain ⟨f1, f2⟩ := filterMap_some (f := fun s : Nat × Kind => l[s.1]?.map (·, s.2)) (xs := st) (fun s hs => by simp [List.getElem?_eq_getElem (h3 s hs)])
  refine wp_region_last (S := S) (ds := ds) hm ?_
  have hsz : l.toArray.size = st.length := by simp [h2]
  rw [← h2] at h1
  rw [hsz]
  refine steps_last hQ st (pickS l st) _ a _ h1 f1 (fun k i c o d g1 g2 => ?_) h
  have g3 := f2 k (i, c) (o, d) g1 g2
  simp only [Option.map_eq_some_iff, Prod.mk.injEq] at g3
  obtain ⟨o', g4, g5, g6⟩ := g3
  subst g5
  exact ⟨by simpa using g4, g6.symm⟩
theorem steps_nil {a : Act} {w : World} (h : Q .normal a w) : wpSteps P ops Q S [] a w := h
theorem steps_load {a : Act} {w : World} {o : Oper} {st : List (Oper × Kind)} (h : ∀ K : Act → World → Prop, (∀ a w, wpSteps P ops Q S st a w → K a w) → if Region.wanted o (yielded ops a.tmps) then ∃ v, (∀ w', S w' → (execOp a.eval o).run P w' = .ok (.value v) w') ∧ S w ∧ K (a.put o.dst v) w else K (a.put o.dst undef) w) :
    wpSteps P ops Q S ((o, .load) :: st) a w := by simp only [wpSteps]; exact h _ (fun _ _ h => h)
theorem steps_pure {a : Act} {w : World} {o : Oper} {st : List (Oper × Kind)} (h : ∀ K : Act → World → Prop, (∀ a w, wpSteps P ops Q S st a w → K a w) → if Region.wanted o (yielded ops a.tmps) then ∃ v, (∀ w', (execOp a.eval o).run P w' = .ok (.value v) w') ∧ K (a.put o.dst v) w else K (a.put o.dst undef) w) :
    wpSteps P ops Q S ((o, .pure) :: st) a w := by simp only [wpSteps]; exact h _ (fun _ _ h => h)
theorem steps_act {a : Act} {w : World} {o : Oper} {st : List (Oper × Kind)} (h : wpList P ops (fun e a' w' => match e with | .normal => S w' ∧ wpSteps P ops Q S st a' w' | e => Q e a' w') [o] a w) : wpSteps P ops Q S ((o, .act) :: st) a w := by simp only [wpSteps]; exact h
theorem steps_end {a : Act} {w : World} {o : Oper} {st : List (Oper × Kind)} (h : wpList P ops (fun e a' w' => match e with | .normal => wpSteps P ops Q S st a' w' | e => Q e a' w') [o] a w) : wpSteps P ops Q S ((o, .last) :: st) a w := by simp only [wpSteps]; exact h
end
end Go.Proofs.Ytoimeebildcofaa
