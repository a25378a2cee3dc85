/- A region that draws its order, where nothing is read ahead: each operation in its turn. No condition. -/
import Derived.Test.YtoimeebildcofaaLxAll2
namespace Go.Proofs.Ytoimeebildcofaa
open Go.RowKit Go.Proofs.YtoimeebildcofaaW.PrintLast
/-- Each operation as one of the last. -/
def Plan.free {α : Type} : Plan α → Plan α
  | .done => .done
  | .one x .act p => .one x .last p.free
  | .one x k p => .one x k p.free
  | .both p q => .both p.free q.free
theorem free_done {α : Type} : (Plan.done : Plan α).free = .done := rfl
theorem free_act {α : Type} (x : α) (p : Plan α) : (Plan.one x .act p).free = .one x .last p.free := rfl
theorem free_last {α : Type} (x : α) (p : Plan α) : (Plan.one x .last p).free = .one x .last p.free := rfl
theorem free_pure {α : Type} (x : α) (p : Plan α) : (Plan.one x .pure p).free = .one x .pure p.free := rfl
theorem free_both {α : Type} (p q : Plan α) : (Plan.both p q).free = .both p.free q.free := rfl
section
variable {P : Program} {ops : Array Oper} {KK : St → Prop} {KP : List PanicEntry → St → Prop} {Q : Exit → Act → World → Prop}
theorem vFree_sound (c : Ctx) (hN : ∀ ρ s a w, Sat c ρ s a w → KK s → Q .normal a w) (hP : ∀ ρ s a w ch, Sat c ρ s a w → KP ch s → Q (.panic ch) a w) :
    ∀ (p : Plan Oper) (s : St) (ρ : Nat → Value) (a : Act) (w : World), vLast P ops.toList p.free s KK KP → Sat c ρ s a w → wpPlan P ops Q (fun _ => True) p a w
  | .done, s, ρ, a, w, h, hs => by simp only [Plan.free, vLast] at h; exact hN ρ s a w hs h
  | .one o .pure p, s, ρ, a, w, h, hs => by
    simp only [Plan.free, vLast] at h
    simp only [wpPlan]
    rcases vg_cases h hs with ⟨hw, hf, h⟩ | ⟨hw, hf, h⟩
    · rw [if_pos hw]
      obtain ⟨v, x, h1, h2, h3⟩ := vopP_does (md := False) h c ρ a w hs
      exact ⟨v, fun w' => h1 w' (fun e => e.elim), vFree_sound c hN hP p _ ρ _ w h3 (hs.put hf h2)⟩
    · rw [if_neg hw]
      exact vFree_sound c hN hP p _ ρ _ w h (hs.put hf (x := .un) (v := undef) rfl)
  | .one o .last p, s, ρ, a, w, h, hs => by
    simp only [Plan.free, vLast] at h
    simp only [wpPlan]
    exact vl_sound (Q := fun e a' w' => match e with | .normal => wpPlan P ops Q (fun _ => True) p a' w' | e => Q e a' w') c (fun ρ s a w h1 h2 => vFree_sound c hN hP p s ρ a w h2 h1) (fun ρ s a w ch h1 h2 => hP ρ s a w ch h1 h2) [o] s ρ a w h hs
  | .one o .act p, s, ρ, a, w, h, hs => by
    simp only [Plan.free, vLast] at h
    simp only [wpPlan]
    exact vl_sound (Q := fun e a' w' => match e with | .normal => True ∧ wpPlan P ops Q (fun _ => True) p a' w' | e => Q e a' w') c (fun ρ s a w h1 h2 => ⟨trivial, vFree_sound c hN hP p s ρ a w h2 h1⟩) (fun ρ s a w ch h1 h2 => hP ρ s a w ch h1 h2) [o] s ρ a w h hs
  | .one o .load p, s, ρ, a, w, h, hs => by simp only [Plan.free, vLast] at h
  | .both p q, s, ρ, a, w, h, hs => by
    simp only [Plan.free, vLast] at h
    exact ⟨vFree_sound c hN hP p s ρ a w h.1 hs, vFree_sound c hN hP q s ρ a w h.2 hs⟩
end
theorem cw_free {P : Program} {s : St} {Q : Exit → St → Prop} {id : Nat} {l : List Oper} (ds : List Nat) (p : Plan Nat) (hm : P.follows .mixedOrders = true) (hB : planOk l ds p = true) (h : vLast P l (p.pick l).free s (fun s' => Q .normal s') (fun ch s' => Q (.panic ch) s')) :
    CW P (.region id l.toArray true) Q s := by
  intro c ρ a w hs
  refine wp_region_plan (S := fun _ => True) ds p hm hB (fun ch a d v w hq => ?_) ?_
  · obtain ⟨ρ', s', h1, h2⟩ := hq
    refine ⟨ρ', s', ?_, h2⟩
    have h3 : Sat c ρ' { s' with env := [] } (Act.put a d v) w := h1
    exact ⟨h3.rs, fun t x hx => by simp [lk] at hx, by rw [← h3.size, act_put_size], h3.only, h3.mine, h3.old, h3.n0, by rw [← h3.defs, act_put_defers]⟩
  · exact vFree_sound (ops := l.toArray) c (fun ρ s a w h1 h2 => ⟨ρ, s, h1, h2⟩) (fun ρ s a w ch h1 h2 => ⟨ρ, s, h1.bare, h2⟩) _ s ρ a w.drew h hs.drew
end Go.Proofs.Ytoimeebildcofaa
