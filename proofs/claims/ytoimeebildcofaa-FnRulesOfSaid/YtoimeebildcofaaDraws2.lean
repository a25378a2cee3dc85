/- The walks of the reference's draws of numbers and of what a new table is made of. -/
import Derived.Test.YtoimeebildcofaaDraws
namespace Go.Proofs.Ytoimeebildcofaa
open Go.RowKit
/-- One of a list that has just been laid. -/
theorem oneLit_calls (zs : List Int) (w : World) (g : Nat) (s : Value) (vs : List Int) (L : Blocks) (k : Nat) (R : Rd w g s vs L k) (hk : k ≤ 1099511627776) (h0 : 0 < zs.length) (h1 : zs.length ≤ 1000) :
    Calls Try.prog 86 #[.pointer (some ⟨g, 0, none⟩), .slice (some ⟨w.heap.size, 0, none⟩) zs.length zs.length] (w.alloc (.cells (zs.map (Value.int .i64)).toArray 3)) fun e w' => (∃ z : Int, e = .returned (.int .i64 z) ∧ z ∈ zs) ∧ Rd w' g s vs L (k + 1) ∧ Only (· = g) w w' := by
  obtain ⟨hrow, hrowH⟩ := row_new w (zs.map (Value.int .i64)).toArray 3 zs.length (zs.map intCell) (by simp) (by omega) (fun c hc => by obtain ⟨z, _, rfl⟩ := List.mem_map.1 hc; rfl) (by
    clear R hk h0 h1
    induction zs with
    | nil => rfl
    | cons z zs ih =>
      simp only [List.map_cons, List.flatten_cons] at ih ⊢
      rw [← ih]
      rfl)
  have hg := R.lt
  refine (one_calls _ zs _ _ g s vs L k (R.below ((Below.refl _ _).alloc (Nat.le_refl _) _)) hk hrow hrowH (fun p hp => by rw [List.mem_singleton.1 hp]; show w.heap.size ≠ g; omega) h0 h1).mono ?_
  rintro e w' ⟨h2, h3, h4⟩
  exact ⟨h2, h3, ((Only.refl _ w).alloc _).trans h4⟩
theorem below_only' {B : Nat} {S : Nat → Prop} {w w' : World} (ho : Only S w w') (hS : ∀ k, S k → B ≤ k) (hB : B ≤ w.heap.size := by omega) : Below B w w' :=
  ⟨ho.os, ho.tape, ho.output, ho.size, fun k hk => ho.block k (by omega) (fun h => by have := hS k h; omega)⟩
end Go.Proofs.Ytoimeebildcofaa
