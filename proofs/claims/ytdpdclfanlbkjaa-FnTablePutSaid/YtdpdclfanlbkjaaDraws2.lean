/- The walks of the reference's draws of numbers and of what a new table is made of. -/
import Derived.Test.YtdpdclfanlbkjaaDraws
namespace Go.Proofs.Ytdpdclfanlbkjaa
open Go.RowKit
/-- One of a list that has just been laid. -/
theorem oneLit_calls (zs : List Int) (w : World) (g : Nat) (s : Value) (vs : List Int) (L : Blocks) (k : Nat) (R : Rd w g s vs L k) (hk : k ≤ 1099511627776) (h0 : 0 < zs.length) (h1 : zs.length ≤ 1000) :
    Calls Try.prog 93 #[.pointer (some ⟨g, 0, none⟩), .slice (some ⟨w.heap.size, 0, none⟩) zs.length zs.length] (w.alloc (.cells (zs.map (Value.int .i64)).toArray 3)) fun e w' => (∃ z : Int, e = .returned (.int .i64 z) ∧ z ∈ zs) ∧ Rd w' g s vs L (k + 1) ∧ Only (· = g) w w' := by
  obtain ⟨hrow, hrowH⟩ := row_new w (zs.map (Value.int .i64)).toArray 3 zs.length (zs.map intCell) (by simp) (by omega) (fun c hc => by obtain ⟨z, _, rfl⟩ := List.mem_map.1 hc; rfl) (by
    clear R hk h0 h1
    induction zs with
    | nil => rfl
    | cons z zs ih =>
      simp only [List.map_cons, List.flatten_cons] at ih ⊢
      rw [← ih]
      rfl)
  have hg := R.lt
  refine (one_calls _ zs _ _ g s vs L k (R.below ((Below.refl _ _).alloc (Nat.le_refl _) _)) hk hrow hrowH (fun p hp => by rw [List.mem_singleton.1 hp]; show w.heap.size ≠ g; omega) h0 h1).mono ?_
  rintro e w' ⟨h2, h3, h4⟩
  exact ⟨h2, h3, ((Only.refl _ w).alloc _).trans h4⟩
theorem below_only' {B : Nat} {S : Nat → Prop} {w w' : World} (ho : Only S w w') (hS : ∀ k, S k → B ≤ k) (hB : B ≤ w.heap.size := by omega) : Below B w w' :=
  ⟨ho.os, ho.tape, ho.output, ho.size, fun k hk => ho.block k (by omega) (fun h => by have := hS k h; omega)⟩
set_option maxRecDepth 100000 in
theorem drawTableNew_calls (v : Value) (vs : List Int) (L : Blocks) (w : World) (h : Row 1 v (vs.map byteCell) L) (H : Holds w L) (hs : ∀ v, v ∈ vs → 0 ≤ v ∧ v ≤ 255) :
    Calls Try.prog 45 #[v] w fun e w' => (∃ a b c : Int, e = .returned (.tuple #[.int .i64 a, .int .i64 b, .int .i64 c]) ∧ c ≤ 9) ∧ Below w.heap.size w w' := by
  go_enter Try.func45, Try.ntmps45
  go_wp2_with fail
  refine (openRd_calls v vs L w h H hs).mono ?_
  rintro e w1 ⟨rfl, s, us, R, hb⟩
  go_wp2_with fail
  refine (oneLit_calls [1, 2, 1, 2, 0, 3] _ _ s us L 0 R (by omega) (by simp) (by simp)).mono ?_
  rintro e w2 ⟨⟨a, rfl, ha⟩, R, o2⟩
  go_wp2_with fail
  refine (oneLit_calls [1, 4, 8, 0, 9] _ _ s us L _ R (by omega) (by simp) (by simp)).mono ?_
  rintro e w3 ⟨⟨b, rfl, hb2⟩, R, o3⟩
  go_wp2_with fail
  refine (oneLit_calls [1, 4, 8, 0, 9] _ _ s us L _ R (by omega) (by simp) (by simp)).mono ?_
  rintro e w4 ⟨⟨c, rfl, hc⟩, R, o4⟩
  have hc9 : c ≤ 9 := by simp at hc; omega
  clear ha hb2 hc
  go_wp2
  go_ret3
  exact ⟨⟨a, b, c, rfl, hc9⟩, hb.trans (below_only' ((o2.trans o3).trans o4) (by intro k hk; omega) hb.size)⟩
end Go.Proofs.Ytdpdclfanlbkjaa
