/- The walks of the reference's tests of ops. -/
import Derived.Test.YtoimeebildcofaaWRules
namespace Go.Proofs.Ytoimeebildcofaa
open Go.RowKit
def sizeB (n : Int) : Bool := n == 1 || n == 2 || n == 4
def Ins.bare (x : Ins) : Bool :=
  if inB x.op 1 11 then x.off == 0 && x.size == 0 && (decide (x.src < 0) || x.imm == 0)
  else if inB x.op 12 15 then x.size == 0 && (decide (x.src < 0) || x.imm == 0)
  else if x.op == 16 then x.dst == 0 && x.src == -1 && x.imm == 0 && x.size == 0
  else if x.op == 17 then decide (0 ≤ x.src) && x.imm == 0 && sizeB x.size
  else if x.op == 18 then (decide (x.src < 0) || x.imm == 0) && sizeB x.size
  else if x.op == 19 then x.dst == 0 && x.src == -1 && x.off == 0 && x.size == 0 && inB x.imm 1 6
  else if x.op == 20 then x.dst == 0 && x.src == -1 && x.off == 0 && x.imm == 0 && x.size == 0
  else false
def Ins.okS (x : Ins) : Bool := inB x.dst 0 10 && inB x.src (-1) 10 && inB x.off (-128) 127 && inB x.imm 0 4294967295 && x.bare
theorem l1Alu_calls (a : Int) (w : World) : Calls Try.prog 154 #[.int .i64 a] w fun e w' => e = .returned (.bool (inB a 1 11)) ∧ w' = w := by
  go_enter Try.func154, Try.ntmps154
  go_wp2_with (go_at_call 75; refine (l1In_calls _ _ _ _).mono ?_; rintro e w' ⟨rfl, hw'⟩; subst w')
  go_ret
  exact ⟨rfl, rfl⟩
theorem l1Jump_calls (a : Int) (w : World) : Calls Try.prog 155 #[.int .i64 a] w fun e w' => e = .returned (.bool (inB a 12 15)) ∧ w' = w := by
  go_enter Try.func155, Try.ntmps155
  go_wp2_with (go_at_call 75; refine (l1In_calls _ _ _ _).mono ?_; rintro e w' ⟨rfl, hw'⟩; subst w')
  go_ret
  exact ⟨rfl, rfl⟩
set_option maxRecDepth 100000 in
set_option maxHeartbeats 4000000 in
theorem l1Bare_calls (x : Ins) (w : World) :
    Calls Try.prog 159 #[.agg #[.int .i64 x.op, .int .i64 x.dst, .int .i64 x.src, .int .i64 x.off, .int .i64 x.imm, .int .i64 x.size]] w fun e w' => e = .returned (.bool x.bare) ∧ Below w.heap.size w w' := by
  obtain ⟨op, dst, src, off, imm, size⟩ := x
  simp only
  go_enter Try.func159, Try.ntmps159
  go_wp2_with (first
    | (go_at_call 154; refine (l1Alu_calls _ _).mono ?_; rintro e w' ⟨rfl, hw'⟩; subst w')
    | (go_at_call 155; refine (l1Jump_calls _ _).mono ?_; rintro e w' ⟨rfl, hw'⟩; subst w')
    | (go_at_call 75; refine (l1In_calls _ _ _ _).mono ?_; rintro e w' ⟨rfl, hw'⟩; subst w'))
  all_goals (go_ret; refine ⟨bool_of ?_, below_alloc' (Below.refl _ _) _⟩)
  all_goals first | (simp_all [Ins.bare, sizeB]; done) | (simp_all [Ins.bare, sizeB]; omega)
set_option maxRecDepth 100000 in
set_option maxHeartbeats 4000000 in
theorem l1InsOk_calls (x : Ins) (w : World) :
    Calls Try.prog 148 #[.agg #[.int .i64 x.op, .int .i64 x.dst, .int .i64 x.src, .int .i64 x.off, .int .i64 x.imm, .int .i64 x.size]] w fun e w' => e = .returned (.bool x.okS) ∧ Below w.heap.size w w' := by
  have hB := l1Bare_calls x
  obtain ⟨op, dst, src, off, imm, size⟩ := x
  simp only at hB ⊢
  generalize hb : Ins.bare ⟨op, dst, src, off, imm, size⟩ = b at *
  go_enter Try.func148, Try.ntmps148
  go_wp2_with (first
    | (go_at_call 159; refine (hB _).mono ?_; rintro e w' ⟨rfl, hbw⟩)
    | (go_at_call 75; refine (l1In_calls _ _ _ _).mono ?_; rintro e w' ⟨rfl, hw'⟩; subst w'))
  all_goals (go_ret; refine ⟨bool_of ?_, by first | exact below_alloc' (Below.refl _ _) _ | exact bnext (below_alloc' (Below.refl _ _) _) hbw⟩)
  all_goals simp_all [Ins.okS]
end Go.Proofs.Ytoimeebildcofaa
