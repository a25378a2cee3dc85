/- The walk of the program's RangeHolds, of an op that asks and two bytes. -/
import Derived.Test.YtoimeebildcofaaWRulesOf
namespace Go.Proofs.Ytoimeebildcofaa
open Go.RowKit
set_option maxRecDepth 100000 in
theorem rangeHolds_calls (op a b : Int) (h0 : 12 ≤ op) (h1 : op ≤ 15) (a0 : 0 ≤ a) (a1 : a ≤ 255) (b0 : 0 ≤ b) (b1 : b ≤ 255) (w : World) : Calls Try.prog 29 #[.int .i64 op, .int .i64 a, .int .i64 b] w fun e w' => e = .returned (.bool (holdsB op a b)) ∧ w' = w := by
  go_enter Try.func29, Try.ntmps29
  go_wp2
  all_goals go_ret
  all_goals refine ⟨bool_of ?_, rfl⟩
  all_goals simp_all [holdsB]
end Go.Proofs.Ytoimeebildcofaa
