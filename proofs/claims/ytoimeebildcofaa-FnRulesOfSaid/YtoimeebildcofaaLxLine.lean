/- The walk of the reference's RulesPut, by roots. -/
import Derived.Test.YtoimeebildcofaaLxDec
import Derived.Test.YtoimeebildcofaaPutData
namespace Go.Proofs.Ytoimeebildcofaa
open Go.RowKit
set_option linter.unusedSimpArgs false
set_option linter.unusedVariables false
set_option maxRecDepth 100000
theorem tsl_strs : tsl Try.prog 23 = some (9, .v (.string ⟨#[]⟩)) := by kernel_rfl
theorem T_string : T Try.prog 9 = some .one := by kernel_rfl
theorem l1Words_fn : Fn Try.prog 152 [] [] 1 (fun x R' => x = .one (.hd 0) ∧ R' = [(0, .row .one (words.map tv))]) NoP := by
  refine fn_of true Try.func152 rfl (by kernel_rfl) (Nat.le_of_ble_eq_true rfl) ?_
  simp +decide only [↓LXp, LXa, LXm, ↓reduceIte, reduceCtorEq, Nat.reduceAdd, Nat.reduceSub, Nat.reduceMul, Int.reduceAdd, Int.reduceSub, Int.reduceMul, Int.reduceNeg, Int.reduceToNat, Int.cast_ofNat_Int, forall_const, List.reduceReplicate, wi64, wu64, iv, tv, bv, tk_int, U_int, T_int, T_string, tsl_strs, LXy, bo_ite, Try.ntmps152, Try.results152]
  exact ret_row rfl rfl rfl ⟨rfl, rfl⟩
theorem l1Dec_pf (n : Int) (h0 : 0 ≤ n) (hn : n ≤ 4294967295) : PF Try.prog 153 [iv n] (.one (tv (decI n))) := by
  obtain ⟨k, rfl⟩ := Int.eq_ofNat_of_zero_le h0
  exact l1Dec_nat k (by omega)
end Go.Proofs.Ytoimeebildcofaa
