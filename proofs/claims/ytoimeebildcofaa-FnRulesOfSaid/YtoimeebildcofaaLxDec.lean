/- The walk of the reference's writing of numbers, by roots. -/
import Derived.Test.YtoimeebildcofaaLxBase
import Derived.Lib.ItoaNum
namespace Go.Proofs.Ytoimeebildcofaa
open Go.RowKit
set_option linter.unusedSimpArgs false
set_option linter.unusedVariables false
set_option maxRecDepth 100000
theorem tk_u8 : tk Try.prog 5 = some .u8 := by kernel_rfl
theorem tsl_bytes : tsl Try.prog 34 = some (5, .v (.int .u8 0)) := by kernel_rfl
theorem isBytes_str : isBytes Try.prog 34 9 = true := by kernel_rfl
theorem l1Dec_nat (n : Nat) (hn : n ≤ 9223372036854775807) : PF Try.prog 153 [iv n] (.one (tv (Lib.decDigits n))) := by
  induction n using Nat.strongRecOn with
  | ind n ih =>
    have c1 : ((n : Int) < -9223372036854775807) = False := by simp <;> omega
    have c2 : ((n : Int) < 0) = False := by simp <;> omega
    refine fn_of true Try.func153 rfl (by kernel_rfl) (Nat.le_of_ble_eq_true rfl) ?_
    by_cases h : n < 10
    · have c3 : ((n : Int) < 10) = True := by simp <;> omega
      have w1 : IntKind.i64.wrap (48 + (n : Int)) = ((48 + n : Nat) : Int) := by simp [IntKind.wrap, IntKind.bits, IntKind.signed]; omega
      have w2 : IntKind.u8.wrap ((48 + n : Nat) : Int) = ((48 + n : Nat) : Int) := by simp [IntKind.wrap, IntKind.bits, IntKind.signed]; omega
      have e1 : Lib.decDigits n = [UInt8.ofNat (48 + n)] := by rw [Lib.decDigits, dif_pos h]
      rw [e1]
      simp +decide only [↓LXp, LXa, LXm, ↓reduceIte, reduceCtorEq, Nat.reduceAdd, Nat.reduceSub, Nat.reduceMul, Int.reduceAdd, Int.reduceSub, Int.reduceMul, Int.reduceNeg, Int.reduceToNat, Int.cast_ofNat_Int, forall_const, List.reduceReplicate, wi64, wu64, iv, tv, tk_int, tk_u8, U_int, tsl_bytes, isBytes_str, LXy, bo_ite, ex_byte1, str_one, Try.ntmps153, Try.results153, c1, c2, c3, w1, w2]
      exact ret_f rfl (by first | rfl | (simp +decide only [LXr, LXs, ↓reduceIte, Option.bind_some, iv, tv] <;> rfl) | (simp +decide only [LXr, and_true, true_and, iv, bv]; done) | (simp +decide only [lowL, LV.low, freeL, LV.free, Bool.and_self, iv, bv, iv, tv]; done)) (by first | rfl | (simp +decide only [LXr, LXs, ↓reduceIte, Option.bind_some, iv, tv] <;> rfl) | (simp +decide only [LXr, and_true, true_and, iv, bv]; done) | (simp +decide only [lowL, LV.low, freeL, LV.free, Bool.and_self, iv, bv, iv, tv]; done)) (by first | rfl | (simp +decide only [LXr, LXs, ↓reduceIte, Option.bind_some, iv, tv] <;> rfl) | (simp +decide only [LXr, and_true, true_and, iv, bv]; done) | (simp +decide only [lowL, LV.low, freeL, LV.free, Bool.and_self, iv, bv, iv, tv]; done))
    · have c3 : ((n : Int) < 10) = False := by simp <;> omega
      have d1 : (n : Int).tdiv 10 = ((n / 10 : Nat) : Int) := by rw [Int.tdiv_eq_ediv_of_nonneg (by omega)]; omega
      have d2 : (n : Int).tmod 10 = ((n % 10 : Nat) : Int) := by rw [Int.tmod_eq_emod_of_nonneg (by omega)]; omega
      have w0 : IntKind.i64.wrap ((n / 10 : Nat) : Int) = ((n / 10 : Nat) : Int) := by simp [IntKind.wrap, IntKind.bits, IntKind.signed]; omega
      have w1 : IntKind.i64.wrap (48 + ((n % 10 : Nat) : Int)) = ((48 + n % 10 : Nat) : Int) := by simp [IntKind.wrap, IntKind.bits, IntKind.signed]; omega
      have w2 : IntKind.u8.wrap ((48 + n % 10 : Nat) : Int) = ((48 + n % 10 : Nat) : Int) := by simp [IntKind.wrap, IntKind.bits, IntKind.signed]; omega
      have e1 : Lib.decDigits n = Lib.decDigits (n / 10) ++ [UInt8.ofNat (48 + n % 10)] := by rw [Lib.decDigits, dif_neg h]
      have hl : (Lib.decDigits (n / 10)).length ≤ 20 := dec_len 20 _ (by omega) (by omega)
      rw [e1]
      have hp := ih (n / 10) (by omega) (by omega)
      simp +decide only [↓LXp, LXa, LXm, ↓reduceIte, reduceCtorEq, Nat.reduceAdd, Nat.reduceSub, Nat.reduceMul, Int.reduceAdd, Int.reduceSub, Int.reduceMul, Int.reduceNeg, Int.reduceToNat, Int.cast_ofNat_Int, forall_const, List.reduceReplicate, wi64, wu64, iv, tv, tk_int, tk_u8, U_int, tsl_bytes, isBytes_str, LXy, bo_ite, ex_byte1, str_one, Try.ntmps153, Try.results153, c1, c2, c3]
      (refine cw_plan [] (.one 0 .pure (.one 1 .pure (.one 3 .pure (.one 4 .pure (.one 5 .pure (.one 6 .pure (.both (.one 2 .act (.one 7 .act (.one 8 .act (.one 9 .pure (.one 10 .pure .done))))) (.one 7 .act (.both (.one 2 .act (.one 8 .act (.one 9 .pure (.one 10 .pure .done)))) (.one 8 .act (.one 2 .act (.one 9 .pure (.one 10 .pure .done))))))))))))) (by kernel_rfl) (by kernel_rfl) ?_; simp only [LXe, Option.elim_some, List.getElem?_cons_zero, List.getElem?_cons_succ])
      simp +decide only [↓LXp, LXa, LXm, ↓reduceIte, reduceCtorEq, Nat.reduceAdd, Nat.reduceSub, Nat.reduceMul, Int.reduceAdd, Int.reduceSub, Int.reduceMul, Int.reduceNeg, Int.reduceToNat, Int.cast_ofNat_Int, forall_const, List.reduceReplicate, wi64, wu64, iv, tv, tk_int, tk_u8, U_int, tsl_bytes, isBytes_str, LXy, bo_ite, ex_byte1, str_one, Try.ntmps153, Try.results153, d1, d2, w0, w1, w2]
      repeat' (with_reducible apply And.intro)
      all_goals
        refine callP_f hp (by first | rfl | (simp +decide only [LXr, LXs, ↓reduceIte, Option.bind_some, iv, tv] <;> rfl) | (simp +decide only [LXr, and_true, true_and, iv, bv]; done) | (simp +decide only [lowL, LV.low, freeL, LV.free, Bool.and_self, iv, bv, iv, tv]; done)) (by first | rfl | (simp +decide only [LXr, LXs, ↓reduceIte, Option.bind_some, iv, tv] <;> rfl) | (simp +decide only [LXr, and_true, true_and, iv, bv]; done) | (simp +decide only [lowL, LV.low, freeL, LV.free, Bool.and_self, iv, bv, iv, tv]; done)) (by first | rfl | (simp +decide only [LXr, LXs, ↓reduceIte, Option.bind_some, iv, tv] <;> rfl) | (simp +decide only [LXr, and_true, true_and, iv, bv]; done) | (simp +decide only [lowL, LV.low, freeL, LV.free, Bool.and_self, iv, bv, iv, tv]; done)) ?_
        simp +decide only [↓LXp, LXa, LXm, ↓reduceIte, reduceCtorEq, Nat.reduceAdd, Nat.reduceSub, Nat.reduceMul, Int.reduceAdd, Int.reduceSub, Int.reduceMul, Int.reduceNeg, Int.reduceToNat, Int.cast_ofNat_Int, forall_const, List.reduceReplicate, wi64, wu64, iv, tv, tk_int, tk_u8, U_int, tsl_bytes, isBytes_str, LXy, bo_ite, ex_byte1, str_one, Try.ntmps153, Try.results153, d1, d2, w0, w1, w2]
        refine ⟨by omega, ?_⟩
        exact ret_f rfl (by first | rfl | (simp +decide only [LXr, LXs, ↓reduceIte, Option.bind_some, iv, tv] <;> rfl) | (simp +decide only [LXr, and_true, true_and, iv, bv]; done) | (simp +decide only [lowL, LV.low, freeL, LV.free, Bool.and_self, iv, bv, iv, tv]; done)) (by first | rfl | (simp +decide only [LXr, LXs, ↓reduceIte, Option.bind_some, iv, tv] <;> rfl) | (simp +decide only [LXr, and_true, true_and, iv, bv]; done) | (simp +decide only [lowL, LV.low, freeL, LV.free, Bool.and_self, iv, bv, iv, tv]; done)) (by first | rfl | (simp +decide only [LXr, LXs, ↓reduceIte, Option.bind_some, iv, tv] <;> rfl) | (simp +decide only [LXr, and_true, true_and, iv, bv]; done) | (simp +decide only [lowL, LV.low, freeL, LV.free, Bool.and_self, iv, bv, iv, tv]; done))
end Go.Proofs.Ytoimeebildcofaa
