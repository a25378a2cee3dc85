/- The walks of the reference's draws of programs, by roots. -/
import Derived.Test.YtoimeebildcofaaLxDraw1
import Derived.Test.YtoimeebildcofaaLxGet
namespace Go.Proofs.Ytoimeebildcofaa
open Go.RowKit
set_option linter.unusedSimpArgs false
set_option linter.unusedVariables false
set_option maxRecDepth 1000000
theorem tsl_Inss : tsl Try.prog 92 = some (143, .st [.one, .one, .one, .one, .one, .one] [.v (.int .i64 0), .v (.int .i64 0), .v (.int .i64 0), .v (.int .i64 0), .v (.int .i64 0), .v (.int .i64 0)]) := by kernel_rfl
theorem tk_Inss : tk Try.prog 92 = none := by kernel_rfl
abbrev Inss (n : Nat) : EV → Roots → Prop := fun x R' => x = .one (.hd 0) ∧ ∃ is : List Ins, is.length = n ∧ R' = [(0, .row shIns (is.map Ins.lv))]
def rdS (ws : List ByteArray) (is : List Ins) (i T nx : Nat) : St :=
  ⟨[(0, .one (.vec false .one (ws.map sv))), (3, .one (.hd T)), (4, .one (iv i))], [(T, .row shIns (is.map Ins.lv))], nx, 27, []⟩
theorem e_ins (is : List Ins) (x : Ins) : is.map Ins.lv ++ [.st [Sh.one, Sh.one, Sh.one, Sh.one, Sh.one, Sh.one] [.v (.int .i64 x.op), .v (.int .i64 x.dst), .v (.int .i64 x.src), .v (.int .i64 x.off), .v (.int .i64 x.imm), .v (.int .i64 x.size)]] = (is ++ [x]).map Ins.lv := by simp [Ins.lv, iv]
theorem low_ins (is : List Ins) : lowL (is.map Ins.lv) = true := lowL_map Ins.lv is (fun _ => rfl)
theorem free_ins (is : List Ins) : freeL (is.map Ins.lv) = true := freeL_map Ins.lv is (fun _ => rfl)
theorem l20Read_fn (ws : List ByteArray) (h1 : ws.length ≤ 1000) (hs : ∀ x ∈ ws, x.size ≤ 1000000) : Fn Try.prog 125 [.vec false .one (ws.map sv)] [] 1 (Inss ws.length) NoP := by
  refine fn_of true Try.func125 rfl (by kernel_rfl) (Nat.le_of_ble_eq_true rfl) ?_
  simp only [↓LXbr, LXbr, LXn', Nat.reduceLT, Nat.reduceLeDiff, Nat.reduceEqDiff, Int.reduceLT, Int.reduceLE, Int.reduceGT, Int.reduceGE, Nat.reduceGT, Int.reduceEq, Int.reduceBEq, Int.reduceBNe, ↓LXp, LXa, LXm, ↓reduceIte, reduceCtorEq, Nat.reduceAdd, Nat.reduceSub, Nat.reduceMul, Int.reduceAdd, Int.reduceSub, Int.reduceMul, Int.reduceNeg, Int.reduceToNat, Int.cast_ofNat_Int, forall_const, List.reduceReplicate, wi64, wu64, Int.natCast_nonneg, Int.toNat_natCast, Nat.add_eq_left, Nat.left_eq_add, Nat.add_left_cancel_iff, Nat.add_assoc, iv, sv, bv, LXfx, Ins.lv, T_Ins, tz_Ins, tsl_Inss, tk_int, U_int, T_int, T_string, tsl_ints, tsl_strs', List.length_map, List.getElem?_map, Try.ntmps125, Try.results125]
  refine cw_loopc (fun n s => ∃ (i : Nat) (is : List Ins) (T nx : Nat), i + n = ws.length ∧ is.length = i ∧ T < nx ∧ s = rdS ws is i T nx) ws.length ?_ ?_
  · exact ⟨rdS ws [] 0 0 1, Canon.drop ⟨rfl, rfl, rfl, trivial⟩ (by (repeat (first | exact List.nil_sublist _ | apply List.Sublist.cons_cons | apply List.Sublist.cons))), 0, [], 0, 1, by omega, rfl, by decide, rfl⟩
  · rintro n s ⟨i, is, T, nx, hi, hil, hT, rfl⟩
    have f0 := elder hT
    unfold rdS
    cases n with
    | zero =>
      have hlt : ((i : Int) < (ws.length : Int)) = False := by simp; omega
      simp only [↓LXbr, LXbr, LXn', Nat.reduceLT, Nat.reduceLeDiff, Nat.reduceEqDiff, Int.reduceLT, Int.reduceLE, Int.reduceGT, Int.reduceGE, Nat.reduceGT, Int.reduceEq, Int.reduceBEq, Int.reduceBNe, ↓LXp, LXa, LXm, ↓reduceIte, reduceCtorEq, Nat.reduceAdd, Nat.reduceSub, Nat.reduceMul, Int.reduceAdd, Int.reduceSub, Int.reduceMul, Int.reduceNeg, Int.reduceToNat, Int.cast_ofNat_Int, forall_const, List.reduceReplicate, wi64, wu64, Int.natCast_nonneg, Int.toNat_natCast, Nat.add_eq_left, Nat.left_eq_add, Nat.add_left_cancel_iff, Nat.add_assoc, iv, sv, bv, LXfx, Ins.lv, T_Ins, tz_Ins, tsl_Inss, tk_int, U_int, T_int, T_string, tsl_ints, tsl_strs', List.length_map, List.getElem?_map, Try.ntmps125, Try.results125, hlt, f0]
      exact ret_row (by rfl) (by simp only [LXs, ↓reduceIte]) (low_ins is) ⟨rfl, is, by omega, rfl⟩
    | succ n =>
      have hlt : ((i : Int) < (ws.length : Int)) = True := by simp; omega
      obtain ⟨b, hb⟩ : ∃ b, ws[i]? = some b := ⟨_, List.getElem?_eq_getElem (by omega)⟩
      have hw : IntKind.i64.wrap ((i : Int) + 1) = ((i + 1 : Nat) : Int) := by simp [IntKind.wrap, IntKind.bits, IntKind.signed]; omega
      simp only [↓LXbr, LXbr, LXn', Nat.reduceLT, Nat.reduceLeDiff, Nat.reduceEqDiff, Int.reduceLT, Int.reduceLE, Int.reduceGT, Int.reduceGE, Nat.reduceGT, Int.reduceEq, Int.reduceBEq, Int.reduceBNe, ↓LXp, LXa, LXm, ↓reduceIte, reduceCtorEq, Nat.reduceAdd, Nat.reduceSub, Nat.reduceMul, Int.reduceAdd, Int.reduceSub, Int.reduceMul, Int.reduceNeg, Int.reduceToNat, Int.cast_ofNat_Int, forall_const, List.reduceReplicate, wi64, wu64, Int.natCast_nonneg, Int.toNat_natCast, Nat.add_eq_left, Nat.left_eq_add, Nat.add_left_cancel_iff, Nat.add_assoc, iv, sv, bv, LXfx, Ins.lv, T_Ins, tz_Ins, tsl_Inss, tk_int, U_int, T_int, T_string, tsl_ints, tsl_strs', List.length_map, List.getElem?_map, Try.ntmps125, Try.results125, hlt, f0, hb]
      refine callTo_fs (LineGet_pfs b (hs b (List.mem_of_getElem? hb))) (by first | rfl | (simp +decide only [LXr, LXs, ↓reduceIte, Option.bind_some, iv, sv, tv, LXfx, oldIv, sv_old, LXy] <;> rfl) | (simp +decide only [LXr, and_true, true_and, iv, bv]; done) | (simp +decide only [lowL, LV.low, freeL, LV.free, Bool.and_self, iv, bv, iv, sv, tv, lowIv, sv_low]; done)) (by first | rfl | (simp +decide only [LXr, LXs, ↓reduceIte, Option.bind_some, iv, sv, tv, LXfx, oldIv, sv_old, LXy] <;> rfl) | (simp +decide only [LXr, and_true, true_and, iv, bv]; done) | (simp +decide only [lowL, LV.low, freeL, LV.free, Bool.and_self, iv, bv, iv, sv, tv, lowIv, sv_low]; done)) ?_
      rintro _ ⟨x, ok, rfl⟩
      refine ⟨rfl, ?_⟩
      simp only [↓LXbr, LXbr, LXn', Nat.reduceLT, Nat.reduceLeDiff, Nat.reduceEqDiff, Int.reduceLT, Int.reduceLE, Int.reduceGT, Int.reduceGE, Nat.reduceGT, Int.reduceEq, Int.reduceBEq, Int.reduceBNe, ↓LXp, LXa, LXm, ↓reduceIte, reduceCtorEq, Nat.reduceAdd, Nat.reduceSub, Nat.reduceMul, Int.reduceAdd, Int.reduceSub, Int.reduceMul, Int.reduceNeg, Int.reduceToNat, Int.cast_ofNat_Int, forall_const, List.reduceReplicate, wi64, wu64, Int.natCast_nonneg, Int.toNat_natCast, Nat.add_eq_left, Nat.left_eq_add, Nat.add_left_cancel_iff, Nat.add_assoc, iv, sv, bv, LXfx, Ins.lv, T_Ins, tz_Ins, tsl_Inss, tk_int, U_int, T_int, T_string, tsl_ints, tsl_strs', List.length_map, List.getElem?_map, Try.ntmps125, Try.results125, f0]
      trace_state
      refine ⟨by omega, n, by omega, rdS ws (is ++ [x]) (i + 1) (nx + 2) (nx + 3), ?_, i + 1, is ++ [x], nx + 2, nx + 3, by omega, by simp; omega, by omega, rfl⟩
      rw [hw, e_ins is x]
      exact Canon.drop ⟨rfl, rfl, rfl, trivial⟩ (by (repeat (first | exact List.nil_sublist _ | apply List.Sublist.cons_cons | apply List.Sublist.cons)))
end Go.Proofs.Ytoimeebildcofaa
