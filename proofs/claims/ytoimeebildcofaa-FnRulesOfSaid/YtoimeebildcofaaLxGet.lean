/- The walk of the reference's LineGet: what comes of it is an op, and whether it is one. -/
import Derived.Test.YtoimeebildcofaaLxIns3
namespace Go.Proofs.Ytoimeebildcofaa
open Go.RowKit
set_option linter.unusedSimpArgs false
set_option linter.unusedVariables false
set_option maxRecDepth 1000000
theorem ret_line {s : St} {a b c d e f : Int} {t : Bool} (hds : s.ds = []) : RetTo 0 0 true (fun r R' => (∃ (x : Ins) (ok : Bool), r = .tup [.st [.one, .one, .one, .one, .one, .one] [.v (.int .i64 x.op), .v (.int .i64 x.dst), .v (.int .i64 x.src), .v (.int .i64 x.off), .v (.int .i64 x.imm), .v (.int .i64 x.size)], .v (.bool ok)]) ∧ R' = []) s
    [.st [.one, .one, .one, .one, .one, .one] [.v (.int .i64 a), .v (.int .i64 b), .v (.int .i64 c), .v (.int .i64 d), .v (.int .i64 e), .v (.int .i64 f)], .v (.bool t)] :=
  ret_fs (rs := [.st [.one, .one, .one, .one, .one, .one] [.v (.int .i64 a), .v (.int .i64 b), .v (.int .i64 c), .v (.int .i64 d), .v (.int .i64 e), .v (.int .i64 f)], .v (.bool t)]) hds (by simp only [LXr]) rfl ⟨⟨a, b, c, d, e, f⟩, t, rfl⟩
theorem LineGet_pfs (b : ByteArray) (hb : b.size ≤ 1000000) : PFs Try.prog 140 [sv b] (fun y => ∃ (x : Ins) (ok : Bool), y = .tup [x.lv, bv ok]) := by
  refine fn_of true Try.func140 rfl (by kernel_rfl) (Nat.le_of_ble_eq_true rfl) ?_
  simp only [↓LXbr, LXbr, LXn', Nat.reduceLT, Nat.reduceLeDiff, Nat.reduceEqDiff, Int.reduceLT, Int.reduceLE, Int.reduceGT, Int.reduceGE, Nat.reduceGT, Int.reduceEq, Int.reduceBEq, Int.reduceBNe, ↓LXp, LXa, LXm, ↓reduceIte, reduceCtorEq, Nat.reduceAdd, Nat.reduceSub, Nat.reduceMul, Int.reduceAdd, Int.reduceSub, Int.reduceMul, Int.reduceNeg, Int.reduceToNat, Int.cast_ofNat_Int, forall_const, List.reduceReplicate, wi64, wu64, iv, tv, sv, bv, Ins.lv, T_Ins, tz_Ins, tk_int, U_int, T_int, T_string, U_string, tsl_strs', List.length_map, Try.ntmps140, Try.results140]
  refine callTo_rows (l1Cut_fn b 32 5 hb (by decide)) (by first | rfl | (simp +decide only [LXr, LXs, ↓reduceIte, Option.bind_some, iv, tv, bv, sv, sv_old, LXy] <;> rfl) | (simp +decide only [LXr, and_true, true_and, iv, bv]; done) | (simp +decide only [lowL, LV.low, freeL, LV.free, Bool.and_self, iv, bv, iv, tv, bv, sv, sv_low, Ins.lv]; done)) (by first | rfl | (simp +decide only [LXr, LXs, ↓reduceIte, Option.bind_some, iv, tv, bv, sv, sv_old, LXy] <;> rfl) | (simp +decide only [LXr, and_true, true_and, iv, bv]; done) | (simp +decide only [lowL, LV.low, freeL, LV.free, Bool.and_self, iv, bv, iv, tv, bv, sv, sv_low, Ins.lv]; done)) sv_free ?_
  rintro ws ⟨w0, w1, w2⟩
  simp only [↓LXbr, LXbr, LXn', Nat.reduceLT, Nat.reduceLeDiff, Nat.reduceEqDiff, Int.reduceLT, Int.reduceLE, Int.reduceGT, Int.reduceGE, Nat.reduceGT, Int.reduceEq, Int.reduceBEq, Int.reduceBNe, ↓LXp, LXa, LXm, ↓reduceIte, reduceCtorEq, Nat.reduceAdd, Nat.reduceSub, Nat.reduceMul, Int.reduceAdd, Int.reduceSub, Int.reduceMul, Int.reduceNeg, Int.reduceToNat, Int.cast_ofNat_Int, forall_const, List.reduceReplicate, wi64, wu64, iv, tv, sv, bv, Ins.lv, T_Ins, tz_Ins, tk_int, U_int, T_int, T_string, U_string, tsl_strs', List.length_map, Try.ntmps140, Try.results140]
  refine callTo_fs (l1Read_pfs ws w0 w1 (fun x hx => Nat.le_trans (w2 x hx) hb)) (by first | rfl | (simp +decide only [LXr, LXs, ↓reduceIte, Option.bind_some, iv, tv, bv, sv, sv_old, LXy] <;> rfl) | (simp +decide only [LXr, and_true, true_and, iv, bv]; done) | (simp +decide only [lowL, LV.low, freeL, LV.free, Bool.and_self, iv, bv, iv, tv, bv, sv, sv_low, Ins.lv]; done)) (by first | rfl | (simp +decide only [LXr, LXs, ↓reduceIte, Option.bind_some, iv, tv, bv, sv, sv_old, LXy] <;> rfl) | (simp +decide only [LXr, and_true, true_and, iv, bv]; done) | (simp +decide only [lowL, LV.low, freeL, LV.free, Bool.and_self, iv, bv, iv, tv, bv, sv, sv_low, Ins.lv]; done)) ?_
  rintro _ ⟨x, rfl⟩
  refine ⟨rfl, ?_⟩
  simp only [↓LXbr, LXbr, LXn', Nat.reduceLT, Nat.reduceLeDiff, Nat.reduceEqDiff, Int.reduceLT, Int.reduceLE, Int.reduceGT, Int.reduceGE, Nat.reduceGT, Int.reduceEq, Int.reduceBEq, Int.reduceBNe, ↓LXp, LXa, LXm, ↓reduceIte, reduceCtorEq, Nat.reduceAdd, Nat.reduceSub, Nat.reduceMul, Int.reduceAdd, Int.reduceSub, Int.reduceMul, Int.reduceNeg, Int.reduceToNat, Int.cast_ofNat_Int, forall_const, List.reduceReplicate, wi64, wu64, iv, tv, sv, bv, Ins.lv, T_Ins, tz_Ins, tk_int, U_int, T_int, T_string, U_string, tsl_strs', List.length_map, Try.ntmps140, Try.results140]
  refine callTo_f (l1InsOk_pf x) (by first | rfl | (simp +decide only [LXr, LXs, ↓reduceIte, Option.bind_some, iv, tv, bv, sv, sv_old, LXy] <;> rfl) | (simp +decide only [LXr, and_true, true_and, iv, bv]; done) | (simp +decide only [lowL, LV.low, freeL, LV.free, Bool.and_self, iv, bv, iv, tv, bv, sv, sv_low, Ins.lv]; done)) (by first | rfl | (simp +decide only [LXr, LXs, ↓reduceIte, Option.bind_some, iv, tv, bv, sv, sv_old, LXy] <;> rfl) | (simp +decide only [LXr, and_true, true_and, iv, bv]; done) | (simp +decide only [lowL, LV.low, freeL, LV.free, Bool.and_self, iv, bv, iv, tv, bv, sv, sv_low, Ins.lv]; done)) (by first | rfl | (simp +decide only [LXr, LXs, ↓reduceIte, Option.bind_some, iv, tv, bv, sv, sv_old, LXy] <;> rfl) | (simp +decide only [LXr, and_true, true_and, iv, bv]; done) | (simp +decide only [lowL, LV.low, freeL, LV.free, Bool.and_self, iv, bv, iv, tv, bv, sv, sv_low, Ins.lv]; done)) ?_
  cases hok : x.okS with
  | false =>
    simp only [↓LXbr, LXbr, LXn', Nat.reduceLT, Nat.reduceLeDiff, Nat.reduceEqDiff, Int.reduceLT, Int.reduceLE, Int.reduceGT, Int.reduceGE, Nat.reduceGT, Int.reduceEq, Int.reduceBEq, Int.reduceBNe, ↓LXp, LXa, LXm, ↓reduceIte, reduceCtorEq, Nat.reduceAdd, Nat.reduceSub, Nat.reduceMul, Int.reduceAdd, Int.reduceSub, Int.reduceMul, Int.reduceNeg, Int.reduceToNat, Int.cast_ofNat_Int, forall_const, List.reduceReplicate, wi64, wu64, iv, tv, sv, bv, Ins.lv, T_Ins, tz_Ins, tk_int, U_int, T_int, T_string, U_string, tsl_strs', List.length_map, Try.ntmps140, Try.results140, Bool.not_false]
    exact ret_line rfl
  | true =>
    simp only [↓LXbr, LXbr, LXn', Nat.reduceLT, Nat.reduceLeDiff, Nat.reduceEqDiff, Int.reduceLT, Int.reduceLE, Int.reduceGT, Int.reduceGE, Nat.reduceGT, Int.reduceEq, Int.reduceBEq, Int.reduceBNe, ↓LXp, LXa, LXm, ↓reduceIte, reduceCtorEq, Nat.reduceAdd, Nat.reduceSub, Nat.reduceMul, Int.reduceAdd, Int.reduceSub, Int.reduceMul, Int.reduceNeg, Int.reduceToNat, Int.cast_ofNat_Int, forall_const, List.reduceReplicate, wi64, wu64, iv, tv, sv, bv, Ins.lv, T_Ins, tz_Ins, tk_int, U_int, T_int, T_string, U_string, tsl_strs', List.length_map, Try.ntmps140, Try.results140, Bool.not_true]
    refine callTo_f (l1Line_pf x hok) (by first | rfl | (simp +decide only [LXr, LXs, ↓reduceIte, Option.bind_some, iv, tv, bv, sv, sv_old, LXy] <;> rfl) | (simp +decide only [LXr, and_true, true_and, iv, bv]; done) | (simp +decide only [lowL, LV.low, freeL, LV.free, Bool.and_self, iv, bv, iv, tv, bv, sv, sv_low, Ins.lv]; done)) (by first | rfl | (simp +decide only [LXr, LXs, ↓reduceIte, Option.bind_some, iv, tv, bv, sv, sv_old, LXy] <;> rfl) | (simp +decide only [LXr, and_true, true_and, iv, bv]; done) | (simp +decide only [lowL, LV.low, freeL, LV.free, Bool.and_self, iv, bv, iv, tv, bv, sv, sv_low, Ins.lv]; done)) (by first | rfl | (simp +decide only [LXr, LXs, ↓reduceIte, Option.bind_some, iv, tv, bv, sv, sv_old, LXy] <;> rfl) | (simp +decide only [LXr, and_true, true_and, iv, bv]; done) | (simp +decide only [lowL, LV.low, freeL, LV.free, Bool.and_self, iv, bv, iv, tv, bv, sv, sv_low, Ins.lv]; done)) ?_
    simp only [↓LXbr, LXbr, LXn', Nat.reduceLT, Nat.reduceLeDiff, Nat.reduceEqDiff, Int.reduceLT, Int.reduceLE, Int.reduceGT, Int.reduceGE, Nat.reduceGT, Int.reduceEq, Int.reduceBEq, Int.reduceBNe, ↓LXp, LXa, LXm, ↓reduceIte, reduceCtorEq, Nat.reduceAdd, Nat.reduceSub, Nat.reduceMul, Int.reduceAdd, Int.reduceSub, Int.reduceMul, Int.reduceNeg, Int.reduceToNat, Int.cast_ofNat_Int, forall_const, List.reduceReplicate, wi64, wu64, iv, tv, sv, bv, Ins.lv, T_Ins, tz_Ins, tk_int, U_int, T_int, T_string, U_string, tsl_strs', List.length_map, Try.ntmps140, Try.results140]
    refine br_intro (fun h1 => ?_) (fun h1 => ?_)
    all_goals
      simp only [↓LXbr, LXbr, LXn', Nat.reduceLT, Nat.reduceLeDiff, Nat.reduceEqDiff, Int.reduceLT, Int.reduceLE, Int.reduceGT, Int.reduceGE, Nat.reduceGT, Int.reduceEq, Int.reduceBEq, Int.reduceBNe, ↓LXp, LXa, LXm, ↓reduceIte, reduceCtorEq, Nat.reduceAdd, Nat.reduceSub, Nat.reduceMul, Int.reduceAdd, Int.reduceSub, Int.reduceMul, Int.reduceNeg, Int.reduceToNat, Int.cast_ofNat_Int, forall_const, List.reduceReplicate, wi64, wu64, iv, tv, sv, bv, Ins.lv, T_Ins, tz_Ins, tk_int, U_int, T_int, T_string, U_string, tsl_strs', List.length_map, Try.ntmps140, Try.results140, h1]
      exact ret_line rfl
theorem LineGet_calls (b : ByteArray) (hb : b.size ≤ 1000000) (w : World) : Calls Try.prog 140 #[.string b] w fun e w' => (∃ (x : Ins) (ok : Bool), e = .returned (.tuple #[.agg #[.int .i64 x.op, .int .i64 x.dst, .int .i64 x.src, .int .i64 x.off, .int .i64 x.imm, .int .i64 x.size], .bool ok])) ∧ Below w.heap.size w w' := by
  refine ((LineGet_pfs b hb).2 (fun _ => undef) w [.string b] ⟨(fun y hy => by cases hy), .nil, .nil⟩ (plain_vals rfl)).mono fun e w' he => ?_
  cases e with
  | returned v' =>
    obtain ⟨ρ', r, R', ⟨⟨x, ok, rfl⟩, rfl⟩, hG, vs, hv, rfl⟩ := he
    have hvs : vs = [.agg x.cellsL.toArray, .bool ok] := by
      cases hv with
      | cons h1 h2 =>
        cases h2 with
        | cons h3 h4 =>
          cases h4
          rw [Val.flat flatIns h1, Val.inv h3]
          rfl
    rw [hvs]
    exact ⟨⟨x, ok, rfl⟩, hG.only.os, hG.only.tape, hG.only.output, hG.only.size, fun k hk => hG.only.block k hk (fun ⟨y, hy, _⟩ => by cases hy)⟩
  | panicked ch => obtain ⟨_, _, hq, _⟩ := he; exact hq.elim
  | outgrown => exact he.elim
end Go.Proofs.Ytoimeebildcofaa
