/- The walks of the reference's reading of lines, by roots: what comes of them is of its kind. -/
import Derived.Test.YtoimeebildcofaaLxLine
import Derived.Test.YtoimeebildcofaaWIns
namespace Go.Proofs.Ytoimeebildcofaa
open Go.RowKit
set_option linter.unusedSimpArgs false
set_option linter.unusedVariables false
set_option maxRecDepth 100000
def sv (b : ByteArray) : LV := .v (.string b)
theorem flatSv : Flat sv strCell .one := ⟨fun _ => rfl, fun _ => rfl⟩
abbrev shIns : Sh := .st [.one, .one, .one, .one, .one, .one]
def Ins.cellsL (x : Ins) : List Value := [.int .i64 x.op, .int .i64 x.dst, .int .i64 x.src, .int .i64 x.off, .int .i64 x.imm, .int .i64 x.size]
def Ins.lv (x : Ins) : LV := .st [.one, .one, .one, .one, .one, .one] [iv x.op, iv x.dst, iv x.src, iv x.off, iv x.imm, iv x.size]
theorem flatIns : Flat Ins.lv Ins.cellsL shIns := ⟨fun _ => rfl, fun _ => rfl⟩
theorem T_Ins : T Try.prog 143 = some (.st [.one, .one, .one, .one, .one, .one]) := by kernel_rfl
theorem tz_Ins : tz Try.prog 143 = some (.st [.one, .one, .one, .one, .one, .one] [.v (.int .i64 0), .v (.int .i64 0), .v (.int .i64 0), .v (.int .i64 0), .v (.int .i64 0), .v (.int .i64 0)]) := by kernel_rfl
theorem U_u8 : (Try.prog.underlying 5).isSome = true := by kernel_rfl
theorem U_string : Try.prog.underlying 9 = some .string := by kernel_rfl
theorem l1InsOk_pf (x : Ins) : PF Try.prog 148 [x.lv] (.one (bv x.okS)) :=
  pf_of_calls (v := .bool x.okS) (by kernel_rfl) (vs := [.agg #[.int .i64 x.op, .int .i64 x.dst, .int .i64 x.src, .int .i64 x.off, .int .i64 x.imm, .int .i64 x.size]]) rfl (fun _ _ _ _ _ => ⟨_, .v rfl, rfl⟩) fun w => l1InsOk_calls x w
theorem l1Alu_pf (x : Int) : PF Try.prog 154 [iv x] (.one (bv (inB x 1 11))) :=
  pf_of_calls (v := .bool (inB x 1 11)) (by kernel_rfl) rfl (fun _ _ _ _ _ => ⟨_, .v rfl, rfl⟩) fun w => (l1Alu_calls x w).mono fun e w' ⟨h1, h2⟩ => ⟨h1, by rw [h2]; exact Below.refl _ _⟩
theorem l1Jump_pf (x : Int) : PF Try.prog 155 [iv x] (.one (bv (inB x 12 15))) :=
  pf_of_calls (v := .bool (inB x 12 15)) (by kernel_rfl) rfl (fun _ _ _ _ _ => ⟨_, .v rfl, rfl⟩) fun w => (l1Jump_calls x w).mono fun e w' ⟨h1, h2⟩ => ⟨h1, by rw [h2]; exact Below.refl _ _⟩
theorem LXn : (∀ (k : IntKind) (a : Int), unB .neg (.int k a) = some (.int k (k.wrap (0 - a)))) := fun _ _ => rfl
theorem byte_at {b : ByteArray} {i : Nat} (h : i < b.size) : ∃ u, b[i]? = some u := ⟨b[i], by simp [h]⟩
abbrev anyI (y : EV) : Prop := ∃ n : Int, y = .one (iv n)
theorem l1Num_pfs (b : ByteArray) (hb : b.size ≤ 1000000) : PFs Try.prog 161 [sv b] anyI := by
  refine fn_of true Try.func161 rfl (by kernel_rfl) (Nat.le_of_ble_eq_true rfl) ?_
  simp only [↓LXbr, LXbr, LXn', Nat.reduceLT, Nat.reduceLeDiff, Nat.reduceEqDiff, Int.reduceLT, Int.reduceLE, Int.reduceGT, Int.reduceGE, Nat.reduceGT, Int.reduceEq, Int.reduceBEq, Int.reduceBNe, ↓LXp, LXa, LXm, ↓reduceIte, reduceCtorEq, Nat.reduceAdd, Nat.reduceSub, Nat.reduceMul, Int.reduceAdd, Int.reduceSub, Int.reduceMul, Int.reduceNeg, Int.reduceToNat, Int.cast_ofNat_Int, forall_const, List.reduceReplicate, wi64, wu64, iv, bv, tk_int, U_int, T_int, U_u8, U_string, Int.toNat_natCast, Int.natCast_nonneg, Try.ntmps161, Try.results161, sv]
  refine cw_loopc (fun k s => ∃ (i : Nat) (n : Int), i + k = b.size ∧ s = ⟨[(0, .one (.v (.string b))), (3, .one (iv n)), (4, .one (iv i))], [], 0, 47, []⟩) b.size ?_ ?_
  · refine ⟨_, Canon.drop ?_ ?_, 0, 0, Nat.zero_add _, rfl⟩
    · simp only [↓LXbr, LXbr, LXn', Nat.reduceLT, Nat.reduceLeDiff, Nat.reduceEqDiff, Int.reduceLT, Int.reduceLE, Int.reduceGT, Int.reduceGE, Nat.reduceGT, Int.reduceEq, Int.reduceBEq, Int.reduceBNe, ↓LXp, LXa, LXm, ↓reduceIte, reduceCtorEq, Nat.reduceAdd, Nat.reduceSub, Nat.reduceMul, Int.reduceAdd, Int.reduceSub, Int.reduceMul, Int.reduceNeg, Int.reduceToNat, Int.cast_ofNat_Int, forall_const, List.reduceReplicate, wi64, wu64, iv, bv, tk_int, U_int, T_int, U_u8, U_string, Int.toNat_natCast, Int.natCast_nonneg, Try.ntmps161, Try.results161]
    · (repeat (first | exact List.nil_sublist _ | apply List.Sublist.cons_cons | apply List.Sublist.cons))
  · rintro k s ⟨i, n, hi, rfl⟩
    cases k with
    | zero =>
      have hlt : ((i : Int) < (b.size : Int)) = False := by simp; omega
      rcases Nat.eq_zero_or_pos b.size with h0 | h0
      · have e0 : ((b.size : Int) == 0) = true := by simp [h0]
        simp only [↓LXbr, LXbr, LXn', Nat.reduceLT, Nat.reduceLeDiff, Nat.reduceEqDiff, Int.reduceLT, Int.reduceLE, Int.reduceGT, Int.reduceGE, Nat.reduceGT, Int.reduceEq, Int.reduceBEq, Int.reduceBNe, ↓LXp, LXa, LXm, ↓reduceIte, reduceCtorEq, Nat.reduceAdd, Nat.reduceSub, Nat.reduceMul, Int.reduceAdd, Int.reduceSub, Int.reduceMul, Int.reduceNeg, Int.reduceToNat, Int.cast_ofNat_Int, forall_const, List.reduceReplicate, wi64, wu64, iv, bv, tk_int, U_int, T_int, U_u8, U_string, Int.toNat_natCast, Int.natCast_nonneg, Try.ntmps161, Try.results161, hlt, e0]
        exact ret_fs (rs := [.v (.int .i64 _)]) rfl rfl rfl ⟨_, rfl⟩
      · obtain ⟨u, hu⟩ := byte_at h0
        have e0 : ((b.size : Int) == 0) = false := by rw [beq_eq_false_iff_ne]; omega
        simp only [↓LXbr, LXbr, LXn', Nat.reduceLT, Nat.reduceLeDiff, Nat.reduceEqDiff, Int.reduceLT, Int.reduceLE, Int.reduceGT, Int.reduceGE, Nat.reduceGT, Int.reduceEq, Int.reduceBEq, Int.reduceBNe, ↓LXp, LXa, LXm, ↓reduceIte, reduceCtorEq, Nat.reduceAdd, Nat.reduceSub, Nat.reduceMul, Int.reduceAdd, Int.reduceSub, Int.reduceMul, Int.reduceNeg, Int.reduceToNat, Int.cast_ofNat_Int, forall_const, List.reduceReplicate, wi64, wu64, iv, bv, tk_int, U_int, T_int, U_u8, U_string, Int.toNat_natCast, Int.natCast_nonneg, Try.ntmps161, Try.results161, hlt, e0, hu]
        repeat' (first
          | with_reducible apply And.intro
          | (refine br_intro ?_ ?_ <;> (intro hbr; simp only [↓LXbr, LXbr, LXn', Nat.reduceLT, Nat.reduceLeDiff, Nat.reduceEqDiff, Int.reduceLT, Int.reduceLE, Int.reduceGT, Int.reduceGE, Nat.reduceGT, Int.reduceEq, Int.reduceBEq, Int.reduceBNe, ↓LXp, LXa, LXm, ↓reduceIte, reduceCtorEq, Nat.reduceAdd, Nat.reduceSub, Nat.reduceMul, Int.reduceAdd, Int.reduceSub, Int.reduceMul, Int.reduceNeg, Int.reduceToNat, Int.cast_ofNat_Int, forall_const, List.reduceReplicate, wi64, wu64, iv, bv, tk_int, U_int, T_int, U_u8, U_string, Int.toNat_natCast, Int.natCast_nonneg, Try.ntmps161, Try.results161, hlt, e0, hu, hbr]))
          | exact ret_fs (rs := [.v (.int .i64 _)]) rfl rfl rfl ⟨_, rfl⟩)
    | succ k =>
      have hlt : ((i : Int) < (b.size : Int)) = True := by simp; omega
      obtain ⟨u, hu⟩ := byte_at (b := b) (i := i) (by omega)
      have hw : IntKind.i64.wrap ((i : Int) + 1) = ((i + 1 : Nat) : Int) := by simp [IntKind.wrap, IntKind.bits, IntKind.signed]; omega
      simp only [↓LXbr, LXbr, LXn', Nat.reduceLT, Nat.reduceLeDiff, Nat.reduceEqDiff, Int.reduceLT, Int.reduceLE, Int.reduceGT, Int.reduceGE, Nat.reduceGT, Int.reduceEq, Int.reduceBEq, Int.reduceBNe, ↓LXp, LXa, LXm, ↓reduceIte, reduceCtorEq, Nat.reduceAdd, Nat.reduceSub, Nat.reduceMul, Int.reduceAdd, Int.reduceSub, Int.reduceMul, Int.reduceNeg, Int.reduceToNat, Int.cast_ofNat_Int, forall_const, List.reduceReplicate, wi64, wu64, iv, bv, tk_int, U_int, T_int, U_u8, U_string, Int.toNat_natCast, Int.natCast_nonneg, Try.ntmps161, Try.results161, hlt, hu, hw]
      repeat' (first
        | with_reducible apply And.intro
        | (refine br_intro ?_ ?_ <;> (intro hbr; simp only [↓LXbr, LXbr, LXn', Nat.reduceLT, Nat.reduceLeDiff, Nat.reduceEqDiff, Int.reduceLT, Int.reduceLE, Int.reduceGT, Int.reduceGE, Nat.reduceGT, Int.reduceEq, Int.reduceBEq, Int.reduceBNe, ↓LXp, LXa, LXm, ↓reduceIte, reduceCtorEq, Nat.reduceAdd, Nat.reduceSub, Nat.reduceMul, Int.reduceAdd, Int.reduceSub, Int.reduceMul, Int.reduceNeg, Int.reduceToNat, Int.cast_ofNat_Int, forall_const, List.reduceReplicate, wi64, wu64, iv, bv, tk_int, U_int, T_int, U_u8, U_string, Int.toNat_natCast, Int.natCast_nonneg, Try.ntmps161, Try.results161, hlt, hu, hw, hbr]))
        | exact ret_fs (rs := [.v (.int .i64 _)]) rfl rfl rfl ⟨_, rfl⟩
        | refine ⟨k, by omega, ⟨[(0, .one (.v (.string b))), (3, .one (iv _)), (4, .one (iv ((i + 1 : Nat) : Int)))], [], 0, 47, []⟩, Canon.drop ⟨rfl, rfl, rfl, trivial⟩ (by (repeat (first | exact List.nil_sublist _ | apply List.Sublist.cons_cons | apply List.Sublist.cons))), i + 1, _, by omega, rfl⟩)
theorem extract_size (b : ByteArray) (l h : Nat) : (b.extract l h).size ≤ b.size := by
  rw [ByteArray.size_extract]
  omega
theorem l1ReadReg_pfs (b : ByteArray) (hb : b.size ≤ 1000000) : PFs Try.prog 156 [sv b] (fun y => ∃ n m : Int, y = .tup [iv n, iv m]) := by
  have p1 := l1Num_pfs b hb
  have p2 := l1Num_pfs (b.extract 1 b.size) (Nat.le_trans (extract_size _ _ _) hb)
  have hu : 0 < b.size → ∃ u, b[0]? = some u := byte_at
  refine fn_of true Try.func156 rfl (by kernel_rfl) (Nat.le_of_ble_eq_true rfl) ?_
  simp only [↓LXbr, LXbr, LXn', Nat.reduceLT, Nat.reduceLeDiff, Nat.reduceEqDiff, Int.reduceLT, Int.reduceLE, Int.reduceGT, Int.reduceGE, Nat.reduceGT, Int.reduceEq, Int.reduceBEq, Int.reduceBNe, ↓LXp, LXa, LXm, ↓reduceIte, reduceCtorEq, Nat.reduceAdd, Nat.reduceSub, Nat.reduceMul, Int.reduceAdd, Int.reduceSub, Int.reduceMul, Int.reduceNeg, Int.reduceToNat, Int.cast_ofNat_Int, forall_const, List.reduceReplicate, wi64, wu64, iv, bv, tk_int, U_int, T_int, U_u8, U_string, Int.toNat_natCast, Int.natCast_nonneg, Try.ntmps156, Try.results156, sv]
  refine br_intro (fun h1 => ?_) (fun h1 => ?_)
  · have hs : 1 < b.size := by have := of_decide_eq_true h1; omega
    obtain ⟨u, hu⟩ := hu (by omega)
    have g1 : (1 ≤ (b.size : Int)) = True := by simp; omega
    simp only [↓LXbr, LXbr, LXn', Nat.reduceLT, Nat.reduceLeDiff, Nat.reduceEqDiff, Int.reduceLT, Int.reduceLE, Int.reduceGT, Int.reduceGE, Nat.reduceGT, Int.reduceEq, Int.reduceBEq, Int.reduceBNe, ↓LXp, LXa, LXm, ↓reduceIte, reduceCtorEq, Nat.reduceAdd, Nat.reduceSub, Nat.reduceMul, Int.reduceAdd, Int.reduceSub, Int.reduceMul, Int.reduceNeg, Int.reduceToNat, Int.cast_ofNat_Int, forall_const, List.reduceReplicate, wi64, wu64, iv, bv, tk_int, U_int, T_int, U_u8, U_string, Int.toNat_natCast, Int.natCast_nonneg, Try.ntmps156, Try.results156, h1, hu, sv]
    refine br_intro (fun h2 => ?_) (fun h2 => ?_)
    · simp only [↓LXbr, LXbr, LXn', Nat.reduceLT, Nat.reduceLeDiff, Nat.reduceEqDiff, Int.reduceLT, Int.reduceLE, Int.reduceGT, Int.reduceGE, Nat.reduceGT, Int.reduceEq, Int.reduceBEq, Int.reduceBNe, ↓LXp, LXa, LXm, ↓reduceIte, reduceCtorEq, Nat.reduceAdd, Nat.reduceSub, Nat.reduceMul, Int.reduceAdd, Int.reduceSub, Int.reduceMul, Int.reduceNeg, Int.reduceToNat, Int.cast_ofNat_Int, forall_const, List.reduceReplicate, wi64, wu64, iv, bv, tk_int, U_int, T_int, U_u8, U_string, Int.toNat_natCast, Int.natCast_nonneg, Try.ntmps156, Try.results156, h1, h2, hu, sv, g1, Int.le_refl]
      refine callTo_fs p2 (by first | rfl | (simp +decide only [LXr, LXs, ↓reduceIte, Option.bind_some, iv, tv, bv, sv, LXy] <;> rfl) | (simp +decide only [LXr, and_true, true_and, iv, bv]; done) | (simp +decide only [lowL, LV.low, freeL, LV.free, Bool.and_self, iv, bv, iv, tv, bv, sv]; done)) (by first | rfl | (simp +decide only [LXr, LXs, ↓reduceIte, Option.bind_some, iv, tv, bv, sv, LXy] <;> rfl) | (simp +decide only [LXr, and_true, true_and, iv, bv]; done) | (simp +decide only [lowL, LV.low, freeL, LV.free, Bool.and_self, iv, bv, iv, tv, bv, sv]; done)) ?_
      rintro _ ⟨n, rfl⟩
      refine ⟨rfl, ?_⟩
      simp only [↓LXbr, LXbr, LXn', Nat.reduceLT, Nat.reduceLeDiff, Nat.reduceEqDiff, Int.reduceLT, Int.reduceLE, Int.reduceGT, Int.reduceGE, Nat.reduceGT, Int.reduceEq, Int.reduceBEq, Int.reduceBNe, ↓LXp, LXa, LXm, ↓reduceIte, reduceCtorEq, Nat.reduceAdd, Nat.reduceSub, Nat.reduceMul, Int.reduceAdd, Int.reduceSub, Int.reduceMul, Int.reduceNeg, Int.reduceToNat, Int.cast_ofNat_Int, forall_const, List.reduceReplicate, wi64, wu64, iv, bv, tk_int, U_int, T_int, U_u8, U_string, Int.toNat_natCast, Int.natCast_nonneg, Try.ntmps156, Try.results156]
      refine br_intro (fun h3 => ?_) (fun h3 => ?_)
      all_goals
        simp only [↓LXbr, LXbr, LXn', Nat.reduceLT, Nat.reduceLeDiff, Nat.reduceEqDiff, Int.reduceLT, Int.reduceLE, Int.reduceGT, Int.reduceGE, Nat.reduceGT, Int.reduceEq, Int.reduceBEq, Int.reduceBNe, ↓LXp, LXa, LXm, ↓reduceIte, reduceCtorEq, Nat.reduceAdd, Nat.reduceSub, Nat.reduceMul, Int.reduceAdd, Int.reduceSub, Int.reduceMul, Int.reduceNeg, Int.reduceToNat, Int.cast_ofNat_Int, forall_const, List.reduceReplicate, wi64, wu64, iv, bv, tk_int, U_int, T_int, U_u8, U_string, Int.toNat_natCast, Int.natCast_nonneg, Try.ntmps156, Try.results156, h3]
        exact ret_fs (rs := [.v (.int .i64 _), .v (.int .i64 _)]) rfl rfl rfl ⟨_, _, rfl⟩
    · simp only [↓LXbr, LXbr, LXn', Nat.reduceLT, Nat.reduceLeDiff, Nat.reduceEqDiff, Int.reduceLT, Int.reduceLE, Int.reduceGT, Int.reduceGE, Nat.reduceGT, Int.reduceEq, Int.reduceBEq, Int.reduceBNe, ↓LXp, LXa, LXm, ↓reduceIte, reduceCtorEq, Nat.reduceAdd, Nat.reduceSub, Nat.reduceMul, Int.reduceAdd, Int.reduceSub, Int.reduceMul, Int.reduceNeg, Int.reduceToNat, Int.cast_ofNat_Int, forall_const, List.reduceReplicate, wi64, wu64, iv, bv, tk_int, U_int, T_int, U_u8, U_string, Int.toNat_natCast, Int.natCast_nonneg, Try.ntmps156, Try.results156, h1, h2, hu, sv]
      refine callTo_fs p1 (by first | rfl | (simp +decide only [LXr, LXs, ↓reduceIte, Option.bind_some, iv, tv, bv, sv, LXy] <;> rfl) | (simp +decide only [LXr, and_true, true_and, iv, bv]; done) | (simp +decide only [lowL, LV.low, freeL, LV.free, Bool.and_self, iv, bv, iv, tv, bv, sv]; done)) (by first | rfl | (simp +decide only [LXr, LXs, ↓reduceIte, Option.bind_some, iv, tv, bv, sv, LXy] <;> rfl) | (simp +decide only [LXr, and_true, true_and, iv, bv]; done) | (simp +decide only [lowL, LV.low, freeL, LV.free, Bool.and_self, iv, bv, iv, tv, bv, sv]; done)) ?_
      rintro _ ⟨n, rfl⟩
      refine ⟨rfl, ?_⟩
      simp only [↓LXbr, LXbr, LXn', Nat.reduceLT, Nat.reduceLeDiff, Nat.reduceEqDiff, Int.reduceLT, Int.reduceLE, Int.reduceGT, Int.reduceGE, Nat.reduceGT, Int.reduceEq, Int.reduceBEq, Int.reduceBNe, ↓LXp, LXa, LXm, ↓reduceIte, reduceCtorEq, Nat.reduceAdd, Nat.reduceSub, Nat.reduceMul, Int.reduceAdd, Int.reduceSub, Int.reduceMul, Int.reduceNeg, Int.reduceToNat, Int.cast_ofNat_Int, forall_const, List.reduceReplicate, wi64, wu64, iv, bv, tk_int, U_int, T_int, U_u8, U_string, Int.toNat_natCast, Int.natCast_nonneg, Try.ntmps156, Try.results156]
      exact ret_fs (rs := [.v (.int .i64 _), .v (.int .i64 _)]) rfl rfl rfl ⟨_, _, rfl⟩
  · simp only [↓LXbr, LXbr, LXn', Nat.reduceLT, Nat.reduceLeDiff, Nat.reduceEqDiff, Int.reduceLT, Int.reduceLE, Int.reduceGT, Int.reduceGE, Nat.reduceGT, Int.reduceEq, Int.reduceBEq, Int.reduceBNe, ↓LXp, LXa, LXm, ↓reduceIte, reduceCtorEq, Nat.reduceAdd, Nat.reduceSub, Nat.reduceMul, Int.reduceAdd, Int.reduceSub, Int.reduceMul, Int.reduceNeg, Int.reduceToNat, Int.cast_ofNat_Int, forall_const, List.reduceReplicate, wi64, wu64, iv, bv, tk_int, U_int, T_int, U_u8, U_string, Int.toNat_natCast, Int.natCast_nonneg, Try.ntmps156, Try.results156, h1, sv]
    refine callTo_fs p1 (by first | rfl | (simp +decide only [LXr, LXs, ↓reduceIte, Option.bind_some, iv, tv, bv, sv, LXy] <;> rfl) | (simp +decide only [LXr, and_true, true_and, iv, bv]; done) | (simp +decide only [lowL, LV.low, freeL, LV.free, Bool.and_self, iv, bv, iv, tv, bv, sv]; done)) (by first | rfl | (simp +decide only [LXr, LXs, ↓reduceIte, Option.bind_some, iv, tv, bv, sv, LXy] <;> rfl) | (simp +decide only [LXr, and_true, true_and, iv, bv]; done) | (simp +decide only [lowL, LV.low, freeL, LV.free, Bool.and_self, iv, bv, iv, tv, bv, sv]; done)) ?_
    rintro _ ⟨n, rfl⟩
    refine ⟨rfl, ?_⟩
    simp only [↓LXbr, LXbr, LXn', Nat.reduceLT, Nat.reduceLeDiff, Nat.reduceEqDiff, Int.reduceLT, Int.reduceLE, Int.reduceGT, Int.reduceGE, Nat.reduceGT, Int.reduceEq, Int.reduceBEq, Int.reduceBNe, ↓LXp, LXa, LXm, ↓reduceIte, reduceCtorEq, Nat.reduceAdd, Nat.reduceSub, Nat.reduceMul, Int.reduceAdd, Int.reduceSub, Int.reduceMul, Int.reduceNeg, Int.reduceToNat, Int.cast_ofNat_Int, forall_const, List.reduceReplicate, wi64, wu64, iv, bv, tk_int, U_int, T_int, U_u8, U_string, Int.toNat_natCast, Int.natCast_nonneg, Try.ntmps156, Try.results156]
    exact ret_fs (rs := [.v (.int .i64 _), .v (.int .i64 _)]) rfl rfl rfl ⟨_, _, rfl⟩
theorem l1Signed_pfs (b : ByteArray) (hb : b.size ≤ 1000000) : PFs Try.prog 157 [sv b] anyI := by
  have p1 := l1Num_pfs b hb
  have p2 := l1Num_pfs (b.extract 1 b.size) (Nat.le_trans (extract_size _ _ _) hb)
  have hu : 0 < b.size → ∃ u, b[0]? = some u := byte_at
  refine fn_of true Try.func157 rfl (by kernel_rfl) (Nat.le_of_ble_eq_true rfl) ?_
  simp only [↓LXbr, LXbr, LXn', Nat.reduceLT, Nat.reduceLeDiff, Nat.reduceEqDiff, Int.reduceLT, Int.reduceLE, Int.reduceGT, Int.reduceGE, Nat.reduceGT, Int.reduceEq, Int.reduceBEq, Int.reduceBNe, ↓LXp, LXa, LXm, ↓reduceIte, reduceCtorEq, Nat.reduceAdd, Nat.reduceSub, Nat.reduceMul, Int.reduceAdd, Int.reduceSub, Int.reduceMul, Int.reduceNeg, Int.reduceToNat, Int.cast_ofNat_Int, forall_const, List.reduceReplicate, wi64, wu64, iv, bv, tk_int, U_int, T_int, U_u8, U_string, LXn, Int.toNat_natCast, Int.natCast_nonneg, Try.ntmps157, Try.results157, sv]
  refine br_intro (fun h1 => ?_) (fun h1 => ?_)
  · have hs : 1 < b.size := by have := of_decide_eq_true h1; omega
    obtain ⟨u, hu⟩ := hu (by omega)
    have g1 : (1 ≤ (b.size : Int)) = True := by simp; omega
    simp only [↓LXbr, LXbr, LXn', Nat.reduceLT, Nat.reduceLeDiff, Nat.reduceEqDiff, Int.reduceLT, Int.reduceLE, Int.reduceGT, Int.reduceGE, Nat.reduceGT, Int.reduceEq, Int.reduceBEq, Int.reduceBNe, ↓LXp, LXa, LXm, ↓reduceIte, reduceCtorEq, Nat.reduceAdd, Nat.reduceSub, Nat.reduceMul, Int.reduceAdd, Int.reduceSub, Int.reduceMul, Int.reduceNeg, Int.reduceToNat, Int.cast_ofNat_Int, forall_const, List.reduceReplicate, wi64, wu64, iv, bv, tk_int, U_int, T_int, U_u8, U_string, LXn, Int.toNat_natCast, Int.natCast_nonneg, Try.ntmps157, Try.results157, h1, hu, sv]
    refine br_intro (fun h2 => ?_) (fun h2 => ?_)
    · simp only [↓LXbr, LXbr, LXn', Nat.reduceLT, Nat.reduceLeDiff, Nat.reduceEqDiff, Int.reduceLT, Int.reduceLE, Int.reduceGT, Int.reduceGE, Nat.reduceGT, Int.reduceEq, Int.reduceBEq, Int.reduceBNe, ↓LXp, LXa, LXm, ↓reduceIte, reduceCtorEq, Nat.reduceAdd, Nat.reduceSub, Nat.reduceMul, Int.reduceAdd, Int.reduceSub, Int.reduceMul, Int.reduceNeg, Int.reduceToNat, Int.cast_ofNat_Int, forall_const, List.reduceReplicate, wi64, wu64, iv, bv, tk_int, U_int, T_int, U_u8, U_string, LXn, Int.toNat_natCast, Int.natCast_nonneg, Try.ntmps157, Try.results157, h1, h2, hu, sv, g1, Int.le_refl]
      refine callTo_fs p2 (by first | rfl | (simp +decide only [LXr, LXs, ↓reduceIte, Option.bind_some, iv, tv, bv, sv, LXy] <;> rfl) | (simp +decide only [LXr, and_true, true_and, iv, bv]; done) | (simp +decide only [lowL, LV.low, freeL, LV.free, Bool.and_self, iv, bv, iv, tv, bv, sv]; done)) (by first | rfl | (simp +decide only [LXr, LXs, ↓reduceIte, Option.bind_some, iv, tv, bv, sv, LXy] <;> rfl) | (simp +decide only [LXr, and_true, true_and, iv, bv]; done) | (simp +decide only [lowL, LV.low, freeL, LV.free, Bool.and_self, iv, bv, iv, tv, bv, sv]; done)) ?_
      rintro _ ⟨n, rfl⟩
      refine ⟨rfl, ?_⟩
      simp only [↓LXbr, LXbr, LXn', Nat.reduceLT, Nat.reduceLeDiff, Nat.reduceEqDiff, Int.reduceLT, Int.reduceLE, Int.reduceGT, Int.reduceGE, Nat.reduceGT, Int.reduceEq, Int.reduceBEq, Int.reduceBNe, ↓LXp, LXa, LXm, ↓reduceIte, reduceCtorEq, Nat.reduceAdd, Nat.reduceSub, Nat.reduceMul, Int.reduceAdd, Int.reduceSub, Int.reduceMul, Int.reduceNeg, Int.reduceToNat, Int.cast_ofNat_Int, forall_const, List.reduceReplicate, wi64, wu64, iv, bv, tk_int, U_int, T_int, U_u8, U_string, LXn, Int.toNat_natCast, Int.natCast_nonneg, Try.ntmps157, Try.results157]
      refine br_intro (fun h3 => ?_) (fun h3 => ?_)
      all_goals
        simp only [↓LXbr, LXbr, LXn', Nat.reduceLT, Nat.reduceLeDiff, Nat.reduceEqDiff, Int.reduceLT, Int.reduceLE, Int.reduceGT, Int.reduceGE, Nat.reduceGT, Int.reduceEq, Int.reduceBEq, Int.reduceBNe, ↓LXp, LXa, LXm, ↓reduceIte, reduceCtorEq, Nat.reduceAdd, Nat.reduceSub, Nat.reduceMul, Int.reduceAdd, Int.reduceSub, Int.reduceMul, Int.reduceNeg, Int.reduceToNat, Int.cast_ofNat_Int, forall_const, List.reduceReplicate, wi64, wu64, iv, bv, tk_int, U_int, T_int, U_u8, U_string, LXn, Int.toNat_natCast, Int.natCast_nonneg, Try.ntmps157, Try.results157, h3]
        exact ret_fs (rs := [.v (.int .i64 _)]) rfl rfl rfl ⟨_, rfl⟩
    · simp only [↓LXbr, LXbr, LXn', Nat.reduceLT, Nat.reduceLeDiff, Nat.reduceEqDiff, Int.reduceLT, Int.reduceLE, Int.reduceGT, Int.reduceGE, Nat.reduceGT, Int.reduceEq, Int.reduceBEq, Int.reduceBNe, ↓LXp, LXa, LXm, ↓reduceIte, reduceCtorEq, Nat.reduceAdd, Nat.reduceSub, Nat.reduceMul, Int.reduceAdd, Int.reduceSub, Int.reduceMul, Int.reduceNeg, Int.reduceToNat, Int.cast_ofNat_Int, forall_const, List.reduceReplicate, wi64, wu64, iv, bv, tk_int, U_int, T_int, U_u8, U_string, LXn, Int.toNat_natCast, Int.natCast_nonneg, Try.ntmps157, Try.results157, h1, h2, hu, sv]
      refine callTo_fs p1 (by first | rfl | (simp +decide only [LXr, LXs, ↓reduceIte, Option.bind_some, iv, tv, bv, sv, LXy] <;> rfl) | (simp +decide only [LXr, and_true, true_and, iv, bv]; done) | (simp +decide only [lowL, LV.low, freeL, LV.free, Bool.and_self, iv, bv, iv, tv, bv, sv]; done)) (by first | rfl | (simp +decide only [LXr, LXs, ↓reduceIte, Option.bind_some, iv, tv, bv, sv, LXy] <;> rfl) | (simp +decide only [LXr, and_true, true_and, iv, bv]; done) | (simp +decide only [lowL, LV.low, freeL, LV.free, Bool.and_self, iv, bv, iv, tv, bv, sv]; done)) ?_
      rintro _ ⟨n, rfl⟩
      refine ⟨rfl, ?_⟩
      simp only [↓LXbr, LXbr, LXn', Nat.reduceLT, Nat.reduceLeDiff, Nat.reduceEqDiff, Int.reduceLT, Int.reduceLE, Int.reduceGT, Int.reduceGE, Nat.reduceGT, Int.reduceEq, Int.reduceBEq, Int.reduceBNe, ↓LXp, LXa, LXm, ↓reduceIte, reduceCtorEq, Nat.reduceAdd, Nat.reduceSub, Nat.reduceMul, Int.reduceAdd, Int.reduceSub, Int.reduceMul, Int.reduceNeg, Int.reduceToNat, Int.cast_ofNat_Int, forall_const, List.reduceReplicate, wi64, wu64, iv, bv, tk_int, U_int, T_int, U_u8, U_string, LXn, Int.toNat_natCast, Int.natCast_nonneg, Try.ntmps157, Try.results157]
      refine br_intro (fun h3 => ?_) (fun h3 => ?_)
      all_goals
        simp only [↓LXbr, LXbr, LXn', Nat.reduceLT, Nat.reduceLeDiff, Nat.reduceEqDiff, Int.reduceLT, Int.reduceLE, Int.reduceGT, Int.reduceGE, Nat.reduceGT, Int.reduceEq, Int.reduceBEq, Int.reduceBNe, ↓LXp, LXa, LXm, ↓reduceIte, reduceCtorEq, Nat.reduceAdd, Nat.reduceSub, Nat.reduceMul, Int.reduceAdd, Int.reduceSub, Int.reduceMul, Int.reduceNeg, Int.reduceToNat, Int.cast_ofNat_Int, forall_const, List.reduceReplicate, wi64, wu64, iv, bv, tk_int, U_int, T_int, U_u8, U_string, LXn, Int.toNat_natCast, Int.natCast_nonneg, Try.ntmps157, Try.results157, h3]
        exact ret_fs (rs := [.v (.int .i64 _)]) rfl rfl rfl ⟨_, rfl⟩
  · simp only [↓LXbr, LXbr, LXn', Nat.reduceLT, Nat.reduceLeDiff, Nat.reduceEqDiff, Int.reduceLT, Int.reduceLE, Int.reduceGT, Int.reduceGE, Nat.reduceGT, Int.reduceEq, Int.reduceBEq, Int.reduceBNe, ↓LXp, LXa, LXm, ↓reduceIte, reduceCtorEq, Nat.reduceAdd, Nat.reduceSub, Nat.reduceMul, Int.reduceAdd, Int.reduceSub, Int.reduceMul, Int.reduceNeg, Int.reduceToNat, Int.cast_ofNat_Int, forall_const, List.reduceReplicate, wi64, wu64, iv, bv, tk_int, U_int, T_int, U_u8, U_string, LXn, Int.toNat_natCast, Int.natCast_nonneg, Try.ntmps157, Try.results157, h1, sv]
    refine callTo_fs p1 (by first | rfl | (simp +decide only [LXr, LXs, ↓reduceIte, Option.bind_some, iv, tv, bv, sv, LXy] <;> rfl) | (simp +decide only [LXr, and_true, true_and, iv, bv]; done) | (simp +decide only [lowL, LV.low, freeL, LV.free, Bool.and_self, iv, bv, iv, tv, bv, sv]; done)) (by first | rfl | (simp +decide only [LXr, LXs, ↓reduceIte, Option.bind_some, iv, tv, bv, sv, LXy] <;> rfl) | (simp +decide only [LXr, and_true, true_and, iv, bv]; done) | (simp +decide only [lowL, LV.low, freeL, LV.free, Bool.and_self, iv, bv, iv, tv, bv, sv]; done)) ?_
    rintro _ ⟨n, rfl⟩
    refine ⟨rfl, ?_⟩
    simp only [↓LXbr, LXbr, LXn', Nat.reduceLT, Nat.reduceLeDiff, Nat.reduceEqDiff, Int.reduceLT, Int.reduceLE, Int.reduceGT, Int.reduceGE, Nat.reduceGT, Int.reduceEq, Int.reduceBEq, Int.reduceBNe, ↓LXp, LXa, LXm, ↓reduceIte, reduceCtorEq, Nat.reduceAdd, Nat.reduceSub, Nat.reduceMul, Int.reduceAdd, Int.reduceSub, Int.reduceMul, Int.reduceNeg, Int.reduceToNat, Int.cast_ofNat_Int, forall_const, List.reduceReplicate, wi64, wu64, iv, bv, tk_int, U_int, T_int, U_u8, U_string, LXn, Int.toNat_natCast, Int.natCast_nonneg, Try.ntmps157, Try.results157]
    refine br_intro (fun h3 => ?_) (fun h3 => ?_)
    all_goals
      simp only [↓LXbr, LXbr, LXn', Nat.reduceLT, Nat.reduceLeDiff, Nat.reduceEqDiff, Int.reduceLT, Int.reduceLE, Int.reduceGT, Int.reduceGE, Nat.reduceGT, Int.reduceEq, Int.reduceBEq, Int.reduceBNe, ↓LXp, LXa, LXm, ↓reduceIte, reduceCtorEq, Nat.reduceAdd, Nat.reduceSub, Nat.reduceMul, Int.reduceAdd, Int.reduceSub, Int.reduceMul, Int.reduceNeg, Int.reduceToNat, Int.cast_ofNat_Int, forall_const, List.reduceReplicate, wi64, wu64, iv, bv, tk_int, U_int, T_int, U_u8, U_string, LXn, Int.toNat_natCast, Int.natCast_nonneg, Try.ntmps157, Try.results157, h3]
      exact ret_fs (rs := [.v (.int .i64 _)]) rfl rfl rfl ⟨_, rfl⟩
theorem tsl_strs' : tsl Try.prog 23 = some (9, .v (.string ⟨#[]⟩)) := by kernel_rfl
def findS (ws : List ByteArray) (b : ByteArray) (i : Nat) : St := ⟨[(0, .one (.vec false .one (ws.map sv))), (1, .one (sv b)), (5, .one (iv i))], [], 0, 19, []⟩
theorem l1Find_pfs (ws : List ByteArray) (b : ByteArray) (hn : ws.length ≤ 1000) : PFs Try.prog 151 [.vec false .one (ws.map sv), sv b] anyI := by
  refine fn_of true Try.func151 rfl (by kernel_rfl) (Nat.le_of_ble_eq_true rfl) ?_
  simp only [↓LXbr, LXbr, LXn', Nat.reduceLT, Nat.reduceLeDiff, Nat.reduceEqDiff, Int.reduceLT, Int.reduceLE, Int.reduceGT, Int.reduceGE, Nat.reduceGT, Int.reduceEq, Int.reduceBEq, Int.reduceBNe, ↓LXp, LXa, LXm, ↓reduceIte, reduceCtorEq, Nat.reduceAdd, Nat.reduceSub, Nat.reduceMul, Int.reduceAdd, Int.reduceSub, Int.reduceMul, Int.reduceNeg, Int.reduceToNat, Int.cast_ofNat_Int, forall_const, List.reduceReplicate, wi64, wu64, iv, bv, tk_int, U_int, T_int, T_string, U_u8, U_string, tsl_strs', List.getElem?_map, List.length_map, Int.toNat_natCast, Int.natCast_nonneg, Try.ntmps151, Try.results151, sv]
  refine cw_loopc (fun k s => ∃ (i : Nat), i + k = ws.length ∧ s = findS ws b i) ws.length ?_ ?_
  · exact ⟨findS ws b 0, Canon.drop ⟨rfl, rfl, rfl, trivial⟩ (by (repeat (first | exact List.nil_sublist _ | apply List.Sublist.cons_cons | apply List.Sublist.cons))), 0, Nat.zero_add _, rfl⟩
  · rintro k s ⟨i, hi, rfl⟩
    unfold findS
    cases k with
    | zero =>
      have hlt : ((i : Int) < (ws.length : Int)) = False := by simp; omega
      simp only [↓LXbr, LXbr, LXn', Nat.reduceLT, Nat.reduceLeDiff, Nat.reduceEqDiff, Int.reduceLT, Int.reduceLE, Int.reduceGT, Int.reduceGE, Nat.reduceGT, Int.reduceEq, Int.reduceBEq, Int.reduceBNe, ↓LXp, LXa, LXm, ↓reduceIte, reduceCtorEq, Nat.reduceAdd, Nat.reduceSub, Nat.reduceMul, Int.reduceAdd, Int.reduceSub, Int.reduceMul, Int.reduceNeg, Int.reduceToNat, Int.cast_ofNat_Int, forall_const, List.reduceReplicate, wi64, wu64, iv, bv, tk_int, U_int, T_int, T_string, U_u8, U_string, tsl_strs', List.getElem?_map, List.length_map, Int.toNat_natCast, Int.natCast_nonneg, Try.ntmps151, Try.results151, hlt, decide_false]
      exact ret_fs (rs := [.v (.int .i64 _)]) rfl rfl rfl ⟨_, rfl⟩
    | succ k =>
      have hlt : ((i : Int) < (ws.length : Int)) = True := by simp; omega
      obtain ⟨x, hx⟩ : ∃ x, ws[i]? = some x := ⟨_, List.getElem?_eq_getElem (by omega)⟩
      have hw : IntKind.i64.wrap ((i : Int) + 1) = ((i + 1 : Nat) : Int) := by simp [IntKind.wrap, IntKind.bits, IntKind.signed]; omega
      simp only [↓LXbr, LXbr, LXn', Nat.reduceLT, Nat.reduceLeDiff, Nat.reduceEqDiff, Int.reduceLT, Int.reduceLE, Int.reduceGT, Int.reduceGE, Nat.reduceGT, Int.reduceEq, Int.reduceBEq, Int.reduceBNe, ↓LXp, LXa, LXm, ↓reduceIte, reduceCtorEq, Nat.reduceAdd, Nat.reduceSub, Nat.reduceMul, Int.reduceAdd, Int.reduceSub, Int.reduceMul, Int.reduceNeg, Int.reduceToNat, Int.cast_ofNat_Int, forall_const, List.reduceReplicate, wi64, wu64, iv, bv, tk_int, U_int, T_int, T_string, U_u8, U_string, tsl_strs', List.getElem?_map, List.length_map, Int.toNat_natCast, Int.natCast_nonneg, Try.ntmps151, Try.results151, hlt, hx, hw, sv]
      refine br_intro (fun h3 => ?_) (fun h3 => ?_)
      · simp only [↓LXbr, LXbr, LXn', Nat.reduceLT, Nat.reduceLeDiff, Nat.reduceEqDiff, Int.reduceLT, Int.reduceLE, Int.reduceGT, Int.reduceGE, Nat.reduceGT, Int.reduceEq, Int.reduceBEq, Int.reduceBNe, ↓LXp, LXa, LXm, ↓reduceIte, reduceCtorEq, Nat.reduceAdd, Nat.reduceSub, Nat.reduceMul, Int.reduceAdd, Int.reduceSub, Int.reduceMul, Int.reduceNeg, Int.reduceToNat, Int.cast_ofNat_Int, forall_const, List.reduceReplicate, wi64, wu64, iv, bv, tk_int, U_int, T_int, T_string, U_u8, U_string, tsl_strs', List.getElem?_map, List.length_map, Int.toNat_natCast, Int.natCast_nonneg, Try.ntmps151, Try.results151, h3]
        exact ret_fs (rs := [.v (.int .i64 _)]) rfl rfl rfl ⟨_, rfl⟩
      · simp only [↓LXbr, LXbr, LXn', Nat.reduceLT, Nat.reduceLeDiff, Nat.reduceEqDiff, Int.reduceLT, Int.reduceLE, Int.reduceGT, Int.reduceGE, Nat.reduceGT, Int.reduceEq, Int.reduceBEq, Int.reduceBNe, ↓LXp, LXa, LXm, ↓reduceIte, reduceCtorEq, Nat.reduceAdd, Nat.reduceSub, Nat.reduceMul, Int.reduceAdd, Int.reduceSub, Int.reduceMul, Int.reduceNeg, Int.reduceToNat, Int.cast_ofNat_Int, forall_const, List.reduceReplicate, wi64, wu64, iv, bv, tk_int, U_int, T_int, T_string, U_u8, U_string, tsl_strs', List.getElem?_map, List.length_map, Int.toNat_natCast, Int.natCast_nonneg, Try.ntmps151, Try.results151, h3, hw]
        exact ⟨k, by omega, findS ws b (i + 1), Canon.drop ⟨rfl, rfl, rfl, trivial⟩ (by (repeat (first | exact List.nil_sublist _ | apply List.Sublist.cons_cons | apply List.Sublist.cons))), i + 1, by omega, rfl⟩
/-- A call that gives a row of its own, of some elements. -/
theorem callTo_rows {P : Program} {s : St} {f : FuncId} {uc us : List LV} {sh : Sh} {α : Type} {lv : α → LV} {p : List α → Prop} {K : EV → St → Prop} {KP : List PanicEntry → St → Prop}
    (h : Fn P f us [] 1 (fun x R' => x = .one (.hd 0) ∧ ∃ ws, p ws ∧ R' = [(0, .row sh (ws.map lv))]) NoP) (harg : oldL (fzL s false [] uc) = us) (hu : lowL us = true) (hx : ∀ ws : List α, freeL (ws.map lv) = true)
    (hK : ∀ ws, p ws → K (.one (.hd s.next)) { s with roots := (s.next, .row sh (ws.map lv)) :: s.roots, next := s.next + 1 }) : CallTo P f uc s K KP := by
  refine callTo_of h id rfl (fun y hy => by cases hy) .nil (by rw [renL_id (lowL_spec 0 hu)]; exact harg) (lowL_spec 0 hu) (fun r R' hq => ?_) (fun ch R' hq => hq.elim)
  obtain ⟨rfl, ws, hp, rfl⟩ := hq
  refine ⟨by simp only [EV.new, LV.new], fun y hy => by rw [List.mem_singleton.1 hy]; exact (freeL_spec 0 (hx ws)).2, ?_⟩
  have e1 : EV.ren (callNames id ([] : Roots).length s.next) (.one (.hd 0)) = .one (.hd s.next) := by simp [EV.ren, LV.ren, callNames]
  have e2 : afterCall s id 0 1 [] [(0, .row sh (ws.map lv))] = { s with roots := (s.next, .row sh (ws.map lv)) :: s.roots, next := s.next + 1 } := by
    simp only [afterCall, List.map_cons, List.map_nil, Root.ren, callNames, Nat.lt_irrefl, if_false, Nat.sub_self, Nat.add_zero]
    rw [lowL_ren (freeL_low (hx ws))]
    simp
  rw [e1]
  show K _ (afterCall s id 0 1 [] [(0, .row sh (ws.map lv))])
  rw [e2]
  exact hK ws hp
theorem sv_free (ws : List ByteArray) : freeL (ws.map sv) = true := freeL_map sv ws (fun _ => rfl)
theorem sv_low (ws : List ByteArray) : lowL (ws.map sv) = true := lowL_map sv ws (fun _ => rfl)
theorem sv_old (ws : List ByteArray) : oldL (ws.map sv) = ws.map sv := flatSv.old ws
def cutS (b : ByteArray) (c : Int) (m : Nat) (ws : List ByteArray) (from_ i T nx : Nat) : St :=
  ⟨[(0, .one (sv b)), (1, .one (.v (.int .u8 c))), (2, .one (iv m)), (7, .one (.hd T)), (8, .one (iv from_)), (9, .one (iv i))], [(T, .row .one (ws.map sv))], nx, 43, []⟩
abbrev fewWs (b : ByteArray) (m : Nat) (ws : List ByteArray) : Prop := 0 < ws.length ∧ ws.length ≤ m + 1 ∧ ∀ x ∈ ws, x.size ≤ b.size
theorem l1Cut_fn (b : ByteArray) (c : Int) (m : Nat) (hb : b.size ≤ 1000000) (hm : m ≤ 1000) : Fn Try.prog 147 [sv b, .v (.int .u8 c), iv m] [] 1 (fun x R' => x = .one (.hd 0) ∧ ∃ ws, fewWs b m ws ∧ R' = [(0, .row .one (ws.map sv))]) NoP := by
  refine fn_of true Try.func147 rfl (by kernel_rfl) (Nat.le_of_ble_eq_true rfl) ?_
  simp only [↓LXbr, LXbr, LXn', Nat.reduceLT, Nat.reduceLeDiff, Nat.reduceEqDiff, Int.reduceLT, Int.reduceLE, Int.reduceGT, Int.reduceGE, Nat.reduceGT, Int.reduceEq, Int.reduceBEq, Int.reduceBNe, ↓LXp, LXa, LXm, ↓reduceIte, reduceCtorEq, Nat.reduceAdd, Nat.reduceSub, Nat.reduceMul, Int.reduceAdd, Int.reduceSub, Int.reduceMul, Int.reduceNeg, Int.reduceToNat, Int.cast_ofNat_Int, forall_const, List.reduceReplicate, wi64, wu64, iv, bv, tk_int, U_int, T_int, T_string, U_u8, U_string, tsl_strs', List.length_map, Int.toNat_natCast, Int.natCast_nonneg, Try.ntmps147, Try.results147, sv]
  refine cw_loopc (fun k s => ∃ (i from_ T nx : Nat) (ws : List ByteArray), i + k = b.size ∧ from_ ≤ i ∧ T < nx ∧ ws.length ≤ m ∧ (∀ x ∈ ws, x.size ≤ b.size) ∧ s = cutS b c m ws from_ i T nx) b.size ?_ ?_
  · exact ⟨cutS b c m [] 0 0 0 1, Canon.drop ⟨rfl, rfl, rfl, rfl, rfl, rfl, trivial⟩ (by (repeat (first | exact List.nil_sublist _ | apply List.Sublist.cons_cons | apply List.Sublist.cons))), 0, 0, 0, 1, [], Nat.zero_add _, Nat.le_refl _, by decide, Nat.zero_le _, by simp, rfl⟩
  · rintro k s ⟨i, from_, T, nx, ws, hi, hfi, hT, hws, hsz, rfl⟩
    have f0 := elder hT
    have g1 : ((from_ : Int) ≤ (b.size : Int)) = True := by simp; omega
    have hx2 := extract_size b from_ b.size
    unfold cutS
    cases k with
    | zero =>
      have hlt : ((i : Int) < (b.size : Int)) = False := by simp; omega
      simp only [↓LXbr, LXbr, LXn', Nat.reduceLT, Nat.reduceLeDiff, Nat.reduceEqDiff, Int.reduceLT, Int.reduceLE, Int.reduceGT, Int.reduceGE, Nat.reduceGT, Int.reduceEq, Int.reduceBEq, Int.reduceBNe, ↓LXp, LXa, LXm, ↓reduceIte, reduceCtorEq, Nat.reduceAdd, Nat.reduceSub, Nat.reduceMul, Int.reduceAdd, Int.reduceSub, Int.reduceMul, Int.reduceNeg, Int.reduceToNat, Int.cast_ofNat_Int, forall_const, List.reduceReplicate, wi64, wu64, iv, bv, tk_int, U_int, T_int, T_string, U_u8, U_string, tsl_strs', List.length_map, Int.toNat_natCast, Int.natCast_nonneg, Try.ntmps147, Try.results147, hlt, f0, g1, sv, decide_false, Int.le_refl]
      refine ⟨by omega, ?_⟩
      refine ret_row (sh := .one) (xs := (ws ++ [b.extract from_ b.size]).map sv) rfl (by simp only [↓LXbr, LXbr, LXn', Nat.reduceLT, Nat.reduceLeDiff, Nat.reduceEqDiff, Int.reduceLT, Int.reduceLE, Int.reduceGT, Int.reduceGE, Nat.reduceGT, Int.reduceEq, Int.reduceBEq, Int.reduceBNe, ↓LXp, LXa, LXm, ↓reduceIte, reduceCtorEq, Nat.reduceAdd, Nat.reduceSub, Nat.reduceMul, Int.reduceAdd, Int.reduceSub, Int.reduceMul, Int.reduceNeg, Int.reduceToNat, Int.cast_ofNat_Int, forall_const, List.reduceReplicate, wi64, wu64, iv, bv, tk_int, U_int, T_int, T_string, U_u8, U_string, tsl_strs', List.length_map, Int.toNat_natCast, Int.natCast_nonneg, Try.ntmps147, Try.results147, List.map_append, List.map_cons, List.map_nil, sv]) (sv_low _) ⟨rfl, ws ++ [b.extract from_ b.size], ⟨by simp, by simp; omega, ?_⟩, rfl⟩
      intro x hx
      rcases List.mem_append.1 hx with hx | hx
      · exact hsz x hx
      · rw [List.mem_singleton.1 hx]; exact hx2
    | succ k =>
      have hlt : ((i : Int) < (b.size : Int)) = True := by simp; omega
      obtain ⟨u, hu⟩ := byte_at (b := b) (i := i) (by omega)
      have hw : IntKind.i64.wrap ((i : Int) + 1) = ((i + 1 : Nat) : Int) := by simp [IntKind.wrap, IntKind.bits, IntKind.signed]; omega
      have g2 : ((from_ : Int) ≤ (i : Int)) = True := by simp; omega
      have g3 : ((i : Int) ≤ (b.size : Int)) = True := by simp; omega
      simp only [↓LXbr, LXbr, LXn', Nat.reduceLT, Nat.reduceLeDiff, Nat.reduceEqDiff, Int.reduceLT, Int.reduceLE, Int.reduceGT, Int.reduceGE, Nat.reduceGT, Int.reduceEq, Int.reduceBEq, Int.reduceBNe, ↓LXp, LXa, LXm, ↓reduceIte, reduceCtorEq, Nat.reduceAdd, Nat.reduceSub, Nat.reduceMul, Int.reduceAdd, Int.reduceSub, Int.reduceMul, Int.reduceNeg, Int.reduceToNat, Int.cast_ofNat_Int, forall_const, List.reduceReplicate, wi64, wu64, iv, bv, tk_int, U_int, T_int, T_string, U_u8, U_string, tsl_strs', List.length_map, Int.toNat_natCast, Int.natCast_nonneg, Try.ntmps147, Try.results147, hlt, hu, hw, f0, g1, g2, g3, sv]
      refine br_intro (fun h1 => ?_) (fun h1 => ?_)
      · have hwm : ws.length < m := by have := of_decide_eq_true h1; omega
        simp only [↓LXbr, LXbr, LXn', Nat.reduceLT, Nat.reduceLeDiff, Nat.reduceEqDiff, Int.reduceLT, Int.reduceLE, Int.reduceGT, Int.reduceGE, Nat.reduceGT, Int.reduceEq, Int.reduceBEq, Int.reduceBNe, ↓LXp, LXa, LXm, ↓reduceIte, reduceCtorEq, Nat.reduceAdd, Nat.reduceSub, Nat.reduceMul, Int.reduceAdd, Int.reduceSub, Int.reduceMul, Int.reduceNeg, Int.reduceToNat, Int.cast_ofNat_Int, forall_const, List.reduceReplicate, wi64, wu64, iv, bv, tk_int, U_int, T_int, T_string, U_u8, U_string, tsl_strs', List.length_map, Int.toNat_natCast, Int.natCast_nonneg, Try.ntmps147, Try.results147, h1, hlt, hu, hw, f0, g1, g2, g3, sv]
        refine br_intro (fun h2 => ?_) (fun h2 => ?_)
        · simp only [↓LXbr, LXbr, LXn', Nat.reduceLT, Nat.reduceLeDiff, Nat.reduceEqDiff, Int.reduceLT, Int.reduceLE, Int.reduceGT, Int.reduceGE, Nat.reduceGT, Int.reduceEq, Int.reduceBEq, Int.reduceBNe, ↓LXp, LXa, LXm, ↓reduceIte, reduceCtorEq, Nat.reduceAdd, Nat.reduceSub, Nat.reduceMul, Int.reduceAdd, Int.reduceSub, Int.reduceMul, Int.reduceNeg, Int.reduceToNat, Int.cast_ofNat_Int, forall_const, List.reduceReplicate, wi64, wu64, iv, bv, tk_int, U_int, T_int, T_string, U_u8, U_string, tsl_strs', List.length_map, Int.toNat_natCast, Int.natCast_nonneg, Try.ntmps147, Try.results147, h1, h2, hlt, hu, hw, f0, g1, g2, g3, sv]
          refine ⟨by omega, k, by omega, cutS b c m (ws ++ [b.extract from_ i]) (i + 1) (i + 1) (nx + 1) (nx + 1 + 1), Canon.drop ⟨rfl, rfl, rfl, rfl, rfl, rfl, trivial⟩ ?_, i + 1, i + 1, nx + 1, nx + 1 + 1, ws ++ [b.extract from_ i], by omega, Nat.le_refl _, by omega, by simp; omega, ?_, rfl⟩
          · rw [List.map_append]
            (repeat (first | exact List.nil_sublist _ | apply List.Sublist.cons_cons | apply List.Sublist.cons))
          · intro x hx
            rcases List.mem_append.1 hx with hx | hx
            · exact hsz x hx
            · rw [List.mem_singleton.1 hx]; exact extract_size _ _ _
        · simp only [↓LXbr, LXbr, LXn', Nat.reduceLT, Nat.reduceLeDiff, Nat.reduceEqDiff, Int.reduceLT, Int.reduceLE, Int.reduceGT, Int.reduceGE, Nat.reduceGT, Int.reduceEq, Int.reduceBEq, Int.reduceBNe, ↓LXp, LXa, LXm, ↓reduceIte, reduceCtorEq, Nat.reduceAdd, Nat.reduceSub, Nat.reduceMul, Int.reduceAdd, Int.reduceSub, Int.reduceMul, Int.reduceNeg, Int.reduceToNat, Int.cast_ofNat_Int, forall_const, List.reduceReplicate, wi64, wu64, iv, bv, tk_int, U_int, T_int, T_string, U_u8, U_string, tsl_strs', List.length_map, Int.toNat_natCast, Int.natCast_nonneg, Try.ntmps147, Try.results147, h1, h2, hlt, hu, hw, f0, g1, g2, g3, sv]
          exact ⟨k, by omega, cutS b c m ws from_ (i + 1) T nx, Canon.drop ⟨rfl, rfl, rfl, rfl, rfl, rfl, trivial⟩ (by (repeat (first | exact List.nil_sublist _ | apply List.Sublist.cons_cons | apply List.Sublist.cons))), i + 1, from_, T, nx, ws, by omega, by omega, hT, hws, hsz, rfl⟩
      · simp only [↓LXbr, LXbr, LXn', Nat.reduceLT, Nat.reduceLeDiff, Nat.reduceEqDiff, Int.reduceLT, Int.reduceLE, Int.reduceGT, Int.reduceGE, Nat.reduceGT, Int.reduceEq, Int.reduceBEq, Int.reduceBNe, ↓LXp, LXa, LXm, ↓reduceIte, reduceCtorEq, Nat.reduceAdd, Nat.reduceSub, Nat.reduceMul, Int.reduceAdd, Int.reduceSub, Int.reduceMul, Int.reduceNeg, Int.reduceToNat, Int.cast_ofNat_Int, forall_const, List.reduceReplicate, wi64, wu64, iv, bv, tk_int, U_int, T_int, T_string, U_u8, U_string, tsl_strs', List.length_map, Int.toNat_natCast, Int.natCast_nonneg, Try.ntmps147, Try.results147, h1, hlt, hu, hw, f0, g1, g2, g3, sv, Int.le_refl]
        refine ⟨by omega, ?_⟩
        refine ret_row (sh := .one) (xs := (ws ++ [b.extract from_ b.size]).map sv) rfl (by simp only [↓LXbr, LXbr, LXn', Nat.reduceLT, Nat.reduceLeDiff, Nat.reduceEqDiff, Int.reduceLT, Int.reduceLE, Int.reduceGT, Int.reduceGE, Nat.reduceGT, Int.reduceEq, Int.reduceBEq, Int.reduceBNe, ↓LXp, LXa, LXm, ↓reduceIte, reduceCtorEq, Nat.reduceAdd, Nat.reduceSub, Nat.reduceMul, Int.reduceAdd, Int.reduceSub, Int.reduceMul, Int.reduceNeg, Int.reduceToNat, Int.cast_ofNat_Int, forall_const, List.reduceReplicate, wi64, wu64, iv, bv, tk_int, U_int, T_int, T_string, U_u8, U_string, tsl_strs', List.length_map, Int.toNat_natCast, Int.natCast_nonneg, Try.ntmps147, Try.results147, List.map_append, List.map_cons, List.map_nil, sv]) (sv_low _) ⟨rfl, ws ++ [b.extract from_ b.size], ⟨by simp, by simp; omega, ?_⟩, rfl⟩
        intro x hx
        rcases List.mem_append.1 hx with hx | hx
        · exact hsz x hx
        · rw [List.mem_singleton.1 hx]; exact hx2
def callWords : List (List UInt8) := [[], [108, 111, 111, 107], [112, 117, 116], [102, 105, 110, 100], [100, 114, 111, 112], [114, 97, 110, 100], [115, 101, 110, 100]]
theorem l1Calls_fn : Fn Try.prog 158 [] [] 1 (fun x R' => x = .one (.hd 0) ∧ R' = [(0, .row .one ((callWords.map bs).map sv))]) NoP := by
  refine fn_of true Try.func158 rfl (by kernel_rfl) (Nat.le_of_ble_eq_true rfl) ?_
  simp +decide only [↓LXp, LXa, LXm, ↓reduceIte, reduceCtorEq, Nat.reduceAdd, Nat.reduceSub, Nat.reduceMul, Int.reduceAdd, Int.reduceSub, Int.reduceMul, Int.reduceNeg, Int.reduceToNat, Int.cast_ofNat_Int, forall_const, List.reduceReplicate, wi64, wu64, iv, tv, bv, tk_int, U_int, T_int, T_string, tsl_strs, LXy, bo_ite, Try.ntmps158, Try.results158]
  exact ret_row rfl rfl rfl ⟨rfl, rfl⟩
theorem l1Words_fn' : Fn Try.prog 152 [] [] 1 (fun x R' => x = .one (.hd 0) ∧ R' = [(0, .row .one ((words.map bs).map sv))]) NoP := l1Words_fn
end Go.Proofs.Ytoimeebildcofaa
