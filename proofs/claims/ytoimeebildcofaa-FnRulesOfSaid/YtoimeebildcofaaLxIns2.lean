/- The walks of the reference's LineGet, by roots. -/
import Derived.Test.YtoimeebildcofaaLxIns
namespace Go.Proofs.Ytoimeebildcofaa
open Go.RowKit
set_option linter.unusedSimpArgs false
set_option linter.unusedVariables false
set_option maxRecDepth 100000
theorem itoa_len {n : Int} (h0 : -4611686018427387904 ≤ n) (h1 : n ≤ 4611686018427387904) : (Lib.itoa n).length ≤ 21 := by
  unfold Lib.itoa
  split
  · rw [List.length_cons]
    have := dec_len 20 n.natAbs (by omega) (by omega)
    omega
  · have := dec_len 20 n.toNat (by omega) (by omega)
    omega
theorem l1Dec_int (n : Int) (h0 : -4611686018427387904 ≤ n) (h1 : n ≤ 4611686018427387904) : PF Try.prog 153 [iv n] (.one (tv (Lib.itoa n))) := by
  by_cases h : n < 0
  · have c1 : (n < -9223372036854775807) = False := by simp; omega
    have c2 : (n < 0) = True := by simp [h]
    have hw : IntKind.i64.wrap (0 - n) = ((n.natAbs : Nat) : Int) := by simp [IntKind.wrap, IntKind.bits, IntKind.signed]; omega
    have hp := l1Dec_nat n.natAbs (by omega)
    have hl := dec_len 20 n.natAbs (by omega) (by omega)
    have e : Lib.itoa n = 45 :: Lib.decDigits n.natAbs := by rw [Lib.itoa, if_pos h]
    rw [e]
    refine fn_of true Try.func153 rfl (by kernel_rfl) (Nat.le_of_ble_eq_true rfl) ?_
    simp only [↓LXbr, LXbr, LXn', Nat.reduceLT, Nat.reduceLeDiff, Nat.reduceEqDiff, Int.reduceLT, Int.reduceLE, Int.reduceGT, Int.reduceGE, Nat.reduceGT, Int.reduceEq, Int.reduceBEq, Int.reduceBNe, ↓LXp, LXa, LXm, ↓reduceIte, reduceCtorEq, Nat.reduceAdd, Nat.reduceSub, Nat.reduceMul, Int.reduceAdd, Int.reduceSub, Int.reduceMul, Int.reduceNeg, Int.reduceToNat, Int.cast_ofNat_Int, forall_const, List.reduceReplicate, wi64, wu64, iv, tv, tk_int, U_int, LXn, LXy, bo_ite, Try.ntmps153, Try.results153, c1, c2, hw, decide_false, decide_true]
    refine callTo_f hp (by first | rfl | (simp +decide only [LXr, LXs, ↓reduceIte, Option.bind_some, iv, tv, bv, sv, sv_old, LXy] <;> rfl) | (simp +decide only [LXr, and_true, true_and, iv, bv]; done) | (simp +decide only [lowL, LV.low, freeL, LV.free, Bool.and_self, iv, bv, iv, tv, bv, sv, sv_low]; done)) (by first | rfl | (simp +decide only [LXr, LXs, ↓reduceIte, Option.bind_some, iv, tv, bv, sv, sv_old, LXy] <;> rfl) | (simp +decide only [LXr, and_true, true_and, iv, bv]; done) | (simp +decide only [lowL, LV.low, freeL, LV.free, Bool.and_self, iv, bv, iv, tv, bv, sv, sv_low]; done)) (by first | rfl | (simp +decide only [LXr, LXs, ↓reduceIte, Option.bind_some, iv, tv, bv, sv, sv_old, LXy] <;> rfl) | (simp +decide only [LXr, and_true, true_and, iv, bv]; done) | (simp +decide only [lowL, LV.low, freeL, LV.free, Bool.and_self, iv, bv, iv, tv, bv, sv, sv_low]; done)) ?_
    simp only [↓LXbr, LXbr, LXn', Nat.reduceLT, Nat.reduceLeDiff, Nat.reduceEqDiff, Int.reduceLT, Int.reduceLE, Int.reduceGT, Int.reduceGE, Nat.reduceGT, Int.reduceEq, Int.reduceBEq, Int.reduceBNe, ↓LXp, LXa, LXm, ↓reduceIte, reduceCtorEq, Nat.reduceAdd, Nat.reduceSub, Nat.reduceMul, Int.reduceAdd, Int.reduceSub, Int.reduceMul, Int.reduceNeg, Int.reduceToNat, Int.cast_ofNat_Int, forall_const, List.reduceReplicate, wi64, wu64, iv, tv, tk_int, U_int, LXn, LXy, bo_ite, Try.ntmps153, Try.results153]
    refine ⟨by omega, ?_⟩
    exact ret_f (rs := [.v (.string (bs _))]) rfl rfl rfl rfl
  · have e : Lib.itoa n = Lib.decDigits n.toNat := by rw [Lib.itoa, if_neg h]
    have e2 : iv n = iv ((n.toNat : Nat) : Int) := by rw [Int.toNat_of_nonneg (by omega)]
    rw [e, e2]
    exact l1Dec_nat n.toNat (by omega)
def regT (src imm : Int) : List UInt8 := if 0 ≤ src then 114 :: Lib.itoa src else Lib.itoa imm
theorem regT_len {a b : Int} (h0 : -4611686018427387904 ≤ a) (h1 : a ≤ 4611686018427387904) (h2 : -4611686018427387904 ≤ b) (h3 : b ≤ 4611686018427387904) : (regT a b).length ≤ 22 := by
  have := itoa_len h0 h1
  have := itoa_len h2 h3
  unfold regT
  split <;> (try simp only [List.length_cons]) <;> omega
theorem l1Reg_pf (a b : Int) (h0 : -4611686018427387904 ≤ a) (h1 : a ≤ 4611686018427387904) (h2 : -4611686018427387904 ≤ b) (h3 : b ≤ 4611686018427387904) : PF Try.prog 160 [iv a, iv b] (.one (tv (regT a b))) := by
  have p1 := l1Dec_int a h0 h1
  have p2 := l1Dec_int b h2 h3
  have l1 := itoa_len h0 h1
  refine fn_of true Try.func160 rfl (by kernel_rfl) (Nat.le_of_ble_eq_true rfl) ?_
  by_cases h : 0 ≤ a
  · have g1 : (a ≥ 0) = True := by simp [h]
    have e : regT a b = 114 :: Lib.itoa a := by rw [regT, if_pos h]
    rw [e]
    simp only [↓LXbr, LXbr, LXn', Nat.reduceLT, Nat.reduceLeDiff, Nat.reduceEqDiff, Int.reduceLT, Int.reduceLE, Int.reduceGT, Int.reduceGE, Nat.reduceGT, Int.reduceEq, Int.reduceBEq, Int.reduceBNe, ↓LXp, LXa, LXm, ↓reduceIte, reduceCtorEq, Nat.reduceAdd, Nat.reduceSub, Nat.reduceMul, Int.reduceAdd, Int.reduceSub, Int.reduceMul, Int.reduceNeg, Int.reduceToNat, Int.cast_ofNat_Int, forall_const, List.reduceReplicate, wi64, wu64, iv, tv, tk_int, U_int, LXy, bo_ite, Try.ntmps160, Try.results160, g1, decide_true]
    refine callTo_f p1 (by first | rfl | (simp +decide only [LXr, LXs, ↓reduceIte, Option.bind_some, iv, tv, bv, sv, sv_old, LXy] <;> rfl) | (simp +decide only [LXr, and_true, true_and, iv, bv]; done) | (simp +decide only [lowL, LV.low, freeL, LV.free, Bool.and_self, iv, bv, iv, tv, bv, sv, sv_low]; done)) (by first | rfl | (simp +decide only [LXr, LXs, ↓reduceIte, Option.bind_some, iv, tv, bv, sv, sv_old, LXy] <;> rfl) | (simp +decide only [LXr, and_true, true_and, iv, bv]; done) | (simp +decide only [lowL, LV.low, freeL, LV.free, Bool.and_self, iv, bv, iv, tv, bv, sv, sv_low]; done)) (by first | rfl | (simp +decide only [LXr, LXs, ↓reduceIte, Option.bind_some, iv, tv, bv, sv, sv_old, LXy] <;> rfl) | (simp +decide only [LXr, and_true, true_and, iv, bv]; done) | (simp +decide only [lowL, LV.low, freeL, LV.free, Bool.and_self, iv, bv, iv, tv, bv, sv, sv_low]; done)) ?_
    simp only [↓LXbr, LXbr, LXn', Nat.reduceLT, Nat.reduceLeDiff, Nat.reduceEqDiff, Int.reduceLT, Int.reduceLE, Int.reduceGT, Int.reduceGE, Nat.reduceGT, Int.reduceEq, Int.reduceBEq, Int.reduceBNe, ↓LXp, LXa, LXm, ↓reduceIte, reduceCtorEq, Nat.reduceAdd, Nat.reduceSub, Nat.reduceMul, Int.reduceAdd, Int.reduceSub, Int.reduceMul, Int.reduceNeg, Int.reduceToNat, Int.cast_ofNat_Int, forall_const, List.reduceReplicate, wi64, wu64, iv, tv, tk_int, U_int, LXy, bo_ite, Try.ntmps160, Try.results160]
    refine ⟨by omega, ?_⟩
    exact ret_f (rs := [.v (.string (bs _))]) rfl rfl rfl rfl
  · have g1 : (a ≥ 0) = False := by simp; omega
    have e : regT a b = Lib.itoa b := by rw [regT, if_neg h]
    rw [e]
    simp only [↓LXbr, LXbr, LXn', Nat.reduceLT, Nat.reduceLeDiff, Nat.reduceEqDiff, Int.reduceLT, Int.reduceLE, Int.reduceGT, Int.reduceGE, Nat.reduceGT, Int.reduceEq, Int.reduceBEq, Int.reduceBNe, ↓LXp, LXa, LXm, ↓reduceIte, reduceCtorEq, Nat.reduceAdd, Nat.reduceSub, Nat.reduceMul, Int.reduceAdd, Int.reduceSub, Int.reduceMul, Int.reduceNeg, Int.reduceToNat, Int.cast_ofNat_Int, forall_const, List.reduceReplicate, wi64, wu64, iv, tv, tk_int, U_int, LXy, bo_ite, Try.ntmps160, Try.results160, g1, decide_false]
    refine callTo_f p2 (by first | rfl | (simp +decide only [LXr, LXs, ↓reduceIte, Option.bind_some, iv, tv, bv, sv, sv_old, LXy] <;> rfl) | (simp +decide only [LXr, and_true, true_and, iv, bv]; done) | (simp +decide only [lowL, LV.low, freeL, LV.free, Bool.and_self, iv, bv, iv, tv, bv, sv, sv_low]; done)) (by first | rfl | (simp +decide only [LXr, LXs, ↓reduceIte, Option.bind_some, iv, tv, bv, sv, sv_old, LXy] <;> rfl) | (simp +decide only [LXr, and_true, true_and, iv, bv]; done) | (simp +decide only [lowL, LV.low, freeL, LV.free, Bool.and_self, iv, bv, iv, tv, bv, sv, sv_low]; done)) (by first | rfl | (simp +decide only [LXr, LXs, ↓reduceIte, Option.bind_some, iv, tv, bv, sv, sv_old, LXy] <;> rfl) | (simp +decide only [LXr, and_true, true_and, iv, bv]; done) | (simp +decide only [lowL, LV.low, freeL, LV.free, Bool.and_self, iv, bv, iv, tv, bv, sv, sv_low]; done)) ?_
    simp only [↓LXbr, LXbr, LXn', Nat.reduceLT, Nat.reduceLeDiff, Nat.reduceEqDiff, Int.reduceLT, Int.reduceLE, Int.reduceGT, Int.reduceGE, Nat.reduceGT, Int.reduceEq, Int.reduceBEq, Int.reduceBNe, ↓LXp, LXa, LXm, ↓reduceIte, reduceCtorEq, Nat.reduceAdd, Nat.reduceSub, Nat.reduceMul, Int.reduceAdd, Int.reduceSub, Int.reduceMul, Int.reduceNeg, Int.reduceToNat, Int.cast_ofNat_Int, forall_const, List.reduceReplicate, wi64, wu64, iv, tv, tk_int, U_int, LXy, bo_ite, Try.ntmps160, Try.results160]
    exact ret_f (rs := [.v (.string (bs _))]) rfl rfl rfl rfl
def Ins.lineT (x : Ins) : List UInt8 :=
  if inB x.op 1 11 then wordAt words x.op ++ ([32, 114] ++ Lib.itoa x.dst) ++ [32] ++ regT x.src x.imm
  else if inB x.op 12 15 then wordAt words x.op ++ ([32, 114] ++ Lib.itoa x.dst) ++ [32] ++ regT x.src x.imm ++ [32] ++ Lib.itoa x.off
  else if x.op == 16 then wordAt words x.op ++ [32] ++ Lib.itoa x.off
  else if x.op == 17 then wordAt words x.op ++ Lib.itoa x.size ++ ([32, 114] ++ Lib.itoa x.dst) ++ [32, 114] ++ Lib.itoa x.src ++ [32] ++ Lib.itoa x.off
  else if x.op == 18 then wordAt words x.op ++ Lib.itoa x.size ++ ([32, 114] ++ Lib.itoa x.dst) ++ [32] ++ Lib.itoa x.off ++ [32] ++ regT x.src x.imm
  else if x.op == 19 then wordAt words x.op ++ [32] ++ wordAt callWords x.imm
  else wordAt words x.op
theorem Ins.op_of_ok {x : Ins} (h : x.okS = true) : (1 ≤ x.op ∧ x.op ≤ 20) ∧ (0 ≤ x.dst ∧ x.dst ≤ 10) ∧ (-1 ≤ x.src ∧ x.src ≤ 10) ∧ (-128 ≤ x.off ∧ x.off ≤ 127) ∧ (0 ≤ x.imm ∧ x.imm ≤ 4294967295) ∧ (x.op = 19 → 1 ≤ x.imm ∧ x.imm ≤ 6) ∧ (x.op = 17 ∨ x.op = 18 → 1 ≤ x.size ∧ x.size ≤ 4) := by
  simp only [Ins.okS, inB, Bool.and_eq_true, decide_eq_true_eq] at h
  obtain ⟨⟨⟨⟨h1, h2⟩, h3⟩, h4⟩, h5⟩ := h
  refine ⟨?_, h1, h2, h3, h4, ?_, ?_⟩
  · unfold Ins.bare at h5
    repeat' split at h5
    all_goals simp_all [inB] <;> omega
  · intro e
    simp [Ins.bare, inB, e] at h5
    omega
  · rintro (e | e)
    · simp [Ins.bare, inB, sizeB, e] at h5
      omega
    · simp [Ins.bare, inB, sizeB, e] at h5
      omega
theorem T_Ins' : T Try.prog 143 = some (.st [.one, .one, .one, .one, .one, .one]) := T_Ins
set_option maxHeartbeats 1000000 in
theorem l1Line_pf (x : Ins) (h : x.okS = true) : PF Try.prog 149 [x.lv] (.one (tv x.lineT)) := by
  obtain ⟨⟨a0, a1⟩, ⟨b0, b1⟩, ⟨c0, c1⟩, ⟨d0, d1⟩, ⟨e0, e1⟩, hcall, hsize⟩ := Ins.op_of_ok h
  have p1 := l1Dec_int x.dst (by omega) (by omega)
  have p2 := l1Dec_int x.off (by omega) (by omega)
  have p3 := l1Dec_int x.src (by omega) (by omega)
  have p4 := l1Reg_pf x.src x.imm (by omega) (by omega) (by omega) (by omega)
  have q1 := l1Alu_pf x.op
  have q2 := l1Jump_pf x.op
  have l1 := itoa_len (n := x.dst) (by omega) (by omega)
  have l2 := itoa_len (n := x.off) (by omega) (by omega)
  have l3 := itoa_len (n := x.src) (by omega) (by omega)
  have l4 := regT_len (a := x.src) (b := x.imm) (by omega) (by omega) (by omega) (by omega)
  have l5 := word_len 5 (ws := words) (by decide) x.op
  have l6 := word_len 4 (ws := callWords) (by decide) x.imm
  have w1 : ((words.map bs).map sv)[x.op.toNat]? = some (sv (bs (wordAt words x.op))) := by
    rw [List.getElem?_map, List.getElem?_map, word_at (ws := words) (by omega) (by show x.op < 21; omega)]
    rfl
  have g1 : (0 ≤ x.op) = True := by simp; omega
  have g2 : (x.op < (((words.map bs).map sv).length : Int)) = True := by simp [words]; omega
  refine fn_of true Try.func149 rfl (by kernel_rfl) (Nat.le_of_ble_eq_true rfl) ?_
  simp only [↓LXbr, LXbr, LXn', Nat.reduceLT, Nat.reduceLeDiff, Nat.reduceEqDiff, Int.reduceLT, Int.reduceLE, Int.reduceGT, Int.reduceGE, Nat.reduceGT, Int.reduceEq, Int.reduceBEq, Int.reduceBNe, ↓LXp, LXa, LXm, ↓reduceIte, reduceCtorEq, Nat.reduceAdd, Nat.reduceSub, Nat.reduceMul, Int.reduceAdd, Int.reduceSub, Int.reduceMul, Int.reduceNeg, Int.reduceToNat, Int.cast_ofNat_Int, forall_const, List.reduceReplicate, wi64, wu64, iv, tv, sv, bv, Ins.lv, T_Ins, tk_int, U_int, T_int, T_string, tsl_strs', LXy, bo_ite, Try.ntmps149, Try.results149]
  (refine cw_plan [] (.one 1 .pure (.one 2 .load (.one 0 .act (.one 3 .pure (.one 4 .act (.one 5 .pure .done)))))) (by kernel_rfl) (by kernel_rfl) ?_; simp only [LXe, Option.elim_some, List.getElem?_cons_zero, List.getElem?_cons_succ])
  simp only [↓LXbr, LXbr, LXn', Nat.reduceLT, Nat.reduceLeDiff, Nat.reduceEqDiff, Int.reduceLT, Int.reduceLE, Int.reduceGT, Int.reduceGE, Nat.reduceGT, Int.reduceEq, Int.reduceBEq, Int.reduceBNe, ↓LXp, LXa, LXm, ↓reduceIte, reduceCtorEq, Nat.reduceAdd, Nat.reduceSub, Nat.reduceMul, Int.reduceAdd, Int.reduceSub, Int.reduceMul, Int.reduceNeg, Int.reduceToNat, Int.cast_ofNat_Int, forall_const, List.reduceReplicate, wi64, wu64, iv, tv, sv, bv, Ins.lv, T_Ins, tk_int, U_int, T_int, T_string, tsl_strs', LXy, bo_ite, Try.ntmps149, Try.results149]
  refine callP_row l1Words_fn' (by first | rfl | (simp +decide only [LXr, LXs, ↓reduceIte, Option.bind_some, iv, tv, bv, sv, sv_old, LXy] <;> rfl) | (simp +decide only [LXr, and_true, true_and, iv, bv]; done) | (simp +decide only [lowL, LV.low, freeL, LV.free, Bool.and_self, iv, bv, iv, tv, bv, sv, sv_low]; done)) (by first | rfl | (simp +decide only [LXr, LXs, ↓reduceIte, Option.bind_some, iv, tv, bv, sv, sv_old, LXy] <;> rfl) | (simp +decide only [LXr, and_true, true_and, iv, bv]; done) | (simp +decide only [lowL, LV.low, freeL, LV.free, Bool.and_self, iv, bv, iv, tv, bv, sv, sv_low]; done)) (sv_free _) ?_
  simp only [↓LXbr, LXbr, LXn', Nat.reduceLT, Nat.reduceLeDiff, Nat.reduceEqDiff, Int.reduceLT, Int.reduceLE, Int.reduceGT, Int.reduceGE, Nat.reduceGT, Int.reduceEq, Int.reduceBEq, Int.reduceBNe, ↓LXp, LXa, LXm, ↓reduceIte, reduceCtorEq, Nat.reduceAdd, Nat.reduceSub, Nat.reduceMul, Int.reduceAdd, Int.reduceSub, Int.reduceMul, Int.reduceNeg, Int.reduceToNat, Int.cast_ofNat_Int, forall_const, List.reduceReplicate, wi64, wu64, iv, tv, sv, bv, Ins.lv, T_Ins, tk_int, U_int, T_int, T_string, tsl_strs', LXy, bo_ite, Try.ntmps149, Try.results149, g1, g2, w1, sv]
  refine callTo_f p1 (by first | rfl | (simp +decide only [LXr, LXs, ↓reduceIte, Option.bind_some, iv, tv, bv, sv, sv_old, LXy] <;> rfl) | (simp +decide only [LXr, and_true, true_and, iv, bv]; done) | (simp +decide only [lowL, LV.low, freeL, LV.free, Bool.and_self, iv, bv, iv, tv, bv, sv, sv_low]; done)) (by first | rfl | (simp +decide only [LXr, LXs, ↓reduceIte, Option.bind_some, iv, tv, bv, sv, sv_old, LXy] <;> rfl) | (simp +decide only [LXr, and_true, true_and, iv, bv]; done) | (simp +decide only [lowL, LV.low, freeL, LV.free, Bool.and_self, iv, bv, iv, tv, bv, sv, sv_low]; done)) (by first | rfl | (simp +decide only [LXr, LXs, ↓reduceIte, Option.bind_some, iv, tv, bv, sv, sv_old, LXy] <;> rfl) | (simp +decide only [LXr, and_true, true_and, iv, bv]; done) | (simp +decide only [lowL, LV.low, freeL, LV.free, Bool.and_self, iv, bv, iv, tv, bv, sv, sv_low]; done)) ?_
  simp only [↓LXbr, LXbr, LXn', Nat.reduceLT, Nat.reduceLeDiff, Nat.reduceEqDiff, Int.reduceLT, Int.reduceLE, Int.reduceGT, Int.reduceGE, Nat.reduceGT, Int.reduceEq, Int.reduceBEq, Int.reduceBNe, ↓LXp, LXa, LXm, ↓reduceIte, reduceCtorEq, Nat.reduceAdd, Nat.reduceSub, Nat.reduceMul, Int.reduceAdd, Int.reduceSub, Int.reduceMul, Int.reduceNeg, Int.reduceToNat, Int.cast_ofNat_Int, forall_const, List.reduceReplicate, wi64, wu64, iv, tv, sv, bv, Ins.lv, T_Ins, tk_int, U_int, T_int, T_string, tsl_strs', LXy, bo_ite, Try.ntmps149, Try.results149]
  refine ⟨by omega, ?_⟩
  refine callTo_f q1 (by first | rfl | (simp +decide only [LXr, LXs, ↓reduceIte, Option.bind_some, iv, tv, bv, sv, sv_old, LXy] <;> rfl) | (simp +decide only [LXr, and_true, true_and, iv, bv]; done) | (simp +decide only [lowL, LV.low, freeL, LV.free, Bool.and_self, iv, bv, iv, tv, bv, sv, sv_low]; done)) (by first | rfl | (simp +decide only [LXr, LXs, ↓reduceIte, Option.bind_some, iv, tv, bv, sv, sv_old, LXy] <;> rfl) | (simp +decide only [LXr, and_true, true_and, iv, bv]; done) | (simp +decide only [lowL, LV.low, freeL, LV.free, Bool.and_self, iv, bv, iv, tv, bv, sv, sv_low]; done)) (by first | rfl | (simp +decide only [LXr, LXs, ↓reduceIte, Option.bind_some, iv, tv, bv, sv, sv_old, LXy] <;> rfl) | (simp +decide only [LXr, and_true, true_and, iv, bv]; done) | (simp +decide only [lowL, LV.low, freeL, LV.free, Bool.and_self, iv, bv, iv, tv, bv, sv, sv_low]; done)) ?_
  have hcls : (inB x.op 1 11 = true) ∨ (inB x.op 1 11 = false ∧ inB x.op 12 15 = true) ∨ (inB x.op 1 11 = false ∧ inB x.op 12 15 = false ∧ 16 ≤ x.op) := by
    simp only [inB, Bool.and_eq_true, decide_eq_true_eq, Bool.and_eq_false_iff, decide_eq_false_iff_not]
    omega
  rcases hcls with k1 | ⟨k1, k2⟩ | ⟨k1, k2, k3⟩
  · simp only [↓LXbr, LXbr, LXn', Nat.reduceLT, Nat.reduceLeDiff, Nat.reduceEqDiff, Int.reduceLT, Int.reduceLE, Int.reduceGT, Int.reduceGE, Nat.reduceGT, Int.reduceEq, Int.reduceBEq, Int.reduceBNe, ↓LXp, LXa, LXm, ↓reduceIte, reduceCtorEq, Nat.reduceAdd, Nat.reduceSub, Nat.reduceMul, Int.reduceAdd, Int.reduceSub, Int.reduceMul, Int.reduceNeg, Int.reduceToNat, Int.cast_ofNat_Int, forall_const, List.reduceReplicate, wi64, wu64, iv, tv, sv, bv, Ins.lv, T_Ins, tk_int, U_int, T_int, T_string, tsl_strs', LXy, bo_ite, Try.ntmps149, Try.results149, k1]
    repeat' (first
      | with_reducible apply And.intro
      | omega
      | (simp only [List.length_append, List.length_cons, List.length_nil]; omega)
      | (refine callP_f p4 ?_ ?_ ?_ ?_
         · first | rfl | (simp +decide only [LXr, LXs, ↓reduceIte, Option.bind_some, iv, tv, bv, sv, sv_old, LXy] <;> rfl) | (simp +decide only [LXr, and_true, true_and, iv, bv]; done) | (simp +decide only [lowL, LV.low, freeL, LV.free, Bool.and_self, iv, bv, iv, tv, bv, sv, sv_low]; done)
         · first | rfl | (simp +decide only [LXr, LXs, ↓reduceIte, Option.bind_some, iv, tv, bv, sv, sv_old, LXy] <;> rfl) | (simp +decide only [LXr, and_true, true_and, iv, bv]; done) | (simp +decide only [lowL, LV.low, freeL, LV.free, Bool.and_self, iv, bv, iv, tv, bv, sv, sv_low]; done)
         · first | rfl | (simp +decide only [LXr, LXs, ↓reduceIte, Option.bind_some, iv, tv, bv, sv, sv_old, LXy] <;> rfl) | (simp +decide only [LXr, and_true, true_and, iv, bv]; done) | (simp +decide only [lowL, LV.low, freeL, LV.free, Bool.and_self, iv, bv, iv, tv, bv, sv, sv_low]; done)
         simp only [↓LXbr, LXbr, LXn', Nat.reduceLT, Nat.reduceLeDiff, Nat.reduceEqDiff, Int.reduceLT, Int.reduceLE, Int.reduceGT, Int.reduceGE, Nat.reduceGT, Int.reduceEq, Int.reduceBEq, Int.reduceBNe, ↓LXp, LXa, LXm, ↓reduceIte, reduceCtorEq, Nat.reduceAdd, Nat.reduceSub, Nat.reduceMul, Int.reduceAdd, Int.reduceSub, Int.reduceMul, Int.reduceNeg, Int.reduceToNat, Int.cast_ofNat_Int, forall_const, List.reduceReplicate, wi64, wu64, iv, tv, sv, bv, Ins.lv, T_Ins, tk_int, U_int, T_int, T_string, tsl_strs', LXy, bo_ite, Try.ntmps149, Try.results149, k1])
      | (refine callTo_f p4 ?_ ?_ ?_ ?_
         · first | rfl | (simp +decide only [LXr, LXs, ↓reduceIte, Option.bind_some, iv, tv, bv, sv, sv_old, LXy] <;> rfl) | (simp +decide only [LXr, and_true, true_and, iv, bv]; done) | (simp +decide only [lowL, LV.low, freeL, LV.free, Bool.and_self, iv, bv, iv, tv, bv, sv, sv_low]; done)
         · first | rfl | (simp +decide only [LXr, LXs, ↓reduceIte, Option.bind_some, iv, tv, bv, sv, sv_old, LXy] <;> rfl) | (simp +decide only [LXr, and_true, true_and, iv, bv]; done) | (simp +decide only [lowL, LV.low, freeL, LV.free, Bool.and_self, iv, bv, iv, tv, bv, sv, sv_low]; done)
         · first | rfl | (simp +decide only [LXr, LXs, ↓reduceIte, Option.bind_some, iv, tv, bv, sv, sv_old, LXy] <;> rfl) | (simp +decide only [LXr, and_true, true_and, iv, bv]; done) | (simp +decide only [lowL, LV.low, freeL, LV.free, Bool.and_self, iv, bv, iv, tv, bv, sv, sv_low]; done)
         simp only [↓LXbr, LXbr, LXn', Nat.reduceLT, Nat.reduceLeDiff, Nat.reduceEqDiff, Int.reduceLT, Int.reduceLE, Int.reduceGT, Int.reduceGE, Nat.reduceGT, Int.reduceEq, Int.reduceBEq, Int.reduceBNe, ↓LXp, LXa, LXm, ↓reduceIte, reduceCtorEq, Nat.reduceAdd, Nat.reduceSub, Nat.reduceMul, Int.reduceAdd, Int.reduceSub, Int.reduceMul, Int.reduceNeg, Int.reduceToNat, Int.cast_ofNat_Int, forall_const, List.reduceReplicate, wi64, wu64, iv, tv, sv, bv, Ins.lv, T_Ins, tk_int, U_int, T_int, T_string, tsl_strs', LXy, bo_ite, Try.ntmps149, Try.results149, k1])
      | (refine ret_f (rs := [.v (.string (bs _))]) rfl rfl rfl ?_
         simp [xOf, tv, sv, Ins.lineT, k1]))
  · simp only [↓LXbr, LXbr, LXn', Nat.reduceLT, Nat.reduceLeDiff, Nat.reduceEqDiff, Int.reduceLT, Int.reduceLE, Int.reduceGT, Int.reduceGE, Nat.reduceGT, Int.reduceEq, Int.reduceBEq, Int.reduceBNe, ↓LXp, LXa, LXm, ↓reduceIte, reduceCtorEq, Nat.reduceAdd, Nat.reduceSub, Nat.reduceMul, Int.reduceAdd, Int.reduceSub, Int.reduceMul, Int.reduceNeg, Int.reduceToNat, Int.cast_ofNat_Int, forall_const, List.reduceReplicate, wi64, wu64, iv, tv, sv, bv, Ins.lv, T_Ins, tk_int, U_int, T_int, T_string, tsl_strs', LXy, bo_ite, Try.ntmps149, Try.results149, k1]
    refine callTo_f q2 (by first | rfl | (simp +decide only [LXr, LXs, ↓reduceIte, Option.bind_some, iv, tv, bv, sv, sv_old, LXy] <;> rfl) | (simp +decide only [LXr, and_true, true_and, iv, bv]; done) | (simp +decide only [lowL, LV.low, freeL, LV.free, Bool.and_self, iv, bv, iv, tv, bv, sv, sv_low]; done)) (by first | rfl | (simp +decide only [LXr, LXs, ↓reduceIte, Option.bind_some, iv, tv, bv, sv, sv_old, LXy] <;> rfl) | (simp +decide only [LXr, and_true, true_and, iv, bv]; done) | (simp +decide only [lowL, LV.low, freeL, LV.free, Bool.and_self, iv, bv, iv, tv, bv, sv, sv_low]; done)) (by first | rfl | (simp +decide only [LXr, LXs, ↓reduceIte, Option.bind_some, iv, tv, bv, sv, sv_old, LXy] <;> rfl) | (simp +decide only [LXr, and_true, true_and, iv, bv]; done) | (simp +decide only [lowL, LV.low, freeL, LV.free, Bool.and_self, iv, bv, iv, tv, bv, sv, sv_low]; done)) ?_
    simp only [↓LXbr, LXbr, LXn', Nat.reduceLT, Nat.reduceLeDiff, Nat.reduceEqDiff, Int.reduceLT, Int.reduceLE, Int.reduceGT, Int.reduceGE, Nat.reduceGT, Int.reduceEq, Int.reduceBEq, Int.reduceBNe, ↓LXp, LXa, LXm, ↓reduceIte, reduceCtorEq, Nat.reduceAdd, Nat.reduceSub, Nat.reduceMul, Int.reduceAdd, Int.reduceSub, Int.reduceMul, Int.reduceNeg, Int.reduceToNat, Int.cast_ofNat_Int, forall_const, List.reduceReplicate, wi64, wu64, iv, tv, sv, bv, Ins.lv, T_Ins, tk_int, U_int, T_int, T_string, tsl_strs', LXy, bo_ite, Try.ntmps149, Try.results149, k2]
    (refine cw_plan [] (.one 0 .pure (.one 1 .pure (.one 2 .pure (.one 3 .pure (.one 4 .pure (.one 6 .pure (.one 11 .pure (.one 5 .load (.one 7 .load (.one 12 .load (.one 8 .act (.one 9 .pure (.one 10 .pure (.one 13 .act (.one 14 .pure (.one 15 .pure .done)))))))))))))))) (by kernel_rfl) (by kernel_rfl) ?_; simp only [LXe, Option.elim_some, List.getElem?_cons_zero, List.getElem?_cons_succ])
    simp only [↓LXbr, LXbr, LXn', Nat.reduceLT, Nat.reduceLeDiff, Nat.reduceEqDiff, Int.reduceLT, Int.reduceLE, Int.reduceGT, Int.reduceGE, Nat.reduceGT, Int.reduceEq, Int.reduceBEq, Int.reduceBNe, ↓LXp, LXa, LXm, ↓reduceIte, reduceCtorEq, Nat.reduceAdd, Nat.reduceSub, Nat.reduceMul, Int.reduceAdd, Int.reduceSub, Int.reduceMul, Int.reduceNeg, Int.reduceToNat, Int.cast_ofNat_Int, forall_const, List.reduceReplicate, wi64, wu64, iv, tv, sv, bv, Ins.lv, T_Ins, tk_int, U_int, T_int, T_string, tsl_strs', LXy, bo_ite, Try.ntmps149, Try.results149]
    repeat' (first
      | with_reducible apply And.intro
      | omega
      | (simp only [List.length_append, List.length_cons, List.length_nil]; omega)
      | (refine callP_f p4 ?_ ?_ ?_ ?_
         · first | rfl | (simp +decide only [LXr, LXs, ↓reduceIte, Option.bind_some, iv, tv, bv, sv, sv_old, LXy] <;> rfl) | (simp +decide only [LXr, and_true, true_and, iv, bv]; done) | (simp +decide only [lowL, LV.low, freeL, LV.free, Bool.and_self, iv, bv, iv, tv, bv, sv, sv_low]; done)
         · first | rfl | (simp +decide only [LXr, LXs, ↓reduceIte, Option.bind_some, iv, tv, bv, sv, sv_old, LXy] <;> rfl) | (simp +decide only [LXr, and_true, true_and, iv, bv]; done) | (simp +decide only [lowL, LV.low, freeL, LV.free, Bool.and_self, iv, bv, iv, tv, bv, sv, sv_low]; done)
         · first | rfl | (simp +decide only [LXr, LXs, ↓reduceIte, Option.bind_some, iv, tv, bv, sv, sv_old, LXy] <;> rfl) | (simp +decide only [LXr, and_true, true_and, iv, bv]; done) | (simp +decide only [lowL, LV.low, freeL, LV.free, Bool.and_self, iv, bv, iv, tv, bv, sv, sv_low]; done)
         simp only [↓LXbr, LXbr, LXn', Nat.reduceLT, Nat.reduceLeDiff, Nat.reduceEqDiff, Int.reduceLT, Int.reduceLE, Int.reduceGT, Int.reduceGE, Nat.reduceGT, Int.reduceEq, Int.reduceBEq, Int.reduceBNe, ↓LXp, LXa, LXm, ↓reduceIte, reduceCtorEq, Nat.reduceAdd, Nat.reduceSub, Nat.reduceMul, Int.reduceAdd, Int.reduceSub, Int.reduceMul, Int.reduceNeg, Int.reduceToNat, Int.cast_ofNat_Int, forall_const, List.reduceReplicate, wi64, wu64, iv, tv, sv, bv, Ins.lv, T_Ins, tk_int, U_int, T_int, T_string, tsl_strs', LXy, bo_ite, Try.ntmps149, Try.results149, k1, k2])
      | (refine callTo_f p4 ?_ ?_ ?_ ?_
         · first | rfl | (simp +decide only [LXr, LXs, ↓reduceIte, Option.bind_some, iv, tv, bv, sv, sv_old, LXy] <;> rfl) | (simp +decide only [LXr, and_true, true_and, iv, bv]; done) | (simp +decide only [lowL, LV.low, freeL, LV.free, Bool.and_self, iv, bv, iv, tv, bv, sv, sv_low]; done)
         · first | rfl | (simp +decide only [LXr, LXs, ↓reduceIte, Option.bind_some, iv, tv, bv, sv, sv_old, LXy] <;> rfl) | (simp +decide only [LXr, and_true, true_and, iv, bv]; done) | (simp +decide only [lowL, LV.low, freeL, LV.free, Bool.and_self, iv, bv, iv, tv, bv, sv, sv_low]; done)
         · first | rfl | (simp +decide only [LXr, LXs, ↓reduceIte, Option.bind_some, iv, tv, bv, sv, sv_old, LXy] <;> rfl) | (simp +decide only [LXr, and_true, true_and, iv, bv]; done) | (simp +decide only [lowL, LV.low, freeL, LV.free, Bool.and_self, iv, bv, iv, tv, bv, sv, sv_low]; done)
         simp only [↓LXbr, LXbr, LXn', Nat.reduceLT, Nat.reduceLeDiff, Nat.reduceEqDiff, Int.reduceLT, Int.reduceLE, Int.reduceGT, Int.reduceGE, Nat.reduceGT, Int.reduceEq, Int.reduceBEq, Int.reduceBNe, ↓LXp, LXa, LXm, ↓reduceIte, reduceCtorEq, Nat.reduceAdd, Nat.reduceSub, Nat.reduceMul, Int.reduceAdd, Int.reduceSub, Int.reduceMul, Int.reduceNeg, Int.reduceToNat, Int.cast_ofNat_Int, forall_const, List.reduceReplicate, wi64, wu64, iv, tv, sv, bv, Ins.lv, T_Ins, tk_int, U_int, T_int, T_string, tsl_strs', LXy, bo_ite, Try.ntmps149, Try.results149, k1, k2])
      | (refine callP_f p2 ?_ ?_ ?_ ?_
         · first | rfl | (simp +decide only [LXr, LXs, ↓reduceIte, Option.bind_some, iv, tv, bv, sv, sv_old, LXy] <;> rfl) | (simp +decide only [LXr, and_true, true_and, iv, bv]; done) | (simp +decide only [lowL, LV.low, freeL, LV.free, Bool.and_self, iv, bv, iv, tv, bv, sv, sv_low]; done)
         · first | rfl | (simp +decide only [LXr, LXs, ↓reduceIte, Option.bind_some, iv, tv, bv, sv, sv_old, LXy] <;> rfl) | (simp +decide only [LXr, and_true, true_and, iv, bv]; done) | (simp +decide only [lowL, LV.low, freeL, LV.free, Bool.and_self, iv, bv, iv, tv, bv, sv, sv_low]; done)
         · first | rfl | (simp +decide only [LXr, LXs, ↓reduceIte, Option.bind_some, iv, tv, bv, sv, sv_old, LXy] <;> rfl) | (simp +decide only [LXr, and_true, true_and, iv, bv]; done) | (simp +decide only [lowL, LV.low, freeL, LV.free, Bool.and_self, iv, bv, iv, tv, bv, sv, sv_low]; done)
         simp only [↓LXbr, LXbr, LXn', Nat.reduceLT, Nat.reduceLeDiff, Nat.reduceEqDiff, Int.reduceLT, Int.reduceLE, Int.reduceGT, Int.reduceGE, Nat.reduceGT, Int.reduceEq, Int.reduceBEq, Int.reduceBNe, ↓LXp, LXa, LXm, ↓reduceIte, reduceCtorEq, Nat.reduceAdd, Nat.reduceSub, Nat.reduceMul, Int.reduceAdd, Int.reduceSub, Int.reduceMul, Int.reduceNeg, Int.reduceToNat, Int.cast_ofNat_Int, forall_const, List.reduceReplicate, wi64, wu64, iv, tv, sv, bv, Ins.lv, T_Ins, tk_int, U_int, T_int, T_string, tsl_strs', LXy, bo_ite, Try.ntmps149, Try.results149, k1, k2])
      | (refine callTo_f p2 ?_ ?_ ?_ ?_
         · first | rfl | (simp +decide only [LXr, LXs, ↓reduceIte, Option.bind_some, iv, tv, bv, sv, sv_old, LXy] <;> rfl) | (simp +decide only [LXr, and_true, true_and, iv, bv]; done) | (simp +decide only [lowL, LV.low, freeL, LV.free, Bool.and_self, iv, bv, iv, tv, bv, sv, sv_low]; done)
         · first | rfl | (simp +decide only [LXr, LXs, ↓reduceIte, Option.bind_some, iv, tv, bv, sv, sv_old, LXy] <;> rfl) | (simp +decide only [LXr, and_true, true_and, iv, bv]; done) | (simp +decide only [lowL, LV.low, freeL, LV.free, Bool.and_self, iv, bv, iv, tv, bv, sv, sv_low]; done)
         · first | rfl | (simp +decide only [LXr, LXs, ↓reduceIte, Option.bind_some, iv, tv, bv, sv, sv_old, LXy] <;> rfl) | (simp +decide only [LXr, and_true, true_and, iv, bv]; done) | (simp +decide only [lowL, LV.low, freeL, LV.free, Bool.and_self, iv, bv, iv, tv, bv, sv, sv_low]; done)
         simp only [↓LXbr, LXbr, LXn', Nat.reduceLT, Nat.reduceLeDiff, Nat.reduceEqDiff, Int.reduceLT, Int.reduceLE, Int.reduceGT, Int.reduceGE, Nat.reduceGT, Int.reduceEq, Int.reduceBEq, Int.reduceBNe, ↓LXp, LXa, LXm, ↓reduceIte, reduceCtorEq, Nat.reduceAdd, Nat.reduceSub, Nat.reduceMul, Int.reduceAdd, Int.reduceSub, Int.reduceMul, Int.reduceNeg, Int.reduceToNat, Int.cast_ofNat_Int, forall_const, List.reduceReplicate, wi64, wu64, iv, tv, sv, bv, Ins.lv, T_Ins, tk_int, U_int, T_int, T_string, tsl_strs', LXy, bo_ite, Try.ntmps149, Try.results149, k1, k2])
      | (refine ret_f (rs := [.v (.string (bs _))]) rfl rfl rfl ?_
         simp [xOf, tv, sv, Ins.lineT, k1, k2]))
  · simp only [↓LXbr, LXbr, LXn', Nat.reduceLT, Nat.reduceLeDiff, Nat.reduceEqDiff, Int.reduceLT, Int.reduceLE, Int.reduceGT, Int.reduceGE, Nat.reduceGT, Int.reduceEq, Int.reduceBEq, Int.reduceBNe, ↓LXp, LXa, LXm, ↓reduceIte, reduceCtorEq, Nat.reduceAdd, Nat.reduceSub, Nat.reduceMul, Int.reduceAdd, Int.reduceSub, Int.reduceMul, Int.reduceNeg, Int.reduceToNat, Int.cast_ofNat_Int, forall_const, List.reduceReplicate, wi64, wu64, iv, tv, sv, bv, Ins.lv, T_Ins, tk_int, U_int, T_int, T_string, tsl_strs', LXy, bo_ite, Try.ntmps149, Try.results149, k1]
    refine callTo_f q2 (by first | rfl | (simp +decide only [LXr, LXs, ↓reduceIte, Option.bind_some, iv, tv, bv, sv, sv_old, LXy] <;> rfl) | (simp +decide only [LXr, and_true, true_and, iv, bv]; done) | (simp +decide only [lowL, LV.low, freeL, LV.free, Bool.and_self, iv, bv, iv, tv, bv, sv, sv_low]; done)) (by first | rfl | (simp +decide only [LXr, LXs, ↓reduceIte, Option.bind_some, iv, tv, bv, sv, sv_old, LXy] <;> rfl) | (simp +decide only [LXr, and_true, true_and, iv, bv]; done) | (simp +decide only [lowL, LV.low, freeL, LV.free, Bool.and_self, iv, bv, iv, tv, bv, sv, sv_low]; done)) (by first | rfl | (simp +decide only [LXr, LXs, ↓reduceIte, Option.bind_some, iv, tv, bv, sv, sv_old, LXy] <;> rfl) | (simp +decide only [LXr, and_true, true_and, iv, bv]; done) | (simp +decide only [lowL, LV.low, freeL, LV.free, Bool.and_self, iv, bv, iv, tv, bv, sv, sv_low]; done)) ?_
    simp only [↓LXbr, LXbr, LXn', Nat.reduceLT, Nat.reduceLeDiff, Nat.reduceEqDiff, Int.reduceLT, Int.reduceLE, Int.reduceGT, Int.reduceGE, Nat.reduceGT, Int.reduceEq, Int.reduceBEq, Int.reduceBNe, ↓LXp, LXa, LXm, ↓reduceIte, reduceCtorEq, Nat.reduceAdd, Nat.reduceSub, Nat.reduceMul, Int.reduceAdd, Int.reduceSub, Int.reduceMul, Int.reduceNeg, Int.reduceToNat, Int.cast_ofNat_Int, forall_const, List.reduceReplicate, wi64, wu64, iv, tv, sv, bv, Ins.lv, T_Ins, tk_int, U_int, T_int, T_string, tsl_strs', LXy, bo_ite, Try.ntmps149, Try.results149, k2]
    obtain k4 | k4 | k4 | k4 | k4 : x.op = 16 ∨ x.op = 17 ∨ x.op = 18 ∨ x.op = 19 ∨ x.op = 20 := by omega
    · have m16 : (x.op == 16) = true := by simp [k4]
      have m17 : (x.op == 17) = false := by simp [k4]
      have m18 : (x.op == 18) = false := by simp [k4]
      have m19 : (x.op == 19) = false := by simp [k4]
      simp only [↓LXbr, LXbr, LXn', Nat.reduceLT, Nat.reduceLeDiff, Nat.reduceEqDiff, Int.reduceLT, Int.reduceLE, Int.reduceGT, Int.reduceGE, Nat.reduceGT, Int.reduceEq, Int.reduceBEq, Int.reduceBNe, ↓LXp, LXa, LXm, ↓reduceIte, reduceCtorEq, Nat.reduceAdd, Nat.reduceSub, Nat.reduceMul, Int.reduceAdd, Int.reduceSub, Int.reduceMul, Int.reduceNeg, Int.reduceToNat, Int.cast_ofNat_Int, forall_const, List.reduceReplicate, wi64, wu64, iv, tv, sv, bv, Ins.lv, T_Ins, tk_int, U_int, T_int, T_string, tsl_strs', LXy, bo_ite, Try.ntmps149, Try.results149, m16, m17, m18, m19, sv]
      repeat' (first
        | with_reducible apply And.intro
        | omega
        | (simp only [List.length_append, List.length_cons, List.length_nil]; omega)
        | (refine callP_f p2 ?_ ?_ ?_ ?_
           · first | rfl | (simp +decide only [LXr, LXs, ↓reduceIte, Option.bind_some, iv, tv, bv, sv, sv_old, LXy] <;> rfl) | (simp +decide only [LXr, and_true, true_and, iv, bv]; done) | (simp +decide only [lowL, LV.low, freeL, LV.free, Bool.and_self, iv, bv, iv, tv, bv, sv, sv_low]; done)
           · first | rfl | (simp +decide only [LXr, LXs, ↓reduceIte, Option.bind_some, iv, tv, bv, sv, sv_old, LXy] <;> rfl) | (simp +decide only [LXr, and_true, true_and, iv, bv]; done) | (simp +decide only [lowL, LV.low, freeL, LV.free, Bool.and_self, iv, bv, iv, tv, bv, sv, sv_low]; done)
           · first | rfl | (simp +decide only [LXr, LXs, ↓reduceIte, Option.bind_some, iv, tv, bv, sv, sv_old, LXy] <;> rfl) | (simp +decide only [LXr, and_true, true_and, iv, bv]; done) | (simp +decide only [lowL, LV.low, freeL, LV.free, Bool.and_self, iv, bv, iv, tv, bv, sv, sv_low]; done)
           simp only [↓LXbr, LXbr, LXn', Nat.reduceLT, Nat.reduceLeDiff, Nat.reduceEqDiff, Int.reduceLT, Int.reduceLE, Int.reduceGT, Int.reduceGE, Nat.reduceGT, Int.reduceEq, Int.reduceBEq, Int.reduceBNe, ↓LXp, LXa, LXm, ↓reduceIte, reduceCtorEq, Nat.reduceAdd, Nat.reduceSub, Nat.reduceMul, Int.reduceAdd, Int.reduceSub, Int.reduceMul, Int.reduceNeg, Int.reduceToNat, Int.cast_ofNat_Int, forall_const, List.reduceReplicate, wi64, wu64, iv, tv, sv, bv, Ins.lv, T_Ins, tk_int, U_int, T_int, T_string, tsl_strs', LXy, bo_ite, Try.ntmps149, Try.results149, m16, m17, m18, m19])
        | (refine callTo_f p2 ?_ ?_ ?_ ?_
           · first | rfl | (simp +decide only [LXr, LXs, ↓reduceIte, Option.bind_some, iv, tv, bv, sv, sv_old, LXy] <;> rfl) | (simp +decide only [LXr, and_true, true_and, iv, bv]; done) | (simp +decide only [lowL, LV.low, freeL, LV.free, Bool.and_self, iv, bv, iv, tv, bv, sv, sv_low]; done)
           · first | rfl | (simp +decide only [LXr, LXs, ↓reduceIte, Option.bind_some, iv, tv, bv, sv, sv_old, LXy] <;> rfl) | (simp +decide only [LXr, and_true, true_and, iv, bv]; done) | (simp +decide only [lowL, LV.low, freeL, LV.free, Bool.and_self, iv, bv, iv, tv, bv, sv, sv_low]; done)
           · first | rfl | (simp +decide only [LXr, LXs, ↓reduceIte, Option.bind_some, iv, tv, bv, sv, sv_old, LXy] <;> rfl) | (simp +decide only [LXr, and_true, true_and, iv, bv]; done) | (simp +decide only [lowL, LV.low, freeL, LV.free, Bool.and_self, iv, bv, iv, tv, bv, sv, sv_low]; done)
           simp only [↓LXbr, LXbr, LXn', Nat.reduceLT, Nat.reduceLeDiff, Nat.reduceEqDiff, Int.reduceLT, Int.reduceLE, Int.reduceGT, Int.reduceGE, Nat.reduceGT, Int.reduceEq, Int.reduceBEq, Int.reduceBNe, ↓LXp, LXa, LXm, ↓reduceIte, reduceCtorEq, Nat.reduceAdd, Nat.reduceSub, Nat.reduceMul, Int.reduceAdd, Int.reduceSub, Int.reduceMul, Int.reduceNeg, Int.reduceToNat, Int.cast_ofNat_Int, forall_const, List.reduceReplicate, wi64, wu64, iv, tv, sv, bv, Ins.lv, T_Ins, tk_int, U_int, T_int, T_string, tsl_strs', LXy, bo_ite, Try.ntmps149, Try.results149, m16, m17, m18, m19])
        | (refine ret_f (rs := [.v (.string (bs _))]) rfl rfl rfl ?_
           simp [xOf, tv, sv, Ins.lineT, k1, k2, m16, m17, m18, m19]))
    · have m16 : (x.op == 16) = false := by simp [k4]
      have m17 : (x.op == 17) = true := by simp [k4]
      have m18 : (x.op == 18) = false := by simp [k4]
      have m19 : (x.op == 19) = false := by simp [k4]
      have hz := hsize (by omega)
      have p5 := l1Dec_int x.size (by omega) (by omega)
      have l7 := itoa_len (n := x.size) (by omega) (by omega)
      simp only [↓LXbr, LXbr, LXn', Nat.reduceLT, Nat.reduceLeDiff, Nat.reduceEqDiff, Int.reduceLT, Int.reduceLE, Int.reduceGT, Int.reduceGE, Nat.reduceGT, Int.reduceEq, Int.reduceBEq, Int.reduceBNe, ↓LXp, LXa, LXm, ↓reduceIte, reduceCtorEq, Nat.reduceAdd, Nat.reduceSub, Nat.reduceMul, Int.reduceAdd, Int.reduceSub, Int.reduceMul, Int.reduceNeg, Int.reduceToNat, Int.cast_ofNat_Int, forall_const, List.reduceReplicate, wi64, wu64, iv, tv, sv, bv, Ins.lv, T_Ins, tk_int, U_int, T_int, T_string, tsl_strs', LXy, bo_ite, Try.ntmps149, Try.results149, m16, m17, m18, m19, sv]
      (refine cw_plan [] (.one 0 .pure (.one 1 .pure (.one 5 .pure (.one 8 .pure (.one 13 .pure (.one 2 .load (.one 9 .load (.one 14 .load (.one 3 .act (.one 4 .pure (.one 6 .pure (.one 7 .pure (.one 10 .act (.one 11 .pure (.one 12 .pure (.one 15 .act (.one 16 .pure (.one 17 .pure .done)))))))))))))))))) (by kernel_rfl) (by kernel_rfl) ?_; simp only [LXe, Option.elim_some, List.getElem?_cons_zero, List.getElem?_cons_succ])
      simp only [↓LXbr, LXbr, LXn', Nat.reduceLT, Nat.reduceLeDiff, Nat.reduceEqDiff, Int.reduceLT, Int.reduceLE, Int.reduceGT, Int.reduceGE, Nat.reduceGT, Int.reduceEq, Int.reduceBEq, Int.reduceBNe, ↓LXp, LXa, LXm, ↓reduceIte, reduceCtorEq, Nat.reduceAdd, Nat.reduceSub, Nat.reduceMul, Int.reduceAdd, Int.reduceSub, Int.reduceMul, Int.reduceNeg, Int.reduceToNat, Int.cast_ofNat_Int, forall_const, List.reduceReplicate, wi64, wu64, iv, tv, sv, bv, Ins.lv, T_Ins, tk_int, U_int, T_int, T_string, tsl_strs', LXy, bo_ite, Try.ntmps149, Try.results149, m16, m17, m18, m19, sv]
      repeat' (first
        | with_reducible apply And.intro
        | omega
        | (simp only [List.length_append, List.length_cons, List.length_nil]; omega)
        | (refine callP_f p5 ?_ ?_ ?_ ?_
           · first | rfl | (simp +decide only [LXr, LXs, ↓reduceIte, Option.bind_some, iv, tv, bv, sv, sv_old, LXy] <;> rfl) | (simp +decide only [LXr, and_true, true_and, iv, bv]; done) | (simp +decide only [lowL, LV.low, freeL, LV.free, Bool.and_self, iv, bv, iv, tv, bv, sv, sv_low]; done)
           · first | rfl | (simp +decide only [LXr, LXs, ↓reduceIte, Option.bind_some, iv, tv, bv, sv, sv_old, LXy] <;> rfl) | (simp +decide only [LXr, and_true, true_and, iv, bv]; done) | (simp +decide only [lowL, LV.low, freeL, LV.free, Bool.and_self, iv, bv, iv, tv, bv, sv, sv_low]; done)
           · first | rfl | (simp +decide only [LXr, LXs, ↓reduceIte, Option.bind_some, iv, tv, bv, sv, sv_old, LXy] <;> rfl) | (simp +decide only [LXr, and_true, true_and, iv, bv]; done) | (simp +decide only [lowL, LV.low, freeL, LV.free, Bool.and_self, iv, bv, iv, tv, bv, sv, sv_low]; done)
           simp only [↓LXbr, LXbr, LXn', Nat.reduceLT, Nat.reduceLeDiff, Nat.reduceEqDiff, Int.reduceLT, Int.reduceLE, Int.reduceGT, Int.reduceGE, Nat.reduceGT, Int.reduceEq, Int.reduceBEq, Int.reduceBNe, ↓LXp, LXa, LXm, ↓reduceIte, reduceCtorEq, Nat.reduceAdd, Nat.reduceSub, Nat.reduceMul, Int.reduceAdd, Int.reduceSub, Int.reduceMul, Int.reduceNeg, Int.reduceToNat, Int.cast_ofNat_Int, forall_const, List.reduceReplicate, wi64, wu64, iv, tv, sv, bv, Ins.lv, T_Ins, tk_int, U_int, T_int, T_string, tsl_strs', LXy, bo_ite, Try.ntmps149, Try.results149, m16, m17, m18, m19])
        | (refine callTo_f p5 ?_ ?_ ?_ ?_
           · first | rfl | (simp +decide only [LXr, LXs, ↓reduceIte, Option.bind_some, iv, tv, bv, sv, sv_old, LXy] <;> rfl) | (simp +decide only [LXr, and_true, true_and, iv, bv]; done) | (simp +decide only [lowL, LV.low, freeL, LV.free, Bool.and_self, iv, bv, iv, tv, bv, sv, sv_low]; done)
           · first | rfl | (simp +decide only [LXr, LXs, ↓reduceIte, Option.bind_some, iv, tv, bv, sv, sv_old, LXy] <;> rfl) | (simp +decide only [LXr, and_true, true_and, iv, bv]; done) | (simp +decide only [lowL, LV.low, freeL, LV.free, Bool.and_self, iv, bv, iv, tv, bv, sv, sv_low]; done)
           · first | rfl | (simp +decide only [LXr, LXs, ↓reduceIte, Option.bind_some, iv, tv, bv, sv, sv_old, LXy] <;> rfl) | (simp +decide only [LXr, and_true, true_and, iv, bv]; done) | (simp +decide only [lowL, LV.low, freeL, LV.free, Bool.and_self, iv, bv, iv, tv, bv, sv, sv_low]; done)
           simp only [↓LXbr, LXbr, LXn', Nat.reduceLT, Nat.reduceLeDiff, Nat.reduceEqDiff, Int.reduceLT, Int.reduceLE, Int.reduceGT, Int.reduceGE, Nat.reduceGT, Int.reduceEq, Int.reduceBEq, Int.reduceBNe, ↓LXp, LXa, LXm, ↓reduceIte, reduceCtorEq, Nat.reduceAdd, Nat.reduceSub, Nat.reduceMul, Int.reduceAdd, Int.reduceSub, Int.reduceMul, Int.reduceNeg, Int.reduceToNat, Int.cast_ofNat_Int, forall_const, List.reduceReplicate, wi64, wu64, iv, tv, sv, bv, Ins.lv, T_Ins, tk_int, U_int, T_int, T_string, tsl_strs', LXy, bo_ite, Try.ntmps149, Try.results149, m16, m17, m18, m19])
        | (refine callP_f p3 ?_ ?_ ?_ ?_
           · first | rfl | (simp +decide only [LXr, LXs, ↓reduceIte, Option.bind_some, iv, tv, bv, sv, sv_old, LXy] <;> rfl) | (simp +decide only [LXr, and_true, true_and, iv, bv]; done) | (simp +decide only [lowL, LV.low, freeL, LV.free, Bool.and_self, iv, bv, iv, tv, bv, sv, sv_low]; done)
           · first | rfl | (simp +decide only [LXr, LXs, ↓reduceIte, Option.bind_some, iv, tv, bv, sv, sv_old, LXy] <;> rfl) | (simp +decide only [LXr, and_true, true_and, iv, bv]; done) | (simp +decide only [lowL, LV.low, freeL, LV.free, Bool.and_self, iv, bv, iv, tv, bv, sv, sv_low]; done)
           · first | rfl | (simp +decide only [LXr, LXs, ↓reduceIte, Option.bind_some, iv, tv, bv, sv, sv_old, LXy] <;> rfl) | (simp +decide only [LXr, and_true, true_and, iv, bv]; done) | (simp +decide only [lowL, LV.low, freeL, LV.free, Bool.and_self, iv, bv, iv, tv, bv, sv, sv_low]; done)
           simp only [↓LXbr, LXbr, LXn', Nat.reduceLT, Nat.reduceLeDiff, Nat.reduceEqDiff, Int.reduceLT, Int.reduceLE, Int.reduceGT, Int.reduceGE, Nat.reduceGT, Int.reduceEq, Int.reduceBEq, Int.reduceBNe, ↓LXp, LXa, LXm, ↓reduceIte, reduceCtorEq, Nat.reduceAdd, Nat.reduceSub, Nat.reduceMul, Int.reduceAdd, Int.reduceSub, Int.reduceMul, Int.reduceNeg, Int.reduceToNat, Int.cast_ofNat_Int, forall_const, List.reduceReplicate, wi64, wu64, iv, tv, sv, bv, Ins.lv, T_Ins, tk_int, U_int, T_int, T_string, tsl_strs', LXy, bo_ite, Try.ntmps149, Try.results149, m16, m17, m18, m19])
        | (refine callTo_f p3 ?_ ?_ ?_ ?_
           · first | rfl | (simp +decide only [LXr, LXs, ↓reduceIte, Option.bind_some, iv, tv, bv, sv, sv_old, LXy] <;> rfl) | (simp +decide only [LXr, and_true, true_and, iv, bv]; done) | (simp +decide only [lowL, LV.low, freeL, LV.free, Bool.and_self, iv, bv, iv, tv, bv, sv, sv_low]; done)
           · first | rfl | (simp +decide only [LXr, LXs, ↓reduceIte, Option.bind_some, iv, tv, bv, sv, sv_old, LXy] <;> rfl) | (simp +decide only [LXr, and_true, true_and, iv, bv]; done) | (simp +decide only [lowL, LV.low, freeL, LV.free, Bool.and_self, iv, bv, iv, tv, bv, sv, sv_low]; done)
           · first | rfl | (simp +decide only [LXr, LXs, ↓reduceIte, Option.bind_some, iv, tv, bv, sv, sv_old, LXy] <;> rfl) | (simp +decide only [LXr, and_true, true_and, iv, bv]; done) | (simp +decide only [lowL, LV.low, freeL, LV.free, Bool.and_self, iv, bv, iv, tv, bv, sv, sv_low]; done)
           simp only [↓LXbr, LXbr, LXn', Nat.reduceLT, Nat.reduceLeDiff, Nat.reduceEqDiff, Int.reduceLT, Int.reduceLE, Int.reduceGT, Int.reduceGE, Nat.reduceGT, Int.reduceEq, Int.reduceBEq, Int.reduceBNe, ↓LXp, LXa, LXm, ↓reduceIte, reduceCtorEq, Nat.reduceAdd, Nat.reduceSub, Nat.reduceMul, Int.reduceAdd, Int.reduceSub, Int.reduceMul, Int.reduceNeg, Int.reduceToNat, Int.cast_ofNat_Int, forall_const, List.reduceReplicate, wi64, wu64, iv, tv, sv, bv, Ins.lv, T_Ins, tk_int, U_int, T_int, T_string, tsl_strs', LXy, bo_ite, Try.ntmps149, Try.results149, m16, m17, m18, m19])
        | (refine callP_f p2 ?_ ?_ ?_ ?_
           · first | rfl | (simp +decide only [LXr, LXs, ↓reduceIte, Option.bind_some, iv, tv, bv, sv, sv_old, LXy] <;> rfl) | (simp +decide only [LXr, and_true, true_and, iv, bv]; done) | (simp +decide only [lowL, LV.low, freeL, LV.free, Bool.and_self, iv, bv, iv, tv, bv, sv, sv_low]; done)
           · first | rfl | (simp +decide only [LXr, LXs, ↓reduceIte, Option.bind_some, iv, tv, bv, sv, sv_old, LXy] <;> rfl) | (simp +decide only [LXr, and_true, true_and, iv, bv]; done) | (simp +decide only [lowL, LV.low, freeL, LV.free, Bool.and_self, iv, bv, iv, tv, bv, sv, sv_low]; done)
           · first | rfl | (simp +decide only [LXr, LXs, ↓reduceIte, Option.bind_some, iv, tv, bv, sv, sv_old, LXy] <;> rfl) | (simp +decide only [LXr, and_true, true_and, iv, bv]; done) | (simp +decide only [lowL, LV.low, freeL, LV.free, Bool.and_self, iv, bv, iv, tv, bv, sv, sv_low]; done)
           simp only [↓LXbr, LXbr, LXn', Nat.reduceLT, Nat.reduceLeDiff, Nat.reduceEqDiff, Int.reduceLT, Int.reduceLE, Int.reduceGT, Int.reduceGE, Nat.reduceGT, Int.reduceEq, Int.reduceBEq, Int.reduceBNe, ↓LXp, LXa, LXm, ↓reduceIte, reduceCtorEq, Nat.reduceAdd, Nat.reduceSub, Nat.reduceMul, Int.reduceAdd, Int.reduceSub, Int.reduceMul, Int.reduceNeg, Int.reduceToNat, Int.cast_ofNat_Int, forall_const, List.reduceReplicate, wi64, wu64, iv, tv, sv, bv, Ins.lv, T_Ins, tk_int, U_int, T_int, T_string, tsl_strs', LXy, bo_ite, Try.ntmps149, Try.results149, m16, m17, m18, m19])
        | (refine callTo_f p2 ?_ ?_ ?_ ?_
           · first | rfl | (simp +decide only [LXr, LXs, ↓reduceIte, Option.bind_some, iv, tv, bv, sv, sv_old, LXy] <;> rfl) | (simp +decide only [LXr, and_true, true_and, iv, bv]; done) | (simp +decide only [lowL, LV.low, freeL, LV.free, Bool.and_self, iv, bv, iv, tv, bv, sv, sv_low]; done)
           · first | rfl | (simp +decide only [LXr, LXs, ↓reduceIte, Option.bind_some, iv, tv, bv, sv, sv_old, LXy] <;> rfl) | (simp +decide only [LXr, and_true, true_and, iv, bv]; done) | (simp +decide only [lowL, LV.low, freeL, LV.free, Bool.and_self, iv, bv, iv, tv, bv, sv, sv_low]; done)
           · first | rfl | (simp +decide only [LXr, LXs, ↓reduceIte, Option.bind_some, iv, tv, bv, sv, sv_old, LXy] <;> rfl) | (simp +decide only [LXr, and_true, true_and, iv, bv]; done) | (simp +decide only [lowL, LV.low, freeL, LV.free, Bool.and_self, iv, bv, iv, tv, bv, sv, sv_low]; done)
           simp only [↓LXbr, LXbr, LXn', Nat.reduceLT, Nat.reduceLeDiff, Nat.reduceEqDiff, Int.reduceLT, Int.reduceLE, Int.reduceGT, Int.reduceGE, Nat.reduceGT, Int.reduceEq, Int.reduceBEq, Int.reduceBNe, ↓LXp, LXa, LXm, ↓reduceIte, reduceCtorEq, Nat.reduceAdd, Nat.reduceSub, Nat.reduceMul, Int.reduceAdd, Int.reduceSub, Int.reduceMul, Int.reduceNeg, Int.reduceToNat, Int.cast_ofNat_Int, forall_const, List.reduceReplicate, wi64, wu64, iv, tv, sv, bv, Ins.lv, T_Ins, tk_int, U_int, T_int, T_string, tsl_strs', LXy, bo_ite, Try.ntmps149, Try.results149, m16, m17, m18, m19])
        | (refine ret_f (rs := [.v (.string (bs _))]) rfl rfl rfl ?_
           simp [xOf, tv, sv, Ins.lineT, k1, k2, m16, m17, m18, m19]))
    · have m16 : (x.op == 16) = false := by simp [k4]
      have m17 : (x.op == 17) = false := by simp [k4]
      have m18 : (x.op == 18) = true := by simp [k4]
      have m19 : (x.op == 19) = false := by simp [k4]
      have hz := hsize (by omega)
      have p5 := l1Dec_int x.size (by omega) (by omega)
      have l7 := itoa_len (n := x.size) (by omega) (by omega)
      simp only [↓LXbr, LXbr, LXn', Nat.reduceLT, Nat.reduceLeDiff, Nat.reduceEqDiff, Int.reduceLT, Int.reduceLE, Int.reduceGT, Int.reduceGE, Nat.reduceGT, Int.reduceEq, Int.reduceBEq, Int.reduceBNe, ↓LXp, LXa, LXm, ↓reduceIte, reduceCtorEq, Nat.reduceAdd, Nat.reduceSub, Nat.reduceMul, Int.reduceAdd, Int.reduceSub, Int.reduceMul, Int.reduceNeg, Int.reduceToNat, Int.cast_ofNat_Int, forall_const, List.reduceReplicate, wi64, wu64, iv, tv, sv, bv, Ins.lv, T_Ins, tk_int, U_int, T_int, T_string, tsl_strs', LXy, bo_ite, Try.ntmps149, Try.results149, m16, m17, m18, m19, sv]
      (refine cw_plan [] (.one 0 .pure (.one 1 .pure (.one 5 .pure (.one 8 .pure (.one 13 .pure (.one 15 .pure (.one 2 .load (.one 9 .load (.one 14 .load (.one 16 .load (.one 3 .act (.one 4 .pure (.one 6 .pure (.one 7 .pure (.one 10 .act (.one 11 .pure (.one 12 .pure (.one 17 .act (.one 18 .pure (.one 19 .pure .done)))))))))))))))))))) (by kernel_rfl) (by kernel_rfl) ?_; simp only [LXe, Option.elim_some, List.getElem?_cons_zero, List.getElem?_cons_succ])
      simp only [↓LXbr, LXbr, LXn', Nat.reduceLT, Nat.reduceLeDiff, Nat.reduceEqDiff, Int.reduceLT, Int.reduceLE, Int.reduceGT, Int.reduceGE, Nat.reduceGT, Int.reduceEq, Int.reduceBEq, Int.reduceBNe, ↓LXp, LXa, LXm, ↓reduceIte, reduceCtorEq, Nat.reduceAdd, Nat.reduceSub, Nat.reduceMul, Int.reduceAdd, Int.reduceSub, Int.reduceMul, Int.reduceNeg, Int.reduceToNat, Int.cast_ofNat_Int, forall_const, List.reduceReplicate, wi64, wu64, iv, tv, sv, bv, Ins.lv, T_Ins, tk_int, U_int, T_int, T_string, tsl_strs', LXy, bo_ite, Try.ntmps149, Try.results149, m16, m17, m18, m19, sv]
      repeat' (first
        | with_reducible apply And.intro
        | omega
        | (simp only [List.length_append, List.length_cons, List.length_nil]; omega)
        | (refine callP_f p5 ?_ ?_ ?_ ?_
           · first | rfl | (simp +decide only [LXr, LXs, ↓reduceIte, Option.bind_some, iv, tv, bv, sv, sv_old, LXy] <;> rfl) | (simp +decide only [LXr, and_true, true_and, iv, bv]; done) | (simp +decide only [lowL, LV.low, freeL, LV.free, Bool.and_self, iv, bv, iv, tv, bv, sv, sv_low]; done)
           · first | rfl | (simp +decide only [LXr, LXs, ↓reduceIte, Option.bind_some, iv, tv, bv, sv, sv_old, LXy] <;> rfl) | (simp +decide only [LXr, and_true, true_and, iv, bv]; done) | (simp +decide only [lowL, LV.low, freeL, LV.free, Bool.and_self, iv, bv, iv, tv, bv, sv, sv_low]; done)
           · first | rfl | (simp +decide only [LXr, LXs, ↓reduceIte, Option.bind_some, iv, tv, bv, sv, sv_old, LXy] <;> rfl) | (simp +decide only [LXr, and_true, true_and, iv, bv]; done) | (simp +decide only [lowL, LV.low, freeL, LV.free, Bool.and_self, iv, bv, iv, tv, bv, sv, sv_low]; done)
           simp only [↓LXbr, LXbr, LXn', Nat.reduceLT, Nat.reduceLeDiff, Nat.reduceEqDiff, Int.reduceLT, Int.reduceLE, Int.reduceGT, Int.reduceGE, Nat.reduceGT, Int.reduceEq, Int.reduceBEq, Int.reduceBNe, ↓LXp, LXa, LXm, ↓reduceIte, reduceCtorEq, Nat.reduceAdd, Nat.reduceSub, Nat.reduceMul, Int.reduceAdd, Int.reduceSub, Int.reduceMul, Int.reduceNeg, Int.reduceToNat, Int.cast_ofNat_Int, forall_const, List.reduceReplicate, wi64, wu64, iv, tv, sv, bv, Ins.lv, T_Ins, tk_int, U_int, T_int, T_string, tsl_strs', LXy, bo_ite, Try.ntmps149, Try.results149, m16, m17, m18, m19])
        | (refine callTo_f p5 ?_ ?_ ?_ ?_
           · first | rfl | (simp +decide only [LXr, LXs, ↓reduceIte, Option.bind_some, iv, tv, bv, sv, sv_old, LXy] <;> rfl) | (simp +decide only [LXr, and_true, true_and, iv, bv]; done) | (simp +decide only [lowL, LV.low, freeL, LV.free, Bool.and_self, iv, bv, iv, tv, bv, sv, sv_low]; done)
           · first | rfl | (simp +decide only [LXr, LXs, ↓reduceIte, Option.bind_some, iv, tv, bv, sv, sv_old, LXy] <;> rfl) | (simp +decide only [LXr, and_true, true_and, iv, bv]; done) | (simp +decide only [lowL, LV.low, freeL, LV.free, Bool.and_self, iv, bv, iv, tv, bv, sv, sv_low]; done)
           · first | rfl | (simp +decide only [LXr, LXs, ↓reduceIte, Option.bind_some, iv, tv, bv, sv, sv_old, LXy] <;> rfl) | (simp +decide only [LXr, and_true, true_and, iv, bv]; done) | (simp +decide only [lowL, LV.low, freeL, LV.free, Bool.and_self, iv, bv, iv, tv, bv, sv, sv_low]; done)
           simp only [↓LXbr, LXbr, LXn', Nat.reduceLT, Nat.reduceLeDiff, Nat.reduceEqDiff, Int.reduceLT, Int.reduceLE, Int.reduceGT, Int.reduceGE, Nat.reduceGT, Int.reduceEq, Int.reduceBEq, Int.reduceBNe, ↓LXp, LXa, LXm, ↓reduceIte, reduceCtorEq, Nat.reduceAdd, Nat.reduceSub, Nat.reduceMul, Int.reduceAdd, Int.reduceSub, Int.reduceMul, Int.reduceNeg, Int.reduceToNat, Int.cast_ofNat_Int, forall_const, List.reduceReplicate, wi64, wu64, iv, tv, sv, bv, Ins.lv, T_Ins, tk_int, U_int, T_int, T_string, tsl_strs', LXy, bo_ite, Try.ntmps149, Try.results149, m16, m17, m18, m19])
        | (refine callP_f p2 ?_ ?_ ?_ ?_
           · first | rfl | (simp +decide only [LXr, LXs, ↓reduceIte, Option.bind_some, iv, tv, bv, sv, sv_old, LXy] <;> rfl) | (simp +decide only [LXr, and_true, true_and, iv, bv]; done) | (simp +decide only [lowL, LV.low, freeL, LV.free, Bool.and_self, iv, bv, iv, tv, bv, sv, sv_low]; done)
           · first | rfl | (simp +decide only [LXr, LXs, ↓reduceIte, Option.bind_some, iv, tv, bv, sv, sv_old, LXy] <;> rfl) | (simp +decide only [LXr, and_true, true_and, iv, bv]; done) | (simp +decide only [lowL, LV.low, freeL, LV.free, Bool.and_self, iv, bv, iv, tv, bv, sv, sv_low]; done)
           · first | rfl | (simp +decide only [LXr, LXs, ↓reduceIte, Option.bind_some, iv, tv, bv, sv, sv_old, LXy] <;> rfl) | (simp +decide only [LXr, and_true, true_and, iv, bv]; done) | (simp +decide only [lowL, LV.low, freeL, LV.free, Bool.and_self, iv, bv, iv, tv, bv, sv, sv_low]; done)
           simp only [↓LXbr, LXbr, LXn', Nat.reduceLT, Nat.reduceLeDiff, Nat.reduceEqDiff, Int.reduceLT, Int.reduceLE, Int.reduceGT, Int.reduceGE, Nat.reduceGT, Int.reduceEq, Int.reduceBEq, Int.reduceBNe, ↓LXp, LXa, LXm, ↓reduceIte, reduceCtorEq, Nat.reduceAdd, Nat.reduceSub, Nat.reduceMul, Int.reduceAdd, Int.reduceSub, Int.reduceMul, Int.reduceNeg, Int.reduceToNat, Int.cast_ofNat_Int, forall_const, List.reduceReplicate, wi64, wu64, iv, tv, sv, bv, Ins.lv, T_Ins, tk_int, U_int, T_int, T_string, tsl_strs', LXy, bo_ite, Try.ntmps149, Try.results149, m16, m17, m18, m19])
        | (refine callTo_f p2 ?_ ?_ ?_ ?_
           · first | rfl | (simp +decide only [LXr, LXs, ↓reduceIte, Option.bind_some, iv, tv, bv, sv, sv_old, LXy] <;> rfl) | (simp +decide only [LXr, and_true, true_and, iv, bv]; done) | (simp +decide only [lowL, LV.low, freeL, LV.free, Bool.and_self, iv, bv, iv, tv, bv, sv, sv_low]; done)
           · first | rfl | (simp +decide only [LXr, LXs, ↓reduceIte, Option.bind_some, iv, tv, bv, sv, sv_old, LXy] <;> rfl) | (simp +decide only [LXr, and_true, true_and, iv, bv]; done) | (simp +decide only [lowL, LV.low, freeL, LV.free, Bool.and_self, iv, bv, iv, tv, bv, sv, sv_low]; done)
           · first | rfl | (simp +decide only [LXr, LXs, ↓reduceIte, Option.bind_some, iv, tv, bv, sv, sv_old, LXy] <;> rfl) | (simp +decide only [LXr, and_true, true_and, iv, bv]; done) | (simp +decide only [lowL, LV.low, freeL, LV.free, Bool.and_self, iv, bv, iv, tv, bv, sv, sv_low]; done)
           simp only [↓LXbr, LXbr, LXn', Nat.reduceLT, Nat.reduceLeDiff, Nat.reduceEqDiff, Int.reduceLT, Int.reduceLE, Int.reduceGT, Int.reduceGE, Nat.reduceGT, Int.reduceEq, Int.reduceBEq, Int.reduceBNe, ↓LXp, LXa, LXm, ↓reduceIte, reduceCtorEq, Nat.reduceAdd, Nat.reduceSub, Nat.reduceMul, Int.reduceAdd, Int.reduceSub, Int.reduceMul, Int.reduceNeg, Int.reduceToNat, Int.cast_ofNat_Int, forall_const, List.reduceReplicate, wi64, wu64, iv, tv, sv, bv, Ins.lv, T_Ins, tk_int, U_int, T_int, T_string, tsl_strs', LXy, bo_ite, Try.ntmps149, Try.results149, m16, m17, m18, m19])
        | (refine callP_f p4 ?_ ?_ ?_ ?_
           · first | rfl | (simp +decide only [LXr, LXs, ↓reduceIte, Option.bind_some, iv, tv, bv, sv, sv_old, LXy] <;> rfl) | (simp +decide only [LXr, and_true, true_and, iv, bv]; done) | (simp +decide only [lowL, LV.low, freeL, LV.free, Bool.and_self, iv, bv, iv, tv, bv, sv, sv_low]; done)
           · first | rfl | (simp +decide only [LXr, LXs, ↓reduceIte, Option.bind_some, iv, tv, bv, sv, sv_old, LXy] <;> rfl) | (simp +decide only [LXr, and_true, true_and, iv, bv]; done) | (simp +decide only [lowL, LV.low, freeL, LV.free, Bool.and_self, iv, bv, iv, tv, bv, sv, sv_low]; done)
           · first | rfl | (simp +decide only [LXr, LXs, ↓reduceIte, Option.bind_some, iv, tv, bv, sv, sv_old, LXy] <;> rfl) | (simp +decide only [LXr, and_true, true_and, iv, bv]; done) | (simp +decide only [lowL, LV.low, freeL, LV.free, Bool.and_self, iv, bv, iv, tv, bv, sv, sv_low]; done)
           simp only [↓LXbr, LXbr, LXn', Nat.reduceLT, Nat.reduceLeDiff, Nat.reduceEqDiff, Int.reduceLT, Int.reduceLE, Int.reduceGT, Int.reduceGE, Nat.reduceGT, Int.reduceEq, Int.reduceBEq, Int.reduceBNe, ↓LXp, LXa, LXm, ↓reduceIte, reduceCtorEq, Nat.reduceAdd, Nat.reduceSub, Nat.reduceMul, Int.reduceAdd, Int.reduceSub, Int.reduceMul, Int.reduceNeg, Int.reduceToNat, Int.cast_ofNat_Int, forall_const, List.reduceReplicate, wi64, wu64, iv, tv, sv, bv, Ins.lv, T_Ins, tk_int, U_int, T_int, T_string, tsl_strs', LXy, bo_ite, Try.ntmps149, Try.results149, m16, m17, m18, m19])
        | (refine callTo_f p4 ?_ ?_ ?_ ?_
           · first | rfl | (simp +decide only [LXr, LXs, ↓reduceIte, Option.bind_some, iv, tv, bv, sv, sv_old, LXy] <;> rfl) | (simp +decide only [LXr, and_true, true_and, iv, bv]; done) | (simp +decide only [lowL, LV.low, freeL, LV.free, Bool.and_self, iv, bv, iv, tv, bv, sv, sv_low]; done)
           · first | rfl | (simp +decide only [LXr, LXs, ↓reduceIte, Option.bind_some, iv, tv, bv, sv, sv_old, LXy] <;> rfl) | (simp +decide only [LXr, and_true, true_and, iv, bv]; done) | (simp +decide only [lowL, LV.low, freeL, LV.free, Bool.and_self, iv, bv, iv, tv, bv, sv, sv_low]; done)
           · first | rfl | (simp +decide only [LXr, LXs, ↓reduceIte, Option.bind_some, iv, tv, bv, sv, sv_old, LXy] <;> rfl) | (simp +decide only [LXr, and_true, true_and, iv, bv]; done) | (simp +decide only [lowL, LV.low, freeL, LV.free, Bool.and_self, iv, bv, iv, tv, bv, sv, sv_low]; done)
           simp only [↓LXbr, LXbr, LXn', Nat.reduceLT, Nat.reduceLeDiff, Nat.reduceEqDiff, Int.reduceLT, Int.reduceLE, Int.reduceGT, Int.reduceGE, Nat.reduceGT, Int.reduceEq, Int.reduceBEq, Int.reduceBNe, ↓LXp, LXa, LXm, ↓reduceIte, reduceCtorEq, Nat.reduceAdd, Nat.reduceSub, Nat.reduceMul, Int.reduceAdd, Int.reduceSub, Int.reduceMul, Int.reduceNeg, Int.reduceToNat, Int.cast_ofNat_Int, forall_const, List.reduceReplicate, wi64, wu64, iv, tv, sv, bv, Ins.lv, T_Ins, tk_int, U_int, T_int, T_string, tsl_strs', LXy, bo_ite, Try.ntmps149, Try.results149, m16, m17, m18, m19])
        | (refine ret_f (rs := [.v (.string (bs _))]) rfl rfl rfl ?_
           simp [xOf, tv, sv, Ins.lineT, k1, k2, m16, m17, m18, m19]))
    · have m16 : (x.op == 16) = false := by simp [k4]
      have m17 : (x.op == 17) = false := by simp [k4]
      have m18 : (x.op == 18) = false := by simp [k4]
      have m19 : (x.op == 19) = true := by simp [k4]
      have hz := hcall k4
      have w2 : ((callWords.map bs).map sv)[x.imm.toNat]? = some (sv (bs (wordAt callWords x.imm))) := by
        rw [List.getElem?_map, List.getElem?_map, word_at (ws := callWords) (by omega) (by show x.imm < 7; omega)]
        rfl
      have g3 : (0 ≤ x.imm) = True := by simp; omega
      have g4 : (x.imm < (((callWords.map bs).map sv).length : Int)) = True := by simp [callWords]; omega
      simp only [↓LXbr, LXbr, LXn', Nat.reduceLT, Nat.reduceLeDiff, Nat.reduceEqDiff, Int.reduceLT, Int.reduceLE, Int.reduceGT, Int.reduceGE, Nat.reduceGT, Int.reduceEq, Int.reduceBEq, Int.reduceBNe, ↓LXp, LXa, LXm, ↓reduceIte, reduceCtorEq, Nat.reduceAdd, Nat.reduceSub, Nat.reduceMul, Int.reduceAdd, Int.reduceSub, Int.reduceMul, Int.reduceNeg, Int.reduceToNat, Int.cast_ofNat_Int, forall_const, List.reduceReplicate, wi64, wu64, iv, tv, sv, bv, Ins.lv, T_Ins, tk_int, U_int, T_int, T_string, tsl_strs', LXy, bo_ite, Try.ntmps149, Try.results149, m16, m17, m18, m19, w2, g3, g4, sv]
      (refine cw_plan [] (.one 0 .pure (.one 1 .pure (.one 3 .pure (.one 4 .load (.one 2 .act (.one 5 .pure (.one 6 .act (.one 7 .pure (.one 8 .pure .done))))))))) (by kernel_rfl) (by kernel_rfl) ?_; simp only [LXe, Option.elim_some, List.getElem?_cons_zero, List.getElem?_cons_succ])
      simp only [↓LXbr, LXbr, LXn', Nat.reduceLT, Nat.reduceLeDiff, Nat.reduceEqDiff, Int.reduceLT, Int.reduceLE, Int.reduceGT, Int.reduceGE, Nat.reduceGT, Int.reduceEq, Int.reduceBEq, Int.reduceBNe, ↓LXp, LXa, LXm, ↓reduceIte, reduceCtorEq, Nat.reduceAdd, Nat.reduceSub, Nat.reduceMul, Int.reduceAdd, Int.reduceSub, Int.reduceMul, Int.reduceNeg, Int.reduceToNat, Int.cast_ofNat_Int, forall_const, List.reduceReplicate, wi64, wu64, iv, tv, sv, bv, Ins.lv, T_Ins, tk_int, U_int, T_int, T_string, tsl_strs', LXy, bo_ite, Try.ntmps149, Try.results149, m16, m17, m18, m19, w2, g3, g4, sv]
      repeat' (first
        | with_reducible apply And.intro
        | omega
        | (simp only [List.length_append, List.length_cons, List.length_nil]; omega)
        | (refine callP_row l1Calls_fn ?_ ?_ ?_ ?_
           · first | rfl | (simp +decide only [LXr, LXs, ↓reduceIte, Option.bind_some, iv, tv, bv, sv, sv_old, LXy] <;> rfl) | (simp +decide only [LXr, and_true, true_and, iv, bv]; done) | (simp +decide only [lowL, LV.low, freeL, LV.free, Bool.and_self, iv, bv, iv, tv, bv, sv, sv_low]; done)
           · first | rfl | (simp +decide only [LXr, LXs, ↓reduceIte, Option.bind_some, iv, tv, bv, sv, sv_old, LXy] <;> rfl) | (simp +decide only [LXr, and_true, true_and, iv, bv]; done) | (simp +decide only [lowL, LV.low, freeL, LV.free, Bool.and_self, iv, bv, iv, tv, bv, sv, sv_low]; done)
           · exact sv_free _
           simp only [↓LXbr, LXbr, LXn', Nat.reduceLT, Nat.reduceLeDiff, Nat.reduceEqDiff, Int.reduceLT, Int.reduceLE, Int.reduceGT, Int.reduceGE, Nat.reduceGT, Int.reduceEq, Int.reduceBEq, Int.reduceBNe, ↓LXp, LXa, LXm, ↓reduceIte, reduceCtorEq, Nat.reduceAdd, Nat.reduceSub, Nat.reduceMul, Int.reduceAdd, Int.reduceSub, Int.reduceMul, Int.reduceNeg, Int.reduceToNat, Int.cast_ofNat_Int, forall_const, List.reduceReplicate, wi64, wu64, iv, tv, sv, bv, Ins.lv, T_Ins, tk_int, U_int, T_int, T_string, tsl_strs', LXy, bo_ite, Try.ntmps149, Try.results149, m16, m17, m18, m19, w2, g3, g4, sv])
        | (refine ret_f (rs := [.v (.string (bs _))]) rfl rfl rfl ?_
           simp [xOf, tv, sv, Ins.lineT, k1, k2, m16, m17, m18, m19, w2, g3, g4, sv]))
    · have m16 : (x.op == 16) = false := by simp [k4]
      have m17 : (x.op == 17) = false := by simp [k4]
      have m18 : (x.op == 18) = false := by simp [k4]
      have m19 : (x.op == 19) = false := by simp [k4]
      simp only [↓LXbr, LXbr, LXn', Nat.reduceLT, Nat.reduceLeDiff, Nat.reduceEqDiff, Int.reduceLT, Int.reduceLE, Int.reduceGT, Int.reduceGE, Nat.reduceGT, Int.reduceEq, Int.reduceBEq, Int.reduceBNe, ↓LXp, LXa, LXm, ↓reduceIte, reduceCtorEq, Nat.reduceAdd, Nat.reduceSub, Nat.reduceMul, Int.reduceAdd, Int.reduceSub, Int.reduceMul, Int.reduceNeg, Int.reduceToNat, Int.cast_ofNat_Int, forall_const, List.reduceReplicate, wi64, wu64, iv, tv, sv, bv, Ins.lv, T_Ins, tk_int, U_int, T_int, T_string, tsl_strs', LXy, bo_ite, Try.ntmps149, Try.results149, m16, m17, m18, m19, sv]
      repeat' (first
        | with_reducible apply And.intro
        | omega
        | (simp only [List.length_append, List.length_cons, List.length_nil]; omega)
        | (refine ret_f (rs := [.v (.string (bs _))]) rfl rfl rfl ?_
           simp [xOf, tv, sv, Ins.lineT, k1, k2, m16, m17, m18, m19]))
end Go.Proofs.Ytoimeebildcofaa
