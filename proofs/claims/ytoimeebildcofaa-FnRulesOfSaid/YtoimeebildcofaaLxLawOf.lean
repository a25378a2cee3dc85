/- The law of RulesOf, by roots. -/
import Derived.Test.YtoimeebildcofaaLxOpen
import Derived.Test.YtoimeebildcofaaWHolds
namespace Go.Proofs.Ytoimeebildcofaa
open Go.RowKit
set_option linter.unusedSimpArgs false
set_option linter.unusedVariables false
theorem LXfs : (∀ (s : St) (b : Bool) (id : Nat) (S : Sh) (p : List Nat) (l n : Nat), LV.fz s b [] (.sub id S p l n) = match s.elems (.sub id S p l n) with | some q => .vec b q.1 q.2 | none => .sub id S p l n) := by
  intro s b id S p l n
  simp only [LV.fz, List.not_mem_nil, if_false]
  cases s.elems (.sub id S p l n) with
  | none => rfl
  | some q => cases q; rfl
theorem elems_sub {s : St} {id n : Nat} {sh : Sh} {xs : List LV} (h : rootOf s.roots id = some (.row sh xs)) (hn : n ≤ xs.length) : s.elems (.sub id (.arr 0 sh) [] 0 n) = some (sh, xs.take n) := by
  simp only [St.elems, h]
  rw [if_pos (show (Root.row sh xs).sh = .arr 0 sh from rfl)]
  show (if 0 + n ≤ xs.length ∧ xs.length = xs.length then some (sh, (xs.drop 0).take n) else none) = _
  rw [if_pos ⟨by omega, rfl⟩, List.drop_zero]
set_option maxRecDepth 1000000
theorem implRulesOf_pf (rs : List Rule) (c : ByteArray) : PF Try.prog 27 [.vec false shRule (rs.map Rule.lv), sv c] (.tup [iv (rulesOf rs c).1, iv (rulesOf rs c).2]) := by
  refine pf_of (by kernel_rfl) fun ρ w vs O hV => ?_
  obtain ⟨v, vs, rfl, h1, h2⟩ := hV.inv1
  obtain ⟨v2, vs, rfl, h3, h4⟩ := h2.inv1
  obtain rfl := h4.inv0
  cases h3.inv
  obtain ⟨L, h5, h6⟩ := flatRule.row h1
  exact (implRulesOf_calls v rs L c w h5 h6).mono fun e w' ⟨he, hb⟩ => ⟨_, he, fun ρ' O' => ⟨_, .cons ⟨_, .v rfl, rfl⟩ (.cons ⟨_, .v rfl, rfl⟩ .nil), rfl⟩, hb⟩
theorem specRulesOf_pf (rs : List Rule) (c : ByteArray) : PF Try.prog 28 [.vec false shRule (rs.map Rule.lv), sv c] (.tup [iv (rulesOf rs c).1, iv (rulesOf rs c).2]) := by
  refine pf_of (by kernel_rfl) fun ρ w vs O hV => ?_
  obtain ⟨v, vs, rfl, h1, h2⟩ := hV.inv1
  obtain ⟨v2, vs, rfl, h3, h4⟩ := h2.inv1
  obtain rfl := h4.inv0
  cases h3.inv
  obtain ⟨L, h5, h6⟩ := flatRule.row h1
  exact (specRulesOf_calls v rs L c w h5 h6).mono fun e w' ⟨he, hb⟩ => ⟨_, he, fun ρ' O' => ⟨_, .cons ⟨_, .v rfl, rfl⟩ (.cons ⟨_, .v rfl, rfl⟩ .nil), rfl⟩, hb⟩
theorem rangeHolds_pf (op a b : Int) (h0 : 12 ≤ op) (h1 : op ≤ 15) (a0 : 0 ≤ a) (a1 : a ≤ 255) (b0 : 0 ≤ b) (b1 : b ≤ 255) : PF Try.prog 29 [iv op, iv a, iv b] (.one (bv (holdsB op a b))) := by
  refine pf_of (by kernel_rfl) fun ρ w vs O hV => ?_
  obtain ⟨v, vs, rfl, h1', h2⟩ := hV.inv1
  obtain ⟨v2, vs, rfl, h3, h4⟩ := h2.inv1
  obtain ⟨v3, vs, rfl, h5, h6⟩ := h4.inv1
  obtain rfl := h6.inv0
  cases h1'.inv
  cases h3.inv
  cases h5.inv
  exact (rangeHolds_calls op a b h0 h1 a0 a1 b0 b1 w).mono fun e w' ⟨he, hw⟩ => ⟨_, he, fun ρ' O' => ⟨_, .v rfl, rfl⟩, by rw [hw]; exact Below.refl _ _⟩
theorem callTo_rulesOf {s : St} {K : EV → St → Prop} {KP : List PanicEntry → St → Prop} {uc : List LV} {bs : List Int} (hb : ∀ v, v ∈ bs → 0 ≤ v ∧ v ≤ 255) (harg : oldL (fzL s false [] uc) = [.vec false .one (bs.map byteLV)])
    (hK : ∀ (rs : List Rule) (c : ByteArray), rs.length ≤ 6 → c.size = 12 → K (.tup [.hd s.next, sv c]) { s with roots := (s.next, .row shRule (rs.map Rule.lv)) :: s.roots, next := s.next + 1 }) : CallTo Try.prog 26 uc s K KP := by
  have hu : lowL [LV.vec false Sh.one (bs.map byteLV)] = true := by simp only [lowL, LV.low, flatByte.low, Bool.and_self]
  refine callTo_of (DrawRulesOf_fn bs hb) id rfl (fun y hy => by cases hy) .nil (by rw [renL_id (lowL_spec 0 hu)]; exact harg) (lowL_spec 0 hu) (fun r R' hq => ?_) (fun ch R' hq => hq.elim)
  obtain ⟨rs, c, h1, h2, rfl, rfl⟩ := hq
  refine ⟨by simp only [EV.new, LV.new, newL, sv, and_self], fun y hy => by rw [List.mem_singleton.1 hy]; exact (freeL_spec 0 (flatRule.free rs)).2, ?_⟩
  have := hK rs c h1 h2
  have e : List.filter (fun _ => true) s.roots = s.roots := List.filter_eq_self.2 (fun _ _ => rfl)
  simpa [e, EV.ren, LV.ren, renL, callNames, Root.ren, sv, lowL_ren (flatRule.low rs), afterCall] using this
theorem U_str' : Try.prog.underlying 9 = some .string := by kernel_rfl
theorem U_u8' : (Try.prog.underlying 5).isSome = true := by kernel_rfl
def ofS (rs : List Rule) (c : ByteArray) (v k : Int) (i : Nat) (bs : List Int) (nx : Nat) : St :=
  ⟨[(3, .one (.hd 0)), (4, .one (sv c)), (5, .one (iv v)), (6, .one (iv k)), (9, .one (iv i))], [(0, .row shRule (rs.map Rule.lv))], nx, 115, []⟩
theorem lawRulesOf_pf (bs : List Int) (hb : ∀ v, v ∈ bs → 0 ≤ v ∧ v ≤ 255) : PF Try.prog 6 [.vec false .one (bs.map byteLV)] (.one (bv true)) := by
  refine fn_of true Try.func6 rfl (by kernel_rfl) (Nat.le_of_ble_eq_true rfl) ?_
  simp only [↓LXbr, LXbr, LXn', Nat.reduceLT, Nat.reduceLeDiff, Nat.reduceEqDiff, Int.reduceLT, Int.reduceLE, Int.reduceGT, Int.reduceGE, Nat.reduceGT, Int.reduceEq, Int.reduceBEq, Int.reduceBNe, ↓LXp, LXa, LXm, ↓reduceIte, reduceCtorEq, Nat.reduceAdd, Nat.reduceSub, Nat.reduceMul, Int.reduceAdd, Int.reduceSub, Int.reduceMul, Int.reduceNeg, Int.reduceToNat, Int.cast_ofNat_Int, forall_const, List.reduceReplicate, wi64, wu64, Int.natCast_nonneg, Int.toNat_natCast, Nat.add_eq_left, Nat.left_eq_add, Nat.add_left_cancel_iff, iv, sv, bv, LXfx, tk_int, tk_u8, U_int, T_int, T_string, tsl_ints, tsl_Rules, U_str', U_u8', T_Rule, List.length_map, List.getElem?_map, Try.ntmps6, Try.results6]
  refine ⟨fun h1 => ?_, fun h1 => ?_⟩
  · simp only [↓LXbr, LXbr, LXn', Nat.reduceLT, Nat.reduceLeDiff, Nat.reduceEqDiff, Int.reduceLT, Int.reduceLE, Int.reduceGT, Int.reduceGE, Nat.reduceGT, Int.reduceEq, Int.reduceBEq, Int.reduceBNe, ↓LXp, LXa, LXm, ↓reduceIte, reduceCtorEq, Nat.reduceAdd, Nat.reduceSub, Nat.reduceMul, Int.reduceAdd, Int.reduceSub, Int.reduceMul, Int.reduceNeg, Int.reduceToNat, Int.cast_ofNat_Int, forall_const, List.reduceReplicate, wi64, wu64, Int.natCast_nonneg, Int.toNat_natCast, Nat.add_eq_left, Nat.left_eq_add, Nat.add_left_cancel_iff, iv, sv, bv, LXfx, tk_int, tk_u8, U_int, T_int, T_string, tsl_ints, tsl_Rules, U_str', U_u8', T_Rule, List.length_map, List.getElem?_map, Try.ntmps6, Try.results6, h1]
    exact ret_f rfl (by first | rfl | (simp +decide only [LXr, LXs, ↓reduceIte, Option.bind_some, iv, sv, tv, LXfx, LXfs, oldIv, flatRule.old] <;> rfl) | (simp +decide only [LXr, and_true, true_and, iv, bv]; done) | (simp +decide only [lowL, LV.low, freeL, LV.free, Bool.and_self, iv, bv, iv, sv, tv, lowIv, flatRule.low]; done)) (by first | rfl | (simp +decide only [LXr, LXs, ↓reduceIte, Option.bind_some, iv, sv, tv, LXfx, LXfs, oldIv, flatRule.old] <;> rfl) | (simp +decide only [LXr, and_true, true_and, iv, bv]; done) | (simp +decide only [lowL, LV.low, freeL, LV.free, Bool.and_self, iv, bv, iv, sv, tv, lowIv, flatRule.low]; done)) (by first | rfl | (simp +decide only [LXr, LXs, ↓reduceIte, Option.bind_some, iv, sv, tv, LXfx, LXfs, oldIv, flatRule.old] <;> rfl) | (simp +decide only [LXr, and_true, true_and, iv, bv]; done) | (simp +decide only [lowL, LV.low, freeL, LV.free, Bool.and_self, iv, bv, iv, sv, tv, lowIv, flatRule.low]; done))
  · simp only [↓LXbr, LXbr, LXn', Nat.reduceLT, Nat.reduceLeDiff, Nat.reduceEqDiff, Int.reduceLT, Int.reduceLE, Int.reduceGT, Int.reduceGE, Nat.reduceGT, Int.reduceEq, Int.reduceBEq, Int.reduceBNe, ↓LXp, LXa, LXm, ↓reduceIte, reduceCtorEq, Nat.reduceAdd, Nat.reduceSub, Nat.reduceMul, Int.reduceAdd, Int.reduceSub, Int.reduceMul, Int.reduceNeg, Int.reduceToNat, Int.cast_ofNat_Int, forall_const, List.reduceReplicate, wi64, wu64, Int.natCast_nonneg, Int.toNat_natCast, Nat.add_eq_left, Nat.left_eq_add, Nat.add_left_cancel_iff, iv, sv, bv, LXfx, tk_int, tk_u8, U_int, T_int, T_string, tsl_ints, tsl_Rules, U_str', U_u8', T_Rule, List.length_map, List.getElem?_map, Try.ntmps6, Try.results6, h1]
    refine callTo_rulesOf hb (by simp only [LXr, flatByte.old]) fun rs c hrs hc => ?_
    simp only [↓LXbr, LXbr, LXn', Nat.reduceLT, Nat.reduceLeDiff, Nat.reduceEqDiff, Int.reduceLT, Int.reduceLE, Int.reduceGT, Int.reduceGE, Nat.reduceGT, Int.reduceEq, Int.reduceBEq, Int.reduceBNe, ↓LXp, LXa, LXm, ↓reduceIte, reduceCtorEq, Nat.reduceAdd, Nat.reduceSub, Nat.reduceMul, Int.reduceAdd, Int.reduceSub, Int.reduceMul, Int.reduceNeg, Int.reduceToNat, Int.cast_ofNat_Int, forall_const, List.reduceReplicate, wi64, wu64, Int.natCast_nonneg, Int.toNat_natCast, Nat.add_eq_left, Nat.left_eq_add, Nat.add_left_cancel_iff, iv, sv, bv, LXfx, tk_int, tk_u8, U_int, T_int, T_string, tsl_ints, tsl_Rules, U_str', U_u8', T_Rule, List.length_map, List.getElem?_map, Try.ntmps6, Try.results6]
    refine callTo_f (implRulesOf_pf rs c) (by first | rfl | (simp +decide only [LXr, LXs, ↓reduceIte, Option.bind_some, iv, sv, tv, LXfx, LXfs, oldIv, flatRule.old] <;> rfl) | (simp +decide only [LXr, and_true, true_and, iv, bv]; done) | (simp +decide only [lowL, LV.low, freeL, LV.free, Bool.and_self, iv, bv, iv, sv, tv, lowIv, flatRule.low]; done)) (by first | rfl | (simp +decide only [LXr, LXs, ↓reduceIte, Option.bind_some, iv, sv, tv, LXfx, LXfs, oldIv, flatRule.old] <;> rfl) | (simp +decide only [LXr, and_true, true_and, iv, bv]; done) | (simp +decide only [lowL, LV.low, freeL, LV.free, Bool.and_self, iv, bv, iv, sv, tv, lowIv, flatRule.low]; done)) (by first | rfl | (simp +decide only [LXr, LXs, ↓reduceIte, Option.bind_some, iv, sv, tv, LXfx, LXfs, oldIv, flatRule.old] <;> rfl) | (simp +decide only [LXr, and_true, true_and, iv, bv]; done) | (simp +decide only [lowL, LV.low, freeL, LV.free, Bool.and_self, iv, bv, iv, sv, tv, lowIv, flatRule.low]; done)) ?_
    simp only [↓LXbr, LXbr, LXn', Nat.reduceLT, Nat.reduceLeDiff, Nat.reduceEqDiff, Int.reduceLT, Int.reduceLE, Int.reduceGT, Int.reduceGE, Nat.reduceGT, Int.reduceEq, Int.reduceBEq, Int.reduceBNe, ↓LXp, LXa, LXm, ↓reduceIte, reduceCtorEq, Nat.reduceAdd, Nat.reduceSub, Nat.reduceMul, Int.reduceAdd, Int.reduceSub, Int.reduceMul, Int.reduceNeg, Int.reduceToNat, Int.cast_ofNat_Int, forall_const, List.reduceReplicate, wi64, wu64, Int.natCast_nonneg, Int.toNat_natCast, Nat.add_eq_left, Nat.left_eq_add, Nat.add_left_cancel_iff, iv, sv, bv, LXfx, tk_int, tk_u8, U_int, T_int, T_string, tsl_ints, tsl_Rules, U_str', U_u8', T_Rule, List.length_map, List.getElem?_map, Try.ntmps6, Try.results6]
    refine callTo_f (specRulesOf_pf rs c) (by first | rfl | (simp +decide only [LXr, LXs, ↓reduceIte, Option.bind_some, iv, sv, tv, LXfx, LXfs, oldIv, flatRule.old] <;> rfl) | (simp +decide only [LXr, and_true, true_and, iv, bv]; done) | (simp +decide only [lowL, LV.low, freeL, LV.free, Bool.and_self, iv, bv, iv, sv, tv, lowIv, flatRule.low]; done)) (by first | rfl | (simp +decide only [LXr, LXs, ↓reduceIte, Option.bind_some, iv, sv, tv, LXfx, LXfs, oldIv, flatRule.old] <;> rfl) | (simp +decide only [LXr, and_true, true_and, iv, bv]; done) | (simp +decide only [lowL, LV.low, freeL, LV.free, Bool.and_self, iv, bv, iv, sv, tv, lowIv, flatRule.low]; done)) (by first | rfl | (simp +decide only [LXr, LXs, ↓reduceIte, Option.bind_some, iv, sv, tv, LXfx, LXfs, oldIv, flatRule.old] <;> rfl) | (simp +decide only [LXr, and_true, true_and, iv, bv]; done) | (simp +decide only [lowL, LV.low, freeL, LV.free, Bool.and_self, iv, bv, iv, sv, tv, lowIv, flatRule.low]; done)) ?_
    simp only [↓LXbr, LXbr, LXn', Nat.reduceLT, Nat.reduceLeDiff, Nat.reduceEqDiff, Int.reduceLT, Int.reduceLE, Int.reduceGT, Int.reduceGE, Nat.reduceGT, Int.reduceEq, Int.reduceBEq, Int.reduceBNe, ↓LXp, LXa, LXm, ↓reduceIte, reduceCtorEq, Nat.reduceAdd, Nat.reduceSub, Nat.reduceMul, Int.reduceAdd, Int.reduceSub, Int.reduceMul, Int.reduceNeg, Int.reduceToNat, Int.cast_ofNat_Int, forall_const, List.reduceReplicate, wi64, wu64, Int.natCast_nonneg, Int.toNat_natCast, Nat.add_eq_left, Nat.left_eq_add, Nat.add_left_cancel_iff, iv, sv, bv, LXfx, tk_int, tk_u8, U_int, T_int, T_string, tsl_ints, tsl_Rules, U_str', U_u8', T_Rule, List.length_map, List.getElem?_map, Try.ntmps6, Try.results6, bne_self_eq_false, beq_self_eq_true]
    refine br_intro (fun h2 => ?_) (fun h2 => ?_)
    · simp only [↓LXbr, LXbr, LXn', Nat.reduceLT, Nat.reduceLeDiff, Nat.reduceEqDiff, Int.reduceLT, Int.reduceLE, Int.reduceGT, Int.reduceGE, Nat.reduceGT, Int.reduceEq, Int.reduceBEq, Int.reduceBNe, ↓LXp, LXa, LXm, ↓reduceIte, reduceCtorEq, Nat.reduceAdd, Nat.reduceSub, Nat.reduceMul, Int.reduceAdd, Int.reduceSub, Int.reduceMul, Int.reduceNeg, Int.reduceToNat, Int.cast_ofNat_Int, forall_const, List.reduceReplicate, wi64, wu64, Int.natCast_nonneg, Int.toNat_natCast, Nat.add_eq_left, Nat.left_eq_add, Nat.add_left_cancel_iff, iv, sv, bv, LXfx, tk_int, tk_u8, U_int, T_int, T_string, tsl_ints, tsl_Rules, U_str', U_u8', T_Rule, List.length_map, List.getElem?_map, Try.ntmps6, Try.results6, h2, bne_self_eq_false, beq_self_eq_true]
      exact ret_f rfl (by first | rfl | (simp +decide only [LXr, LXs, ↓reduceIte, Option.bind_some, iv, sv, tv, LXfx, LXfs, oldIv, flatRule.old] <;> rfl) | (simp +decide only [LXr, and_true, true_and, iv, bv]; done) | (simp +decide only [lowL, LV.low, freeL, LV.free, Bool.and_self, iv, bv, iv, sv, tv, lowIv, flatRule.low]; done)) (by first | rfl | (simp +decide only [LXr, LXs, ↓reduceIte, Option.bind_some, iv, sv, tv, LXfx, LXfs, oldIv, flatRule.old] <;> rfl) | (simp +decide only [LXr, and_true, true_and, iv, bv]; done) | (simp +decide only [lowL, LV.low, freeL, LV.free, Bool.and_self, iv, bv, iv, sv, tv, lowIv, flatRule.low]; done)) (by first | rfl | (simp +decide only [LXr, LXs, ↓reduceIte, Option.bind_some, iv, sv, tv, LXfx, LXfs, oldIv, flatRule.old] <;> rfl) | (simp +decide only [LXr, and_true, true_and, iv, bv]; done) | (simp +decide only [lowL, LV.low, freeL, LV.free, Bool.and_self, iv, bv, iv, sv, tv, lowIv, flatRule.low]; done))
    · have hok : rulesOk rs = true := by
        cases h : rulesOk rs with
        | true => rfl
        | false => simp [rulesOf, h] at h2
      have hru : rulesOf rs c = ruled rs c := by simp [rulesOf, hok, hc]
      have hall : rs.all Rule.ok = true := by simp only [rulesOk, Bool.and_eq_true] at hok; exact hok.2
      rw [hru] at h2 ⊢
      simp only [↓LXbr, LXbr, LXn', Nat.reduceLT, Nat.reduceLeDiff, Nat.reduceEqDiff, Int.reduceLT, Int.reduceLE, Int.reduceGT, Int.reduceGE, Nat.reduceGT, Int.reduceEq, Int.reduceBEq, Int.reduceBNe, ↓LXp, LXa, LXm, ↓reduceIte, reduceCtorEq, Nat.reduceAdd, Nat.reduceSub, Nat.reduceMul, Int.reduceAdd, Int.reduceSub, Int.reduceMul, Int.reduceNeg, Int.reduceToNat, Int.cast_ofNat_Int, forall_const, List.reduceReplicate, wi64, wu64, Int.natCast_nonneg, Int.toNat_natCast, Nat.add_eq_left, Nat.left_eq_add, Nat.add_left_cancel_iff, iv, sv, bv, LXfx, tk_int, tk_u8, U_int, T_int, T_string, tsl_ints, tsl_Rules, U_str', U_u8', T_Rule, List.length_map, List.getElem?_map, Try.ntmps6, Try.results6, h2, bne_self_eq_false, beq_self_eq_true]
      refine cw_loopc (fun n s => ∃ (i nx : Nat), i + n = rs.length ∧ (rs.take i).any (Rule.holds c) = false ∧ 0 < nx ∧ s = ofS rs c (ruled rs c).1 (ruled rs c).2 i bs nx) rs.length ?_ ?_
      · exact ⟨ofS rs c _ _ 0 bs 1, Canon.drop ⟨rfl, rfl, rfl, rfl, rfl, trivial⟩ (by (repeat (first | exact List.nil_sublist _ | apply List.Sublist.cons_cons | apply List.Sublist.cons))), 0, 1, by omega, rfl, by decide, rfl⟩
      · rintro n s ⟨i, nx, hi, hf, hx, rfl⟩
        have f1 := elder hx
        unfold ofS
        cases n with
        | zero =>
          have hlt : ((i : Int) < (rs.length : Int)) = False := by simp; omega
          have hv : ruled rs c = (1, 0) := by
            rw [List.take_of_length_le (by omega)] at hf
            simp only [ruled, find_none hf]
          simp only [↓LXbr, LXbr, LXn', Nat.reduceLT, Nat.reduceLeDiff, Nat.reduceEqDiff, Int.reduceLT, Int.reduceLE, Int.reduceGT, Int.reduceGE, Nat.reduceGT, Int.reduceEq, Int.reduceBEq, Int.reduceBNe, ↓LXp, LXa, LXm, ↓reduceIte, reduceCtorEq, Nat.reduceAdd, Nat.reduceSub, Nat.reduceMul, Int.reduceAdd, Int.reduceSub, Int.reduceMul, Int.reduceNeg, Int.reduceToNat, Int.cast_ofNat_Int, forall_const, List.reduceReplicate, wi64, wu64, Int.natCast_nonneg, Int.toNat_natCast, Nat.add_eq_left, Nat.left_eq_add, Nat.add_left_cancel_iff, iv, sv, bv, LXfx, tk_int, tk_u8, U_int, T_int, T_string, tsl_ints, tsl_Rules, U_str', U_u8', T_Rule, List.length_map, List.getElem?_map, Try.ntmps6, Try.results6, hlt, hv, beq_self_eq_true]
          exact ret_f rfl (by first | rfl | (simp +decide only [LXr, LXs, ↓reduceIte, Option.bind_some, iv, sv, tv, LXfx, LXfs, oldIv, flatRule.old] <;> rfl) | (simp +decide only [LXr, and_true, true_and, iv, bv]; done) | (simp +decide only [lowL, LV.low, freeL, LV.free, Bool.and_self, iv, bv, iv, sv, tv, lowIv, flatRule.low]; done)) (by first | rfl | (simp +decide only [LXr, LXs, ↓reduceIte, Option.bind_some, iv, sv, tv, LXfx, LXfs, oldIv, flatRule.old] <;> rfl) | (simp +decide only [LXr, and_true, true_and, iv, bv]; done) | (simp +decide only [lowL, LV.low, freeL, LV.free, Bool.and_self, iv, bv, iv, sv, tv, lowIv, flatRule.low]; done)) (by first | rfl | (simp +decide only [LXr, LXs, ↓reduceIte, Option.bind_some, iv, sv, tv, LXfx, LXfs, oldIv, flatRule.old] <;> rfl) | (simp +decide only [LXr, and_true, true_and, iv, bv]; done) | (simp +decide only [lowL, LV.low, freeL, LV.free, Bool.and_self, iv, bv, iv, sv, tv, lowIv, flatRule.low]; done))
        | succ n =>
          have hlt : ((i : Int) < (rs.length : Int)) = True := by simp; omega
          have hle : ((i : Int) ≤ (rs.length : Int)) = True := by simp; omega
          have hin : (i ≤ rs.length) = True := by simp; omega
          obtain ⟨r, hr⟩ : ∃ r, rs[i]? = some r := ⟨_, List.getElem?_eq_getElem (by omega)⟩
          have hrok := List.all_eq_true.1 hall r (List.mem_of_getElem? hr)
          have hw : IntKind.i64.wrap ((i : Int) + 1) = ((i + 1 : Nat) : Int) := by simp [IntKind.wrap, IntKind.bits, IntKind.signed]; omega
          have hrt : rulesOf (rs.take i) c = (1, 0) := by
            have h3 : rulesOk (rs.take i) = true := by
              simp only [rulesOk, Bool.and_eq_true, decide_eq_true_eq] at hok ⊢
              refine ⟨by rw [List.length_take]; omega, List.all_eq_true.2 fun x hx => List.all_eq_true.1 hok.2 x (List.mem_of_mem_take hx)⟩
            simp only [rulesOf, h3, hc, decide_true, Bool.and_self, if_true, ruled, find_none hf]
          simp only [Rule.ok, inB, Bool.and_eq_true, decide_eq_true_eq] at hrok
          obtain ⟨⟨⟨⟨⟨⟨a0, a1⟩, ⟨b0, b1⟩⟩, ⟨c0, c1⟩⟩, _⟩, _⟩, _⟩ := hrok
          simp only [↓LXbr, LXbr, LXn', Nat.reduceLT, Nat.reduceLeDiff, Nat.reduceEqDiff, Int.reduceLT, Int.reduceLE, Int.reduceGT, Int.reduceGE, Nat.reduceGT, Int.reduceEq, Int.reduceBEq, Int.reduceBNe, ↓LXp, LXa, LXm, ↓reduceIte, reduceCtorEq, Nat.reduceAdd, Nat.reduceSub, Nat.reduceMul, Int.reduceAdd, Int.reduceSub, Int.reduceMul, Int.reduceNeg, Int.reduceToNat, Int.cast_ofNat_Int, forall_const, List.reduceReplicate, wi64, wu64, Int.natCast_nonneg, Int.toNat_natCast, Nat.add_eq_left, Nat.left_eq_add, Nat.add_left_cancel_iff, iv, sv, bv, LXfx, tk_int, tk_u8, U_int, T_int, T_string, tsl_ints, tsl_Rules, U_str', U_u8', T_Rule, List.length_map, List.getElem?_map, Try.ntmps6, Try.results6, hlt, hle, hin, Int.le_refl, true_or, or_true, or_self, not_true_eq_false, Nat.sub_zero, Nat.zero_add, List.drop_zero]
          have hp := implRulesOf_pf (rs.take i) c
          rw [hrt] at hp
          refine callTo_f hp (by rw [List.map_take]; simp only [LXr, LXfs, elems_sub (xs := rs.map Rule.lv) (sh := shRule) (id := 0) (n := i) (s := ⟨_, [(0, .row shRule (rs.map Rule.lv))], nx, 115, []⟩) rfl (by rw [List.length_map]; omega), ← List.map_take, flatRule.old, sv]) (by first | rfl | (simp +decide only [LXr, LXs, ↓reduceIte, Option.bind_some, iv, sv, tv, LXfx, LXfs, oldIv, flatRule.old] <;> rfl) | (simp +decide only [LXr, and_true, true_and, iv, bv]; done) | (simp +decide only [lowL, LV.low, freeL, LV.free, Bool.and_self, iv, bv, iv, sv, tv, lowIv, flatRule.low]; done)) (by first | rfl | (simp +decide only [LXr, LXs, ↓reduceIte, Option.bind_some, iv, sv, tv, LXfx, LXfs, oldIv, flatRule.old] <;> rfl) | (simp +decide only [LXr, and_true, true_and, iv, bv]; done) | (simp +decide only [lowL, LV.low, freeL, LV.free, Bool.and_self, iv, bv, iv, sv, tv, lowIv, flatRule.low]; done)) ?_
          simp only [↓LXbr, LXbr, LXn', Nat.reduceLT, Nat.reduceLeDiff, Nat.reduceEqDiff, Int.reduceLT, Int.reduceLE, Int.reduceGT, Int.reduceGE, Nat.reduceGT, Int.reduceEq, Int.reduceBEq, Int.reduceBNe, ↓LXp, LXa, LXm, ↓reduceIte, reduceCtorEq, Nat.reduceAdd, Nat.reduceSub, Nat.reduceMul, Int.reduceAdd, Int.reduceSub, Int.reduceMul, Int.reduceNeg, Int.reduceToNat, Int.cast_ofNat_Int, forall_const, List.reduceReplicate, wi64, wu64, Int.natCast_nonneg, Int.toNat_natCast, Nat.add_eq_left, Nat.left_eq_add, Nat.add_left_cancel_iff, iv, sv, bv, LXfx, tk_int, tk_u8, U_int, T_int, T_string, tsl_ints, tsl_Rules, U_str', U_u8', T_Rule, List.length_map, List.getElem?_map, Try.ntmps6, Try.results6, hlt]
          (refine cw_plan [] (.one 0 .pure (.one 1 .pure (.one 2 .pure (.one 3 .pure (.one 5 .pure (.one 6 .pure (.one 7 .pure (.one 8 .pure (.one 9 .pure (.one 13 .pure (.one 14 .pure (.one 15 .pure (.one 16 .pure (.one 4 .load (.one 10 .load (.one 11 .pure (.one 12 .pure (.one 17 .load (.one 18 .act .done))))))))))))))))))) (by kernel_rfl) (by kernel_rfl) ?_; simp only [LXe, Option.elim_some, List.getElem?_cons_zero, List.getElem?_cons_succ])
          have hal : r.at_.toNat < c.size := by omega
          have hbt : c[r.at_.toNat]? = some (c[r.at_.toNat]) := getElem?_pos c _ hal
          have hbv : ((c[r.at_.toNat]).toNat : Int) = byteAt c r.at_ := by
            have := byteAt_at hal
            rw [Int.toNat_of_nonneg a0] at this
            exact this
          have u0 : 0 ≤ byteAt c r.at_ := by rw [← hbv]; omega
          have u1 : byteAt c r.at_ ≤ 255 := by rw [← hbv]; have := (c[r.at_.toNat]).toNat_lt; omega
          have hwb : IntKind.i64.wrap (byteAt c r.at_) = byteAt c r.at_ := by simp [IntKind.wrap, IntKind.bits, IntKind.signed]; omega
          have a0' : (0 ≤ r.at_) = True := by simp [a0]
          simp only [↓LXbr, LXbr, LXn', Nat.reduceLT, Nat.reduceLeDiff, Nat.reduceEqDiff, Int.reduceLT, Int.reduceLE, Int.reduceGT, Int.reduceGE, Nat.reduceGT, Int.reduceEq, Int.reduceBEq, Int.reduceBNe, ↓LXp, LXa, LXm, ↓reduceIte, reduceCtorEq, Nat.reduceAdd, Nat.reduceSub, Nat.reduceMul, Int.reduceAdd, Int.reduceSub, Int.reduceMul, Int.reduceNeg, Int.reduceToNat, Int.cast_ofNat_Int, forall_const, List.reduceReplicate, wi64, wu64, Int.natCast_nonneg, Int.toNat_natCast, Nat.add_eq_left, Nat.left_eq_add, Nat.add_left_cancel_iff, iv, sv, bv, LXfx, tk_int, tk_u8, U_int, T_int, T_string, tsl_ints, tsl_Rules, U_str', U_u8', T_Rule, List.length_map, List.getElem?_map, Try.ntmps6, Try.results6, hlt, hr, Rule.lv, hbt, hbv, hwb, a0', not_false_eq_true]
          refine callP_f (rangeHolds_pf r.op _ r.num b0 b1 u0 u1 c0 c1) ?_ ?_ ?_ ?_
          · first | rfl | (simp +decide only [LXr, LXs, ↓reduceIte, Option.bind_some, iv, sv, tv, LXfx, LXfs, oldIv, flatRule.old] <;> rfl) | (simp +decide only [LXr, and_true, true_and, iv, bv]; done) | (simp +decide only [lowL, LV.low, freeL, LV.free, Bool.and_self, iv, bv, iv, sv, tv, lowIv, flatRule.low]; done)
          · first | rfl | (simp +decide only [LXr, LXs, ↓reduceIte, Option.bind_some, iv, sv, tv, LXfx, LXfs, oldIv, flatRule.old] <;> rfl) | (simp +decide only [LXr, and_true, true_and, iv, bv]; done) | (simp +decide only [lowL, LV.low, freeL, LV.free, Bool.and_self, iv, bv, iv, sv, tv, lowIv, flatRule.low]; done)
          · first | rfl | (simp +decide only [LXr, LXs, ↓reduceIte, Option.bind_some, iv, sv, tv, LXfx, LXfs, oldIv, flatRule.old] <;> rfl) | (simp +decide only [LXr, and_true, true_and, iv, bv]; done) | (simp +decide only [lowL, LV.low, freeL, LV.free, Bool.and_self, iv, bv, iv, sv, tv, lowIv, flatRule.low]; done)
          cases hh : holdsB r.op (byteAt c r.at_) r.num with
          | true =>
            have hv : ruled rs c = (r.verdict, r.key) := by simp only [ruled, find_take hr hf (show r.holds c = true from hh)]
            simp only [↓LXbr, LXbr, LXn', Nat.reduceLT, Nat.reduceLeDiff, Nat.reduceEqDiff, Int.reduceLT, Int.reduceLE, Int.reduceGT, Int.reduceGE, Nat.reduceGT, Int.reduceEq, Int.reduceBEq, Int.reduceBNe, ↓LXp, LXa, LXm, ↓reduceIte, reduceCtorEq, Nat.reduceAdd, Nat.reduceSub, Nat.reduceMul, Int.reduceAdd, Int.reduceSub, Int.reduceMul, Int.reduceNeg, Int.reduceToNat, Int.cast_ofNat_Int, forall_const, List.reduceReplicate, wi64, wu64, Int.natCast_nonneg, Int.toNat_natCast, Nat.add_eq_left, Nat.left_eq_add, Nat.add_left_cancel_iff, iv, sv, bv, LXfx, tk_int, tk_u8, U_int, T_int, T_string, tsl_ints, tsl_Rules, U_str', U_u8', T_Rule, List.length_map, List.getElem?_map, Try.ntmps6, Try.results6, hlt, hr, Rule.lv, hbt, hbv, hwb, a0', not_false_eq_true, hv, beq_self_eq_true]
            exact ret_f rfl (by first | rfl | (simp +decide only [LXr, LXs, ↓reduceIte, Option.bind_some, iv, sv, tv, LXfx, LXfs, oldIv, flatRule.old] <;> rfl) | (simp +decide only [LXr, and_true, true_and, iv, bv]; done) | (simp +decide only [lowL, LV.low, freeL, LV.free, Bool.and_self, iv, bv, iv, sv, tv, lowIv, flatRule.low]; done)) (by first | rfl | (simp +decide only [LXr, LXs, ↓reduceIte, Option.bind_some, iv, sv, tv, LXfx, LXfs, oldIv, flatRule.old] <;> rfl) | (simp +decide only [LXr, and_true, true_and, iv, bv]; done) | (simp +decide only [lowL, LV.low, freeL, LV.free, Bool.and_self, iv, bv, iv, sv, tv, lowIv, flatRule.low]; done)) (by first | rfl | (simp +decide only [LXr, LXs, ↓reduceIte, Option.bind_some, iv, sv, tv, LXfx, LXfs, oldIv, flatRule.old] <;> rfl) | (simp +decide only [LXr, and_true, true_and, iv, bv]; done) | (simp +decide only [lowL, LV.low, freeL, LV.free, Bool.and_self, iv, bv, iv, sv, tv, lowIv, flatRule.low]; done))
          | false =>
            simp only [↓LXbr, LXbr, LXn', Nat.reduceLT, Nat.reduceLeDiff, Nat.reduceEqDiff, Int.reduceLT, Int.reduceLE, Int.reduceGT, Int.reduceGE, Nat.reduceGT, Int.reduceEq, Int.reduceBEq, Int.reduceBNe, ↓LXp, LXa, LXm, ↓reduceIte, reduceCtorEq, Nat.reduceAdd, Nat.reduceSub, Nat.reduceMul, Int.reduceAdd, Int.reduceSub, Int.reduceMul, Int.reduceNeg, Int.reduceToNat, Int.cast_ofNat_Int, forall_const, List.reduceReplicate, wi64, wu64, Int.natCast_nonneg, Int.toNat_natCast, Nat.add_eq_left, Nat.left_eq_add, Nat.add_left_cancel_iff, iv, sv, bv, LXfx, tk_int, tk_u8, U_int, T_int, T_string, tsl_ints, tsl_Rules, U_str', U_u8', T_Rule, List.length_map, List.getElem?_map, Try.ntmps6, Try.results6, hlt, hr, Rule.lv, hbt, hbv, hwb, a0', not_false_eq_true, hw]
            exact ⟨n, Nat.lt_succ_self n, ofS rs c _ _ (i + 1) bs nx, Canon.drop ⟨rfl, rfl, rfl, rfl, rfl, trivial⟩ (by (repeat (first | exact List.nil_sublist _ | apply List.Sublist.cons_cons | apply List.Sublist.cons))), i + 1, nx, by omega, by rw [any_take_succ hr, hf, show r.holds c = false from hh]; rfl, hx, rfl⟩
theorem lawRulesOf_calls (v : Value) (bs : List Int) (L : Blocks) (w : World) (h : Row 1 v (bs.map byteCell) L) (H : Holds w L) (hs : ∀ v, v ∈ bs → 0 ≤ v ∧ v ≤ 255) :
    Calls Try.prog 6 #[v] w fun e w' => e = .returned (.bool true) ∧ Below w.heap.size w w' := by
  have h1 : Val (fun _ => undef) 0 w.heap.size w (fun _ => False) (.vec false .one (bs.map byteLV)) v := flatByte.val h H
  refine ((lawRulesOf_pf bs hs).2 (fun _ => undef) w [v] ⟨(fun y hy => by cases hy), .nil, .nil⟩ (.cons (h1.mono (fun _ _ => rfl) (Nat.le_refl _) fun b o _ hb => ⟨hb, fun ⟨y, hy, _⟩ => by cases hy⟩) .nil)).mono fun e w' he => ?_
  cases e with
  | returned v' =>
    obtain ⟨ρ', r, R', ⟨rfl, rfl⟩, hG, hv⟩ := he
    refine ⟨by rw [Val.inv hv], hG.only.os, hG.only.tape, hG.only.output, hG.only.size, fun k hk => hG.only.block k hk (fun ⟨y, hy, _⟩ => by cases hy)⟩
  | panicked ch => obtain ⟨_, _, hq, _⟩ := he; exact hq.elim
  | outgrown => exact he.elim
end Go.Proofs.Ytoimeebildcofaa
