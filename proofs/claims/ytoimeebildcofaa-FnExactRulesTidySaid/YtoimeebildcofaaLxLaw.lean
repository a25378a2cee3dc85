/- The law's helpers for rules, by roots. -/
import Derived.Test.YtoimeebildcofaaLxTidy
import Derived.Test.YtoimeebildcofaaLawRules
namespace Go.Proofs.Ytoimeebildcofaa
open Go.RowKit
set_option linter.unusedSimpArgs false
set_option linter.unusedVariables false
set_option maxRecDepth 100000
theorem szRuleS_pfs (rs : List Rule) (left : Int) (hl : 0 ≤ left) (hl2 : left ≤ 1048576) : PFs Try.prog 19 [.vec false shRule (rs.map Rule.lv), iv left] (fun r => ∃ n : Int, (0 ≤ n → (rs.length : Int) ≤ left) ∧ r = .one (iv n)) := by
  refine pfs_of (by kernel_rfl) fun ρ w vs O hV => ?_
  obtain ⟨v, vs, rfl, h1, h2⟩ := hV.inv1
  obtain ⟨v', vs', rfl, h3, h4⟩ := h2.inv1
  cases h3.inv
  obtain rfl := h4.inv0
  obtain ⟨L, h5, h6⟩ := flatRule.row h1
  obtain ⟨A, n, c, rfl⟩ := h5.slice
  obtain ⟨hnl, hn⟩ := h5.len'
  rw [List.length_map] at hnl
  refine (szRuleS_calls A n c left w hn hl hl2).mono fun e w' ⟨⟨r, he, hr⟩, hw⟩ => ⟨_, .one (iv r), he, fun ρ' O' => ⟨_, .v rfl, rfl⟩, ⟨r, by rw [hnl]; exact hr, rfl⟩, hw ▸ Below.refl _ _⟩
theorem toRuleS_fn (rs : List Rule) (hn : rs.length ≤ 1048576) : Fn Try.prog 21 [.vec false shRule (rs.map Rule.lv)] [] 1 (fun x R' => x = .one (.hd 0) ∧ R' = [(0, .row shRule (rs.map Rule.lv))]) NoP := by
  refine fn_own_of flatRule (e := 56) (sz := 5) rfl (by kernel_rfl) fun ρ w vs O hV => ?_
  obtain ⟨v, vs, rfl, h1, h2⟩ := hV.inv1
  obtain rfl := h2.inv0
  obtain ⟨L, h5, h6⟩ := flatRule.row h1
  exact toRuleS_calls v rs L w h5 h6 hn
theorem specRulesTidy_fn (rs : List Rule) : Fn Try.prog 20 [.vec false shRule (rs.map Rule.lv)] [] 1 (fun x R' => x = .one (.hd 0) ∧ R' = [(0, .row shRule ((tidied rs).map Rule.lv))]) NoP := by
  refine fn_own_of flatRule (e := 56) (sz := 5) rfl (by kernel_rfl) fun ρ w vs O hV => ?_
  obtain ⟨v, vs, rfl, h1, h2⟩ := hV.inv1
  obtain rfl := h2.inv0
  obtain ⟨L, h5, h6⟩ := flatRule.row h1
  exact specRulesTidy_calls v rs L w h5 h6
theorem eqRuleS_pf (rs ss : List Rule) : PF Try.prog 23 [.vec false shRule (rs.map Rule.lv), .vec false shRule (ss.map Rule.lv)] (.one (bv (decide (rs = ss)))) := by
  refine pf_of (by kernel_rfl) fun ρ w vs O hV => ?_
  obtain ⟨v, vs, rfl, h1, h2⟩ := hV.inv1
  obtain ⟨v', vs', rfl, h3, h4⟩ := h2.inv1
  obtain rfl := h4.inv0
  obtain ⟨L, h5, h6⟩ := flatRule.row h1
  obtain ⟨L', h7, h8⟩ := flatRule.row h3
  exact (eqRuleS_calls v v' rs ss L L' w h5 h6 h7 h8).mono fun e w' ⟨he, hb⟩ => ⟨_, he, fun ρ' O' => ⟨_, .v rfl, rfl⟩, hb⟩
def mkRule (k : Int) (j : Nat) : Rule := ⟨k + 5 * j, k + 5 * j + 1, k + 5 * j + 1 + 1, k + 5 * j + 1 + 1 + 1, k + 5 * j + 1 + 1 + 1 + 1⟩
theorem take_set {α : Type} {L : List α} {i : Nat} {x : α} {M : List α} (hi : i < L.length) (h : L.take i = M) : (L.set i x).take (i + 1) = M ++ [x] := by
  rw [List.take_succ_eq_append_getElem (by simpa using hi), ← h, List.getElem_set_self]
  congr 1
  apply List.ext_getElem?
  intro j
  rw [List.getElem?_take, List.getElem?_take]
  split
  · rw [List.getElem?_set_ne (by omega)]
  · rfl
theorem wr5 {c : Int} (h0 : 0 ≤ c) (h1 : c ≤ 1000000000000000) : IntKind.i64.wrap (c + 1) = c + 1 ∧ IntKind.i64.wrap (c + 1 + 1) = c + 1 + 1 ∧ IntKind.i64.wrap (c + 1 + 1 + 1) = c + 1 + 1 + 1 ∧ IntKind.i64.wrap (c + 1 + 1 + 1 + 1) = c + 1 + 1 + 1 + 1 ∧ IntKind.i64.wrap (c + 1 + 1 + 1 + 1 + 1) = c + 1 + 1 + 1 + 1 + 1 := by
  refine ⟨?_, ?_, ?_, ?_, ?_⟩ <;> simp [IntKind.wrap, IntKind.bits, IntKind.signed] <;> omega
theorem wrI {i : Nat} (h : i ≤ 1000000000) : IntKind.i64.wrap ((i : Int) + 1) = ((i + 1 : Nat) : Int) := by simp [IntKind.wrap, IntKind.bits, IntKind.signed]; omega
theorem markRuleS_fn (rs : List Rule) (k : Int) (h0 : 0 ≤ k) (h1 : k ≤ 1000000) (hn : rs.length ≤ 1048576) :
    Fn Try.prog 24 [.hd 0, iv k] [(0, .row shRule (rs.map Rule.lv))] 0 (fun x R' => x = .one (iv (k + 5 * rs.length)) ∧ R' = [(0, .row shRule (((List.range rs.length).map (mkRule k)).map Rule.lv))]) NoP := by
  refine fn_of false Try.func24 rfl (by kernel_rfl) (Nat.le_of_ble_eq_true rfl) ?_
  simp +decide only [↓reduceIte, true_and, and_true, if_true, if_false, List.cons_append, List.nil_append, ne_eq, reduceCtorEq, not_false_eq_true, Nat.reduceAdd, Nat.reduceSub, Nat.reduceMul, Int.reduceAdd, Int.reduceSub, Int.reduceMul, Int.reduceNeg, Int.reduceToNat, Int.cast_ofNat_Int, decide_true, decide_false, decide_eq_true_eq, decide_eq_false_iff_not, ↓LXi, false_implies, true_implies, forall_const, ↓LXc, ↓LXo, ↓LXk, ↓LXd, LXe, LXs, LXb, LXt, LXu, LXv, wi64, wu64, lkAll_nil, lkAll_cons, Option.bind_some, Option.map_some, Option.elim_some, List.getElem?_cons_zero, List.getElem?_cons_succ, List.set_cons_zero, List.set_cons_succ, List.length_nil, List.length_cons, iv, bv, T_int, tk_int, tsl_Rules, tz_Rule, T_Rule, Int.toNat_natCast, Int.natCast_nonneg, Nat.sub_zero, List.nil_append, List.length_map, List.length_set, Try.ntmps24, Try.results24]
  refine cw_loopc (fun n s => ∃ (i : Nat) (L : List Rule) (c : Int), i + n = rs.length ∧ L.length = rs.length ∧ L.take i = (List.range i).map (mkRule k) ∧ c = k + 5 * i ∧ s = ⟨[(0, .one (.hd 0)), (1, .one (iv c)), (5, .one (iv i))], [(0, .row shRule (L.map Rule.lv))], 1, 48, []⟩) rs.length ?_ ?_
  · refine ⟨⟨[(0, .one (.hd 0)), (1, .one (iv k)), (5, .one (iv 0))], [(0, .row shRule (rs.map Rule.lv))], 1, 48, []⟩, Canon.drop ?_ ?_, 0, rs, k, by omega, rfl, rfl, by omega, rfl⟩
    · simp +decide only [↓reduceIte, true_and, and_true, if_true, if_false, List.cons_append, List.nil_append, ne_eq, reduceCtorEq, not_false_eq_true, Nat.reduceAdd, Nat.reduceSub, Nat.reduceMul, Int.reduceAdd, Int.reduceSub, Int.reduceMul, Int.reduceNeg, Int.reduceToNat, Int.cast_ofNat_Int, decide_true, decide_false, decide_eq_true_eq, decide_eq_false_iff_not, ↓LXi, false_implies, true_implies, forall_const, ↓LXc, ↓LXo, ↓LXk, ↓LXd, LXe, LXs, LXb, LXt, LXu, LXv, wi64, wu64, lkAll_nil, lkAll_cons, Option.bind_some, Option.map_some, Option.elim_some, List.getElem?_cons_zero, List.getElem?_cons_succ, List.set_cons_zero, List.set_cons_succ, List.length_nil, List.length_cons, iv, bv, T_int, tk_int, tsl_Rules, tz_Rule, T_Rule, Int.toNat_natCast, Int.natCast_nonneg, Nat.sub_zero, List.nil_append, List.length_map, List.length_set]
    · (repeat (first | exact List.nil_sublist _ | apply List.Sublist.cons_cons | apply List.Sublist.cons))
  · rintro n s ⟨i, L, c, hi, hL, ht, hc, rfl⟩
    cases n with
    | zero =>
      have hlt : ((i : Int) < ((L.length : Nat) : Int)) = False := by simp; omega
      have hLe : L = (List.range rs.length).map (mkRule k) := by rw [← ht.symm.trans (List.take_of_length_le (by omega))]; rw [show i = rs.length by omega]
      simp +decide only [↓reduceIte, true_and, and_true, if_true, if_false, List.cons_append, List.nil_append, ne_eq, reduceCtorEq, not_false_eq_true, Nat.reduceAdd, Nat.reduceSub, Nat.reduceMul, Int.reduceAdd, Int.reduceSub, Int.reduceMul, Int.reduceNeg, Int.reduceToNat, Int.cast_ofNat_Int, decide_true, decide_false, decide_eq_true_eq, decide_eq_false_iff_not, ↓LXi, false_implies, true_implies, forall_const, ↓LXc, ↓LXo, ↓LXk, ↓LXd, LXe, LXs, LXb, LXt, LXu, LXv, wi64, wu64, lkAll_nil, lkAll_cons, Option.bind_some, Option.map_some, Option.elim_some, List.getElem?_cons_zero, List.getElem?_cons_succ, List.set_cons_zero, List.set_cons_succ, List.length_nil, List.length_cons, iv, bv, T_int, tk_int, tsl_Rules, tz_Rule, T_Rule, Int.toNat_natCast, Int.natCast_nonneg, Nat.sub_zero, List.nil_append, List.length_map, List.length_set, hlt, Try.ntmps24, Try.results24]
      refine ret_put (xs := L.map Rule.lv) rfl rfl (flatRule.low _) rfl rfl ⟨?_, by rw [hLe]⟩
      rw [hc, show i = rs.length by omega]
      rfl
    | succ n =>
      have hlt : ((i : Int) < ((L.length : Nat) : Int)) = True := by simp; omega
      have hlt' : (i < L.length) = True := by simp; omega
      obtain ⟨r, hr⟩ : ∃ r, L[i]? = some r := ⟨_, List.getElem?_eq_getElem (by omega)⟩
      have hc0 := wr5 (c := c) (by omega) (by omega)
      simp +decide only [↓reduceIte, true_and, and_true, if_true, if_false, List.cons_append, List.nil_append, ne_eq, reduceCtorEq, not_false_eq_true, Nat.reduceAdd, Nat.reduceSub, Nat.reduceMul, Int.reduceAdd, Int.reduceSub, Int.reduceMul, Int.reduceNeg, Int.reduceToNat, Int.cast_ofNat_Int, decide_true, decide_false, decide_eq_true_eq, decide_eq_false_iff_not, ↓LXi, false_implies, true_implies, forall_const, ↓LXc, ↓LXo, ↓LXk, ↓LXd, LXe, LXs, LXb, LXt, LXu, LXv, wi64, wu64, lkAll_nil, lkAll_cons, Option.bind_some, Option.map_some, Option.elim_some, List.getElem?_cons_zero, List.getElem?_cons_succ, List.set_cons_zero, List.set_cons_succ, List.length_nil, List.length_cons, iv, bv, T_int, tk_int, tsl_Rules, tz_Rule, T_Rule, Int.toNat_natCast, Int.natCast_nonneg, Nat.sub_zero, List.nil_append, List.length_map, List.length_set, hlt, hlt', hc0, wrI (show i ≤ 1000000000 by omega), hr, List.getElem?_map, Rule.lv, List.getElem?_set_self, List.set_set]
      refine ⟨n, by omega, ⟨[(0, .one (.hd 0)), (1, .one (iv (c + 1 + 1 + 1 + 1 + 1))), (5, .one (iv (i + 1 : Nat)))], [(0, .row shRule ((L.set i (mkRule k i)).map Rule.lv))], 1, 48, []⟩, ?_, i + 1, L.set i (mkRule k i), c + 1 + 1 + 1 + 1 + 1, by omega, by simp [hL], ?_, by omega, rfl⟩
      · subst hc
        rw [List.map_set]
        exact Canon.drop (by simp +decide only [↓reduceIte, true_and, and_true, if_true, if_false, List.cons_append, List.nil_append, ne_eq, reduceCtorEq, not_false_eq_true, Nat.reduceAdd, Nat.reduceSub, Nat.reduceMul, Int.reduceAdd, Int.reduceSub, Int.reduceMul, Int.reduceNeg, Int.reduceToNat, Int.cast_ofNat_Int, decide_true, decide_false, decide_eq_true_eq, decide_eq_false_iff_not, ↓LXi, false_implies, true_implies, forall_const, ↓LXc, ↓LXo, ↓LXk, ↓LXd, LXe, LXs, LXb, LXt, LXu, LXv, wi64, wu64, lkAll_nil, lkAll_cons, Option.bind_some, Option.map_some, Option.elim_some, List.getElem?_cons_zero, List.getElem?_cons_succ, List.set_cons_zero, List.set_cons_succ, List.length_nil, List.length_cons, iv, bv, T_int, tk_int, tsl_Rules, tz_Rule, T_Rule, Int.toNat_natCast, Int.natCast_nonneg, Nat.sub_zero, List.nil_append, List.length_map, List.length_set]) (by (repeat (first | exact List.nil_sublist _ | apply List.Sublist.cons_cons | apply List.Sublist.cons)))
      · rw [take_set (by omega) ht, List.range_succ, List.map_append]
        rfl
theorem heldRuleS_pf (m : Nat) (k : Int) (h0 : 0 ≤ k) (h1 : k ≤ 1000000) (hn : m ≤ 1048576) :
    PF Try.prog 25 [.vec false shRule (((List.range m).map (mkRule k)).map Rule.lv), iv k] (.one (iv (k + 5 * m))) := by
  refine fn_of true Try.func25 rfl (by kernel_rfl) (Nat.le_of_ble_eq_true rfl) ?_
  generalize hM : (List.range m).map (mkRule k) = M
  have hlen : M.length = m := by rw [← hM]; simp
  simp +decide only [↓reduceIte, true_and, and_true, if_true, if_false, List.cons_append, List.nil_append, ne_eq, reduceCtorEq, not_false_eq_true, Nat.reduceAdd, Nat.reduceSub, Nat.reduceMul, Int.reduceAdd, Int.reduceSub, Int.reduceMul, Int.reduceNeg, Int.reduceToNat, Int.cast_ofNat_Int, decide_true, decide_false, decide_eq_true_eq, decide_eq_false_iff_not, ↓LXi, false_implies, true_implies, forall_const, ↓LXc, ↓LXo, ↓LXk, ↓LXd, LXe, LXs, LXb, LXt, LXu, LXv, wi64, wu64, lkAll_nil, lkAll_cons, Option.bind_some, Option.map_some, Option.elim_some, List.getElem?_cons_zero, List.getElem?_cons_succ, List.set_cons_zero, List.set_cons_succ, List.length_nil, List.length_cons, iv, bv, T_int, tk_int, tsl_Rules, tz_Rule, T_Rule, Int.toNat_natCast, Int.natCast_nonneg, Nat.sub_zero, List.nil_append, List.length_map, List.length_set, Try.ntmps25, Try.results25]
  refine cw_loopc (fun n s => ∃ (i : Nat) (c : Int), i + n = m ∧ c = k + 5 * i ∧ s = ⟨[(0, .one (.vec false shRule (M.map Rule.lv))), (1, .one (iv c)), (5, .one (iv i))], [], 0, 58, []⟩) m ?_ ?_
  · refine ⟨⟨[(0, .one (.vec false shRule (M.map Rule.lv))), (1, .one (iv k)), (5, .one (iv 0))], [], 0, 58, []⟩, Canon.drop ?_ ?_, 0, k, by omega, by omega, rfl⟩
    · simp +decide only [↓reduceIte, true_and, and_true, if_true, if_false, List.cons_append, List.nil_append, ne_eq, reduceCtorEq, not_false_eq_true, Nat.reduceAdd, Nat.reduceSub, Nat.reduceMul, Int.reduceAdd, Int.reduceSub, Int.reduceMul, Int.reduceNeg, Int.reduceToNat, Int.cast_ofNat_Int, decide_true, decide_false, decide_eq_true_eq, decide_eq_false_iff_not, ↓LXi, false_implies, true_implies, forall_const, ↓LXc, ↓LXo, ↓LXk, ↓LXd, LXe, LXs, LXb, LXt, LXu, LXv, wi64, wu64, lkAll_nil, lkAll_cons, Option.bind_some, Option.map_some, Option.elim_some, List.getElem?_cons_zero, List.getElem?_cons_succ, List.set_cons_zero, List.set_cons_succ, List.length_nil, List.length_cons, iv, bv, T_int, tk_int, tsl_Rules, tz_Rule, T_Rule, Int.toNat_natCast, Int.natCast_nonneg, Nat.sub_zero, List.nil_append, List.length_map, List.length_set]
    · (repeat (first | exact List.nil_sublist _ | apply List.Sublist.cons_cons | apply List.Sublist.cons))
  · rintro n s ⟨i, c, hi, hc, rfl⟩
    cases n with
    | zero =>
      have hlt : ((i : Int) < ((M.length : Nat) : Int)) = False := by simp; omega
      simp +decide only [↓reduceIte, true_and, and_true, if_true, if_false, List.cons_append, List.nil_append, ne_eq, reduceCtorEq, not_false_eq_true, Nat.reduceAdd, Nat.reduceSub, Nat.reduceMul, Int.reduceAdd, Int.reduceSub, Int.reduceMul, Int.reduceNeg, Int.reduceToNat, Int.cast_ofNat_Int, decide_true, decide_false, decide_eq_true_eq, decide_eq_false_iff_not, ↓LXi, false_implies, true_implies, forall_const, ↓LXc, ↓LXo, ↓LXk, ↓LXd, LXe, LXs, LXb, LXt, LXu, LXv, wi64, wu64, lkAll_nil, lkAll_cons, Option.bind_some, Option.map_some, Option.elim_some, List.getElem?_cons_zero, List.getElem?_cons_succ, List.set_cons_zero, List.set_cons_succ, List.length_nil, List.length_cons, iv, bv, T_int, tk_int, tsl_Rules, tz_Rule, T_Rule, Int.toNat_natCast, Int.natCast_nonneg, Nat.sub_zero, List.nil_append, List.length_map, List.length_set, hlt, Try.ntmps25, Try.results25]
      refine ret_f rfl rfl rfl ?_
      rw [hc, show i = m by omega]
      rfl
    | succ n =>
      have hlt : ((i : Int) < ((M.length : Nat) : Int)) = True := by simp; omega
      have hr : M[i]? = some (mkRule k i) := by rw [← hM, List.getElem?_map, List.getElem?_range (by omega)]; rfl
      have hc0 := wr5 (c := c) (by omega) (by omega)
      subst hc
      simp +decide only [↓reduceIte, true_and, and_true, if_true, if_false, List.cons_append, List.nil_append, ne_eq, reduceCtorEq, not_false_eq_true, Nat.reduceAdd, Nat.reduceSub, Nat.reduceMul, Int.reduceAdd, Int.reduceSub, Int.reduceMul, Int.reduceNeg, Int.reduceToNat, Int.cast_ofNat_Int, decide_true, decide_false, decide_eq_true_eq, decide_eq_false_iff_not, ↓LXi, false_implies, true_implies, forall_const, ↓LXc, ↓LXo, ↓LXk, ↓LXd, LXe, LXs, LXb, LXt, LXu, LXv, wi64, wu64, lkAll_nil, lkAll_cons, Option.bind_some, Option.map_some, Option.elim_some, List.getElem?_cons_zero, List.getElem?_cons_succ, List.set_cons_zero, List.set_cons_succ, List.length_nil, List.length_cons, iv, bv, T_int, tk_int, tsl_Rules, tz_Rule, T_Rule, Int.toNat_natCast, Int.natCast_nonneg, Nat.sub_zero, List.nil_append, List.length_map, List.length_set, hlt, hc0, wrI (show i ≤ 1000000000 by omega), hr, List.getElem?_map, Rule.lv, mkRule, bne_self_eq_false]
      refine ⟨n, by omega, ⟨[(0, .one (.vec false shRule (M.map Rule.lv))), (1, .one (iv (k + 5 * i + 1 + 1 + 1 + 1 + 1))), (5, .one (iv (i + 1 : Nat)))], [], 0, 58, []⟩, Canon.drop ?_ ?_, i + 1, _, by omega, ?_, rfl⟩
      · simp +decide only [↓reduceIte, true_and, and_true, if_true, if_false, List.cons_append, List.nil_append, ne_eq, reduceCtorEq, not_false_eq_true, Nat.reduceAdd, Nat.reduceSub, Nat.reduceMul, Int.reduceAdd, Int.reduceSub, Int.reduceMul, Int.reduceNeg, Int.reduceToNat, Int.cast_ofNat_Int, decide_true, decide_false, decide_eq_true_eq, decide_eq_false_iff_not, ↓LXi, false_implies, true_implies, forall_const, ↓LXc, ↓LXo, ↓LXk, ↓LXd, LXe, LXs, LXb, LXt, LXu, LXv, wi64, wu64, lkAll_nil, lkAll_cons, Option.bind_some, Option.map_some, Option.elim_some, List.getElem?_cons_zero, List.getElem?_cons_succ, List.set_cons_zero, List.set_cons_succ, List.length_nil, List.length_cons, iv, bv, T_int, tk_int, tsl_Rules, tz_Rule, T_Rule, Int.toNat_natCast, Int.natCast_nonneg, Nat.sub_zero, List.nil_append, List.length_map, List.length_set]
      · (repeat (first | exact List.nil_sublist _ | apply List.Sublist.cons_cons | apply List.Sublist.cons))
      · omega
end Go.Proofs.Ytoimeebildcofaa
