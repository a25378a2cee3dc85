/- The walk of the law FnExactRulesPut. The table of powers of ten is taken as its initialiser lays it. -/
import Derived.Test.YtoimeebildcofaaDoorWPut
import Derived.Test.YtoimeebildcofaaDoorLawRules
namespace Go.Proofs.YtoimeebildcofaaDoor
open Go.RowKit
theorem specRulesPut_calls (v : Value) (rs : List Rule) (L : Blocks) (w : World) (h : Row 5 v (rs.map Rule.cells) L) (H : Holds w L) :
    Calls Tryd.prog 5 #[v] w fun e w' => e = .returned (.string (bs (putText rs))) ∧ Below w.heap.size w w' := by
  have h1 : Val (fun _ => undef) 0 w.heap.size w (fun _ => False) (.vec false shRule (rs.map Rule.lv)) v := flatRule.val h H
  refine ((specRulesPut_pf rs).2 (fun _ => undef) w [v] ⟨(fun y hy => by cases hy), .nil, .nil⟩ (.cons (h1.mono (fun _ _ => rfl) (Nat.le_refl _) fun b o _ hb => ⟨hb, fun ⟨y, hy, _⟩ => by cases hy⟩) .nil)).mono fun e w' he => ?_
  cases e with
  | returned v =>
    obtain ⟨ρ', r, R', ⟨rfl, rfl⟩, hG, hv⟩ := he
    refine ⟨by rw [Val.inv hv], hG.only.os, hG.only.tape, hG.only.output, hG.only.size, fun k hk => hG.only.block k hk (fun ⟨y, hy, _⟩ => by cases hy)⟩
  | panicked ch => obtain ⟨_, _, hq, _⟩ := he; exact hq.elim
  | outgrown => exact he.elim
set_option maxRecDepth 100000 in
theorem lawExactRulesPut (v : Value) (rs : List Rule) (L : Blocks) (w : World) (h : Row 5 v (rs.map Rule.cells) L) (H : Holds w L) (ht : Tab w) :
    Calls Tryd.prog 3 #[v] w fun e w' => e = .returned (.bool true) ∧ Below w.heap.size w w' := by
  obtain ⟨A, n, c, rfl⟩ := h.slice
  obtain ⟨hnl, hn⟩ := h.len'
  rw [List.length_map] at hnl
  have HN := Lib.hid hnl
  clear hnl
  obtain ⟨X, hX⟩ : ∃ X, bs (putText rs) = X := ⟨_, rfl⟩
  have HX := Lib.hid hX
  clear hX
  go_enter Tryd.func3, Tryd.ntmps3
  go_wp2_with (go_at_call 4; refine (szRuleS_calls _ n c 1048576 _ hn (by omega) (by omega)).mono ?_; rintro e w' ⟨⟨left, rfl, hleft⟩, rfl⟩)
  · go_ret
    exact ⟨rfl, Below.refl _ _⟩
  · have hn2 : n ≤ 1048576 := by have := hleft (by omega); omega
    go_wp2_with fail
    refine (toRuleS_calls _ rs L _ h H (by rw [HN.out]; exact hn2)).mono ?_
    rintro e w1 ⟨v1, L1, rfl, ho1, hH1, hb1⟩
    go_wp2_with fail
    refine (specRulesPut_calls _ rs L1 _ ho1.row hH1).mono ?_
    rw [HX.out]
    rintro e w2 ⟨rfl, hb2⟩
    have hB2 := below_trans' hb1 hb1.size hb2
    go_wp2_with fail
    refine (toRuleS_calls _ rs L _ h (H.below hB2) (by rw [HN.out]; exact hn2)).mono ?_
    rintro e w3 ⟨v3, L3, rfl, ho3, hH3, hb3⟩
    have hB3 := below_trans' hB2 hB2.size hb3
    go_wp2_with fail
    refine (implRulesPut_calls _ rs L3 _ ho3.row hH3 (tab_below ht hB3)).mono ?_
    rw [HX.out]
    rintro e w4 ⟨rfl, hb4⟩
    have hB4 := below_trans' hB3 hB3.size hb4
    have hH34 := hH3.below hb4
    go_wp2_with fail
    refine (toRuleS_calls _ rs L _ h (H.below hB4) (by rw [HN.out]; exact hn2)).mono ?_
    rintro e w5 ⟨v5, L5, rfl, ho5, hH5, hb5⟩
    have hB5 := below_trans' hB4 hB4.size hb5
    go_wp2_with fail
    refine (eqRuleS_calls _ _ rs rs L3 L5 _ ho3.row (hH34.below hb5) ho5.row hH5).mono ?_
    rintro e w6 ⟨rfl, hb6⟩
    have hB6 := below_trans' hB5 hB5.size hb6
    go_wp2
    go_ret
    exact ⟨rfl, hB6⟩
end Go.Proofs.YtoimeebildcofaaDoor
