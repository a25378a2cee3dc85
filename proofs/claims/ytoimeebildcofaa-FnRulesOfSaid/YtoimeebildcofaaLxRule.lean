/- Rules, as the walks by roots have them. -/
import Derived.Test.YtoimeebildcofaaLxBase
import Derived.Test.YtoimeebildcofaaWRules
namespace Go.Proofs.Ytoimeebildcofaa
open Go.RowKit
set_option linter.unusedSimpArgs false
set_option linter.unusedVariables false
set_option maxRecDepth 100000
abbrev shRule : Sh := .st [.one, .one, .one, .one, .one]
def Rule.lv (r : Rule) : LV := .st [.one, .one, .one, .one, .one] [iv r.at_, iv r.op, iv r.num, iv r.verdict, iv r.key]
theorem Rule.shape (k : Rule) : k.lv.shape = .st [.one, .one, .one, .one, .one] := rfl
theorem flatRule : Flat Rule.lv Rule.cells shRule := ⟨fun _ => rfl, fun _ => rfl⟩
theorem tsl_Rules : tsl Try.prog 44 = some (56, .st [.one, .one, .one, .one, .one] [.v (.int .i64 0), .v (.int .i64 0), .v (.int .i64 0), .v (.int .i64 0), .v (.int .i64 0)]) := by kernel_rfl
theorem tz_Rule : tz Try.prog 56 = some (.st [.one, .one, .one, .one, .one] [.v (.int .i64 0), .v (.int .i64 0), .v (.int .i64 0), .v (.int .i64 0), .v (.int .i64 0)]) := by kernel_rfl
theorem T_Rule : T Try.prog 56 = some (.st [.one, .one, .one, .one, .one]) := by kernel_rfl
theorem implRulesOk_pf (rs : List Rule) : PF Try.prog 62 [.vec false shRule (rs.map Rule.lv)] (.one (bv (rulesOk rs))) := by
  refine pf_of (by kernel_rfl) fun ρ w vs O hV => ?_
  obtain ⟨v, vs, rfl, h1, h2⟩ := hV.inv1
  obtain rfl := h2.inv0
  obtain ⟨L, h3, h4⟩ := flatRule.row h1
  refine (rulesOk_calls v rs L w h3 h4).mono fun e w' ⟨he, hb⟩ => ⟨_, he, fun ρ' O' => ⟨_, .v rfl, rfl⟩, hb⟩
theorem l9Ok_pf (rs : List Rule) : PF Try.prog 58 [.vec false shRule (rs.map Rule.lv)] (.one (bv (rulesOk rs))) := by
  refine pf_of (by kernel_rfl) fun ρ w vs O hV => ?_
  obtain ⟨v, vs, rfl, h1, h2⟩ := hV.inv1
  obtain rfl := h2.inv0
  obtain ⟨L, h3, h4⟩ := flatRule.row h1
  refine (l9Ok_calls v rs L w h3 h4).mono fun e w' ⟨he, hb⟩ => ⟨_, he, fun ρ' O' => ⟨_, .v rfl, rfl⟩, hb⟩
end Go.Proofs.Ytoimeebildcofaa
