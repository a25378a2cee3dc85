/- For every list of rules the program's RulesOk returns what the reference's RulesOk returns. Conditions: none beyond the row's own. -/
import Derived.Test.YtdpdclfanlbkjaaRows
import Derived.Test.YtdpdclfanlbkjaaLawRules
import Derived.Test.YtdpdclfanlbkjaaOpen
import Derived.ProofKit
import Derived.OpenShut
import Derived.ShutString
import Derived.ChangeOld
import Derived.SizedLaws
import Derived.Carry
namespace Go.Proofs.Ytdpdclfanlbkjaa
set_option maxRecDepth 100000 in
theorem open_rule {H : Type} {enc : TypeId × Value → H} {w : World} {base : Nat} {spare : Nat → Bool} {held : Bool} {n : Nat} {c : List Value} {y : DataW H × List MemPlace} (h : DataW.trod enc Try.prog w base spare held n 73 c = some y) : ∃ r : Rule, c = r.cells := by
  obtain ⟨xs, n, _, _, hl, hx, hf⟩ := DataW.trod_struct Try.underlying73 h
  have hx5 : xs.length = 5 := hx
  have hl5 : c.length = 5 := hl.trans (by kernel_rfl)
  obtain ⟨v0, h0, _⟩ : ∃ v : Int, c[0]? = some (.int .i64 v) ∧ _ := int_field (hf 0 _ rfl) (by omega) Try.underlying3 (by kernel_rfl)
  obtain ⟨v1, h1, _⟩ : ∃ v : Int, c[1]? = some (.int .i64 v) ∧ _ := int_field (hf 1 _ rfl) (by omega) Try.underlying3 (by kernel_rfl)
  obtain ⟨v2, h2, _⟩ : ∃ v : Int, c[2]? = some (.int .i64 v) ∧ _ := int_field (hf 2 _ rfl) (by omega) Try.underlying3 (by kernel_rfl)
  obtain ⟨v3, h3, _⟩ : ∃ v : Int, c[3]? = some (.int .i64 v) ∧ _ := int_field (hf 3 _ rfl) (by omega) Try.underlying3 (by kernel_rfl)
  obtain ⟨v4, h4, _⟩ : ∃ v : Int, c[4]? = some (.int .i64 v) ∧ _ := int_field (hf 4 _ rfl) (by omega) Try.underlying3 (by kernel_rfl)
  refine ⟨⟨v0, v1, v2, v3, v4⟩, ?_⟩
  refine List.ext_getElem? fun i => ?_
  rcases i with _ | _ | _ | _ | _ | i
  · exact h0
  · exact h1
  · exact h2
  · exact h3
  · exact h4
  · rw [List.getElem?_eq_none (by omega), List.getElem?_eq_none (by simp [Rule.cells])]
end Go.Proofs.Ytdpdclfanlbkjaa
namespace Go.Proofs.Ytdpdclfanlbkjaa.fnExactRulesOk
open Go.ChangeShapes Go.WideShapes Go.ChangeAt Go.RowKit
open Go.ChangeMaps (open_string shut_string)
theorem own : ownKnob Try.prog.godebug = none := by kernel_rfl
theorem laidOut : laidOutB Try.prog = true := by kernel_rfl
set_option maxRecDepth 100000 in
theorem lifted (os : Os) (started : os.Started) (H : Type) (enc : TypeId × Value → H) :
    ReturnsInHanded {} Try.checked os 4 .any (Rows.fnExactRulesOkSpec.pre6 enc Try.prog Try.f4 Rows.fnExactRulesOkRow.domain false) (Rows.fnExactRulesOkSpec.post enc Try.prog Try.f4 false true false false) := by
  refine returnsInHanded_of_change_sized (C := Try.checked) own started (by kernel_rfl) Try.func4
    (ChangeSpec.witness6 (enc := enc) (C := Try.checked) false ⟨#[], #[.slice none 0 0], []⟩ 8 (by kernel_rfl) (by kernel_rfl) (by kernel_rfl) (by kernel_rfl)) ?_
  intro W base args ds gs before hval0 hW hcnd _ _
  have hval : ∀ (j : Nat) t v, Try.f4.params[j]? = some t → args[j]? = some v → Value.okWide Try.prog W .any base t v := hval0
  have hW' := hW
  obtain ⟨p, q, hA0, hV, rfl, hfz, hnd⟩ := hW
  have hA : DataW.TrodAll enc Try.prog W 0 (fun _ => true) true Try.f4.params.toList args.toList ds p := hA0
  rw [Try.params4] at hA hval
  obtain ⟨v0, vs0, d0, ds0, p0, q0, hargs, rfl, rfl, h0, r0⟩ := trodAll_cons hA
  obtain ⟨rfl, rfl, rfl⟩ := trodAll_nil r0
  obtain rfl : args = #[v0] := by cases args; simp_all
  obtain ⟨rfl, rfl⟩ := trodVars_none hV
  obtain ⟨a0, len0, cap0, rfl⟩ := okWide_slice Try.underlying24 (hval 0 24 v0 rfl rfl)
  have k0 := h0
  have lt0 : ∀ x ∈ p0, x.block < W.heap.size := by obtain ⟨m, hm⟩ := k0; exact DataW.trod_lt m _ _ _ hm
  obtain ⟨fuel0, hf0⟩ := h0
  obtain ⟨v0, css0, L0, hv0, R0, H0, hc0⟩ := open_row Try.underlying24 (sz := 5) (by kernel_rfl) (by omega) hf0
  simp only [Value.cells, List.cons.injEq, and_true] at hv0
  obtain rfl : .slice a0 len0 cap0 = v0 := by simpa using hv0
  obtain ⟨xs0, rfl⟩ := list_of (fun c hc => by obtain ⟨n, y, hy⟩ := hc0 c hc; exact open_rule hy)
  refine (lawExactRulesOk _ xs0 L0 W R0 H0).mono fun e W' ⟨he, bel⟩ => ?_
  subst he
  exact ⟨_, rfl, _, _, _, [], _, [], hW', trodAll_mk1 (shut_bool Try.underlying4 _), (trodAll_cons_mk (Below.trod laidOut (by kernel_rfl) (of_decide_eq_true (by kernel_rfl)) k0 bel lt0) trodAll_mk0), rfl, bel.frame _, fun h => by cases h⟩
theorem over : Rows.fnExactRulesOkRow.holds Try.pinned (OpenSpec.ofChange Rows.fnExactRulesOkSpec) :=
  OpenClaim.holds_of_wide 4 Try.f4 rfl rfl rfl rfl rfl rfl rfl ⟨rfl, rfl, rfl, rfl, rfl⟩ rfl rfl rfl rfl rfl (by kernel_rfl) Try.func4 (by kernel_rfl)
    (of_decide_eq_true (by kernel_rfl)) (by unfold Func.isWrapper; first | (rw [if_pos (by decide +kernel)]; kernel_rfl) | (rw [if_neg (by decide +kernel)]; exact ⟨rfl, rfl⟩))
    (fun os started H enc _ => lifted os started H enc)
theorem proved : Rows.FnExactRulesOkSaid := over
#print axioms proved
end Go.Proofs.Ytdpdclfanlbkjaa.fnExactRulesOk
namespace Go.Proofs.Ytdpdclfanlbkjaa
theorem fnExactRulesOk_holds : Rows.FnExactRulesOkSaid := fnExactRulesOk.proved
end Go.Proofs.Ytdpdclfanlbkjaa
