/- A rule as the row's own reading of an argument has it. -/
import Derived.Test.YtoimeebildcofaaDoorWRules
import Derived.Test.YtoimeebildcofaaDoorOpen
namespace Go.Proofs.YtoimeebildcofaaDoor
set_option maxRecDepth 100000 in
theorem open_rule {H : Type} {enc : TypeId × Value → H} {w : World} {base : Nat} {spare : Nat → Bool} {held : Bool} {n : Nat} {c : List Value} {y : DataW H × List MemPlace} (h : DataW.trod enc Tryd.prog w base spare held n 34 c = some y) : ∃ r : Rule, c = r.cells := by
  obtain ⟨xs, n, _, _, hl, hx, hf⟩ := DataW.trod_struct Tryd.underlying34 h
  have hx5 : xs.length = 5 := hx
  have hl5 : c.length = 5 := hl.trans (by kernel_rfl)
  obtain ⟨v0, h0, _⟩ : ∃ v : Int, c[0]? = some (.int .i64 v) ∧ _ := int_field (hf 0 _ rfl) (by omega) Tryd.underlying3 (by kernel_rfl)
  obtain ⟨v1, h1, _⟩ : ∃ v : Int, c[1]? = some (.int .i64 v) ∧ _ := int_field (hf 1 _ rfl) (by omega) Tryd.underlying3 (by kernel_rfl)
  obtain ⟨v2, h2, _⟩ : ∃ v : Int, c[2]? = some (.int .i64 v) ∧ _ := int_field (hf 2 _ rfl) (by omega) Tryd.underlying3 (by kernel_rfl)
  obtain ⟨v3, h3, _⟩ : ∃ v : Int, c[3]? = some (.int .i64 v) ∧ _ := int_field (hf 3 _ rfl) (by omega) Tryd.underlying3 (by kernel_rfl)
  obtain ⟨v4, h4, _⟩ : ∃ v : Int, c[4]? = some (.int .i64 v) ∧ _ := int_field (hf 4 _ rfl) (by omega) Tryd.underlying3 (by kernel_rfl)
  refine ⟨⟨v0, v1, v2, v3, v4⟩, ?_⟩
  refine List.ext_getElem? fun i => ?_
  rcases i with _ | _ | _ | _ | _ | i
  · exact h0
  · exact h1
  · exact h2
  · exact h3
  · exact h4
  · rw [List.getElem?_eq_none (by omega), List.getElem?_eq_none (by simp [Rule.cells])]
end Go.Proofs.YtoimeebildcofaaDoor
