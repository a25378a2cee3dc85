/- A table as the row's own reading of an argument has it. -/
import Derived.Test.YtoimeebildcofaaLib
import Derived.Test.YtoimeebildcofaaWRules
import Derived.Test.YtoimeebildcofaaOpen
namespace Go.Proofs.Ytoimeebildcofaa
open Go.RowKit
theorem row_field {H : Type} {enc : TypeId × Value → H} {P : Program} {w : World} {base : Nat} {spare : Nat → Bool} {held : Bool} {n o i sz : Nat} {T e : TypeId} {cs : List Value} {xs : List (DataW H × List MemPlace)} (hf : DataW.trod enc P w base spare held n T ((cs.drop o).take (P.cellsOf T)) = xs[i]?) (hi : i < xs.length) (hT : P.underlying T = some (.slice e)) (hc : P.cellsOf T = 1) (hsz : P.cellsOf e = sz) (h0 : 0 < sz) :
    ∃ v css L, cs[o]? = some v ∧ Row sz v css L ∧ Holds w L ∧ ∀ c ∈ css, ∃ n y, DataW.trod enc P w base spare held n e c = some y := by
  rw [List.getElem?_eq_getElem hi, hc] at hf
  obtain ⟨v, css, L, h1, h2, h3, h4⟩ := open_row hT hsz h0 hf
  refine ⟨v, css, L, ?_, h2, h3, h4⟩
  have : ((cs.drop o).take 1)[0]? = some v := by rw [h1]; rfl
  simpa [List.getElem?_take] using this
set_option maxRecDepth 100000 in
theorem open_table {H : Type} {enc : TypeId × Value → H} {w : World} {base : Nat} {spare : Nat → Bool} {held : Bool} {n : Nat} {c : List Value} {y : DataW H × List MemPlace} (h : DataW.trod enc Try.prog w base spare held n 25 c = some y) :
    ∃ (t : Table) (kv sv : Value) (L1 L2 : Blocks), c = [.int .i64 t.kind, .int .i64 t.size, .int .i64 t.most, kv, sv] ∧ Row 1 kv (t.keys.map intCell) L1 ∧ Holds w L1 ∧ Row 1 sv (t.slots.map strCell) L2 ∧ Holds w L2 ∧ ∀ s ∈ t.slots, s.size ≤ 9223372036854775807 := by
  obtain ⟨xs, n, _, _, hl, hx, hf⟩ := DataW.trod_struct Try.underlying25 h
  have hx5 : xs.length = 5 := hx
  have hl5 : c.length = 5 := hl.trans (by kernel_rfl)
  obtain ⟨v0, h0, _⟩ : ∃ v : Int, c[0]? = some (.int .i64 v) ∧ _ := int_field (hf 0 _ rfl) (by omega) Try.underlying3 (by kernel_rfl)
  obtain ⟨v1, h1, _⟩ : ∃ v : Int, c[1]? = some (.int .i64 v) ∧ _ := int_field (hf 1 _ rfl) (by omega) Try.underlying3 (by kernel_rfl)
  obtain ⟨v2, h2, _⟩ : ∃ v : Int, c[2]? = some (.int .i64 v) ∧ _ := int_field (hf 2 _ rfl) (by omega) Try.underlying3 (by kernel_rfl)
  obtain ⟨kv, css, L1, h3, r1, H1, t1⟩ : ∃ v css L, c[3]? = some v ∧ _ := row_field (sz := 1) (hf 3 _ rfl) (by omega) Try.underlying22 (by kernel_rfl) (by kernel_rfl) (by omega)
  obtain ⟨sv, dss, L2, h4, r2, H2, t2⟩ : ∃ v css L, c[4]? = some v ∧ _ := row_field (sz := 1) (hf 4 _ rfl) (by omega) Try.underlying23 (by kernel_rfl) (by kernel_rfl) (by omega)
  obtain ⟨ks, rfl⟩ := list_of (enc := intCell) (fun c hc => by obtain ⟨n, y, hy⟩ := t1 c hc; obtain ⟨v, e, _⟩ := DataW.trod_int Try.underlying3 hy; exact ⟨v, e⟩)
  obtain ⟨ss, rfl⟩ := list_of (enc := strCell) (fun c hc => by obtain ⟨n, y, hy⟩ := t2 c hc; obtain ⟨v, e, _⟩ := DataW.trod_string Try.underlying9 hy; exact ⟨v, e⟩)
  refine ⟨⟨v0, v1, v2, ks, ss⟩, kv, sv, L1, L2, ?_, r1, H1, r2, H2, fun s hs => ?_⟩
  · refine List.ext_getElem? fun i => ?_
    rcases i with _ | _ | _ | _ | _ | i
    · exact h0
    · exact h1
    · exact h2
    · exact h3
    · exact h4
    · rw [List.getElem?_eq_none (by omega), List.getElem?_eq_none (by simp)]
  · obtain ⟨n, y, hy⟩ := t2 _ (List.mem_map_of_mem hs)
    obtain ⟨v, e, _, h5⟩ := DataW.trod_string Try.underlying9 hy
    simp only [strCell, List.cons.injEq, Value.string.injEq, and_true] at e
    subst e
    simpa [maxLen] using h5
end Go.Proofs.Ytoimeebildcofaa
