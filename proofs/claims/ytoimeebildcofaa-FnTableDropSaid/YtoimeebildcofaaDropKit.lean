/- slices.Delete at a row of the call's own: what it wants, what it leaves. Plain lemmas; no condition. -/
import Derived.Test.YtoimeebildcofaaLib
namespace Go.Proofs.Ytoimeebildcofaa
open Go.RowKit
theorem flatten_ones (vs : List Value) : (vs.map (fun v => [v])).flatten = vs := by
  induction vs with
  | nil => rfl
  | cons v vs ih => simp [ih]
theorem own_cells {w : World} {base e n c : Nat} {A : Option Addr} {vs : List Value} {L : Blocks} (h : Own base e 1 (.slice A n c) (vs.map (fun v => [v])) L) (H : Holds w L) (h0 : 0 < vs.length) :
    ∃ b, A = some ⟨b, 0, none⟩ ∧ n = vs.length ∧ n ≤ c ∧ c ≤ 9223372036854775807 ∧ L.map (·.1) = [b] ∧ base ≤ b ∧ (∀ j v, vs[j]? = some v → w.cell? ⟨b, 0 + j, none⟩ = some v) ∧ (∀ j, w.frozen? ⟨b, 0 + j, none⟩ = false) ∧
      ∀ (q m : Nat) (us : List Value), us.length = n → m ≤ n → ∃ L', Own base e 1 (.slice A m c) ((us.take m).map (fun v => [v])) L' ∧ Holds ((w.drewN q).setCells b 0 us) L' ∧ L'.map (·.1) = [b] := by
  obtain ⟨h1, ⟨_, h2, _⟩ | ⟨b, cap, cur, hv, hb, hl, hx, hs, rfl, ht⟩⟩ := h
  · have : vs = [] := by simpa using h2
    rw [this] at h0
    cases h0
  · injection hv with h3 h4 h5
    subst h3 h5
    rw [flatten_ones] at ht
    have hlen : (vs.map (fun v => [v])).length = vs.length := List.length_map ..
    rw [hlen] at hl h4 ht
    have hn : n ≤ cur.size := by omega
    refine ⟨b, rfl, h4, by omega, hx, rfl, hb, fun j v hj => ?_, fun j => frozen_of_row w b _ cur e H.get, fun q m us hu hm => ?_⟩
    · refine H.cell ?_
      rw [Nat.zero_add, ← Array.getElem?_toList]
      have hj2 := (List.getElem?_eq_some_iff.1 hj).1
      rw [← ht, List.getElem?_take, if_pos (by omega)] at hj
      exact hj
    · have hml : ((us.take m).map (fun v => [v])).length = m := by simp; omega
      have hH : (w.drewN q).heap[b]? = some (.cells cur e (0, 0)) := H.get
      refine ⟨_, ⟨fun x hx => ?_, .inr ⟨b, c, (cur.toList.take 0 ++ us ++ cur.toList.drop (0 + us.length)).toArray, by rw [hml], hb, by rw [hml]; omega, hx, ?_, rfl, ?_⟩⟩, Holds.one (heap_setCells us 0 cur (w.drewN q) hH (by omega)), rfl⟩
      · obtain ⟨y, _, rfl⟩ := List.mem_map.1 hx
        rfl
      · simp only [List.take_zero, List.nil_append, List.size_toArray, List.length_append, List.length_drop, Array.length_toList]
        omega
      · rw [hml, flatten_ones, Nat.mul_one]
        simp only [List.take_zero, List.nil_append]
        rw [List.take_append_of_le_length (by omega)]
end Go.Proofs.Ytoimeebildcofaa
