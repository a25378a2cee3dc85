/- slices.Grow of nothing, slices.Concat, slices.Clip. -/
import Derived.Test.YtdpdclfanlbkjaaMarks
import Derived.Lib.AppendZeros
namespace Go.Proofs.Ytdpdclfanlbkjaa
open Go.RowKit
theorem infoIns : (Try.prog.info? 87).map (fun i => (i.zero, i.size, i.bytes)) = some (some (.agg #[.int .i64 0, .int .i64 0, .int .i64 0, .int .i64 0, .int .i64 0, .int .i64 0]), 6, 48) := by kernel_rfl
/-- Rows one behind the other: each with what it reads, and in which blocks. -/
abbrev Pile := List (Value × List (List Value) × Blocks)
def Pile.all (p : Pile) : List (List Value) := (p.map (·.2.1)).flatten
theorem Pile.all_take {p : Pile} {k : Nat} {x : Value × List (List Value) × Blocks} (h : p[k]? = some x) : Pile.all (p.take (k + 1)) = Pile.all (p.take k) ++ x.2.1 := by
  rw [List.take_add_one, h]
  simp [Pile.all]
theorem Pile.all_mono (p : Pile) (k : Nat) : (Pile.all (p.take k)).length ≤ (Pile.all p).length := by
  have h : Pile.all p = Pile.all (p.take k) ++ Pile.all (p.drop k) := by simp only [Pile.all]; rw [← List.flatten_append, ← List.map_append, List.take_append_drop]
  rw [h, List.length_append]
  omega
/-- The row u of the rows of p: each is read where it lies. -/
structure Piled (sz : Nat) (w : World) (u : Value) (p : Pile) (M : Blocks) : Prop where
  row : Row 1 u (p.map (fun x => [x.1])) M
  holds : Holds w M
  each : ∀ x, x ∈ p → Row sz x.1 x.2.1 x.2.2 ∧ Holds w x.2.2
theorem Piled.only {S : Nat → Prop} {sz : Nat} {w w' : World} {u : Value} {p : Pile} {M : Blocks} (h : Piled sz w u p M) (o : Only S w w') (hS : ∀ k, k < w.heap.size → ¬ S k) : Piled sz w' u p M :=
  ⟨h.row, h.holds.only o (fun _ hq => hS _ (h.holds.lt hq)), fun x hx => ⟨(h.each x hx).1, (h.each x hx).2.only o (fun _ hq => hS _ ((h.each x hx).2.lt hq))⟩⟩
theorem Piled.below {sz : Nat} {w w' : World} {u : Value} {p : Pile} {M : Blocks} (h : Piled sz w u p M) (b : Below w.heap.size w w') : Piled sz w' u p M :=
  ⟨h.row, h.holds.below b, fun x hx => ⟨(h.each x hx).1, (h.each x hx).2.below b⟩⟩
set_option maxRecDepth 100000 in
theorem growIns_calls (n : Nat) (w : World) (hn : n ≤ 1048576) : Calls Try.prog 122 #[.slice none 0 0, .int .i64 n] w fun e w' => ∃ v L, e = .returned v ∧ Own w.heap.size 87 6 v [] L ∧ Holds w' L ∧ Below w.heap.size w w' := by
  obtain ⟨i0, hi0, hz0, hs0, hb0⟩ := info_of infoIns
  have HI := Lib.hid hi0
  clear hi0
  by_cases h0 : n = 0
  · subst h0
    go_enter Try.func122, Try.ntmps122
    go_wp2
    go_ret
    exact ⟨_, [], rfl, Own.nil _ _ _, Holds.nil _, Below.refl _ _⟩
  · have hr := Lib.run_append_nil_zeros (P := Try.prog) w 43 3 43 87 i0 _ .i64 .i64 Try.underlying43 Try.underlying3 HI.out hz0 n (by omega) (by omega) (by omega) (by rw [hb0]; omega)
    have hg := grownCap_ge w n 0 87
    have hg2 := grownCap_le_maxLen w n 0 87 (by simp only [maxLen]; omega)
    simp only [maxLen] at hg2
    generalize hG : grownCap w n 0 87 = G at *
    have hG0 : (0 : Int) ≤ (G : Int) := by omega
    have HR := Lib.hid hr
    clear hr hG
    go_enter Try.func122, Try.ntmps122
    go_wp2_with ((with_reducible refine gate_dst (N := 22) rfl ?_); refine Lib.wpList_append_run _ rfl _ _ _ _ rfl _ _ rfl rfl _ _ HR.out ?_)
    go_ret
    refine ⟨_, _, rfl, ⟨by simp, .inr ⟨_, G, _, rfl, Nat.le_refl _, Nat.zero_le _, hg2, ?_, rfl, by simp⟩⟩, Holds.one (heap_alloc_new w.drew _), ((Below.refl _ w).drew).alloc (Nat.le_refl _) _⟩
    rw [Array.size_append, size_zeroCells, size_zeroCells, ← Nat.add_mul]
    exact Nat.le_of_eq (by rw [show n + (G - n) = G by omega]; rfl)
set_option maxRecDepth 100000 in
theorem concatIns_calls (u : Value) (p : Pile) (M : Blocks) (w : World) (h : Piled 6 w u p M) (hl : (Pile.all p).length ≤ 1048576) (h1 : ∀ x ∈ p, ∀ u ∈ x.2.1.flatten, u.oneCell' = true) :
    Calls Try.prog 111 #[u] w fun e w' => ∃ v L, e = .returned v ∧ Own w.heap.size 87 6 v (Pile.all p) L ∧ Holds w' L ∧ Below w.heap.size w w' := by
  obtain ⟨i0, hi0, hz0, hs0, hb0⟩ := info_of infoIns
  have HI := Lib.hid hi0
  clear hi0
  obtain ⟨A, n, c, rfl⟩ := h.row.slice
  obtain ⟨hnl, hn⟩ := h.row.len'
  rw [List.length_map] at hnl
  have HN := Lib.hid hnl
  have H1 := Lib.hid h1
  clear hnl h1
  go_enter Try.func111, Try.ntmps111
  go_wp2
  go_loopw [3, 11] (fun s i wr => ∃ (k t : Nat), k ≤ n ∧ i = .int .i64 k ∧ s = .int .i64 t ∧ Hid (t = (Pile.all (p.take k)).length) ∧ t ≤ 1048576 ∧ w = wr) (fun _ i _ => n - (intOf i).toNat)
  case atStart => exact ⟨0, 0, Nat.zero_le _, rfl, rfl, rfl, Nat.zero_le _, rfl⟩
  case round =>
    obtain ⟨k, t, hk, rfl, rfl, ht, ht2, hwr⟩ := hrel
    subst hwr
    by_cases hlt : k < n
    · obtain ⟨x, hx⟩ : ∃ x, p[k]? = some x := ⟨_, List.getElem?_eq_getElem (by rw [HN.out]; exact hlt)⟩
      obtain ⟨b, off, rfl, hq⟩ := h.row.at_ h.holds (k := k) (cs := [x.1]) (by rw [List.getElem?_map, hx]; rfl)
      obtain ⟨hr, _⟩ := h.each x (List.mem_of_getElem? hx)
      obtain ⟨v, css, L⟩ := x
      obtain ⟨B, m, d, rfl⟩ := hr.slice
      have hm := hr.len'.1
      have hmono := Pile.all_mono p (k + 1)
      have htk := Pile.all_take hx
      rw [htk, List.length_append] at hmono
      simp only at hm hmono
      rw [hm] at hmono
      have ht3 : t + m ≤ 1048576 := by have := ht.out; omega
      have HT : Hid (t + m = (Pile.all (p.take (k + 1))).length) := by show _ = _; rw [htk, List.length_append, ← ht.out]; simp only; rw [hm]
      have q0 : w.cell? ⟨b, off + k * 1, none⟩ = some (.slice B m d) := hq 0 _ rfl
      rw [Nat.mul_one] at q0
      clear hq hmono htk hm hr hx
      go_wp2
      go_roundw
      case rel => exact ⟨k + 1, t + m, by omega, by go_num, by go_num, HT, ht3, trivial⟩
      case measure => simp [intOf]; omega
    · go_wp2_with fail
      refine (growIns_calls t _ ht2).mono ?_
      rintro e w1 ⟨v0, L0, rfl, ho0, hH0, hb0'⟩
      clear ht hlt
      go_wp2
      go_loopw [6, 27] (fun v i wr => ∃ (k : Nat) (K : Blocks), k ≤ n ∧ i = .int .i64 k ∧ Own w.heap.size 87 6 v (Pile.all (p.take k)) K ∧ Holds wr K ∧ Below w.heap.size w wr) (fun _ i _ => n - (intOf i).toNat)
      case atStart => exact ⟨0, L0, Nat.zero_le _, rfl, ho0, hH0, hb0'⟩
      case round =>
        obtain ⟨k, K, hk, rfl, ho, hH, hb⟩ := hrel
        by_cases hlt : k < n
        · obtain ⟨x, hx⟩ : ∃ x, p[k]? = some x := ⟨_, List.getElem?_eq_getElem (by rw [HN.out]; exact hlt)⟩
          have hp := h.below hb
          obtain ⟨b, off, rfl, hq⟩ := h.row.at_ hp.holds (k := k) (cs := [x.1]) (by rw [List.getElem?_map, hx]; rfl)
          obtain ⟨hr, hrH⟩ := hp.each x (List.mem_of_getElem? hx)
          have hone := H1.out x (List.mem_of_getElem? hx)
          have hmono := Pile.all_mono p (k + 1)
          have htk := Pile.all_take hx
          rw [htk, List.length_append] at hmono
          have HT := Lib.hid htk
          obtain ⟨v1, css, L1⟩ := x
          simp only at hr hrH hone hmono
          have q0 : wr.cell? ⟨b, off + k * 1, none⟩ = some v1 := hq 0 _ rfl
          rw [Nat.mul_one] at q0
          have hsz := hb.size
          obtain ⟨B, m, d, rfl⟩ := hr.slice
          clear hq htk hx
          go_wp2_with ((with_reducible refine gate_dst (N := 33) rfl ?_); refine wpList_append_row rfl _ _ 43 rfl w.heap.size 87 i0 _ 6 48 Try.underlying43 HI.out hz0 hs0 hb0 rfl (by decide) _ _ K rfl ho hH _ css L1 rfl hr hrH hone (by omega) (by decide) hsz ?_; intro v2 w2 K2 ho2 hH2 hon2 hat2)
          go_roundw
          case rel => exact ⟨k + 1, K2, by omega, by go_num, by rw [HT.out]; exact ho2, hH2, Only.below hb hsz hon2 (fun q ⟨z, hz, hzq⟩ => by have := ho.base z hz; omega)⟩
          case measure => simp [intOf]; omega
        · have hkn : k = n := by omega
          subst hkn
          go_wp2
          go_ret
          rw [List.take_of_length_le (by rw [HN.out]; exact Nat.le_refl _)] at ho
          exact ⟨_, K, rfl, ho, hH, hb⟩
end Go.Proofs.Ytdpdclfanlbkjaa
