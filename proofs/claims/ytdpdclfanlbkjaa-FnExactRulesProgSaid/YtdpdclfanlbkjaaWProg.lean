/- The walks of RulesProg, of the program and of the reference. -/
import Derived.Test.YtdpdclfanlbkjaaConcat
namespace Go.Proofs.Ytdpdclfanlbkjaa
open Go.RowKit
theorem oneCell_ins (xs : List Ins) : ∀ u ∈ (xs.map Ins.cells).flatten, u.oneCell' = true := fun u hu => by
  obtain ⟨c, hc, hu⟩ := List.mem_flatten.1 hu
  obtain ⟨x, _, rfl⟩ := List.mem_map.1 hc
  simp only [Ins.cells, List.mem_cons, List.not_mem_nil, or_false] at hu
  rcases hu with rfl | rfl | rfl | rfl | rfl | rfl <;> rfl
/-- A row of structs that was laid in block b. -/
theorem own_lit (b B sz e : Nat) (xs : Array Value) (n : Nat) (css : List (List Value)) (h : css.length = n) (hn : n ≤ 9223372036854775807) (h1 : ∀ c ∈ css, c.length = sz) (hx : xs.toList = css.flatten) (hB : B ≤ b) :
    Own B e sz (.slice (some ⟨b, 0, none⟩) n n) css [(b, .cells xs e (0, 0))] := by
  have hl := length_flatten_of h1
  rw [← hx, Array.length_toList, h] at hl
  refine ⟨h1, .inr ⟨_, n, xs, by rw [h], hB, by omega, hn, by omega, rfl, ?_⟩⟩
  rw [List.take_of_length_le (by rw [Array.length_toList, hl, h]; exact Nat.le_refl _), hx]
def insCells (xs : List Ins) : List Value := (xs.map Ins.cells).flatten
theorem own_ins (b B : Nat) (xs : Array Value) (css : List Ins) (h : css.length ≤ 100) (hx : xs.toList = insCells css) (hB : B ≤ b) :
    Own B 87 6 (.slice (some ⟨b, 0, none⟩) css.length css.length) (css.map Ins.cells) [(b, .cells xs 87 (0, 0))] :=
  own_lit b B 6 _ xs css.length (css.map Ins.cells) (by simp) (by omega) (fun c hc => by obtain ⟨x, _, rfl⟩ := List.mem_map.1 hc; rfl) hx hB
theorem box_cells {w : World} {g : Nat} {r : Rule} {e : Nat} (h : w.heap[g]? = some (.cells #[.int .i64 r.at_, .int .i64 r.op, .int .i64 r.num, .int .i64 r.verdict, .int .i64 r.key] e)) :
    w.cell? ⟨g, 0, none⟩ = some (.int .i64 r.at_) ∧ w.cell? ⟨g, 1, none⟩ = some (.int .i64 r.op) ∧ w.cell? ⟨g, 2, none⟩ = some (.int .i64 r.num) ∧ w.cell? ⟨g, 3, none⟩ = some (.int .i64 r.verdict) ∧ w.cell? ⟨g, 4, none⟩ = some (.int .i64 r.key) := by
  simp [World.cell?, h]
set_option maxRecDepth 100000 in
set_option maxHeartbeats 1600000 in
theorem specRule_calls (r : Rule) (w : World) : Calls Try.prog 110 #[.agg #[.int .i64 r.at_, .int .i64 r.op, .int .i64 r.num, .int .i64 r.verdict, .int .i64 r.key]] w fun e w' =>
    ∃ v L, e = .returned v ∧ Own w.heap.size 87 6 v (r.prog.map Ins.cells) L ∧ Holds w' L ∧ Below w.heap.size w w' := by
  obtain ⟨i0, hi0, hz0, hs0, hb0⟩ := info_of infoIns
  have HI := Lib.hid hi0
  clear hi0
  by_cases hd : r.verdict = 2
  · have HD := Lib.hid hd
    have hd2 : (r.verdict == 2) = true := by rw [hd]; rfl
    have ht : ([⟨1, 1, -1, 0, r.key, 0⟩, ⟨19, 0, -1, 0, 6, 0⟩] : List Ins) ++ [⟨1, 0, -1, 0, r.verdict, 0⟩, ⟨20, 0, -1, 0, 0, 0⟩] = r.tail := by simp only [Rule.tail, hd, if_true]
    have HL : Hid (r.tail.length = 4) := by show _ = _; rw [← ht]; rfl
    have HT := Lib.hid ht
    clear hd ht
    go_enter Try.func110, Try.ntmps110
    go_wp2_with (first
      | ((with_reducible refine gate_dst (N := 19) rfl ?_); refine wpList_append_row rfl _ _ 43 rfl w.heap.size 87 i0 _ 6 48 Try.underlying43 HI.out hz0 hs0 hb0 rfl (by decide) _ (([⟨1, 1, -1, 0, r.key, 0⟩, ⟨19, 0, -1, 0, 6, 0⟩] : List Ins).map Ins.cells) _ rfl (own_ins (w.heap.size + 1 + 1) _ _ [⟨1, 1, -1, 0, r.key, 0⟩, ⟨19, 0, -1, 0, 6, 0⟩] (by simp) rfl (by omega)) (holds_new (by simp)) _ (([⟨1, 0, -1, 0, r.verdict, 0⟩, ⟨20, 0, -1, 0, 0, 0⟩] : List Ins).map Ins.cells) _ rfl (own_ins (w.heap.size + 1) 0 _ [⟨1, 0, -1, 0, r.verdict, 0⟩, ⟨20, 0, -1, 0, 0, 0⟩] (by simp) rfl (by omega)).row ((holds_new (by simp)).alloc _) (oneCell_ins _) (by simp) (by decide) (by simp; omega) ?_; intro v4 w4 L4 ho4 hH4 hon4 hat4
         rw [← List.map_append, HT.out] at ho4
         obtain ⟨A4, n4, c4, rfl⟩ := ho4.row.slice
         obtain rfl : n4 = 4 := by have := ho4.row.len'.1; rw [List.length_map, HL.out] at this; exact this.symm
         obtain ⟨c0, c1, c2, c3, c4'⟩ := box_cells ((hon4.block w.heap.size (by simp; omega) (fun ⟨p, hp, hpk⟩ => by rw [List.mem_singleton.1 hp] at hpk; simp only at hpk; omega)).trans ((((holds_new (w := w) rfl).alloc _).alloc _) (_, _) (List.mem_singleton.2 rfl)) : w4.heap[w.heap.size]? = some (.cells #[.int .i64 r.at_, .int .i64 r.op, .int .i64 r.num, .int .i64 r.verdict, .int .i64 r.key] 71)))
      | ((with_reducible refine gate_dst (N := 34) rfl ?_); refine wpList_append_row rfl _ _ 43 rfl w.heap.size 87 i0 _ 6 48 Try.underlying43 HI.out hz0 hs0 hb0 rfl (by decide) _ (([⟨17, 2, 6, r.at_, 0, 1⟩, ⟨r.op, 2, -1, 1, r.num, 0⟩, ⟨16, 0, -1, 4, 0, 0⟩] : List Ins).map Ins.cells) _ rfl (own_ins w4.heap.size _ _ [⟨17, 2, 6, r.at_, 0, 1⟩, ⟨r.op, 2, -1, 1, r.num, 0⟩, ⟨16, 0, -1, 4, 0, 0⟩] (by simp) rfl (by have := hon4.size; simp at this; omega)) (holds_new rfl) _ _ L4 rfl ho4.row (hH4.alloc _) (oneCell_ins _) (by rw [List.length_map, List.length_map, HL.out]; show (3 + 4) * 48 ≤ _; decide) (by decide) (by have := hon4.size; simp at this; simp; omega) ?_; intro v5 w5 L5 ho5 hH5 hon5 hat5))
    go_ret
    have hp : r.prog = [⟨17, 2, 6, r.at_, 0, 1⟩, ⟨r.op, 2, -1, 1, r.num, 0⟩, ⟨16, 0, -1, 4, 0, 0⟩] ++ r.tail := by
      rw [Rule.prog, HL.out]
      rfl
    refine ⟨_, rfl, L5, by rw [hp, List.map_append]; exact ho5, hH5, ?_⟩
    have s4 := hon4.size
    simp at s4
    exact Only.below (below_alloc' (Only.below (below_alloc' (below_alloc' (below_alloc' (Below.refl _ _) _) _) _) (by simp; omega) hon4 (fun k ⟨p, hp, hpk⟩ => by rw [List.mem_singleton.1 hp] at hpk; simp only at hpk; omega)) _) (by simp; omega) hon5 (fun k ⟨p, hp, hpk⟩ => by rw [List.mem_singleton.1 hp] at hpk; simp only at hpk; omega)
  · have HD := Lib.hid hd
    have hd2 : (r.verdict == 2) = false := by simpa using hd
    have ht : ([⟨1, 0, -1, 0, r.verdict, 0⟩, ⟨20, 0, -1, 0, 0, 0⟩] : List Ins) = r.tail := by simp only [Rule.tail, hd, if_false, List.nil_append]
    have HL : Hid (r.tail.length = 2) := by show _ = _; rw [← ht]; rfl
    have HT := Lib.hid ht
    clear hd ht
    go_enter Try.func110, Try.ntmps110
    go_wp2_with ((with_reducible refine gate_dst (N := 34) rfl ?_); refine wpList_append_row rfl _ _ 43 rfl w.heap.size 87 i0 _ 6 48 Try.underlying43 HI.out hz0 hs0 hb0 rfl (by decide) _ (([⟨17, 2, 6, r.at_, 0, 1⟩, ⟨r.op, 2, -1, 1, r.num, 0⟩, ⟨16, 0, -1, 2, 0, 0⟩] : List Ins).map Ins.cells) _ rfl (own_ins (w.heap.size + 1 + 1) _ _ [⟨17, 2, 6, r.at_, 0, 1⟩, ⟨r.op, 2, -1, 1, r.num, 0⟩, ⟨16, 0, -1, 2, 0, 0⟩] (by simp) rfl (by omega)) (holds_new (by simp)) _ (([⟨1, 0, -1, 0, r.verdict, 0⟩, ⟨20, 0, -1, 0, 0, 0⟩] : List Ins).map Ins.cells) _ rfl (own_ins (w.heap.size + 1) 0 _ [⟨1, 0, -1, 0, r.verdict, 0⟩, ⟨20, 0, -1, 0, 0, 0⟩] (by simp) rfl (by omega)).row ((holds_new (by simp)).alloc _) (oneCell_ins _) (by simp) (by decide) (by simp; omega) ?_; intro v5 w5 L5 ho5 hH5 hon5 hat5)
    go_ret
    have hp : r.prog = [⟨17, 2, 6, r.at_, 0, 1⟩, ⟨r.op, 2, -1, 1, r.num, 0⟩, ⟨16, 0, -1, 2, 0, 0⟩] ++ [⟨1, 0, -1, 0, r.verdict, 0⟩, ⟨20, 0, -1, 0, 0, 0⟩] := by
      rw [Rule.prog, HL.out, ← HT.out]
      rfl
    refine ⟨_, rfl, L5, by rw [hp, List.map_append]; exact ho5, hH5, ?_⟩
    exact Only.below (below_alloc' (below_alloc' (below_alloc' (Below.refl _ _) _) _) _) (by simp; omega) hon5 (fun k ⟨p, hp, hpk⟩ => by rw [List.mem_singleton.1 hp] at hpk; simp only at hpk; omega)
set_option maxRecDepth 100000 in
theorem moves_calls (a b : Int) (w : World) : Calls Try.prog 76 #[.int .i64 a, .int .i64 b] w fun e w' => e = .returned (.agg #[.int .i64 1, .int .i64 a, .int .i64 (-1), .int .i64 0, .int .i64 b, .int .i64 0]) ∧ Below w.heap.size w w' := by
  go_enter Try.func76, Try.ntmps76
  go_wp2
  exact bodyPost_ret (v := .agg #[.int .i64 1, .int .i64 a, .int .i64 (-1), .int .i64 0, .int .i64 b, .int .i64 0]) (by simp [results, Try.results76, go_sem]) rfl ⟨rfl, below_alloc' (Below.refl _ _) _⟩
end Go.Proofs.Ytdpdclfanlbkjaa
