/- The law of a table's put: what was put is there, and all else as it was. -/
import Derived.Test.YtdpdclfanlbkjaaLawTab3
import Derived.Test.YtdpdclfanlbkjaaDraws6
namespace Go.Proofs.Ytdpdclfanlbkjaa
open Go.RowKit
set_option maxRecDepth 100000 in
set_option maxHeartbeats 6400000 in
theorem lawTablePut (v : Value) (vs : List Int) (L : Blocks) (v' : Value) (vs' : List Int) (L' : Blocks) (w : World) (h : Row 1 v (vs.map byteCell) L) (H : Holds w L) (hs : ∀ v, v ∈ vs → 0 ≤ v ∧ v ≤ 255) (h' : Row 1 v' (vs'.map byteCell) L') (H' : Holds w L') (hs' : ∀ v, v ∈ vs' → 0 ≤ v ∧ v ≤ 255) :
    Calls Try.prog 10 #[v, v'] w fun e w' => e = .returned (.bool true) ∧ Below w.heap.size w w' := by
  obtain ⟨A, n, cc, rfl⟩ := h.slice
  obtain ⟨A', n', cc', rfl⟩ := h'.slice
  by_cases hbig : (1048576 : Int) < (n : Int)
  · go_enter Try.func10, Try.ntmps10
    go_wp2
    go_ret
    exact ⟨rfl, Below.refl _ _⟩
  by_cases hbig' : (1048576 : Int) < (n' : Int)
  · go_enter Try.func10, Try.ntmps10
    go_wp2
    go_ret
    exact ⟨rfl, Below.refl _ _⟩
  go_enter Try.func10, Try.ntmps10
  go_wp2_with fail
  refine (drawTablePut_calls _ vs L _ h H hs).mono ?_
  rintro e w1 ⟨u, k1, s1, x, val, rfl, hsk, hss, hvl, ⟨M1, M2, T5⟩, hb⟩
  obtain ⟨A1, n1, c1, rfl⟩ := T5.1.row.slice
  obtain ⟨A2, n2, c2, rfl⟩ := T5.2.1.row.slice
  have hB := hb
  clear hb
  have laws1 := fun t' hok h => Table.put_laws (t := u) (x := x) (v := val) (t' := t') hok h
  have laws2 := fun hok h => Table.put_else (t := u) (x := x) (v := val) hok h
  generalize hps : u.put x val = R at *
  have HP := Lib.hid hps
  obtain ⟨u', c⟩ := R
  clear hps
  have hbne : (c != c) = false := by simp
  have hbeq : (c == c) = true := by simp
  go_wp2_with ((with_reducible refine gate_store (p := 5) rfl ?_); go_loud (
         refine wpList_put rfl 50 _ _ rfl w1.heap.size 0 [.int .i64 u.kind, .int .i64 u.size, .int .i64 u.most, (.slice A1 n1 c1), (.slice A2 n2 c2)] rfl rfl (newbox w1 u (.slice A1 n1 c1) (.slice A2 n2 c2)).1 (by kernel_rfl) rfl ?_
         obtain ⟨_, b5, hb, s5⟩ := newbox w1 u (.slice A1 n1 c1) (.slice A2 n2 c2)
         have T5 := T5.below hb
         have hB := bnext hB hb
         generalize (w1.alloc zcells).setCells w1.heap.size 0 [.int .i64 u.kind, .int .i64 u.size, .int .i64 u.most, (.slice A1 n1 c1), (.slice A2 n2 c2)] = w2 at *
         clear hb
         obtain ⟨d0, d1, d2, d3, d4⟩ := tbox_cells b5.get))
  have hPut := tablePut_calls u _ _ M1 M2 x val w2 T5.1.row T5.2.2.1 T5.2.1.row T5.2.2.2.1 (by omega)
  rw [HP.out] at hPut
  refine (hPut).mono ?_
  rintro e w3 ⟨k8, s8, rfl, ⟨N1, N2, T8⟩, hb⟩
  obtain ⟨A3, n3, c3, rfl⟩ := T8.1.row.slice
  obtain ⟨A4, n4, c4, rfl⟩ := T8.2.1.row.slice
  have T5 := T5.below hb
  have b5 := b5.below hb
  have hB := bnext hB hb
  clear hPut d0 d1 d2 d3 d4
  clear hb
  go_wp2_with ((with_reducible refine gate_store (p := 8) rfl ?_); go_loud (
         refine wpList_put rfl 50 _ _ rfl w3.heap.size 0 [.int .i64 u'.kind, .int .i64 u'.size, .int .i64 u'.most, (.slice A3 n3 c3), (.slice A4 n4 c4)] rfl rfl (newbox w3 u' (.slice A3 n3 c3) (.slice A4 n4 c4)).1 (by kernel_rfl) rfl ?_
         obtain ⟨_, b8, hb, s8⟩ := newbox w3 u' (.slice A3 n3 c3) (.slice A4 n4 c4)
         have T5 := T5.below hb
         have b5 := b5.below hb
         have T8 := T8.below hb
         have hB := bnext hB hb
         generalize (w3.alloc zcells).setCells w3.heap.size 0 [.int .i64 u'.kind, .int .i64 u'.size, .int .i64 u'.most, (.slice A3 n3 c3), (.slice A4 n4 c4)] = w4 at *
         clear hb
         obtain ⟨d0, d1, d2, d3, d4⟩ := tbox_cells b5.get))
  have hPut := specTablePut_calls u _ _ M1 M2 x val w4 T5.1.row T5.2.2.1 T5.2.1.row T5.2.2.2.1
  rw [HP.out] at hPut
  refine (hPut).mono ?_
  rintro e w5 ⟨k10, s10, rfl, ⟨P1, P2, T10⟩, hb⟩
  obtain ⟨A5, n5, c5, rfl⟩ := T10.1.row.slice
  obtain ⟨A6, n6, c6, rfl⟩ := T10.2.1.row.slice
  have T5 := T5.below hb
  have b5 := b5.below hb
  have T8 := T8.below hb
  have b8 := b8.below hb
  have hB := bnext hB hb
  clear hPut d0 d1 d2 d3 d4
  clear hb
  go_wp2_with ((with_reducible refine gate_store (p := 10) rfl ?_); go_loud (
         refine wpList_put rfl 50 _ _ rfl w5.heap.size 0 [.int .i64 u'.kind, .int .i64 u'.size, .int .i64 u'.most, (.slice A5 n5 c5), (.slice A6 n6 c6)] rfl rfl (newbox w5 u' (.slice A5 n5 c5) (.slice A6 n6 c6)).1 (by kernel_rfl) rfl ?_
         obtain ⟨_, b10, hb, s10⟩ := newbox w5 u' (.slice A5 n5 c5) (.slice A6 n6 c6)
         have T5 := T5.below hb
         have b5 := b5.below hb
         have T8 := T8.below hb
         have b8 := b8.below hb
         have T10 := T10.below hb
         have hB := bnext hB hb
         generalize (w5.alloc zcells).setCells w5.heap.size 0 [.int .i64 u'.kind, .int .i64 u'.size, .int .i64 u'.most, (.slice A5 n5 c5), (.slice A6 n6 c6)] = w6 at *
         clear hb
))
  cases hok : u.ok with
  | false =>
    have HK := Lib.hid hok
    clear hok laws1 laws2
    have p0 := cell_regrown (tbox_cells b5.get).1
    have p1 := cell_regrown (tbox_cells b5.get).2.1
    have p2 := cell_regrown (tbox_cells b5.get).2.2.1
    have p3 := cell_regrown (tbox_cells b5.get).2.2.2.1
    have p4 := cell_regrown (tbox_cells b5.get).2.2.2.2
    have q0 := cell_regrown (tbox_cells b8.get).1
    have q1 := cell_regrown (tbox_cells b8.get).2.1
    have q2 := cell_regrown (tbox_cells b8.get).2.2.1
    have q3 := cell_regrown (tbox_cells b8.get).2.2.2.1
    have q4 := cell_regrown (tbox_cells b8.get).2.2.2.2
    have r0 := cell_regrown (tbox_cells b10.get).1
    have r1 := cell_regrown (tbox_cells b10.get).2.1
    have r2 := cell_regrown (tbox_cells b10.get).2.2.1
    have r3 := cell_regrown (tbox_cells b10.get).2.2.2.1
    have r4 := cell_regrown (tbox_cells b10.get).2.2.2.2
    refine wp_region_plan [] (.one 0 .pure (.one 1 .pure (.one 2 .pure (.one 3 .pure (.one 4 .load (.one 5 .load (.one 6 .act (.one 7 .pure (.one 8 .pure (.one 9 .pure (.one 10 .load (.one 12 .load (.one 11 .act (.one 13 .act (.one 14 .pure (.one 15 .pure (.one 16 .pure (.one 17 .load (.one 18 .act (.one 19 .pure (.one 20 .pure .done))))))))))))))))))))) (fun w' => ∃ p : Regrown, w' = Sort.grow (redrawn w6 p.d) p.os) (by kernel_rfl) (by kernel_rfl) (fun _ _ d _ _ h => by cases d <;> exact h) ?_
    simp only [Plan.pick, List.getElem?_cons_zero, List.getElem?_cons_succ]
    have hS : Below w6.heap.size w6 w6.drew := below_drewN' (Below.refl _ _) 1
    have hB : Below _ _ w6.drew := below_drewN' hB 1
    refine plan_pure (fun K hK => ?_); go_simp; refine hK _ _ ?_; clear hK K
    refine plan_pure (fun K hK => ?_); go_simp; refine hK _ _ ?_; clear hK K
    refine plan_pure (fun K hK => ?_); go_simp; refine hK _ _ ?_; clear hK K
    refine plan_pure (fun K hK => ?_); go_simp; refine hK _ _ ?_; clear hK K
    refine plan_load (fun K hK => ?_); go_simp; refine ⟨regrown_of_below hS, hK _ _ ?_⟩; clear hK K
    refine plan_load (fun K hK => ?_); go_simp; refine ⟨regrown_of_below hS, hK _ _ ?_⟩; clear hK K
    refine plan_act ?_
    have X5 := T5.below hS
    have X8 := T8.below hS
    have X10 := T10.below hS
    have cX := sgTable_calls u' u' (.slice A3 n3 c3) (.slice A4 n4 c4) (.slice A5 n5 c5) (.slice A6 n6 c6) _ _ _ _ _ X8.1.row X8.2.2.1 X8.2.1.row X8.2.2.2.1 X10.1.row X10.2.2.1 X10.2.1.row X10.2.2.2.1
    rw [decide_eq_true (rfl : u' = u')] at cX
    go_wp2_with fail
    refine cX.mono ?_
    rintro e w7 ⟨rfl, hb⟩
    have hS := bnext hS hb
    have hB := bnext hB hb
    clear hb cX X5 X8 X10
    go_wp2
    refine ⟨regrown_of_below hS, ?_⟩
    refine plan_pure (fun K hK => ?_); go_simp; refine hK _ _ ?_; clear hK K
    refine plan_pure (fun K hK => ?_); go_simp; refine hK _ _ ?_; clear hK K
    refine plan_pure (fun K hK => ?_); go_simp; refine hK _ _ ?_; clear hK K
    refine plan_load (fun K hK => ?_); go_simp; refine ⟨regrown_of_below hS, hK _ _ ?_⟩; clear hK K
    refine plan_load (fun K hK => ?_); go_simp; refine ⟨regrown_of_below hS, hK _ _ ?_⟩; clear hK K
    refine plan_act ?_
    have X5 := T5.below hS
    have X8 := T8.below hS
    have X10 := T10.below hS
    have cX := tableOk_calls u (.slice A1 n1 c1) (.slice A2 n2 c2) _ _ _ X5.1.row X5.2.2.1 X5.2.1.row X5.2.2.2.1
    rw [HK.out] at cX
    go_wp2_with fail
    refine cX.mono ?_
    rintro e w8 ⟨rfl, hb⟩
    have hS := bnext hS hb
    have hB := bnext hB hb
    clear hb cX X5 X8 X10
    go_wp2
    refine ⟨regrown_of_below hS, ?_⟩
    refine plan_act ?_
    have X5 := T5.below hS
    have X8 := T8.below hS
    have X10 := T10.below hS
    have cX := specTableOk_calls u (.slice A1 n1 c1) (.slice A2 n2 c2) _ _ _ X5.1.row X5.2.2.1 X5.2.1.row X5.2.2.2.1
    rw [HK.out] at cX
    go_wp2_with fail
    refine cX.mono ?_
    rintro e w9 ⟨rfl, hb⟩
    have hS := bnext hS hb
    have hB := bnext hB hb
    clear hb cX X5 X8 X10
    go_wp2
    refine ⟨regrown_of_below hS, ?_⟩
    refine plan_pure (fun K hK => ?_); go_simp; refine hK _ _ ?_; clear hK K
    refine plan_pure (fun K hK => ?_); go_simp; refine hK _ _ ?_; clear hK K
    refine plan_pure (fun K hK => ?_); go_simp; refine hK _ _ ?_; clear hK K
    refine plan_load (fun K hK => ?_); go_simp; refine ⟨regrown_of_below hS, hK _ _ ?_⟩; clear hK K
    refine plan_act ?_
    have X5 := T5.below hS
    have X8 := T8.below hS
    have X10 := T10.below hS
    have cX := tableOk_calls u (.slice A1 n1 c1) (.slice A2 n2 c2) _ _ _ X5.1.row X5.2.2.1 X5.2.1.row X5.2.2.2.1
    rw [HK.out] at cX
    go_wp2_with fail
    refine cX.mono ?_
    rintro e w10 ⟨rfl, hb⟩
    have hS := bnext hS hb
    have hB := bnext hB hb
    clear hb cX X5 X8 X10
    go_wp2
    refine ⟨regrown_of_below hS, ?_⟩
    refine plan_pure (fun K hK => ?_); go_simp; refine hK _ _ ?_; clear hK K
    refine plan_pure (fun K hK => ?_); go_simp; refine hK _ _ ?_; clear hK K
    refine plan_done ?_
    clear p0 p1 p2 p3 p4 q0 q1 q2 q3 q4 r0 r1 r2 r3 r4
    have T5 := T5.below hS
    have T8 := T8.below hS
    have T10 := T10.below hS
    have b5 := b5.below hS
    have b8 := b8.below hS
    have b10 := b10.below hS
    clear hS
    go_wp2
    have p0 := cell_regrown (tbox_cells b5.get).1
    have p1 := cell_regrown (tbox_cells b5.get).2.1
    have p2 := cell_regrown (tbox_cells b5.get).2.2.1
    have p3 := cell_regrown (tbox_cells b5.get).2.2.2.1
    have p4 := cell_regrown (tbox_cells b5.get).2.2.2.2
    have q0 := cell_regrown (tbox_cells b8.get).1
    have q1 := cell_regrown (tbox_cells b8.get).2.1
    have q2 := cell_regrown (tbox_cells b8.get).2.2.1
    have q3 := cell_regrown (tbox_cells b8.get).2.2.2.1
    have q4 := cell_regrown (tbox_cells b8.get).2.2.2.2
    have r0 := cell_regrown (tbox_cells b10.get).1
    have r1 := cell_regrown (tbox_cells b10.get).2.1
    have r2 := cell_regrown (tbox_cells b10.get).2.2.1
    have r3 := cell_regrown (tbox_cells b10.get).2.2.2.1
    have r4 := cell_regrown (tbox_cells b10.get).2.2.2.2
    refine wp_region_plan [] (.one 0 .pure (.one 1 .pure (.one 2 .pure (.one 3 .pure (.one 4 .load (.one 5 .load (.one 6 .act (.one 7 .pure (.one 8 .pure (.one 9 .load (.one 11 .load (.one 10 .act (.one 12 .act (.one 13 .pure (.one 14 .pure (.one 15 .pure .done)))))))))))))))) (fun w' => ∃ p : Regrown, w' = Sort.grow (redrawn w10 p.d) p.os) (by kernel_rfl) (by kernel_rfl) (fun _ _ d _ _ h => by cases d <;> exact h) ?_
    simp only [Plan.pick, List.getElem?_cons_zero, List.getElem?_cons_succ]
    have hS : Below w10.heap.size w10 w10.drew := below_drewN' (Below.refl _ _) 1
    have hB : Below _ _ w10.drew := below_drewN' hB 1
    refine plan_pure (fun K hK => ?_); go_simp; refine hK _ _ ?_; clear hK K
    refine plan_pure (fun K hK => ?_); go_simp; refine hK _ _ ?_; clear hK K
    refine plan_pure (fun K hK => ?_); go_simp; refine hK _ _ ?_; clear hK K
    refine plan_pure (fun K hK => ?_); go_simp; refine hK _ _ ?_; clear hK K
    refine plan_load (fun K hK => ?_); go_simp; refine ⟨regrown_of_below hS, hK _ _ ?_⟩; clear hK K
    refine plan_load (fun K hK => ?_); go_simp; refine ⟨regrown_of_below hS, hK _ _ ?_⟩; clear hK K
    refine plan_act ?_
    have X5 := T5.below hS
    have X8 := T8.below hS
    have X10 := T10.below hS
    have cX := sgTable_calls u' u' (.slice A3 n3 c3) (.slice A4 n4 c4) (.slice A5 n5 c5) (.slice A6 n6 c6) _ _ _ _ _ X8.1.row X8.2.2.1 X8.2.1.row X8.2.2.2.1 X10.1.row X10.2.2.1 X10.2.1.row X10.2.2.2.1
    rw [decide_eq_true (rfl : u' = u')] at cX
    go_wp2_with fail
    refine cX.mono ?_
    rintro e w11 ⟨rfl, hb⟩
    have hS := bnext hS hb
    have hB := bnext hB hb
    clear hb cX X5 X8 X10
    go_wp2
    refine ⟨regrown_of_below hS, ?_⟩
    refine plan_pure (fun K hK => ?_); go_simp; refine hK _ _ ?_; clear hK K
    refine plan_pure (fun K hK => ?_); go_simp; refine hK _ _ ?_; clear hK K
    refine plan_load (fun K hK => ?_); go_simp; refine ⟨regrown_of_below hS, hK _ _ ?_⟩; clear hK K
    refine plan_load (fun K hK => ?_); go_simp; refine ⟨regrown_of_below hS, hK _ _ ?_⟩; clear hK K
    refine plan_act ?_
    have X5 := T5.below hS
    have X8 := T8.below hS
    have X10 := T10.below hS
    have cX := tableOk_calls u (.slice A1 n1 c1) (.slice A2 n2 c2) _ _ _ X5.1.row X5.2.2.1 X5.2.1.row X5.2.2.2.1
    rw [HK.out] at cX
    go_wp2_with fail
    refine cX.mono ?_
    rintro e w12 ⟨rfl, hb⟩
    have hS := bnext hS hb
    have hB := bnext hB hb
    clear hb cX X5 X8 X10
    go_wp2
    refine ⟨regrown_of_below hS, ?_⟩
    refine plan_act ?_
    have X5 := T5.below hS
    have X8 := T8.below hS
    have X10 := T10.below hS
    have cX := specTableOk_calls u (.slice A1 n1 c1) (.slice A2 n2 c2) _ _ _ X5.1.row X5.2.2.1 X5.2.1.row X5.2.2.2.1
    rw [HK.out] at cX
    go_wp2_with fail
    refine cX.mono ?_
    rintro e w13 ⟨rfl, hb⟩
    have hS := bnext hS hb
    have hB := bnext hB hb
    clear hb cX X5 X8 X10
    go_wp2
    refine ⟨regrown_of_below hS, ?_⟩
    refine plan_pure (fun K hK => ?_); go_simp; refine hK _ _ ?_; clear hK K
    refine plan_pure (fun K hK => ?_); go_simp; refine hK _ _ ?_; clear hK K
    refine plan_pure (fun K hK => ?_); go_simp; refine hK _ _ ?_; clear hK K
    refine plan_done ?_
    clear p0 p1 p2 p3 p4 q0 q1 q2 q3 q4 r0 r1 r2 r3 r4
    go_wp2
    go_ret
    exact ⟨rfl, hB⟩
  | true =>
    have HK := Lib.hid hok
    have L1 := fun h => laws1 u' hok h
    have L2 := fun h => laws2 hok h
    clear laws1 laws2 hok
    have p0 := cell_regrown (tbox_cells b5.get).1
    have p1 := cell_regrown (tbox_cells b5.get).2.1
    have p2 := cell_regrown (tbox_cells b5.get).2.2.1
    have p3 := cell_regrown (tbox_cells b5.get).2.2.2.1
    have p4 := cell_regrown (tbox_cells b5.get).2.2.2.2
    have q0 := cell_regrown (tbox_cells b8.get).1
    have q1 := cell_regrown (tbox_cells b8.get).2.1
    have q2 := cell_regrown (tbox_cells b8.get).2.2.1
    have q3 := cell_regrown (tbox_cells b8.get).2.2.2.1
    have q4 := cell_regrown (tbox_cells b8.get).2.2.2.2
    have r0 := cell_regrown (tbox_cells b10.get).1
    have r1 := cell_regrown (tbox_cells b10.get).2.1
    have r2 := cell_regrown (tbox_cells b10.get).2.2.1
    have r3 := cell_regrown (tbox_cells b10.get).2.2.2.1
    have r4 := cell_regrown (tbox_cells b10.get).2.2.2.2
    refine wp_region_plan [] (.one 0 .pure (.one 1 .pure (.one 2 .pure (.one 3 .pure (.one 4 .load (.one 5 .load (.one 6 .act (.one 7 .pure (.one 8 .pure (.one 9 .pure (.one 10 .load (.one 12 .load (.one 11 .act (.one 13 .act (.one 14 .pure (.one 15 .pure (.one 16 .pure (.one 17 .load (.one 18 .act (.one 19 .pure (.one 20 .pure .done))))))))))))))))))))) (fun w' => ∃ p : Regrown, w' = Sort.grow (redrawn w6 p.d) p.os) (by kernel_rfl) (by kernel_rfl) (fun _ _ d _ _ h => by cases d <;> exact h) ?_
    simp only [Plan.pick, List.getElem?_cons_zero, List.getElem?_cons_succ]
    have hS : Below w6.heap.size w6 w6.drew := below_drewN' (Below.refl _ _) 1
    have hB : Below _ _ w6.drew := below_drewN' hB 1
    refine plan_pure (fun K hK => ?_); go_simp; refine hK _ _ ?_; clear hK K
    refine plan_pure (fun K hK => ?_); go_simp; refine hK _ _ ?_; clear hK K
    refine plan_pure (fun K hK => ?_); go_simp; refine hK _ _ ?_; clear hK K
    refine plan_pure (fun K hK => ?_); go_simp; refine hK _ _ ?_; clear hK K
    refine plan_load (fun K hK => ?_); go_simp; refine ⟨regrown_of_below hS, hK _ _ ?_⟩; clear hK K
    refine plan_load (fun K hK => ?_); go_simp; refine ⟨regrown_of_below hS, hK _ _ ?_⟩; clear hK K
    refine plan_act ?_
    have X5 := T5.below hS
    have X8 := T8.below hS
    have X10 := T10.below hS
    have cX := sgTable_calls u' u' (.slice A3 n3 c3) (.slice A4 n4 c4) (.slice A5 n5 c5) (.slice A6 n6 c6) _ _ _ _ _ X8.1.row X8.2.2.1 X8.2.1.row X8.2.2.2.1 X10.1.row X10.2.2.1 X10.2.1.row X10.2.2.2.1
    rw [decide_eq_true (rfl : u' = u')] at cX
    go_wp2_with fail
    refine cX.mono ?_
    rintro e w7 ⟨rfl, hb⟩
    have hS := bnext hS hb
    have hB := bnext hB hb
    clear hb cX X5 X8 X10
    go_wp2
    refine ⟨regrown_of_below hS, ?_⟩
    refine plan_pure (fun K hK => ?_); go_simp; refine hK _ _ ?_; clear hK K
    refine plan_pure (fun K hK => ?_); go_simp; refine hK _ _ ?_; clear hK K
    refine plan_pure (fun K hK => ?_); go_simp; refine hK _ _ ?_; clear hK K
    refine plan_load (fun K hK => ?_); go_simp; refine ⟨regrown_of_below hS, hK _ _ ?_⟩; clear hK K
    refine plan_load (fun K hK => ?_); go_simp; refine ⟨regrown_of_below hS, hK _ _ ?_⟩; clear hK K
    refine plan_act ?_
    have X5 := T5.below hS
    have X8 := T8.below hS
    have X10 := T10.below hS
    have cX := tableOk_calls u (.slice A1 n1 c1) (.slice A2 n2 c2) _ _ _ X5.1.row X5.2.2.1 X5.2.1.row X5.2.2.2.1
    rw [HK.out] at cX
    go_wp2_with fail
    refine cX.mono ?_
    rintro e w8 ⟨rfl, hb⟩
    have hS := bnext hS hb
    have hB := bnext hB hb
    clear hb cX X5 X8 X10
    go_wp2
    refine ⟨regrown_of_below hS, ?_⟩
    refine plan_act ?_
    have X5 := T5.below hS
    have X8 := T8.below hS
    have X10 := T10.below hS
    have cX := specTableOk_calls u (.slice A1 n1 c1) (.slice A2 n2 c2) _ _ _ X5.1.row X5.2.2.1 X5.2.1.row X5.2.2.2.1
    rw [HK.out] at cX
    go_wp2_with fail
    refine cX.mono ?_
    rintro e w9 ⟨rfl, hb⟩
    have hS := bnext hS hb
    have hB := bnext hB hb
    clear hb cX X5 X8 X10
    go_wp2
    refine ⟨regrown_of_below hS, ?_⟩
    refine plan_pure (fun K hK => ?_); go_simp; refine hK _ _ ?_; clear hK K
    refine plan_pure (fun K hK => ?_); go_simp; refine hK _ _ ?_; clear hK K
    refine plan_pure (fun K hK => ?_); go_simp; refine hK _ _ ?_; clear hK K
    refine plan_load (fun K hK => ?_); go_simp; refine ⟨regrown_of_below hS, hK _ _ ?_⟩; clear hK K
    refine plan_act ?_
    have X5 := T5.below hS
    have X8 := T8.below hS
    have X10 := T10.below hS
    have cX := tableOk_calls u (.slice A1 n1 c1) (.slice A2 n2 c2) _ _ _ X5.1.row X5.2.2.1 X5.2.1.row X5.2.2.2.1
    rw [HK.out] at cX
    go_wp2_with fail
    refine cX.mono ?_
    rintro e w10 ⟨rfl, hb⟩
    have hS := bnext hS hb
    have hB := bnext hB hb
    clear hb cX X5 X8 X10
    go_wp2
    refine ⟨regrown_of_below hS, ?_⟩
    refine plan_pure (fun K hK => ?_); go_simp; refine hK _ _ ?_; clear hK K
    refine plan_pure (fun K hK => ?_); go_simp; refine hK _ _ ?_; clear hK K
    refine plan_done ?_
    clear p0 p1 p2 p3 p4 q0 q1 q2 q3 q4 r0 r1 r2 r3 r4
    have T5 := T5.below hS
    have T8 := T8.below hS
    have T10 := T10.below hS
    have b5 := b5.below hS
    have b8 := b8.below hS
    have b10 := b10.below hS
    clear hS
    by_cases hc : c = 0
    · have hcb : (c != 0) = false := by simp [hc]
      obtain ⟨l1, l2, l3⟩ := L1 (by rw [hc])
      have HL1 := Lib.hid l1
      have HL3 := Lib.hid l3
      have HL2 := Lib.hid l2
      clear hc L1 L2 l1 l2 l3
      obtain ⟨d0, d1, d2, d3, d4⟩ := tbox_cells b8.get
      go_wp2_with fail
      have cX := tableLook_calls u' _ _ N1 N2 x w10 T8.1.row T8.2.2.1 T8.2.1.row T8.2.2.2.1
      rw [HL2.out] at cX
      refine cX.mono ?_
      rintro e w11 ⟨rfl, hb⟩
      have T5 := T5.below hb
      have T8 := T8.below hb
      have b5 := b5.below hb
      have b8 := b8.below hb
      have hB := bnext hB hb
      clear hb cX d0 d1 d2 d3 d4
      go_wp2_with fail
      refine (drawTableLook_calls _ vs' L' _ h' (H'.below hB) hs').mono ?_
      rintro e w12 ⟨t14, k14, s14, y, rfl, _, _, ⟨Y1, Y2, T14⟩, hb⟩
      obtain ⟨A7, n7, c7, rfl⟩ := T14.1.row.slice
      obtain ⟨A8, n8, c8, rfl⟩ := T14.2.1.row.slice
      have T5 := T5.below hb
      have T8 := T8.below hb
      have b5 := b5.below hb
      have b8 := b8.below hb
      have hB := bnext hB hb
      clear hb
      go_wp2_with ((with_reducible refine gate_store (p := 14) rfl ?_); go_loud (
         refine wpList_put rfl 50 _ _ rfl w12.heap.size 0 [.int .i64 t14.kind, .int .i64 t14.size, .int .i64 t14.most, (.slice A7 n7 c7), (.slice A8 n8 c8)] rfl rfl (newbox w12 t14 (.slice A7 n7 c7) (.slice A8 n8 c8)).1 (by kernel_rfl) rfl ?_
         obtain ⟨_, b14, hb, s14⟩ := newbox w12 t14 (.slice A7 n7 c7) (.slice A8 n8 c8)
         have T5 := T5.below hb
         have b5 := b5.below hb
         have T8 := T8.below hb
         have b8 := b8.below hb
         have hB := bnext hB hb
         generalize (w12.alloc zcells).setCells w12.heap.size 0 [.int .i64 t14.kind, .int .i64 t14.size, .int .i64 t14.most, (.slice A7 n7 c7), (.slice A8 n8 c8)] = w13 at *
         clear hb
         obtain ⟨d0, d1, d2, d3, d4⟩ := tbox_cells b5.get))
      refine (tableLook_calls u _ _ M1 M2 y w13 T5.1.row T5.2.2.1 T5.2.1.row T5.2.2.2.1).mono ?_
      rintro e w14 ⟨rfl, hb⟩
      have T8 := T8.below hb
      have b8 := b8.below hb
      have hB := bnext hB hb
      clear hb d0 d1 d2 d3 d4
      obtain ⟨d0, d1, d2, d3, d4⟩ := tbox_cells b8.get
      go_wp2_with fail
      refine (tableLook_calls u' _ _ N1 N2 y w14 T8.1.row T8.2.2.1 T8.2.1.row T8.2.2.2.1).mono ?_
      rintro e w15 ⟨rfl, hb⟩
      have T8 := T8.below hb
      have b8 := b8.below hb
      have hB := bnext hB hb
      clear hb d0 d1 d2 d3 d4
      obtain ⟨d0, d1, d2, d3, d4⟩ := tbox_cells b8.get
      have hll : y ≠ x → u'.look y = u.look y := fun h => HL3.out y h
      by_cases hyx : y = x
      · have hyb : (y == x) = true := by simp [hyx]
        clear hll hyx
        go_wp2_with fail
        have cX := tableOk_calls u' _ _ N1 N2 w15 T8.1.row T8.2.2.1 T8.2.1.row T8.2.2.2.1
        rw [HL1.out] at cX
        refine cX.mono ?_
        rintro e w16 ⟨rfl, hb⟩
        clear cX
        go_wp2
        go_ret
        exact ⟨rfl, bnext hB hb⟩
      · have hyb : (y == x) = false := by simp [hyx]
        rw [hll hyx]
        clear hll hyx
        generalize u.look y = lk at *
        obtain ⟨lk1, lk2⟩ := lk
        go_wp2_with fail
        have cX := tableOk_calls u' _ _ N1 N2 w15 T8.1.row T8.2.2.1 T8.2.1.row T8.2.2.2.1
        rw [HL1.out] at cX
        refine cX.mono ?_
        rintro e w16 ⟨rfl, hb⟩
        clear cX
        go_wp2
        go_ret
        exact ⟨rfl, bnext hB hb⟩
    · have hcb : (c != 0) = true := by simp [hc]
      have hu := L2 hc
      have HU : Hid (u' = u) := hu
      clear L1 L2 hu
      obtain ⟨d0, d1, d2, d3, d4⟩ := tbox_cells b8.get
      obtain ⟨e0, e1, e2, e3, e4⟩ := tbox_cells b5.get
      go_wp2_with fail
      have cX := sgTable_calls u' u (.slice A3 n3 c3) (.slice A4 n4 c4) (.slice A1 n1 c1) (.slice A2 n2 c2) _ _ _ _ _ T8.1.row T8.2.2.1 T8.2.1.row T8.2.2.2.1 T5.1.row T5.2.2.1 T5.2.1.row T5.2.2.2.1
      rw [decide_eq_true HU.out] at cX
      refine cX.mono ?_
      rintro e w11 ⟨rfl, hb⟩
      have hB := bnext hB hb
      go_wp2
      go_ret
      exact ⟨rfl, hB⟩
end Go.Proofs.Ytdpdclfanlbkjaa
