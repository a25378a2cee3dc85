/- The law of a new table: it is ok; a row has all its places, what goes by keys has none. -/
import Derived.Test.YtdpdclfanlbkjaaLawTab3
import Derived.Test.YtdpdclfanlbkjaaDraws2
namespace Go.Proofs.Ytdpdclfanlbkjaa
open Go.RowKit
set_option maxRecDepth 100000 in
set_option maxHeartbeats 3200000 in
theorem lawTableNew (v : Value) (vs : List Int) (L : Blocks) (w : World) (h : Row 1 v (vs.map byteCell) L) (H : Holds w L) (hs : ∀ v, v ∈ vs → 0 ≤ v ∧ v ≤ 255) :
    Calls Try.prog 11 #[v] w fun e w' => e = .returned (.bool true) ∧ Below w.heap.size w w' := by
  obtain ⟨A, n, cc, rfl⟩ := h.slice
  by_cases hbig : 1048576 < n
  · go_enter Try.func11, Try.ntmps11
    go_wp2
    go_ret
    exact ⟨rfl, Below.refl _ _⟩
  go_enter Try.func11, Try.ntmps11
  go_wp2_with fail
  refine (drawTableNew_calls _ vs L _ h H hs).mono ?_
  rintro e w1 ⟨⟨a, b, c, rfl, hc9⟩, hb⟩
  have hB := hb
  clear hb
  obtain ⟨hul1, hul2⟩ := Table.new_lens a b c
  generalize hu : Table.new a b c = u at *
  have HU := Lib.hid hu
  go_wp2_with fail
  have cN := tableNew_calls a b c w1
  rw [hu] at cN
  refine (cN).mono ?_
  rintro e w2 ⟨k2, s2, rfl, ⟨M1, M2, T6⟩, hb⟩
  obtain ⟨A1, n1, c1, rfl⟩ := T6.1.row.slice
  obtain ⟨A2, n2, c2, rfl⟩ := T6.2.1.row.slice
  have hB := bnext hB hb
  clear cN
  clear hb
  cases hsh : (⟨a, b, c, [], []⟩ : Table).shape with
  | false =>
    have hz : u.kind = 0 := by rw [← hu]; exact Table.new_kind.2 hsh
    have hkb : (u.kind == 0) = true := by simp [hz]
    clear hu hz
    go_wp2_with ((with_reducible refine gate_store (p := 6) rfl ?_); go_loud (
         refine wpList_put rfl 50 _ _ rfl w2.heap.size 0 [.int .i64 u.kind, .int .i64 u.size, .int .i64 u.most, (.slice A1 n1 c1), (.slice A2 n2 c2)] rfl rfl (newbox w2 u (.slice A1 n1 c1) (.slice A2 n2 c2)).1 (by kernel_rfl) rfl ?_
         obtain ⟨_, b6, hb, s6⟩ := newbox w2 u (.slice A1 n1 c1) (.slice A2 n2 c2)
         have T6 := T6.below hb
         have hB := bnext hB hb
         generalize (w2.alloc zcells).setCells w2.heap.size 0 [.int .i64 u.kind, .int .i64 u.size, .int .i64 u.most, (.slice A1 n1 c1), (.slice A2 n2 c2)] = w3 at *
         clear hb
))
    have q0 := cell_regrown (tbox_cells b6.get).1
    have q1 := cell_regrown (tbox_cells b6.get).2.1
    have q2 := cell_regrown (tbox_cells b6.get).2.2.1
    have q3 := cell_regrown (tbox_cells b6.get).2.2.2.1
    have q4 := cell_regrown (tbox_cells b6.get).2.2.2.2
    refine wp_region_plan [] (.one 1 .pure (.one 2 .pure (.one 3 .pure (.one 0 .load (.one 4 .act (.one 5 .act (.one 6 .pure (.one 7 .pure (.one 8 .pure (.one 9 .load (.one 10 .pure (.one 11 .pure .done)))))))))))) (fun w' => ∃ p : Regrown, w' = Sort.grow (redrawn w3 p.d) p.os) (by kernel_rfl) (by kernel_rfl) (fun _ _ d _ _ h => by cases d <;> exact h) ?_
    simp only [Plan.pick, List.getElem?_cons_zero, List.getElem?_cons_succ]
    have hS : Below w3.heap.size w3 w3.drew := below_drewN' (Below.refl _ _) 1
    have hB : Below _ _ w3.drew := below_drewN' hB 1
    refine plan_pure (fun K hK => ?_); go_simp; refine hK _ _ ?_; clear hK K
    refine plan_pure (fun K hK => ?_); go_simp; refine hK _ _ ?_; clear hK K
    refine plan_pure (fun K hK => ?_); go_simp; refine hK _ _ ?_; clear hK K
    refine plan_load (fun K hK => ?_); go_simp; refine ⟨regrown_of_below hS, hK _ _ ?_⟩; clear hK K
    refine plan_act ?_
    go_wp2_with fail
    have cS := specTableNew_calls a b c w3.drew
    rw [HU.out] at cS
    refine cS.mono ?_
    rintro e w4a ⟨k5, s5, rfl, ⟨P1, P2, T5⟩, hb⟩
    have hS := bnext hS hb
    have hB := bnext hB hb
    clear hb cS
    go_wp2
    refine ⟨regrown_of_below hS, ?_⟩
    refine plan_act ?_
    have T6x := T6.below hS
    have hEq := sgTable_calls u u (.slice A1 n1 c1) (.slice A2 n2 c2) _ _ _ _ _ _ w4a T6x.1.row T6x.2.2.1 T6x.2.1.row T6x.2.2.2.1 T5.1.row T5.2.2.1 T5.2.1.row T5.2.2.2.1
    rw [decide_eq_true (rfl : u = u)] at hEq
    go_wp2_with fail
    refine hEq.mono ?_
    rintro e w4 ⟨rfl, hb⟩
    have hS := bnext hS hb
    have hB := bnext hB hb
    clear hb hEq T6x T5
    go_wp2
    refine ⟨regrown_of_below hS, ?_⟩
    refine plan_pure (fun K hK => ?_); go_simp; refine hK _ _ ?_; clear hK K
    refine plan_pure (fun K hK => ?_); go_simp; refine hK _ _ ?_; clear hK K
    refine plan_pure (fun K hK => ?_); go_simp; refine hK _ _ ?_; clear hK K
    refine plan_load (fun K hK => ?_); go_simp; refine ⟨regrown_of_below hS, hK _ _ ?_⟩; clear hK K
    refine plan_pure (fun K hK => ?_); go_simp; refine hK _ _ ?_; clear hK K
    refine plan_pure (fun K hK => ?_); go_simp; refine hK _ _ ?_; clear hK K
    refine plan_done ?_
    clear q0 q1 q2 q3 q4
    have T6 := T6.below hS
    have b6 := b6.below hS
    clear hS
    go_wp2
    have q0 := cell_regrown (tbox_cells b6.get).1
    have q1 := cell_regrown (tbox_cells b6.get).2.1
    have q2 := cell_regrown (tbox_cells b6.get).2.2.1
    have q3 := cell_regrown (tbox_cells b6.get).2.2.2.1
    have q4 := cell_regrown (tbox_cells b6.get).2.2.2.2
    refine wp_region_plan [] (.one 1 .pure (.one 2 .pure (.one 3 .pure (.one 0 .load (.one 4 .act (.one 5 .act (.one 6 .pure .done))))))) (fun w' => ∃ p : Regrown, w' = Sort.grow (redrawn w4 p.d) p.os) (by kernel_rfl) (by kernel_rfl) (fun _ _ d _ _ h => by cases d <;> exact h) ?_
    simp only [Plan.pick, List.getElem?_cons_zero, List.getElem?_cons_succ]
    have hS : Below w4.heap.size w4 w4.drew := below_drewN' (Below.refl _ _) 1
    have hB : Below _ _ w4.drew := below_drewN' hB 1
    refine plan_pure (fun K hK => ?_); go_simp; refine hK _ _ ?_; clear hK K
    refine plan_pure (fun K hK => ?_); go_simp; refine hK _ _ ?_; clear hK K
    refine plan_pure (fun K hK => ?_); go_simp; refine hK _ _ ?_; clear hK K
    refine plan_load (fun K hK => ?_); go_simp; refine ⟨regrown_of_below hS, hK _ _ ?_⟩; clear hK K
    refine plan_act ?_
    go_wp2_with fail
    have cS := specTableNew_calls a b c w4.drew
    rw [HU.out] at cS
    refine cS.mono ?_
    rintro e w5a ⟨k5, s5, rfl, ⟨P1, P2, T5⟩, hb⟩
    have hS := bnext hS hb
    have hB := bnext hB hb
    clear hb cS
    go_wp2
    refine ⟨regrown_of_below hS, ?_⟩
    refine plan_act ?_
    have T6x := T6.below hS
    have hEq := sgTable_calls u u (.slice A1 n1 c1) (.slice A2 n2 c2) _ _ _ _ _ _ w5a T6x.1.row T6x.2.2.1 T6x.2.1.row T6x.2.2.2.1 T5.1.row T5.2.2.1 T5.2.1.row T5.2.2.2.1
    rw [decide_eq_true (rfl : u = u)] at hEq
    go_wp2_with fail
    refine hEq.mono ?_
    rintro e w5 ⟨rfl, hb⟩
    have hS := bnext hS hb
    have hB := bnext hB hb
    clear hb hEq T6x T5
    go_wp2
    refine ⟨regrown_of_below hS, ?_⟩
    refine plan_pure (fun K hK => ?_); go_simp; refine hK _ _ ?_; clear hK K
    refine plan_done ?_
    clear q0 q1 q2 q3 q4
    have T6 := T6.below hS
    have b6 := b6.below hS
    clear hS
    go_wp2
    go_ret
    exact ⟨rfl, hB⟩
  | true =>
    obtain ⟨e1, e2, e3⟩ := Table.new_shape hsh
    have hb := hsh
    simp only [Table.shape, inB, Bool.and_eq_true, decide_eq_true_eq] at hb
    obtain ⟨⟨⟨hk1, hk2⟩, hs1, hs2⟩, hm1, hm2⟩ := hb
    have hok : u.ok = true := by rw [← hu]; exact Table.ok_iff.2 (Table.new_good hsh)
    have hlook : ∀ i : Nat, (i : Int) < c → u.look (i : Int) = if a = 1 then (nought b.toNat, true) else (⟨#[]⟩, false) := fun i hi => by rw [← hu]; exact Table.new_look hsh hi
    rw [hu] at e1 e2 e3
    have hkb : (u.kind == 0) = false := by rw [e1]; simp; omega
    have hsb : (u.size == b) = true := by simp [e2]
    have hmb : (u.most == c) = true := by simp [e3]
    have HK := Lib.hid hok
    have HL := Lib.hid hlook
    have HE := Lib.hid e1
    clear hu e1 e2 e3 hok hlook
    go_wp2_with ((with_reducible refine gate_store (p := 6) rfl ?_); go_loud (
         refine wpList_put rfl 50 _ _ rfl w2.heap.size 0 [.int .i64 u.kind, .int .i64 u.size, .int .i64 u.most, (.slice A1 n1 c1), (.slice A2 n2 c2)] rfl rfl (newbox w2 u (.slice A1 n1 c1) (.slice A2 n2 c2)).1 (by kernel_rfl) rfl ?_
         obtain ⟨_, b6, hb, s6⟩ := newbox w2 u (.slice A1 n1 c1) (.slice A2 n2 c2)
         have T6 := T6.below hb
         have hB := bnext hB hb
         generalize (w2.alloc zcells).setCells w2.heap.size 0 [.int .i64 u.kind, .int .i64 u.size, .int .i64 u.most, (.slice A1 n1 c1), (.slice A2 n2 c2)] = w3 at *
         clear hb
))
    have q0 := cell_regrown (tbox_cells b6.get).1
    have q1 := cell_regrown (tbox_cells b6.get).2.1
    have q2 := cell_regrown (tbox_cells b6.get).2.2.1
    have q3 := cell_regrown (tbox_cells b6.get).2.2.2.1
    have q4 := cell_regrown (tbox_cells b6.get).2.2.2.2
    refine wp_region_plan [] (.one 1 .pure (.one 2 .pure (.one 3 .pure (.one 0 .load (.one 4 .act (.one 5 .act (.one 6 .pure (.one 7 .pure (.one 8 .pure (.one 9 .load (.one 10 .pure (.one 11 .pure .done)))))))))))) (fun w' => ∃ p : Regrown, w' = Sort.grow (redrawn w3 p.d) p.os) (by kernel_rfl) (by kernel_rfl) (fun _ _ d _ _ h => by cases d <;> exact h) ?_
    simp only [Plan.pick, List.getElem?_cons_zero, List.getElem?_cons_succ]
    have hS : Below w3.heap.size w3 w3.drew := below_drewN' (Below.refl _ _) 1
    have hB : Below _ _ w3.drew := below_drewN' hB 1
    refine plan_pure (fun K hK => ?_); go_simp; refine hK _ _ ?_; clear hK K
    refine plan_pure (fun K hK => ?_); go_simp; refine hK _ _ ?_; clear hK K
    refine plan_pure (fun K hK => ?_); go_simp; refine hK _ _ ?_; clear hK K
    refine plan_load (fun K hK => ?_); go_simp; refine ⟨regrown_of_below hS, hK _ _ ?_⟩; clear hK K
    refine plan_act ?_
    go_wp2_with fail
    have cS := specTableNew_calls a b c w3.drew
    rw [HU.out] at cS
    refine cS.mono ?_
    rintro e w4a ⟨k5, s5, rfl, ⟨P1, P2, T5⟩, hb⟩
    have hS := bnext hS hb
    have hB := bnext hB hb
    clear hb cS
    go_wp2
    refine ⟨regrown_of_below hS, ?_⟩
    refine plan_act ?_
    have T6x := T6.below hS
    have hEq := sgTable_calls u u (.slice A1 n1 c1) (.slice A2 n2 c2) _ _ _ _ _ _ w4a T6x.1.row T6x.2.2.1 T6x.2.1.row T6x.2.2.2.1 T5.1.row T5.2.2.1 T5.2.1.row T5.2.2.2.1
    rw [decide_eq_true (rfl : u = u)] at hEq
    go_wp2_with fail
    refine hEq.mono ?_
    rintro e w4 ⟨rfl, hb⟩
    have hS := bnext hS hb
    have hB := bnext hB hb
    clear hb hEq T6x T5
    go_wp2
    refine ⟨regrown_of_below hS, ?_⟩
    refine plan_pure (fun K hK => ?_); go_simp; refine hK _ _ ?_; clear hK K
    refine plan_pure (fun K hK => ?_); go_simp; refine hK _ _ ?_; clear hK K
    refine plan_pure (fun K hK => ?_); go_simp; refine hK _ _ ?_; clear hK K
    refine plan_load (fun K hK => ?_); go_simp; refine ⟨regrown_of_below hS, hK _ _ ?_⟩; clear hK K
    refine plan_pure (fun K hK => ?_); go_simp; refine hK _ _ ?_; clear hK K
    refine plan_pure (fun K hK => ?_); go_simp; refine hK _ _ ?_; clear hK K
    refine plan_done ?_
    clear q0 q1 q2 q3 q4
    have T6 := T6.below hS
    have b6 := b6.below hS
    clear hS
    go_wp2
    obtain ⟨d0, d1, d2, d3, d4⟩ := tbox_cells b6.get
    clear d0 d1 d2 d3 d4
    go_loopw [7, 8, 9] (fun i _ _ wr => ∃ j : Nat, (j : Int) ≤ c ∧ i = .int .i64 j ∧ Below w4.heap.size w4 wr) (fun i _ _ _ => (c - (intOf i)).toNat)
    case atStart => exact ⟨0, by omega, rfl, Below.refl _ _⟩
    case round =>
      obtain ⟨j, hj, rfl, hb⟩ := hrel
      have T6 := T6.below hb
      have b6 := b6.below hb
      have hB := bnext hB hb
      obtain ⟨d0, d1, d2, d3, d4⟩ := tbox_cells b6.get
      by_cases hlt : (j : Int) < c
      · have hl := HL.out j hlt
        have cL := tableLook_calls u _ _ _ _ (j : Int) wr T6.1.row T6.2.2.1 T6.2.1.row T6.2.2.2.1
        rw [hl] at cL
        clear hl
        by_cases ha : a = 1
        · have ha2 : (a == 1) = true := by simp [ha]
          have hsz : (((nought b.toNat).size : Int) != b) = false := by rw [nought_size]; simp; omega
          rw [if_pos ha] at cL
          clear ha
          go_wp2_with fail
          refine cL.mono ?_
          rintro e w6 ⟨rfl, hb6⟩
          clear cL d0 d1 d2 d3 d4
          go_wp2
          go_roundw
          case rel => exact ⟨j + 1, by omega, by go_num, bnext hb hb6⟩
          case measure => simp [intOf]; omega
        · have ha2 : (a == 1) = false := by simp [ha]
          rw [if_neg ha] at cL
          clear ha
          go_wp2_with fail
          refine cL.mono ?_
          rintro e w6 ⟨rfl, hb6⟩
          clear cL d0 d1 d2 d3 d4
          go_wp2
          go_roundw
          case rel => exact ⟨j + 1, by omega, by go_num, bnext hb hb6⟩
          case measure => simp [intOf]; omega
      · have cO := tableOk_calls u _ _ _ _ wr T6.1.row T6.2.2.1 T6.2.1.row T6.2.2.2.1
        rw [HK.out] at cO
        go_wp2_with fail
        refine cO.mono ?_
        rintro e w6 ⟨rfl, hb6⟩
        have b6 := b6.below hb6
        clear cO d0 d1 d2 d3 d4
        obtain ⟨d0, d1, d2, d3, d4⟩ := tbox_cells b6.get
        go_wp2
        go_ret
        exact ⟨rfl, bnext hB hb6⟩
end Go.Proofs.Ytdpdclfanlbkjaa
