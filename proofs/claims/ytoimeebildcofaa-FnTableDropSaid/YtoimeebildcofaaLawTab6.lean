/- The law of TableDrop beside the reference. -/
import Derived.Test.YtoimeebildcofaaLawTab2
import Derived.Test.YtoimeebildcofaaWDrop3
namespace Go.Proofs.Ytoimeebildcofaa
open Go.RowKit
theorem Table.drop_lens (t : Table) (x : Int) : (t.drop x).1.keys.length ≤ t.keys.length ∧ (t.drop x).1.slots.length ≤ t.slots.length := by
  unfold Table.drop
  split
  · split
    · split
      · simp
      · simp only [List.length_eraseIdx]
        split <;> split <;> omega
    · simp
  · simp [Table.zero]
set_option maxRecDepth 100000 in
set_option maxHeartbeats 3200000 in
theorem lawExactTableDrop (t : Table) (kv sv : Value) (L1 L2 : Blocks) (x : Int) (w : World) (h1 : Row 1 kv (t.keys.map intCell) L1) (H1 : Holds w L1) (h2 : Row 1 sv (t.slots.map strCell) L2) (H2 : Holds w L2) (hsz : ∀ s ∈ t.slots, s.size ≤ 9223372036854775807) :
    Calls Try.prog 3 #[.agg #[.int .i64 t.kind, .int .i64 t.size, .int .i64 t.most, kv, sv], .int .i64 x] w fun e w' => e = .returned (.bool true) ∧ Below w.heap.size w w' := by
  · generalize hps : t.drop x = R
    have HP := Lib.hid hps
    obtain ⟨u, c⟩ := R
    have hul : u.keys.length ≤ t.keys.length ∧ u.slots.length ≤ t.slots.length := by
      have e : u = (t.drop x).1 := by rw [hps]
      rw [e]
      exact Table.drop_lens t x
    clear hps
    have hbne : (c != c) = false := by simp
    go_enter Try.func3, Try.ntmps3
    go_wp2_with fail
    refine (szTable_calls t kv sv L1 L2 _ _ h1 h2 (H2.alloc _) (by omega) (by omega) hsz).mono ?_
    rintro e w1 ⟨⟨r, rfl, hr⟩, hb⟩
    have bx := (holds_new (w := w) (o := .cells #[.int .i64 t.kind, .int .i64 t.size, .int .i64 t.most, kv, sv] 25) rfl).below hb
    have hB : Below w.heap.size w w1 := bnext (below_alloc' (Below.refl _ w) _) hb
    by_cases hr0 : r < 0
    · go_wp2
      go_ret
      exact ⟨rfl, hB⟩
    obtain ⟨hl1, hl2⟩ := hr (by omega)
    have lbx : ∀ {w' : World}, Holds w' [(w.heap.size, .cells #[.int .i64 t.kind, .int .i64 t.size, .int .i64 t.most, kv, sv] 25 (0, 0))] → w'.cell? ⟨w.heap.size, 0, none⟩ = some (.int .i64 t.kind) ∧ w'.cell? ⟨w.heap.size, 1, none⟩ = some (.int .i64 t.size) ∧ w'.cell? ⟨w.heap.size, 2, none⟩ = some (.int .i64 t.most) ∧ w'.cell? ⟨w.heap.size, 3, none⟩ = some kv ∧ w'.cell? ⟨w.heap.size, 4, none⟩ = some sv := fun h => by
      have := h.get
      simp [World.cell?, this]
    obtain ⟨d0, d1, d2, d3, d4⟩ := lbx bx
    have hr1 : w.heap.size < w1.heap.size := bx.lt (List.mem_singleton.2 rfl)
    clear hb hr
    go_wp2_with fail
    refine (toTable_calls t kv sv L1 L2 _ h1 (H1.below hB) h2 (H2.below hB) hl1 hl2).mono ?_
    rintro e w2 ⟨k2, s2, rfl, ⟨M1, M2, T1⟩, hb⟩
    have bx := bx.below hb
    have hB := bnext hB hb
    clear d0 d1 d2 d3 d4
    clear hb
    go_wp2_with fail
    have hPut := specTableDrop_calls t k2 s2 M1 M2 x w2 T1.1.row T1.2.2.1 T1.2.1.row T1.2.2.2.1
    rw [HP.out] at hPut
    refine (hPut).mono ?_
    rintro e w3 ⟨k8, s8, rfl, ⟨N1, N2, T8⟩, hb⟩
    obtain ⟨A1, n1, c1, rfl⟩ := T8.1.row.slice
    obtain ⟨A2, n2, c2, rfl⟩ := T8.2.1.row.slice
    have bx := bx.below hb
    have hB := bnext hB hb
    have t8 := T8.lt
    clear hPut
    clear hb
    go_wp2_with ((with_reducible refine gate_store (p := 6) rfl ?_); go_loud (
         refine wpList_put rfl 27 _ _ rfl w3.heap.size 0 [.int .i64 u.kind, .int .i64 u.size, .int .i64 u.most, (.slice A1 n1 c1), (.slice A2 n2 c2)] rfl rfl (newbox w3 u (.slice A1 n1 c1) (.slice A2 n2 c2)).1 (by kernel_rfl) rfl ?_
         obtain ⟨_, b6, hb, s6⟩ := newbox w3 u (.slice A1 n1 c1) (.slice A2 n2 c2)
         have bx := bx.below hb
         have T8 := T8.below hb
         have hB := bnext hB hb
         generalize (w3.alloc zcells).setCells w3.heap.size 0 [.int .i64 u.kind, .int .i64 u.size, .int .i64 u.most, (.slice A1 n1 c1), (.slice A2 n2 c2)] = w4 at *
         clear hb
         have hr4 := bx.lt (List.mem_singleton.2 rfl)
         obtain ⟨d0, d1, d2, d3, d4⟩ := lbx bx))
    refine (toTable_calls t kv sv L1 L2 _ h1 (H1.below hB) h2 (H2.below hB) hl1 hl2).mono ?_
    rintro e w5 ⟨k10, s10, rfl, ⟨P1, P2, T10⟩, hb⟩
    obtain ⟨A3, n3, c3, rfl⟩ := T10.1.row.slice
    obtain ⟨A4, n4, c4, rfl⟩ := T10.2.1.row.slice
    have bx := bx.below hb
    have T8 := T8.below hb
    have b6 := b6.below hb
    have hB := bnext hB hb
    have s5 := hb.size
    have t10 := T10.lt
    have a10 := T10.base
    clear d0 d1 d2 d3 d4
    clear hb
    go_wp2_with ((with_reducible refine gate_store (p := 8) rfl ?_); go_loud (
         refine wpList_put rfl 27 _ _ rfl w5.heap.size 0 [.int .i64 t.kind, .int .i64 t.size, .int .i64 t.most, (.slice A3 n3 c3), (.slice A4 n4 c4)] rfl rfl (newbox w5 t (.slice A3 n3 c3) (.slice A4 n4 c4)).1 (by kernel_rfl) rfl ?_
         obtain ⟨_, b8, hb, s8⟩ := newbox w5 t (.slice A3 n3 c3) (.slice A4 n4 c4)
         have bx := bx.below hb
         have T8 := T8.below hb
         have b6 := b6.below hb
         have T10 := T10.below hb
         have hB := bnext hB hb
         generalize (w5.alloc zcells).setCells w5.heap.size 0 [.int .i64 t.kind, .int .i64 t.size, .int .i64 t.most, (.slice A3 n3 c3), (.slice A4 n4 c4)] = w6 at *
         clear hb
         obtain ⟨d0, d1, d2, d3, d4⟩ := tbox_cells b8.get))
    have hPut := tableDrop_calls t (.slice A3 n3 c3) (.slice A4 n4 c4) P1 P2 x w6 T10.1.row T10.2.2.1 T10.2.1.row T10.2.2.2.1
    rw [HP.out] at hPut
    refine (hPut).mono ?_
    rintro e w7 ⟨k11, s11, rfl, ⟨Q1, Q2, T11⟩, hb⟩
    obtain ⟨A5, n5, c5, rfl⟩ := T11.1.row.slice
    obtain ⟨A6, n6, c6, rfl⟩ := T11.2.1.row.slice
    have bx := bx.below hb
    have T8 := T8.below hb
    have b6 := b6.below hb
    have T10 := T10.below hb
    have b8 := b8.below hb
    have hB := bnext hB hb
    have s7 := hb.size
    have t11 := T11.lt
    have a11 := T11.base
    clear d0 d1 d2 d3 d4 hPut
    clear hb
    go_wp2_with ((with_reducible refine gate_store (p := 9) rfl ?_); go_loud (
         refine wpList_put rfl 27 _ _ rfl w7.heap.size 0 [.int .i64 u.kind, .int .i64 u.size, .int .i64 u.most, (.slice A5 n5 c5), (.slice A6 n6 c6)] rfl rfl (newbox w7 u (.slice A5 n5 c5) (.slice A6 n6 c6)).1 (by kernel_rfl) rfl ?_
         obtain ⟨_, b9, hb, s9⟩ := newbox w7 u (.slice A5 n5 c5) (.slice A6 n6 c6)
         have bx := bx.below hb
         have T8 := T8.below hb
         have b6 := b6.below hb
         have T10 := T10.below hb
         have b8 := b8.below hb
         have T11 := T11.below hb
         have hB := bnext hB hb
         generalize (w7.alloc zcells).setCells w7.heap.size 0 [.int .i64 u.kind, .int .i64 u.size, .int .i64 u.most, (.slice A5 n5 c5), (.slice A6 n6 c6)] = w8 at *
         clear hb
         obtain ⟨d0, d1, d2, d3, d4⟩ := tbox_cells b9.get
         obtain ⟨e0, e1, e2, e3, e4⟩ := tbox_cells b6.get))
    have hEq := eqTable_calls u u (.slice A5 n5 c5) (.slice A6 n6 c6) (.slice A1 n1 c1) (.slice A2 n2 c2) _ _ _ _ _ T11.1.row T11.2.2.1 T11.2.1.row T11.2.2.2.1 T8.1.row T8.2.2.1 T8.2.1.row T8.2.2.2.1
    rw [decide_eq_true (rfl : u = u)] at hEq
    refine (hEq).mono ?_
    rintro e w9 ⟨rfl, hb⟩
    have bx := bx.below hb
    have T8 := T8.below hb
    have b6 := b6.below hb
    have T10 := T10.below hb
    have b8 := b8.below hb
    have T11 := T11.below hb
    have b9 := b9.below hb
    have hB := bnext hB hb
    have s9 := hb.size
    clear d0 d1 d2 d3 d4 e0 e1 e2 e3 e4 hEq
    clear hb
    go_wp2
    have q0 := cell_regrown (tbox_cells b8.get).1
    have q1 := cell_regrown (tbox_cells b8.get).2.1
    have q2 := cell_regrown (tbox_cells b8.get).2.2.1
    have q3 := cell_regrown (tbox_cells b8.get).2.2.2.1
    have q4 := cell_regrown (tbox_cells b8.get).2.2.2.2
    have p0 := cell_regrown (lbx bx).1
    have p1 := cell_regrown (lbx bx).2.1
    have p2 := cell_regrown (lbx bx).2.2.1
    have p3 := cell_regrown (lbx bx).2.2.2.1
    have p4 := cell_regrown (lbx bx).2.2.2.2
    have hB9 := hB
    refine wp_region_plan [] (.one 0 .load (.one 1 .load (.one 2 .act (.one 3 .act (.one 4 .pure .done))))) (fun w' => ∃ p : Regrown, w' = Sort.grow (redrawn w9 p.d) p.os) (by kernel_rfl) (by kernel_rfl) (fun _ _ d _ _ h => by cases d <;> exact h) ?_
    simp only [Plan.pick, List.getElem?_cons_zero, List.getElem?_cons_succ]
    have hS : Below w9.heap.size w9 w9.drew := below_drewN' (Below.refl _ _) 1
    have hB : Below _ _ w9.drew := below_drewN' hB 1
    refine plan_load (fun K hK => ?_); go_simp; refine ⟨regrown_of_below hS, hK _ _ ?_⟩; clear hK K
    refine plan_load (fun K hK => ?_); go_simp; refine ⟨regrown_of_below hS, hK _ _ ?_⟩; clear hK K
    refine plan_act ?_
    clear q0 q1 q2 q3 q4 p0 p1 p2 p3 p4
    go_wp2_with fail
    refine (toTable_calls t kv sv L1 L2 _ h1 (H1.below hB) h2 (H2.below hB) hl1 hl2).mono ?_
    rintro e w10 ⟨k12, s12, rfl, ⟨R1, R2, T12⟩, hb⟩
    have hS := bnext hS hb
    have hB := bnext hB hb
    clear hb
    go_wp2
    refine ⟨regrown_of_below hS, ?_⟩
    refine plan_act ?_
    have T10x := T10.below hS
    have hEq := eqTable_calls t t (.slice A3 n3 c3) (.slice A4 n4 c4) _ _ _ _ _ _ w10 T10x.1.row T10x.2.2.1 T10x.2.1.row T10x.2.2.2.1 T12.1.row T12.2.2.1 T12.2.1.row T12.2.2.2.1
    rw [decide_eq_true (rfl : t = t)] at hEq
    go_wp2_with fail
    refine hEq.mono ?_
    rintro e w11 ⟨rfl, hb⟩
    have hS := bnext hS hb
    have hB := bnext hB hb
    clear hb hEq T10x T12
    go_wp2
    refine ⟨regrown_of_below hS, ?_⟩
    refine plan_pure (fun K hK => ?_); go_simp; refine hK _ _ ?_; clear hK K
    refine plan_done ?_
    have bx := bx.below hS
    have T8 := T8.below hS
    have b6 := b6.below hS
    have T10 := T10.below hS
    have b8 := b8.below hS
    have T11 := T11.below hS
    have b9 := b9.below hS
    have s11 := hS.size
    clear hS hB9
    obtain ⟨d0, d1, d2, d3, d4⟩ := tbox_cells b8.get
    go_wp2_with fail
    refine (markTable_calls t _ _ P1 P2 _ 1 1 rfl _ T10 (by omega)).mono ?_
    rintro e w12 ⟨rfl, ⟨U1, U2, T10, hU1, hU2⟩, hon⟩
    have hB := hB.trans (below_only hon (fun k ⟨p, hp, e⟩ => by have := a10 p hp; omega) hB.size)
    have s12 := hon.size
    have T8 := T8.only hon (fun p hp ⟨q, hq, e⟩ => by have := t8 p hp; have := a10 q hq; omega)
    have T11 := T11.only hon (fun p hp ⟨q, hq, e⟩ => by have := a11 p hp; have := t10 q hq; omega)
    have bx := bx.only hon (fun p hp ⟨q, hq, e⟩ => by rw [List.mem_singleton.1 hp] at e; simp only at e; have := a10 q hq; omega)
    have b6 := b6.only hon (fun p hp ⟨q, hq, e⟩ => by rw [List.mem_singleton.1 hp] at e; simp only at e; have := a10 q hq; omega)
    have b9 := b9.only hon (fun p hp ⟨q, hq, e⟩ => by rw [List.mem_singleton.1 hp] at e; simp only at e; have := t10 q hq; omega)
    clear hon d0 d1 d2 d3 d4
    obtain ⟨d0, d1, d2, d3, d4⟩ := tbox_cells b9.get
    obtain ⟨e0, e1, e2, e3, e4⟩ := tbox_cells b6.get
    go_wp2_with fail
    have hEq := eqTable_calls u u (.slice A5 n5 c5) (.slice A6 n6 c6) (.slice A1 n1 c1) (.slice A2 n2 c2) _ _ _ _ _ T11.1.row T11.2.2.1 T11.2.1.row T11.2.2.2.1 T8.1.row T8.2.2.1 T8.2.1.row T8.2.2.2.1
    rw [decide_eq_true (rfl : u = u)] at hEq
    refine (hEq).mono ?_
    rintro e w13 ⟨rfl, hb⟩
    have bx := bx.below hb
    have T8 := T8.below hb
    have b6 := b6.below hb
    have T11 := T11.below hb
    have b9 := b9.below hb
    have hB := bnext hB hb
    have s13 := hb.size
    clear d0 d1 d2 d3 d4 e0 e1 e2 e3 e4 hEq
    clear hb
    obtain ⟨d0, d1, d2, d3, d4⟩ := tbox_cells b9.get
    go_wp2_with fail
    refine (markTable_calls u _ _ Q1 Q2 _ 1 1 rfl _ T11 (by omega)).mono ?_
    rintro e w14 ⟨rfl, ⟨X1, X2, T11, hX1, hX2⟩, hon⟩
    have hB := hB.trans (below_only hon (fun k ⟨p, hp, e⟩ => by have := a11 p hp; omega) hB.size)
    have s14 := hon.size
    have T8 := T8.only hon (fun p hp ⟨q, hq, e⟩ => by have := t8 p hp; have := a11 q hq; omega)
    have bx := bx.only hon (fun p hp ⟨q, hq, e⟩ => by rw [List.mem_singleton.1 hp] at e; simp only at e; have := a11 q hq; omega)
    have b6 := b6.only hon (fun p hp ⟨q, hq, e⟩ => by rw [List.mem_singleton.1 hp] at e; simp only at e; have := a11 q hq; omega)
    have b9 := b9.only hon (fun p hp ⟨q, hq, e⟩ => by rw [List.mem_singleton.1 hp] at e; simp only at e; have := t11 q hq; omega)
    clear hon d0 d1 d2 d3 d4
    obtain ⟨d0, d1, d2, d3, d4⟩ := tbox_cells b9.get
    go_wp2_with fail
    refine (heldTable_calls u _ _ X1 X2 1 1 rfl _ T11.1.row T11.2.2.1 T11.2.1.row T11.2.2.2.1 (by omega)).mono ?_
    rintro e w15 ⟨rfl, hb⟩
    have bx := bx.below hb
    have T8 := T8.below hb
    have b6 := b6.below hb
    have T11 := T11.below hb
    have b9 := b9.below hb
    have hB := bnext hB hb
    clear d0 d1 d2 d3 d4
    obtain ⟨d0, d1, d2, d3, d4⟩ := lbx bx
    clear hb
    go_wp2_with fail
    refine (toTable_calls t kv sv L1 L2 _ h1 (H1.below hB) h2 (H2.below hB) hl1 hl2).mono ?_
    rintro e w16 ⟨k16, s16, rfl, ⟨Y1, Y2, T16⟩, hb⟩
    have bx := bx.below hb
    have T8 := T8.below hb
    have b6 := b6.below hb
    have T11 := T11.below hb
    have b9 := b9.below hb
    have hB := bnext hB hb
    clear d0 d1 d2 d3 d4
    clear hb
    go_wp2_with fail
    have hPut := tableDrop_calls t k16 s16 Y1 Y2 x w16 T16.1.row T16.2.2.1 T16.2.1.row T16.2.2.2.1
    rw [HP.out] at hPut
    refine (hPut).mono ?_
    rintro e w17 ⟨k17, s17, rfl, ⟨Z1, Z2, T17⟩, hb⟩
    obtain ⟨A7, n7, c7, rfl⟩ := T17.1.row.slice
    obtain ⟨A8, n8, c8, rfl⟩ := T17.2.1.row.slice
    have bx := bx.below hb
    have T8 := T8.below hb
    have b6 := b6.below hb
    have T11 := T11.below hb
    have b9 := b9.below hb
    have hB := bnext hB hb
    clear hPut T16
    clear hb
    go_wp2_with ((with_reducible refine gate_store (p := 14) rfl ?_); go_loud (
         refine wpList_put rfl 27 _ _ rfl w17.heap.size 0 [.int .i64 u.kind, .int .i64 u.size, .int .i64 u.most, (.slice A7 n7 c7), (.slice A8 n8 c8)] rfl rfl (newbox w17 u (.slice A7 n7 c7) (.slice A8 n8 c8)).1 (by kernel_rfl) rfl ?_
         obtain ⟨_, b14, hb, s14⟩ := newbox w17 u (.slice A7 n7 c7) (.slice A8 n8 c8)
         have bx := bx.below hb
         have T8 := T8.below hb
         have b6 := b6.below hb
         have T11 := T11.below hb
         have b9 := b9.below hb
         have T17 := T17.below hb
         have hB := bnext hB hb
         generalize (w17.alloc zcells).setCells w17.heap.size 0 [.int .i64 u.kind, .int .i64 u.size, .int .i64 u.most, (.slice A7 n7 c7), (.slice A8 n8 c8)] = w18 at *
         clear hb
         obtain ⟨d0, d1, d2, d3, d4⟩ := tbox_cells b14.get
         obtain ⟨e0, e1, e2, e3, e4⟩ := tbox_cells b6.get))
    have hEq := eqTable_calls u u (.slice A7 n7 c7) (.slice A8 n8 c8) (.slice A1 n1 c1) (.slice A2 n2 c2) _ _ _ _ _ T17.1.row T17.2.2.1 T17.2.1.row T17.2.2.2.1 T8.1.row T8.2.2.1 T8.2.1.row T8.2.2.2.1
    rw [decide_eq_true (rfl : u = u)] at hEq
    refine (hEq).mono ?_
    rintro e w19 ⟨rfl, hb⟩
    have T11 := T11.below hb
    have b9 := b9.below hb
    have hB := bnext hB hb
    clear d0 d1 d2 d3 d4 e0 e1 e2 e3 e4 hEq
    obtain ⟨d0, d1, d2, d3, d4⟩ := tbox_cells b9.get
    clear hb
    go_wp2_with fail
    refine (heldTable_calls u _ _ X1 X2 1 1 rfl _ T11.1.row T11.2.2.1 T11.2.1.row T11.2.2.2.1 (by omega)).mono ?_
    rintro e w20 ⟨rfl, hb⟩
    have hB := bnext hB hb
    clear hb
    go_wp2
    go_ret
    exact ⟨rfl, hB⟩
end Go.Proofs.Ytoimeebildcofaa
