/- The law of TableNew beside the reference. -/
import Derived.Test.YtdpdclfanlbkjaaLawTab2
import Derived.Test.YtdpdclfanlbkjaaWTab10
namespace Go.Proofs.Ytdpdclfanlbkjaa
open Go.RowKit
theorem Table.new_lens (k s m : Int) : (Table.new k s m).keys.length ≤ 8 ∧ (Table.new k s m).slots.length ≤ 8 := by
  unfold Table.new
  split
  · rename_i h
    simp only [Table.shape, inB, Bool.and_eq_true, decide_eq_true_eq] at h
    split <;> simp [rowKeys]
    omega
  · simp [Table.zero]
set_option maxRecDepth 100000 in
set_option maxHeartbeats 3200000 in
theorem lawExactTableNew (k s m : Int) (w : World) :
    Calls Try.prog 13 #[.int .i64 k, .int .i64 s, .int .i64 m] w fun e w' => e = .returned (.bool true) ∧ Below w.heap.size w w' := by
  obtain ⟨hul1, hul2⟩ := Table.new_lens k s m
  have cSpec := fun w => specTableNew_calls k s m w
  have cImpl := fun w => tableNew_calls k s m w
  generalize Table.new k s m = u at *
  have hB := Below.refl w.heap.size w
  go_enter Try.func13, Try.ntmps13
  go_wp2_with fail
  refine (cSpec _).mono ?_
  rintro e w1 ⟨k1, s1, rfl, ⟨M1, M2, T7⟩, hb⟩
  obtain ⟨A1, n1, c1, rfl⟩ := T7.1.row.slice
  obtain ⟨A2, n2, c2, rfl⟩ := T7.2.1.row.slice
  have hB := bnext hB hb
  have t7 := T7.lt
  have s1z := hB.size
  clear hb
  go_wp2_with ((with_reducible refine gate_store (p := 7) rfl ?_); go_loud (
         refine wpList_put rfl 50 _ _ rfl w1.heap.size 0 [.int .i64 u.kind, .int .i64 u.size, .int .i64 u.most, (.slice A1 n1 c1), (.slice A2 n2 c2)] rfl rfl (newbox w1 u (.slice A1 n1 c1) (.slice A2 n2 c2)).1 (by kernel_rfl) rfl ?_
         obtain ⟨_, b7, hb, s7⟩ := newbox w1 u (.slice A1 n1 c1) (.slice A2 n2 c2)
         have T7 := T7.below hb
         have hB := bnext hB hb
         generalize (w1.alloc zcells).setCells w1.heap.size 0 [.int .i64 u.kind, .int .i64 u.size, .int .i64 u.most, (.slice A1 n1 c1), (.slice A2 n2 c2)] = w2 at *
         clear hb
))
  refine (cImpl _).mono ?_
  rintro e w3 ⟨k3, s3, rfl, ⟨P1, P2, T8⟩, hb⟩
  obtain ⟨A3, n3, c3, rfl⟩ := T8.1.row.slice
  obtain ⟨A4, n4, c4, rfl⟩ := T8.2.1.row.slice
  have T7 := T7.below hb
  have b7 := b7.below hb
  have hB := bnext hB hb
  have s3 := hb.size
  have t8 := T8.lt
  have a8 := T8.base
  clear hb
  go_wp2_with ((with_reducible refine gate_store (p := 8) rfl ?_); go_loud (
         refine wpList_put rfl 50 _ _ rfl w3.heap.size 0 [.int .i64 u.kind, .int .i64 u.size, .int .i64 u.most, (.slice A3 n3 c3), (.slice A4 n4 c4)] rfl rfl (newbox w3 u (.slice A3 n3 c3) (.slice A4 n4 c4)).1 (by kernel_rfl) rfl ?_
         obtain ⟨_, b8, hb, s8⟩ := newbox w3 u (.slice A3 n3 c3) (.slice A4 n4 c4)
         have T7 := T7.below hb
         have b7 := b7.below hb
         have T8 := T8.below hb
         have hB := bnext hB hb
         generalize (w3.alloc zcells).setCells w3.heap.size 0 [.int .i64 u.kind, .int .i64 u.size, .int .i64 u.most, (.slice A3 n3 c3), (.slice A4 n4 c4)] = w4 at *
         clear hb
         obtain ⟨d0, d1, d2, d3, d4⟩ := tbox_cells b8.get
         obtain ⟨e0, e1, e2, e3, e4⟩ := tbox_cells b7.get))
  have hEq := eqTable_calls u u (.slice A3 n3 c3) (.slice A4 n4 c4) (.slice A1 n1 c1) (.slice A2 n2 c2) _ _ _ _ _ T8.1.row T8.2.2.1 T8.2.1.row T8.2.2.2.1 T7.1.row T7.2.2.1 T7.2.1.row T7.2.2.2.1
  rw [decide_eq_true (rfl : u = u)] at hEq
  refine (hEq).mono ?_
  rintro e w5 ⟨rfl, hb⟩
  have T7 := T7.below hb
  have b7 := b7.below hb
  have T8 := T8.below hb
  have b8 := b8.below hb
  have hB := bnext hB hb
  have s5 := hb.size
  clear d0 d1 d2 d3 d4 e0 e1 e2 e3 e4 hEq
  obtain ⟨d0, d1, d2, d3, d4⟩ := tbox_cells b8.get
  clear hb
  go_wp2_with fail
  refine (markTable_calls u _ _ P1 P2 _ 1 1 rfl _ T8 (by omega)).mono ?_
  rintro e w6 ⟨rfl, ⟨X1, X2, T8, hX1, hX2⟩, hon⟩
  have hB := hB.trans (below_only hon (fun k ⟨p, hp, e⟩ => by have := a8 p hp; omega) hB.size)
  have T7 := T7.only hon (fun p hp ⟨q, hq, e⟩ => by have := t7 p hp; have := a8 q hq; omega)
  have b7 := b7.only hon (fun p hp ⟨q, hq, e⟩ => by rw [List.mem_singleton.1 hp] at e; simp only at e; have := a8 q hq; omega)
  have b8 := b8.only hon (fun p hp ⟨q, hq, e⟩ => by rw [List.mem_singleton.1 hp] at e; simp only at e; have := t8 q hq; omega)
  clear hon d0 d1 d2 d3 d4
  obtain ⟨d0, d1, d2, d3, d4⟩ := tbox_cells b8.get
  go_wp2_with fail
  refine (heldTable_calls u _ _ X1 X2 1 1 rfl _ T8.1.row T8.2.2.1 T8.2.1.row T8.2.2.2.1 (by omega)).mono ?_
  rintro e w7 ⟨rfl, hb⟩
  have T7 := T7.below hb
  have b7 := b7.below hb
  have T8 := T8.below hb
  have b8 := b8.below hb
  have hB := bnext hB hb
  clear d0 d1 d2 d3 d4
  clear hb
  go_wp2_with fail
  refine (cImpl _).mono ?_
  rintro e w8 ⟨k8, s8, rfl, ⟨Z1, Z2, T11⟩, hb⟩
  obtain ⟨A5, n5, c5, rfl⟩ := T11.1.row.slice
  obtain ⟨A6, n6, c6, rfl⟩ := T11.2.1.row.slice
  have T7 := T7.below hb
  have b7 := b7.below hb
  have T8 := T8.below hb
  have b8 := b8.below hb
  have hB := bnext hB hb
  clear hb
  go_wp2_with ((with_reducible refine gate_store (p := 11) rfl ?_); go_loud (
         refine wpList_put rfl 50 _ _ rfl w8.heap.size 0 [.int .i64 u.kind, .int .i64 u.size, .int .i64 u.most, (.slice A5 n5 c5), (.slice A6 n6 c6)] rfl rfl (newbox w8 u (.slice A5 n5 c5) (.slice A6 n6 c6)).1 (by kernel_rfl) rfl ?_
         obtain ⟨_, b11, hb, s11⟩ := newbox w8 u (.slice A5 n5 c5) (.slice A6 n6 c6)
         have T7 := T7.below hb
         have b7 := b7.below hb
         have T8 := T8.below hb
         have b8 := b8.below hb
         have T11 := T11.below hb
         have hB := bnext hB hb
         generalize (w8.alloc zcells).setCells w8.heap.size 0 [.int .i64 u.kind, .int .i64 u.size, .int .i64 u.most, (.slice A5 n5 c5), (.slice A6 n6 c6)] = w9 at *
         clear hb
         obtain ⟨d0, d1, d2, d3, d4⟩ := tbox_cells b11.get
         obtain ⟨e0, e1, e2, e3, e4⟩ := tbox_cells b7.get))
  have hEq := eqTable_calls u u (.slice A5 n5 c5) (.slice A6 n6 c6) (.slice A1 n1 c1) (.slice A2 n2 c2) _ _ _ _ _ T11.1.row T11.2.2.1 T11.2.1.row T11.2.2.2.1 T7.1.row T7.2.2.1 T7.2.1.row T7.2.2.2.1
  rw [decide_eq_true (rfl : u = u)] at hEq
  refine (hEq).mono ?_
  rintro e w10 ⟨rfl, hb⟩
  have T8 := T8.below hb
  have b8 := b8.below hb
  have hB := bnext hB hb
  clear d0 d1 d2 d3 d4 e0 e1 e2 e3 e4 hEq
  obtain ⟨d0, d1, d2, d3, d4⟩ := tbox_cells b8.get
  clear hb
  go_wp2_with fail
  refine (heldTable_calls u _ _ X1 X2 1 1 rfl _ T8.1.row T8.2.2.1 T8.2.1.row T8.2.2.2.1 (by omega)).mono ?_
  rintro e w11 ⟨rfl, hb⟩
  have hB := bnext hB hb
  clear hb
  go_wp2
  go_ret
  exact ⟨rfl, hB⟩
end Go.Proofs.Ytdpdclfanlbkjaa
