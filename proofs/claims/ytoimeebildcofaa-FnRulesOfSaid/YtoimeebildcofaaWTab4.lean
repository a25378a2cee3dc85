/- The walks of the copies of a table. -/
import Derived.Test.YtoimeebildcofaaWTab3
import Derived.Test.YtoimeebildcofaaLift
namespace Go.Proofs.Ytoimeebildcofaa
open Go.RowKit
set_option maxRecDepth 100000 in
set_option maxHeartbeats 1600000 in
theorem copied_calls (t : Table) (kv sv : Value) (L1 L2 : Blocks) (w : World) (h1 : Row 1 kv (t.keys.map intCell) L1) (H1 : Holds w L1) (h2 : Row 1 sv (t.slots.map strCell) L2) (H2 : Holds w L2) (hl1 : t.keys.length ≤ 1048576) (hl2 : t.slots.length ≤ 1048576) :
    Calls Try.prog 38 #[.agg #[.int .i64 t.kind, .int .i64 t.size, .int .i64 t.most, kv, sv]] w fun e w' => ∃ kv' sv', e = .returned (.agg #[.int .i64 t.kind, .int .i64 t.size, .int .i64 t.most, kv', sv']) ∧
      ∃ M1 M2, Own w.heap.size 3 1 kv' (t.keys.map intCell) M1 ∧ Own w.heap.size 9 1 sv' (t.slots.map strCell) M2 ∧ Holds w' M1 ∧ Holds w' M2 ∧ Apart M1 M2 ∧ Below w.heap.size w w' := by
  go_enter Try.func38, Try.ntmps38
  go_wp2
  obtain ⟨V, hV⟩ : ∃ V, V = (w.alloc (.cells #[.int .i64 t.kind, .int .i64 t.size, .int .i64 t.most, kv, sv] 27)).alloc (.cells #[.int .i64 0, .int .i64 0, .int .i64 0, .slice none 0 0, .slice none 0 0] 27) := ⟨_, rfl⟩
  rw [← hV]
  have hB : Below w.heap.size w V := by rw [hV]; exact below_alloc' (below_alloc' (Below.refl _ _) _) _
  have hbox : V.heap[w.heap.size]? = some (.cells #[.int .i64 t.kind, .int .i64 t.size, .int .i64 t.most, kv, sv] 27) := by
    rw [hV]; exact (((holds_new (w := w) rfl).alloc _) (_, _) (List.mem_singleton.2 rfl))
  have hres : Holds V [(w.heap.size + 1, .cells #[.int .i64 0, .int .i64 0, .int .i64 0, .slice none 0 0, .slice none 0 0] 27 (0, 0))] := by
    rw [hV]; exact holds_new (by simp)
  obtain ⟨c0, c1, c2, c3, c4⟩ := tbox_cells hbox
  have r3 := cell_regrown (w := V.drew) c3
  have r4 := cell_regrown (w := V.drew) c4
  clear hV
  refine wp_region_lift [9, 11] [(0, .pure), (1, .load), (4, .pure), (5, .load), (2, .act), (3, .act), (8, .pure), (6, .act), (7, .act), (9, .last), (10, .pure), (11, .last)] (fun w' => ∃ p : Regrown, w' = Sort.grow (redrawn V.drew p.d) p.os) (by kernel_rfl) (by kernel_rfl) (fun _ _ d _ _ h => by cases d <;> exact h) ?_
  simp only [pickS, List.filterMap_cons, List.filterMap_nil, List.getElem?_cons_zero, List.getElem?_cons_succ, Option.map_some]
  refine steps_pure (fun K hK => ?_); go_simp; refine hK _ _ ?_; clear hK K
  refine steps_load (fun K hK => ?_); go_simp; refine ⟨regrown_of_below (Below.refl _ _), hK _ _ ?_⟩; clear hK K
  refine steps_pure (fun K hK => ?_); go_simp; refine hK _ _ ?_; clear hK K
  refine steps_load (fun K hK => ?_); go_simp; refine ⟨regrown_of_below (Below.refl _ _), hK _ _ ?_⟩; clear hK K
  have hBd : Below w.heap.size w V.drew := below_drewN' hB 1
  refine steps_act ?_
  go_wp2_with fail
  refine (cloneSInt_calls kv t.keys L1 _ h1 (H1.below hBd) hl1).mono ?_
  rintro e w1 ⟨k1, rfl, M1, o1, hM1, hb1⟩
  go_wp2
  refine ⟨regrown_of_below hb1, ?_⟩
  refine steps_act ?_
  go_wp2_with fail
  refine (clipInt_calls k1 _ M1 _ _ o1).mono ?_
  rintro e w' ⟨⟨k2, rfl, o2⟩, hw'⟩
  subst w'
  go_wp2
  refine ⟨regrown_of_below hb1, ?_⟩
  have hB1 := bnext hBd hb1
  refine steps_pure (fun K hK => ?_); go_simp; refine hK _ _ ?_; clear hK K
  refine steps_act ?_
  go_wp2_with fail
  refine (cloneSStr_calls sv t.slots L2 _ h2 (H2.below hB1) hl2).mono ?_
  rintro e w2 ⟨s1, rfl, M2, o3, hM2, hb2⟩
  go_wp2
  refine ⟨regrown_of_below (bnext hb1 hb2), ?_⟩
  refine steps_act ?_
  go_wp2_with fail
  refine (clipStr_calls s1 _ M2 _ _ o3).mono ?_
  rintro e w' ⟨⟨s2, rfl, o4⟩, hw'⟩
  subst w'
  go_wp2
  refine ⟨regrown_of_below (bnext hb1 hb2), ?_⟩
  have hB2 := bnext hB1 hb2
  have hbx2 := (Holds.one hbox).below (w := V) (w' := w2) (below_trans' (Below.refl _ V) (Nat.le_refl _) (bnext (below_drewN' (Below.refl V.heap.size V) 1) (bnext hb1 hb2)))
  obtain ⟨d0, d1, d2, d3, d4⟩ := tbox_cells hbx2.get
  obtain ⟨A5, n5, c5, rfl⟩ := o2.row.slice
  obtain ⟨A6, n6, c6, rfl⟩ := o4.row.slice
  have fz : ∀ i, w2.frozen? ⟨w.heap.size, i, none⟩ = false := fun i => frozen_of_row w2 _ _ _ _ hbx2.get
  clear c0 c1 c2 c3 c4 r3 r4
  refine steps_end ?_
  go_wp2
  refine steps_pure (fun K hK => ?_); go_simp; refine hK _ _ ?_; clear hK K
  refine steps_end ?_
  go_wp2
  refine steps_nil ?_
  have hnew : (w2.setCells w.heap.size 3 [.slice A5 n5 c5, .slice A6 n6 c6]).heap[w.heap.size]? = some (.cells #[.int .i64 t.kind, .int .i64 t.size, .int .i64 t.most, .slice A5 n5 c5, .slice A6 n6 c6] 27 (0, 0)) := heap_setCells [.slice A5 n5 c5, .slice A6 n6 c6] 3 _ w2 hbx2.get (by simp)
  have honly : Only (· = w.heap.size) w2 (w2.setCells w.heap.size 3 [.slice A5 n5 c5, .slice A6 n6 c6]) := only_setCells _ _ _ _ (Only.refl _ _) (.inl rfl)
  obtain ⟨V3, hV3⟩ : ∃ V3, V3 = w2.setCells w.heap.size 3 [.slice A5 n5 c5, .slice A6 n6 c6] := ⟨_, rfl⟩
  rw [← hV3] at hnew honly
  have hworld : (w2.setCell ⟨w.heap.size, 3, none⟩ (.slice A5 n5 c5)).setCell ⟨w.heap.size, 4, none⟩ (.slice A6 n6 c6) = V3 := by rw [hV3]; rfl
  rw [hworld]
  obtain ⟨f0, f1, f2, f3, f4⟩ := tbox_cells hnew
  have hVw : Below V.heap.size V w2 := below_trans' (Below.refl _ V) (Nat.le_refl _) (bnext (below_drewN' (Below.refl V.heap.size V) 1) (bnext hb1 hb2))
  have hres3 := (hres.below hVw).only honly (fun p hp => by rw [List.mem_singleton.1 hp]; show w.heap.size + 1 ≠ w.heap.size; omega)
  have hth : V3.there (w.heap.size + 1) 0 5 := fun j hj => ⟨by simp [World.cell?, hres3.get]; omega, frozen_of_row V3 _ _ _ _ hres3.get⟩
  clear hworld hV3
  go_wp2_with ((with_reducible refine gate_store (p := 2) rfl ?_); refine wpList_put rfl 27 _ _ rfl (w.heap.size + 1) 0 [.int .i64 t.kind, .int .i64 t.size, .int .i64 t.most, .slice A5 n5 c5, .slice A6 n6 c6] rfl rfl hth (by kernel_rfl) rfl ?_)
  have hfin : (V3.setCells (w.heap.size + 1) 0 [.int .i64 t.kind, .int .i64 t.size, .int .i64 t.most, .slice A5 n5 c5, .slice A6 n6 c6]).heap[w.heap.size + 1]? = some (.cells #[.int .i64 t.kind, .int .i64 t.size, .int .i64 t.most, .slice A5 n5 c5, .slice A6 n6 c6] 27 (0, 0)) := heap_setCells _ 0 _ V3 hres3.get (by simp)
  have honly4 : Only (fun x => x = w.heap.size ∨ x = w.heap.size + 1) w2 (V3.setCells (w.heap.size + 1) 0 [.int .i64 t.kind, .int .i64 t.size, .int .i64 t.most, .slice A5 n5 c5, .slice A6 n6 c6]) := (honly.mono (fun _ _ h => .inl h)).trans (only_setCells _ _ _ _ (Only.refl _ _) (.inl (.inr rfl)))
  generalize V3.setCells (w.heap.size + 1) 0 [.int .i64 t.kind, .int .i64 t.size, .int .i64 t.most, .slice A5 n5 c5, .slice A6 n6 c6] = V4 at *
  obtain ⟨g0, g1, g2, g3, g4⟩ := tbox_cells hfin
  have s2 := hB.size
  have sV : w.heap.size + 2 ≤ V.heap.size := by have := hres.lt (List.mem_singleton.2 rfl); simp only at this; omega
  have b1 : ∀ p, p ∈ M1 → V.heap.size ≤ p.1 := fun p hp => o2.base p hp
  have b2 : ∀ p, p ∈ M2 → w1.heap.size ≤ p.1 := fun p hp => o4.base p hp
  have sV1 : V.heap.size ≤ w1.heap.size := hb1.size
  refine bodyPost_ret (v := .agg #[.int .i64 t.kind, .int .i64 t.size, .int .i64 t.most, .slice A5 n5 c5, .slice A6 n6 c6]) (by simp [results, Try.results38, go_sem, g0, g1, g2, g3, g4]) rfl ⟨_, _, rfl, M1, M2, o2.lower (by show w.heap.size ≤ V.heap.size; omega), o4.lower (by omega), (hM1.below hb2).only honly4 (fun p hp h => by have := b1 p hp; omega), hM2.only honly4 (fun p hp h => by have := b2 p hp; omega), fun p hp q hq h => ?_, Only.below hB2 hB2.size honly4 (fun k h => by omega)⟩
  have := hM1.lt hp
  have := b2 q hq
  omega
end Go.Proofs.Ytoimeebildcofaa
