/- The walk of the reference's copy of a table. -/
import Derived.Test.YtoimeebildcofaaWTab4
namespace Go.Proofs.Ytoimeebildcofaa
open Go.RowKit
set_option maxRecDepth 100000 in
set_option maxHeartbeats 1600000 in
theorem l3Copy_calls (t : Table) (kv sv : Value) (L1 L2 : Blocks) (w : World) (h1 : Row 1 kv (t.keys.map intCell) L1) (H1 : Holds w L1) (h2 : Row 1 sv (t.slots.map strCell) L2) (H2 : Holds w L2) (hl1 : t.keys.length ≤ 1048576) (hl2 : t.slots.length ≤ 1048576) :
    Calls Try.prog 33 #[.agg #[.int .i64 t.kind, .int .i64 t.size, .int .i64 t.most, kv, sv]] w fun e w' => ∃ kv' sv', e = .returned (.agg #[.int .i64 t.kind, .int .i64 t.size, .int .i64 t.most, kv', sv']) ∧
      ∃ M1 M2, Own w.heap.size 3 1 kv' (t.keys.map intCell) M1 ∧ Own w.heap.size 9 1 sv' (t.slots.map strCell) M2 ∧ Holds w' M1 ∧ Holds w' M2 ∧ Apart M1 M2 ∧ Below w.heap.size w w' := by
  obtain ⟨i0, hi0, hz0, hs0, hb0⟩ := info_of infoInt
  have HI := Lib.hid hi0
  obtain ⟨j0, hj0, hy0, ht0, hc0⟩ := info_of infoStr
  have HJ := Lib.hid hj0
  clear hi0 hj0
  obtain ⟨A1, n1, c1, rfl⟩ := h1.slice
  obtain ⟨A2, n2, c2, rfl⟩ := h2.slice
  go_enter Try.func33, Try.ntmps33
  go_wp2_with (first
    | ((with_reducible refine gate_dst (N := 8) rfl ?_); refine wpList_append_row rfl _ _ 22 rfl w.heap.size 3 i0 _ 1 8 Try.underlying22 HI.out hz0 hs0 hb0 rfl (by decide) _ [] _ rfl (own_empty (w.heap.size + 1 + 1 + 1) _ _ _ (by omega)) (holds_new (by simp)) _ (t.keys.map intCell) L1 rfl h1 ((((H1.alloc _).alloc _).alloc _).alloc _) (oneCell_ints _) (by simp; omega) (by decide) (by simp; omega) ?_; intro k2 w2 M1 ho hH hon hat
       have hkeep : ∀ k, k < w.heap.size + 3 → w2.heap[k]? = ((((w.alloc (.cells #[.int .i64 t.kind, .int .i64 t.size, .int .i64 t.most, .slice A1 n1 c1, .slice A2 n2 c2] 27)).alloc (.cells #[.int .i64 0, .int .i64 0, .int .i64 0, .slice none 0 0, .slice none 0 0] 27)).alloc (.cells #[.int .i64 t.kind, .int .i64 t.size, .int .i64 t.most, .slice A1 n1 c1, .slice A2 n2 c2] 27)).alloc (.cells #[] 3)).heap[k]? := fun k hk => hon.block k (by simp; omega) (fun ⟨p, hp, hpk⟩ => by rw [List.mem_singleton.1 hp] at hpk; simp only at hpk; omega)
       have hbox : Holds w2 [(w.heap.size, .cells #[.int .i64 t.kind, .int .i64 t.size, .int .i64 t.most, .slice A1 n1 c1, .slice A2 n2 c2] 27 (0, 0))] := Holds.one ((hkeep _ (by omega)).trans (((((holds_new (w := w) rfl).alloc _).alloc _).alloc _).get))
       have hres : Holds w2 [(w.heap.size + 1, .cells #[.int .i64 0, .int .i64 0, .int .i64 0, .slice none 0 0, .slice none 0 0] 27 (0, 0))] := Holds.one ((hkeep _ (by omega)).trans ((((holds_new (by simp)).alloc _).alloc _).get))
       have hcop : Holds w2 [(w.heap.size + 1 + 1, .cells #[.int .i64 t.kind, .int .i64 t.size, .int .i64 t.most, .slice A1 n1 c1, .slice A2 n2 c2] 27 (0, 0))] := Holds.one ((hkeep _ (by omega)).trans (((holds_new (by simp)).alloc _).get))
       clear hkeep
       obtain ⟨A5, n5, c5, rfl⟩ := ho.row.slice
       obtain ⟨d0, d1, d2, d3, d4⟩ := tbox_cells hbox.get
       have sw2 : w.heap.size + 4 ≤ w2.heap.size := by have := hon.size; simp at this; omega
       have hBw2 : Below w.heap.size w w2 := Only.below (below_alloc' (below_alloc' (below_alloc' (below_alloc' (Below.refl _ _) _) _) _) _) (by simp; omega) hon (fun k ⟨p, hp, hpk⟩ => by rw [List.mem_singleton.1 hp] at hpk; simp only at hpk; omega)
       have hM1b : ∀ p ∈ M1, w.heap.size + 3 ≤ p.1 := fun p hp => by
         rcases hat with h | ⟨o, h⟩
         · have := List.mem_map_of_mem (f := Prod.fst) hp
           rw [h] at this
           simp at this
           omega
         · rw [h] at hp
           rw [List.mem_singleton.1 hp]
           simp
       have hth3 : w2.there (w.heap.size + 1 + 1) 3 1 := fun j hj => ⟨by simp [World.cell?, hcop.get]; omega, frozen_of_row w2 _ _ _ _ hcop.get⟩)
    | ((with_reducible refine gate_store (p := 9) rfl ?_); refine wpList_put rfl 22 _ _ rfl (w.heap.size + 1 + 1) 3 [.slice A5 n5 c5] rfl rfl hth3 (by kernel_rfl) rfl ?_
       have hcop2 : (w2.setCells (w.heap.size + 1 + 1) 3 [.slice A5 n5 c5]).heap[w.heap.size + 1 + 1]? = some (.cells #[.int .i64 t.kind, .int .i64 t.size, .int .i64 t.most, .slice A5 n5 c5, .slice A2 n2 c2] 27 (0, 0)) := heap_setCells _ 3 _ w2 hcop.get (by simp)
       have hon2 : Only (· = w.heap.size + 1 + 1) w2 (w2.setCells (w.heap.size + 1 + 1) 3 [.slice A5 n5 c5]) := only_setCells _ _ _ _ (Only.refl _ _) (.inl rfl)
       generalize w2.setCells (w.heap.size + 1 + 1) 3 [.slice A5 n5 c5] = V2 at *
       have hbox2 := hbox.only hon2 (fun p hp => by rw [List.mem_singleton.1 hp]; show w.heap.size ≠ _; omega)
       have hres2 := hres.only hon2 (fun p hp => by rw [List.mem_singleton.1 hp]; show w.heap.size + 1 ≠ _; omega)
       have hH2 := hH.only hon2 (fun p hp => by have := hM1b p hp; omega)
       have hBV2 : Below w.heap.size w V2 := Only.below hBw2 (by omega) hon2 (fun k hk => by omega)
       have sV2 : w2.heap.size ≤ V2.heap.size := hon2.size
       obtain ⟨e0, e1, e2, e3, e4⟩ := tbox_cells hbox2.get
       have e4' : ∀ o : Obj, (V2.alloc o).cell? ⟨w.heap.size, 4, none⟩ = some (.slice A2 n2 c2) := fun o => (((Below.refl V2.heap.size V2).alloc (Nat.le_refl _) o).cell (block_lt_of_cell e4)).trans e4
       clear d0 d1 d2 d3 d4)
    | ((with_reducible refine gate_dst (N := 13) rfl ?_); refine wpList_append_row rfl _ _ 23 rfl w.heap.size 9 j0 _ 1 16 Try.underlying23 HJ.out hy0 ht0 hc0 rfl (by decide) _ [] _ rfl (own_empty V2.heap.size _ _ _ (by omega)) (holds_new rfl) _ (t.slots.map strCell) L2 rfl h2 ((H2.below hBV2).alloc _) (oneCell_strs _) (by simp; omega) (by decide) (by simp; omega) ?_; intro s2 w3 M2 ho3 hH3 hon3 hat3
       obtain ⟨A6, n6, c6, rfl⟩ := ho3.row.slice
       have sV3 : V2.heap.size < w3.heap.size := by have := hon3.size; simp at this; omega
       have hap : ∀ k, k < V2.heap.size → ¬ Blk [(V2.heap.size, Obj.cells #[] 9 (0, 0))] k := fun k hk ⟨p, hp, hpk⟩ => by rw [List.mem_singleton.1 hp] at hpk; simp only at hpk; omega
       have hcop3 : Holds w3 [(w.heap.size + 1 + 1, .cells #[.int .i64 t.kind, .int .i64 t.size, .int .i64 t.most, .slice A5 n5 c5, .slice A2 n2 c2] 27 (0, 0))] := ((Holds.one hcop2).alloc _).only hon3 (fun p hp => by rw [List.mem_singleton.1 hp]; exact hap _ (by omega))
       have hres3 := (hres2.alloc (.cells #[] 9)).only hon3 (fun p hp => by rw [List.mem_singleton.1 hp]; exact hap _ (by omega))
       have hM13 := (hH2.alloc (.cells #[] 9)).only hon3 (fun p hp => hap _ (hH2.lt hp))
       have hB3 : Below w.heap.size w w3 := Only.below (below_alloc' hBV2 _) (by simp; omega) hon3 (fun k ⟨p, hp, hpk⟩ => by rw [List.mem_singleton.1 hp] at hpk; simp only at hpk; omega)
       have hth4 : w3.there (w.heap.size + 1 + 1) 4 1 := fun j hj => ⟨by simp [World.cell?, hcop3.get]; omega, frozen_of_row w3 _ _ _ _ hcop3.get⟩)
    | ((with_reducible refine gate_store (p := 14) rfl ?_); refine wpList_put rfl 23 _ _ rfl (w.heap.size + 1 + 1) 4 [.slice A6 n6 c6] rfl rfl hth4 (by kernel_rfl) rfl ?_
       have hcop4 : (w3.setCells (w.heap.size + 1 + 1) 4 [.slice A6 n6 c6]).heap[w.heap.size + 1 + 1]? = some (.cells #[.int .i64 t.kind, .int .i64 t.size, .int .i64 t.most, .slice A5 n5 c5, .slice A6 n6 c6] 27 (0, 0)) := heap_setCells _ 4 _ w3 hcop3.get (by simp)
       have hon4 : Only (· = w.heap.size + 1 + 1) w3 (w3.setCells (w.heap.size + 1 + 1) 4 [.slice A6 n6 c6]) := only_setCells _ _ _ _ (Only.refl _ _) (.inl rfl)
       generalize w3.setCells (w.heap.size + 1 + 1) 4 [.slice A6 n6 c6] = V4 at *
       have hres4 := hres3.only hon4 (fun p hp => by rw [List.mem_singleton.1 hp]; show w.heap.size + 1 ≠ _; omega)
       obtain ⟨f0, f1, f2, f3, f4⟩ := tbox_cells hcop4
       have hth5 : V4.there (w.heap.size + 1) 0 5 := fun j hj => ⟨by simp [World.cell?, hres4.get]; omega, frozen_of_row V4 _ _ _ _ hres4.get⟩)
    | ((with_reducible refine gate_store (p := 2) rfl ?_); refine wpList_put rfl 27 _ _ rfl (w.heap.size + 1) 0 [.int .i64 t.kind, .int .i64 t.size, .int .i64 t.most, .slice A5 n5 c5, .slice A6 n6 c6] rfl rfl hth5 (by kernel_rfl) rfl ?_))
  have hfin : (V4.setCells (w.heap.size + 1) 0 [.int .i64 t.kind, .int .i64 t.size, .int .i64 t.most, .slice A5 n5 c5, .slice A6 n6 c6]).heap[w.heap.size + 1]? = some (.cells #[.int .i64 t.kind, .int .i64 t.size, .int .i64 t.most, .slice A5 n5 c5, .slice A6 n6 c6] 27 (0, 0)) := heap_setCells _ 0 _ V4 hres4.get (by simp)
  have honly : Only (fun x => x = w.heap.size + 1 + 1 ∨ x = w.heap.size + 1) w3 (V4.setCells (w.heap.size + 1) 0 [.int .i64 t.kind, .int .i64 t.size, .int .i64 t.most, .slice A5 n5 c5, .slice A6 n6 c6]) := (hon4.mono (fun _ _ h => .inl h)).trans (only_setCells _ _ _ _ (Only.refl _ _) (.inl (.inr rfl)))
  generalize V4.setCells (w.heap.size + 1) 0 [.int .i64 t.kind, .int .i64 t.size, .int .i64 t.most, .slice A5 n5 c5, .slice A6 n6 c6] = V5 at *
  obtain ⟨g0, g1, g2, g3, g4⟩ := tbox_cells hfin
  have hM2b : ∀ p ∈ M2, V2.heap.size ≤ p.1 := fun p hp => by
    rcases hat3 with h | ⟨o, h⟩
    · have := List.mem_map_of_mem (f := Prod.fst) hp
      rw [h] at this
      simp at this
      omega
    · rw [h] at hp
      rw [List.mem_singleton.1 hp]
      simp
  refine bodyPost_ret (v := .agg #[.int .i64 t.kind, .int .i64 t.size, .int .i64 t.most, .slice A5 n5 c5, .slice A6 n6 c6]) (by simp [results, Try.results33, go_sem, g0, g1, g2, g3, g4]) rfl ⟨_, _, rfl, M1, by simpa using ho, M2, by simpa using ho3, hM13.only honly (fun p hp h => by have := hM1b p hp; omega), hH3.only honly (fun p hp h => by have := hM2b p hp; omega), fun p hp q hq h => ?_, Only.below hB3 hB3.size honly (fun k h => by omega)⟩
  have := hH2.lt hp
  have := hM2b q hq
  omega
end Go.Proofs.Ytoimeebildcofaa
