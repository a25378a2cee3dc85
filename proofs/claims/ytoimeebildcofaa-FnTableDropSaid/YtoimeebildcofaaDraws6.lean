/- The walks of the reference's draws for the laws of tables. -/
import Derived.Test.YtoimeebildcofaaDraws5
namespace Go.Proofs.Ytoimeebildcofaa
open Go.RowKit
set_option maxRecDepth 100000 in
set_option maxHeartbeats 6400000 in
theorem drawTableDrop_calls (v : Value) (vs : List Int) (L : Blocks) (w : World) (h : Row 1 v (vs.map byteCell) L) (H : Holds w L) (hs : ∀ v, v ∈ vs → 0 ≤ v ∧ v ≤ 255) :
    Calls Try.prog 14 #[v] w fun e w' => ∃ (u : Table) (kv sv : Value) (x : Int), e = .returned (.tuple #[.agg #[.int .i64 u.kind, .int .i64 u.size, .int .i64 u.most, kv, sv], .int .i64 x]) ∧ u.keys.length ≤ 9 ∧ u.slots.length ≤ 9 ∧ (∃ M1 M2, OwnT w.heap.size u kv sv M1 M2 w') ∧ Below w.heap.size w w' := by
  have hs : _ := hs
  have Kr := holds_new (w := w) (o := zcells) rfl
  go_enter Try.func14, Try.ntmps14
  go_wp2_with fail
  refine (openRd_calls v vs L _ h (H.alloc _) hs).mono ?_
  rintro e w1 ⟨rfl, s, us, R, hb⟩
  try simp only [heap_size_alloc'] at R
  have hB : Below w.heap.size w w1 := bnext (below_alloc' (Below.refl _ w) zcells) hb
  have Kr := Kr.below hb
  have hg1 := R.lt
  clear hb
  go_wp2_with fail
  refine (l20AnyTable_calls _ _ s us L 0 R (by omega)).mono ?_
  rintro e w2 ⟨u, k2, s2, rfl, hsk, hss, ⟨M1, M2, T⟩, ⟨k', hk', R⟩, o⟩
  obtain ⟨A1, n1, c1, rfl⟩ := T.1.row.slice
  obtain ⟨A2, n2, c2, rfl⟩ := T.2.1.row.slice
  have T := T.lower (B' := w.heap.size + 2) (by omega)
  have Kr := Kr.only o (fun p hp (e : p.1 = w.heap.size + 1) => by rw [List.mem_singleton.1 hp] at e; simp only at e; omega)
  have hB := hB.trans (below_only' o (fun k hk => by omega) hB.size)
  have hs2 := o.size
  clear o
  go_wp2_with ((with_reducible refine gate_store (p := 5) rfl ?_); go_loud (
         refine wpList_put rfl 27 _ _ rfl w2.heap.size 0 [.int .i64 u.kind, .int .i64 u.size, .int .i64 u.most, (.slice A1 n1 c1), (.slice A2 n2 c2)] rfl rfl (newbox' w2 u (.slice A1 n1 c1) (.slice A2 n2 c2)).1 (by kernel_rfl) rfl ?_
         obtain ⟨_, G, hb, sb⟩ := newbox' w2 u (.slice A1 n1 c1) (.slice A2 n2 c2)
         have T := T.below hb
         have Kr := Kr.below hb
         have R := R.below hb
         have hB := bnext hB hb
         generalize (w2.alloc zcells).setCells w2.heap.size 0 [.int .i64 u.kind, .int .i64 u.size, .int .i64 u.most, (.slice A1 n1 c1), (.slice A2 n2 c2)] = w3 at *
         clear hb
         skip))

  refine wp_region_plan [3] (.one 1 .pure (.one 0 .load (.one 2 .act (.one 3 .last (.one 4 .pure .done))))) (fun w' => ∃ q : Kept (fun w' => w'.heap[w2.heap.size]? = some (tcells u (.slice A1 n1 c1) (.slice A2 n2 c2))), w' = q.w) (by kernel_rfl) (by kernel_rfl) (fun _ _ d _ _ h => by cases d <;> exact h) ?_
  simp only [Plan.pick, List.getElem?_cons_zero, List.getElem?_cons_succ]
  have hB : Below _ _ w3.drew := below_drewN' hB 1
  have q0 : ∀ q : Kept (fun w' => w'.heap[w2.heap.size]? = some (tcells u (.slice A1 n1 c1) (.slice A2 n2 c2))), q.w.cell? ⟨w2.heap.size, 0, none⟩ = some (.int .i64 u.kind) := fun q => (tbox_cells q.kept).1
  have q1 : ∀ q : Kept (fun w' => w'.heap[w2.heap.size]? = some (tcells u (.slice A1 n1 c1) (.slice A2 n2 c2))), q.w.cell? ⟨w2.heap.size, 1, none⟩ = some (.int .i64 u.size) := fun q => (tbox_cells q.kept).2.1
  have q2 : ∀ q : Kept (fun w' => w'.heap[w2.heap.size]? = some (tcells u (.slice A1 n1 c1) (.slice A2 n2 c2))), q.w.cell? ⟨w2.heap.size, 2, none⟩ = some (.int .i64 u.most) := fun q => (tbox_cells q.kept).2.2.1
  have q3 : ∀ q : Kept (fun w' => w'.heap[w2.heap.size]? = some (tcells u (.slice A1 n1 c1) (.slice A2 n2 c2))), q.w.cell? ⟨w2.heap.size, 3, none⟩ = some (.slice A1 n1 c1) := fun q => (tbox_cells q.kept).2.2.2.1
  have q4 : ∀ q : Kept (fun w' => w'.heap[w2.heap.size]? = some (tcells u (.slice A1 n1 c1) (.slice A2 n2 c2))), q.w.cell? ⟨w2.heap.size, 4, none⟩ = some (.slice A2 n2 c2) := fun q => (tbox_cells q.kept).2.2.2.2
  have hS : w3.drew.heap[w2.heap.size]? = some (tcells u (.slice A1 n1 c1) (.slice A2 n2 c2)) := G.get
  have T : OwnT (w.heap.size + 2) u (.slice A1 n1 c1) (.slice A2 n2 c2) M1 M2 w3.drew := T
  have Kr : Holds w3.drew [(w.heap.size, zcells)] := Kr
  have R := R.below (below_drewN' (Below.refl _ w3) 1)
  have hKn : Nonempty (Kept (fun w' => w'.heap[w2.heap.size]? = some (tcells u (.slice A1 n1 c1) (.slice A2 n2 c2)))) := ⟨⟨_, hS⟩⟩
  refine plan_pure (fun K hK => ?_); go_simp; refine hK _ _ ?_; clear hK K
  refine plan_load (fun K hK => ?_); go_simp; refine ⟨⟨⟨_, hS⟩, rfl⟩, hK _ _ ?_⟩; clear hK K
  refine plan_act ?_
  clear q0 q1 q2 q3 q4
  go_wp2_with fail
  refine (l20Key_calls _ _ s us L _ R (by omega)).mono ?_
  rintro e w20 ⟨⟨x, rfl, hx⟩, ⟨k20, hk20, R⟩, o⟩
  have T := T.only o (fun p hp (e : p.1 = w.heap.size + 1) => by have := T.base' p hp; omega)
  have Kr := Kr.only o (fun p hp (e : p.1 = w.heap.size + 1) => by rw [List.mem_singleton.1 hp] at e; simp only at e; omega)
  have hB := hB.trans (below_only' o (fun k hk => by omega) hB.size)
  have hS := ((Holds.one hS).only o (fun p hp (e : p.1 = w.heap.size + 1) => by rw [List.mem_singleton.1 hp] at e; simp only at e; omega)).get
  clear o hx
  go_wp2
  refine ⟨⟨⟨_, hS⟩, rfl⟩, ?_⟩
  refine plan_last_ ?_
  obtain ⟨hth, hfin, hon⟩ := tput (t0 := Table.zero) Kr.get u (.slice A1 n1 c1) (.slice A2 n2 c2)
  go_wp2_with ((with_reducible refine gate_store (p := 2) rfl ?_); refine wpList_put rfl 27 _ _ rfl w.heap.size 0 [.int .i64 u.kind, .int .i64 u.size, .int .i64 u.most, (.slice A1 n1 c1), (.slice A2 n2 c2)] rfl rfl hth (by kernel_rfl) rfl ?_)
  have hTf := (T.beside hon (fun p hp => by have := T.1.base p hp; omega) (fun p hp => by have := T.2.1.base p hp; omega)).lower (B' := w.heap.size) (by omega)
  have hBf := hB.trans (below_only' hon (fun k hk => by omega) hB.size)
  obtain ⟨g0, g1, g2, g3, g4⟩ := tbox_cells hfin
  generalize w20.setCells w.heap.size 0 [.int .i64 u.kind, .int .i64 u.size, .int .i64 u.most, (.slice A1 n1 c1), (.slice A2 n2 c2)] = w21 at *
  clear hth hfin hon
  refine plan_pure (fun K hK => ?_); go_simp; refine hK _ _ ?_; clear hK K
  refine plan_done ?_
  go_wp2
  refine bodyPost_ret (v := .tuple #[.agg #[.int .i64 u.kind, .int .i64 u.size, .int .i64 u.most, (.slice A1 n1 c1), (.slice A2 n2 c2)], .int .i64 x]) (by simp [results, Try.results14, go_sem, g0, g1, g2, g3, g4]) rfl ⟨u, _, _, x, rfl, hsk, hss, ⟨M1, M2, hTf⟩, hBf⟩

end Go.Proofs.Ytoimeebildcofaa
