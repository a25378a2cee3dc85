/- The walk of the reference's branch. -/
import Derived.Test.YtoimeebildcofaaWRangeS4
import Derived.Test.YtoimeebildcofaaWRangeS5
namespace Go.Proofs.Ytoimeebildcofaa
open Go.RowKit
set_option maxRecDepth 100000 in
set_option maxHeartbeats 3200000 in
theorem l2Branch12t (t u : Rg) (ot : t.Ok) (ou : u.Ok) (w : World) :
    Calls Try.prog 91 #[.int .i64 (12), .agg #[.int .i64 t.lo, .int .i64 t.hi, .int .i64 t.bits, .int .i64 t.opn], .agg #[.int .i64 u.lo, .int .i64 u.hi, .int .i64 u.bits, .int .i64 u.opn], .bool true] w fun e w' => ∃ (x y : Rg) (ok : Bool), e = .returned (.tuple #[.agg #[.int .i64 x.lo, .int .i64 x.hi, .int .i64 x.bits, .int .i64 x.opn], .agg #[.int .i64 y.lo, .int .i64 y.hi, .int .i64 y.bits, .int .i64 y.opn], .bool ok]) ∧ Rg.branch 12 t u true = ifTwo ok x y ∧ Below w.heap.size w w' := by
  go_enter Try.func91, Try.ntmps91
  go_wp2_with fail
  obtain ⟨hB, hs0, x0, x1, y2, y3⟩ := boxes4 w (rcells t.lo t.hi t.bits t.opn) (rcells u.lo u.hi u.bits u.opn) (rcells 0 0 0 0) (rcells 0 0 0 0)
  obtain ⟨W, hW⟩ : ∃ W, (((w.alloc (.cells #[.int .i64 t.lo, .int .i64 t.hi, .int .i64 t.bits, .int .i64 t.opn] 80)).alloc (.cells #[.int .i64 u.lo, .int .i64 u.hi, .int .i64 u.bits, .int .i64 u.opn] 80)).alloc (.cells #[.int .i64 0, .int .i64 0, .int .i64 0, .int .i64 0] 80)).alloc (.cells #[.int .i64 0, .int .i64 0, .int .i64 0, .int .i64 0] 80) = W := ⟨_, rfl⟩
  rw [hW]
  have hB : Below w.heap.size w W := hW ▸ hB
  have hs0 : W.heap.size = w.heap.size + 4 := hW ▸ hs0
  have x0 : W.heap[w.heap.size]? = some (rcells t.lo t.hi t.bits t.opn) := hW ▸ x0
  have x1 : W.heap[w.heap.size + 1]? = some (rcells u.lo u.hi u.bits u.opn) := hW ▸ x1
  have y2 : W.heap[w.heap.size + 1 + 1]? = some (rcells 0 0 0 0) := hW ▸ y2
  have y3 : W.heap[w.heap.size + 1 + 1 + 1]? = some (rcells 0 0 0 0) := hW ▸ y3
  clear hW
  refine (l2Meet_calls t u ot ou _).mono ?_
  rintro e w5 ⟨x, ok, rfl, hr, hb⟩
  have hB := bnext hB hb
  have zz5 := hb.size
  have y2 := Below.keep hb y2
  have y3 := Below.keep hb y3
  have HM : Hid (Rg.branch 12 t u true = ifTwo ok x x) := (branch_meet t u (by decide) (by decide) (by decide)).trans (by rw [hr, map_two])
  clear hb hr x0 x1
  go_wp2_with fail
  have hb := below_alloc' (Below.refl w5.heap.size w5) (rcells x.lo x.hi x.bits x.opn)
  have n0 := alloc_at' w5 (rcells x.lo x.hi x.bits x.opn)
  have hs1 := alloc_size w5 (rcells x.lo x.hi x.bits x.opn)
  obtain ⟨W2, hW⟩ : ∃ W, w5.alloc (.cells #[.int .i64 x.lo, .int .i64 x.hi, .int .i64 x.bits, .int .i64 x.opn] 80) = W := ⟨_, rfl⟩
  rw [hW]
  have hb : Below w5.heap.size w5 W2 := hW ▸ hb
  have hs1 : W2.heap.size = w5.heap.size + 1 := hW ▸ hs1
  have n0 : W2.heap[w5.heap.size]? = some (rcells x.lo x.hi x.bits x.opn) := hW ▸ n0
  have hB := bnext hB hb
  have y2 := Below.keep hb y2
  have y3 := Below.keep hb y3
  have zW : w.heap.size + 4 ≤ W2.heap.size := by omega
  have zw5 : w.heap.size + 4 ≤ w5.heap.size := by omega
  clear hW hb
  refine wp_region_plan [] (.one 2 .pure (.one 0 .load (.one 1 .load (.one 3 .act (.one 4 .act (.one 5 .pure .done)))))) (fun w' => ∃ q : Kept (fun w' => w'.heap[w5.heap.size]? = some (rcells x.lo x.hi x.bits x.opn)), w' = q.w) (by kernel_rfl) (by kernel_rfl) (fun _ _ d _ _ h => by cases d <;> exact h) ?_
  simp only [Plan.pick, List.getElem?_cons_zero, List.getElem?_cons_succ]
  have hB : Below _ _ W2.drew := below_drewN' hB 1
  have n0 : W2.drew.heap[w5.heap.size]? = some (rcells x.lo x.hi x.bits x.opn) := n0
  have hS : W2.drew.heap[w5.heap.size]? = some (rcells x.lo x.hi x.bits x.opn) := n0
  have y2 : W2.drew.heap[w.heap.size + 1 + 1]? = some (rcells 0 0 0 0) := y2
  have y3 : W2.drew.heap[w.heap.size + 1 + 1 + 1]? = some (rcells 0 0 0 0) := y3
  have zW : w.heap.size + 4 ≤ W2.drew.heap.size := zW
  have q0 : ∀ q : Kept (fun w' => w'.heap[w5.heap.size]? = some (rcells x.lo x.hi x.bits x.opn)), q.w.cell? ⟨w5.heap.size, 0, none⟩ = some (.int .i64 x.lo) := fun q => (rat q.kept).1
  have q1 : ∀ q : Kept (fun w' => w'.heap[w5.heap.size]? = some (rcells x.lo x.hi x.bits x.opn)), q.w.cell? ⟨w5.heap.size, 1, none⟩ = some (.int .i64 x.hi) := fun q => (rat q.kept).2.1
  have q2 : ∀ q : Kept (fun w' => w'.heap[w5.heap.size]? = some (rcells x.lo x.hi x.bits x.opn)), q.w.cell? ⟨w5.heap.size, 2, none⟩ = some (.int .i64 x.bits) := fun q => (rat q.kept).2.2.1
  have q3 : ∀ q : Kept (fun w' => w'.heap[w5.heap.size]? = some (rcells x.lo x.hi x.bits x.opn)), q.w.cell? ⟨w5.heap.size, 3, none⟩ = some (.int .i64 x.opn) := fun q => (rat q.kept).2.2.2
  have hKn : Nonempty (Kept (fun w' => w'.heap[w5.heap.size]? = some (rcells x.lo x.hi x.bits x.opn))) := ⟨⟨_, hS⟩⟩
  refine plan_pure (fun K hK => ?_); go_simp; refine hK _ _ ?_; clear hK K
  refine plan_load (fun K hK => ?_); go_simp; refine ⟨⟨⟨_, hS⟩, rfl⟩, hK _ _ ?_⟩; clear hK K
  refine plan_load (fun K hK => ?_); go_simp; refine ⟨⟨⟨_, hS⟩, rfl⟩, hK _ _ ?_⟩; clear hK K
  refine plan_act ?_
  clear q0 q1 q2 q3
  obtain ⟨th1, V5, hw1, y2, o1⟩ := rput4 y2 x.lo x.hi x.bits x.opn
  have y3 := Only.keep o1 y3 (by omega)
  have n0 := Only.keep o1 n0 (by omega)
  have zW := Nat.le_trans zW o1.size
  have hB := hB.trans (below_upon o1 (fun k hk => by omega) (by omega))
  go_wp2_with ((with_reducible refine gate_store (p := 8) rfl ?_); go_loud (refine wpList_put rfl 80 _ _ rfl (w.heap.size + 1 + 1) 0 [.int .i64 x.lo, .int .i64 x.hi, .int .i64 x.bits, .int .i64 x.opn] rfl rfl th1.out (by kernel_rfl) rfl ?_; rw [hw1.out]))
  have hS := n0
  refine ⟨⟨⟨_, hS⟩, rfl⟩, ?_⟩
  refine plan_act ?_
  obtain ⟨th2, V6, hw2, y3, o2⟩ := rput4 y3 x.lo x.hi x.bits x.opn
  have y2 := Only.keep o2 y2 (by omega)
  have n0 := Only.keep o2 n0 (by omega)
  have zW := Nat.le_trans zW o2.size
  have hB := hB.trans (below_upon o2 (fun k hk => by omega) (by omega))
  go_wp2_with ((with_reducible refine gate_store (p := 9) rfl ?_); go_loud (refine wpList_put rfl 80 _ _ rfl (w.heap.size + 1 + 1 + 1) 0 [.int .i64 x.lo, .int .i64 x.hi, .int .i64 x.bits, .int .i64 x.opn] rfl rfl th2.out (by kernel_rfl) rfl ?_; rw [hw2.out]))
  have hS := n0
  refine ⟨⟨⟨_, hS⟩, rfl⟩, ?_⟩
  refine plan_pure (fun K hK => ?_); go_simp; refine hK _ _ ?_; clear hK K
  refine plan_done ?_
  go_wp2
  obtain ⟨g0, g1, g2, g3⟩ := rat y2
  obtain ⟨f0, f1, f2, f3⟩ := rat y3
  refine bodyPost_ret (v := .tuple #[.agg #[.int .i64 x.lo, .int .i64 x.hi, .int .i64 x.bits, .int .i64 x.opn], .agg #[.int .i64 x.lo, .int .i64 x.hi, .int .i64 x.bits, .int .i64 x.opn], .bool ok]) (by simp [results, Try.results91, go_sem, g0, g1, g2, g3, f0, f1, f2, f3]) rfl ⟨x, x, ok, rfl, HM.out, hB⟩
set_option maxRecDepth 100000 in
set_option maxHeartbeats 3200000 in
theorem l2Branch12f (t u : Rg) (ot : t.Ok) (ou : u.Ok) (w : World) :
    Calls Try.prog 91 #[.int .i64 (12), .agg #[.int .i64 t.lo, .int .i64 t.hi, .int .i64 t.bits, .int .i64 t.opn], .agg #[.int .i64 u.lo, .int .i64 u.hi, .int .i64 u.bits, .int .i64 u.opn], .bool false] w fun e w' => ∃ (x y : Rg) (ok : Bool), e = .returned (.tuple #[.agg #[.int .i64 x.lo, .int .i64 x.hi, .int .i64 x.bits, .int .i64 x.opn], .agg #[.int .i64 y.lo, .int .i64 y.hi, .int .i64 y.bits, .int .i64 y.opn], .bool ok]) ∧ Rg.branch 12 t u false = ifTwo ok x y ∧ Below w.heap.size w w' := by
  go_enter Try.func91, Try.ntmps91
  go_wp2_with fail
  obtain ⟨hB, hs0, x0, x1, y2, y3⟩ := boxes4 w (rcells t.lo t.hi t.bits t.opn) (rcells u.lo u.hi u.bits u.opn) (rcells 0 0 0 0) (rcells 0 0 0 0)
  obtain ⟨W, hW⟩ : ∃ W, (((w.alloc (.cells #[.int .i64 t.lo, .int .i64 t.hi, .int .i64 t.bits, .int .i64 t.opn] 80)).alloc (.cells #[.int .i64 u.lo, .int .i64 u.hi, .int .i64 u.bits, .int .i64 u.opn] 80)).alloc (.cells #[.int .i64 0, .int .i64 0, .int .i64 0, .int .i64 0] 80)).alloc (.cells #[.int .i64 0, .int .i64 0, .int .i64 0, .int .i64 0] 80) = W := ⟨_, rfl⟩
  rw [hW]
  have hB : Below w.heap.size w W := hW ▸ hB
  have hs0 : W.heap.size = w.heap.size + 4 := hW ▸ hs0
  have x0 : W.heap[w.heap.size]? = some (rcells t.lo t.hi t.bits t.opn) := hW ▸ x0
  have x1 : W.heap[w.heap.size + 1]? = some (rcells u.lo u.hi u.bits u.opn) := hW ▸ x1
  have y2 : W.heap[w.heap.size + 1 + 1]? = some (rcells 0 0 0 0) := hW ▸ y2
  have y3 : W.heap[w.heap.size + 1 + 1 + 1]? = some (rcells 0 0 0 0) := hW ▸ y3
  clear hW
  refine (l2Apart_calls t u ot ou.fits _).mono ?_
  rintro e w5 ⟨x, one, rfl, hr, hb⟩
  have hB := bnext hB hb
  have zz5 := hb.size
  have y2 := Below.keep hb y2
  have y3 := Below.keep hb y3
  have x0 := Below.keep hb x0
  have x1 := Below.keep hb x1
  clear hb
  obtain ⟨q0, q1, q2, q3⟩ := rat (alloc_keep (.cells #[.int .i64 x.lo, .int .i64 x.hi, .int .i64 x.bits, .int .i64 x.opn] 80) x0)
  obtain ⟨p0, p1, p2, p3⟩ := rat (alloc_keep (.cells #[.int .i64 x.lo, .int .i64 x.hi, .int .i64 x.bits, .int .i64 x.opn] 80) x1)
  have hb := below_alloc' (Below.refl w5.heap.size w5) (rcells x.lo x.hi x.bits x.opn)
  have n0 := alloc_at' w5 (rcells x.lo x.hi x.bits x.opn)
  have hs1 := alloc_size w5 (rcells x.lo x.hi x.bits x.opn)
  have y2 := Below.keep hb y2
  have y3 := Below.keep hb y3
  have hB := bnext hB hb
  clear hb
  go_wp2_with fail
  refine (l2Apart_calls u t ou ot.fits _).mono ?_
  rintro e w6 ⟨y, tw, rfl, hr', hb⟩
  have hB := bnext hB hb
  have zz6 := hb.size
  have y2 := Below.keep hb y2
  have y3 := Below.keep hb y3
  have n0 := Below.keep hb n0
  have hr2 : Rg.branch 12 t u false = ifTwo (one && tw) x y := (branch_both t u (by decide) (by decide) (by decide)).trans (by rw [hr, hr', two_some])
  clear hb hr hr' q0 q1 q2 q3 p0 p1 p2 p3 x0 x1
  have hb := below_alloc' (Below.refl w6.heap.size w6) (.cells #[.int .i64 y.lo, .int .i64 y.hi, .int .i64 y.bits, .int .i64 y.opn] 80)
  have n1 := alloc_at' w6 (.cells #[.int .i64 y.lo, .int .i64 y.hi, .int .i64 y.bits, .int .i64 y.opn] 80)
  have hB := bnext hB hb
  have y2 := Below.keep hb y2
  have y3 := Below.keep hb y3
  have n0 := Below.keep hb n0
  have zw5 : w.heap.size + 4 ≤ w5.heap.size := by omega
  have zw6 : w5.heap.size + 1 ≤ w6.heap.size := by rw [alloc_size] at zz6; omega
  clear hb
  cases hot : (one && tw) with
  | false =>
    rw [hot] at hr2
    have HM : Hid (Rg.branch 12 t u false = ifTwo false Rg.no Rg.no) := hr2.trans (ifTwo_false _ _ _ _)
    clear hr2
    cases one with
    | false =>
      obtain ⟨th1, V3, hw1, y2, o1⟩ := rput4 y2 1 0 0 0
      have y3 := Only.keep o1 y3 (by omega)
      have hB := hB.trans (below_upon o1 (fun k hk => by omega) hB.size)
      obtain ⟨th2, V4, hw2, y3, o2⟩ := rput4 y3 1 0 0 0
      have y2 := Only.keep o2 y2 (by omega)
      have z5 := o1.size
      have hB := hB.trans (below_upon o2 (fun k hk => by omega) hB.size)
      go_wp2_with (first | ((with_reducible refine gate_store (p := 8) rfl ?_); go_loud (refine wpList_put rfl 80 _ _ rfl (w.heap.size + 1 + 1) 0 [.int .i64 1, .int .i64 0, .int .i64 0, .int .i64 0] rfl rfl th1.out (by kernel_rfl) rfl ?_; rw [hw1.out])) | ((with_reducible refine gate_store (p := 9) rfl ?_); go_loud (refine wpList_put rfl 80 _ _ rfl (w.heap.size + 1 + 1 + 1) 0 [.int .i64 1, .int .i64 0, .int .i64 0, .int .i64 0] rfl rfl th2.out (by kernel_rfl) rfl ?_; rw [hw2.out])))
      obtain ⟨g0, g1, g2, g3⟩ := rat y2
      obtain ⟨f0, f1, f2, f3⟩ := rat y3
      refine bodyPost_ret (v := .tuple #[.agg #[.int .i64 1, .int .i64 0, .int .i64 0, .int .i64 0], .agg #[.int .i64 1, .int .i64 0, .int .i64 0, .int .i64 0], .bool false]) (by simp [results, Try.results91, go_sem, g0, g1, g2, g3, f0, f1, f2, f3]) rfl ⟨Rg.no, Rg.no, false, rfl, HM.out, hB⟩
    | true =>
      simp only [Bool.true_and] at hot
      subst hot
      obtain ⟨th1, V3, hw1, y2, o1⟩ := rput4 y2 1 0 0 0
      have y3 := Only.keep o1 y3 (by omega)
      have hB := hB.trans (below_upon o1 (fun k hk => by omega) hB.size)
      obtain ⟨th2, V4, hw2, y3, o2⟩ := rput4 y3 1 0 0 0
      have y2 := Only.keep o2 y2 (by omega)
      have z5 := o1.size
      have hB := hB.trans (below_upon o2 (fun k hk => by omega) hB.size)
      go_wp2_with (first | ((with_reducible refine gate_store (p := 8) rfl ?_); go_loud (refine wpList_put rfl 80 _ _ rfl (w.heap.size + 1 + 1) 0 [.int .i64 1, .int .i64 0, .int .i64 0, .int .i64 0] rfl rfl th1.out (by kernel_rfl) rfl ?_; rw [hw1.out])) | ((with_reducible refine gate_store (p := 9) rfl ?_); go_loud (refine wpList_put rfl 80 _ _ rfl (w.heap.size + 1 + 1 + 1) 0 [.int .i64 1, .int .i64 0, .int .i64 0, .int .i64 0] rfl rfl th2.out (by kernel_rfl) rfl ?_; rw [hw2.out])))
      obtain ⟨g0, g1, g2, g3⟩ := rat y2
      obtain ⟨f0, f1, f2, f3⟩ := rat y3
      refine bodyPost_ret (v := .tuple #[.agg #[.int .i64 1, .int .i64 0, .int .i64 0, .int .i64 0], .agg #[.int .i64 1, .int .i64 0, .int .i64 0, .int .i64 0], .bool false]) (by simp [results, Try.results91, go_sem, g0, g1, g2, g3, f0, f1, f2, f3]) rfl ⟨Rg.no, Rg.no, false, rfl, HM.out, hB⟩
  | true =>
    rw [hot] at hr2
    have HM := Lib.hid hr2
    clear hr2
    obtain ⟨rfl, rfl⟩ : one = true ∧ tw = true := by simpa using hot
    clear hot
    go_wp2_with fail
    obtain ⟨W2, hW⟩ : ∃ W, w6.alloc (.cells #[.int .i64 y.lo, .int .i64 y.hi, .int .i64 y.bits, .int .i64 y.opn] 80) = W := ⟨_, rfl⟩
    rw [hW]
    have hB : Below w.heap.size w W2 := hW ▸ hB
    have n0 : W2.heap[w5.heap.size]? = some (rcells x.lo x.hi x.bits x.opn) := hW ▸ n0
    have n1 : W2.heap[w6.heap.size]? = some (rcells y.lo y.hi y.bits y.opn) := hW ▸ n1
    have y2 : W2.heap[w.heap.size + 1 + 1]? = some (rcells 0 0 0 0) := hW ▸ y2
    have y3 : W2.heap[w.heap.size + 1 + 1 + 1]? = some (rcells 0 0 0 0) := hW ▸ y3
    have hs2 : W2.heap.size = w6.heap.size + 1 := hW ▸ alloc_size w6 _
    have zW : w.heap.size + 4 ≤ W2.heap.size := by omega
    clear hW
    refine wp_region_plan [] (.one 0 .load (.one 1 .load (.one 2 .act (.one 3 .act (.one 4 .pure .done))))) (fun w' => ∃ q : Kept (fun w' => w'.heap[w5.heap.size]? = some (rcells x.lo x.hi x.bits x.opn) ∧ w'.heap[w6.heap.size]? = some (rcells y.lo y.hi y.bits y.opn)), w' = q.w) (by kernel_rfl) (by kernel_rfl) (fun _ _ d _ _ h => by cases d <;> exact h) ?_
    simp only [Plan.pick, List.getElem?_cons_zero, List.getElem?_cons_succ]
    have hB : Below _ _ W2.drew := below_drewN' hB 1
    have n0 : W2.drew.heap[w5.heap.size]? = some (rcells x.lo x.hi x.bits x.opn) := n0
    have n1 : W2.drew.heap[w6.heap.size]? = some (rcells y.lo y.hi y.bits y.opn) := n1
    have hS : W2.drew.heap[w5.heap.size]? = some (rcells x.lo x.hi x.bits x.opn) ∧ W2.drew.heap[w6.heap.size]? = some (rcells y.lo y.hi y.bits y.opn) := ⟨n0, n1⟩
    have y2 : W2.drew.heap[w.heap.size + 1 + 1]? = some (rcells 0 0 0 0) := y2
    have y3 : W2.drew.heap[w.heap.size + 1 + 1 + 1]? = some (rcells 0 0 0 0) := y3
    have zW : w.heap.size + 4 ≤ W2.drew.heap.size := zW
    have q0 : ∀ q : Kept (fun w' => w'.heap[w5.heap.size]? = some (rcells x.lo x.hi x.bits x.opn) ∧ w'.heap[w6.heap.size]? = some (rcells y.lo y.hi y.bits y.opn)), q.w.cell? ⟨w5.heap.size, 0, none⟩ = some (.int .i64 x.lo) := fun q => (rat q.kept.1).1
    have q1 : ∀ q : Kept (fun w' => w'.heap[w5.heap.size]? = some (rcells x.lo x.hi x.bits x.opn) ∧ w'.heap[w6.heap.size]? = some (rcells y.lo y.hi y.bits y.opn)), q.w.cell? ⟨w5.heap.size, 1, none⟩ = some (.int .i64 x.hi) := fun q => (rat q.kept.1).2.1
    have q2 : ∀ q : Kept (fun w' => w'.heap[w5.heap.size]? = some (rcells x.lo x.hi x.bits x.opn) ∧ w'.heap[w6.heap.size]? = some (rcells y.lo y.hi y.bits y.opn)), q.w.cell? ⟨w5.heap.size, 2, none⟩ = some (.int .i64 x.bits) := fun q => (rat q.kept.1).2.2.1
    have q3 : ∀ q : Kept (fun w' => w'.heap[w5.heap.size]? = some (rcells x.lo x.hi x.bits x.opn) ∧ w'.heap[w6.heap.size]? = some (rcells y.lo y.hi y.bits y.opn)), q.w.cell? ⟨w5.heap.size, 3, none⟩ = some (.int .i64 x.opn) := fun q => (rat q.kept.1).2.2.2
    have p0 : ∀ q : Kept (fun w' => w'.heap[w5.heap.size]? = some (rcells x.lo x.hi x.bits x.opn) ∧ w'.heap[w6.heap.size]? = some (rcells y.lo y.hi y.bits y.opn)), q.w.cell? ⟨w6.heap.size, 0, none⟩ = some (.int .i64 y.lo) := fun q => (rat q.kept.2).1
    have p1 : ∀ q : Kept (fun w' => w'.heap[w5.heap.size]? = some (rcells x.lo x.hi x.bits x.opn) ∧ w'.heap[w6.heap.size]? = some (rcells y.lo y.hi y.bits y.opn)), q.w.cell? ⟨w6.heap.size, 1, none⟩ = some (.int .i64 y.hi) := fun q => (rat q.kept.2).2.1
    have p2 : ∀ q : Kept (fun w' => w'.heap[w5.heap.size]? = some (rcells x.lo x.hi x.bits x.opn) ∧ w'.heap[w6.heap.size]? = some (rcells y.lo y.hi y.bits y.opn)), q.w.cell? ⟨w6.heap.size, 2, none⟩ = some (.int .i64 y.bits) := fun q => (rat q.kept.2).2.2.1
    have p3 : ∀ q : Kept (fun w' => w'.heap[w5.heap.size]? = some (rcells x.lo x.hi x.bits x.opn) ∧ w'.heap[w6.heap.size]? = some (rcells y.lo y.hi y.bits y.opn)), q.w.cell? ⟨w6.heap.size, 3, none⟩ = some (.int .i64 y.opn) := fun q => (rat q.kept.2).2.2.2
    have hKn : Nonempty (Kept (fun w' => w'.heap[w5.heap.size]? = some (rcells x.lo x.hi x.bits x.opn) ∧ w'.heap[w6.heap.size]? = some (rcells y.lo y.hi y.bits y.opn))) := ⟨⟨_, hS⟩⟩
    refine plan_load (fun K hK => ?_); go_simp; refine ⟨⟨⟨_, hS⟩, rfl⟩, hK _ _ ?_⟩; clear hK K
    refine plan_load (fun K hK => ?_); go_simp; refine ⟨⟨⟨_, hS⟩, rfl⟩, hK _ _ ?_⟩; clear hK K
    refine plan_act ?_
    clear q0 q1 q2 q3 p0 p1 p2 p3
    obtain ⟨th1, V5, hw1, y2, o1⟩ := rput4 y2 x.lo x.hi x.bits x.opn
    have y3 := Only.keep o1 y3 (by omega)
    have n0 := Only.keep o1 n0 (by omega)
    have n1 := Only.keep o1 n1 (by omega)
    have zW := Nat.le_trans zW o1.size
    have hB := hB.trans (below_upon o1 (fun k hk => by omega) (by omega))
    go_wp2_with ((with_reducible refine gate_store (p := 8) rfl ?_); go_loud (refine wpList_put rfl 80 _ _ rfl (w.heap.size + 1 + 1) 0 [.int .i64 x.lo, .int .i64 x.hi, .int .i64 x.bits, .int .i64 x.opn] rfl rfl th1.out (by kernel_rfl) rfl ?_; rw [hw1.out]))
    have hS := And.intro n0 n1
    refine ⟨⟨⟨_, hS⟩, rfl⟩, ?_⟩
    refine plan_act ?_
    obtain ⟨th2, V6, hw2, y3, o2⟩ := rput4 y3 y.lo y.hi y.bits y.opn
    have y2 := Only.keep o2 y2 (by omega)
    have n0 := Only.keep o2 n0 (by omega)
    have n1 := Only.keep o2 n1 (by omega)
    have zW := Nat.le_trans zW o2.size
    have hB := hB.trans (below_upon o2 (fun k hk => by omega) (by omega))
    go_wp2_with ((with_reducible refine gate_store (p := 9) rfl ?_); go_loud (refine wpList_put rfl 80 _ _ rfl (w.heap.size + 1 + 1 + 1) 0 [.int .i64 y.lo, .int .i64 y.hi, .int .i64 y.bits, .int .i64 y.opn] rfl rfl th2.out (by kernel_rfl) rfl ?_; rw [hw2.out]))
    have hS := And.intro n0 n1
    refine ⟨⟨⟨_, hS⟩, rfl⟩, ?_⟩
    refine plan_pure (fun K hK => ?_); go_simp; refine hK _ _ ?_; clear hK K
    refine plan_done ?_
    go_wp2
    obtain ⟨g0, g1, g2, g3⟩ := rat y2
    obtain ⟨f0, f1, f2, f3⟩ := rat y3
    refine bodyPost_ret (v := .tuple #[.agg #[.int .i64 x.lo, .int .i64 x.hi, .int .i64 x.bits, .int .i64 x.opn], .agg #[.int .i64 y.lo, .int .i64 y.hi, .int .i64 y.bits, .int .i64 y.opn], .bool true]) (by simp [results, Try.results91, go_sem, g0, g1, g2, g3, f0, f1, f2, f3]) rfl ⟨x, y, true, rfl, HM.out, hB⟩
set_option maxRecDepth 100000 in
set_option maxHeartbeats 3200000 in
theorem l2Branch13t (t u : Rg) (ot : t.Ok) (ou : u.Ok) (w : World) :
    Calls Try.prog 91 #[.int .i64 (13), .agg #[.int .i64 t.lo, .int .i64 t.hi, .int .i64 t.bits, .int .i64 t.opn], .agg #[.int .i64 u.lo, .int .i64 u.hi, .int .i64 u.bits, .int .i64 u.opn], .bool true] w fun e w' => ∃ (x y : Rg) (ok : Bool), e = .returned (.tuple #[.agg #[.int .i64 x.lo, .int .i64 x.hi, .int .i64 x.bits, .int .i64 x.opn], .agg #[.int .i64 y.lo, .int .i64 y.hi, .int .i64 y.bits, .int .i64 y.opn], .bool ok]) ∧ Rg.branch 13 t u true = ifTwo ok x y ∧ Below w.heap.size w w' := by
  go_enter Try.func91, Try.ntmps91
  go_wp2_with fail
  obtain ⟨hB, hs0, x0, x1, y2, y3⟩ := boxes4 w (rcells t.lo t.hi t.bits t.opn) (rcells u.lo u.hi u.bits u.opn) (rcells 0 0 0 0) (rcells 0 0 0 0)
  obtain ⟨W, hW⟩ : ∃ W, (((w.alloc (.cells #[.int .i64 t.lo, .int .i64 t.hi, .int .i64 t.bits, .int .i64 t.opn] 80)).alloc (.cells #[.int .i64 u.lo, .int .i64 u.hi, .int .i64 u.bits, .int .i64 u.opn] 80)).alloc (.cells #[.int .i64 0, .int .i64 0, .int .i64 0, .int .i64 0] 80)).alloc (.cells #[.int .i64 0, .int .i64 0, .int .i64 0, .int .i64 0] 80) = W := ⟨_, rfl⟩
  rw [hW]
  have hB : Below w.heap.size w W := hW ▸ hB
  have hs0 : W.heap.size = w.heap.size + 4 := hW ▸ hs0
  have x0 : W.heap[w.heap.size]? = some (rcells t.lo t.hi t.bits t.opn) := hW ▸ x0
  have x1 : W.heap[w.heap.size + 1]? = some (rcells u.lo u.hi u.bits u.opn) := hW ▸ x1
  have y2 : W.heap[w.heap.size + 1 + 1]? = some (rcells 0 0 0 0) := hW ▸ y2
  have y3 : W.heap[w.heap.size + 1 + 1 + 1]? = some (rcells 0 0 0 0) := hW ▸ y3
  clear hW
  refine (l2Apart_calls t u ot ou.fits _).mono ?_
  rintro e w5 ⟨x, one, rfl, hr, hb⟩
  have hB := bnext hB hb
  have zz5 := hb.size
  have y2 := Below.keep hb y2
  have y3 := Below.keep hb y3
  have x0 := Below.keep hb x0
  have x1 := Below.keep hb x1
  clear hb
  obtain ⟨q0, q1, q2, q3⟩ := rat (alloc_keep (.cells #[.int .i64 x.lo, .int .i64 x.hi, .int .i64 x.bits, .int .i64 x.opn] 80) x0)
  obtain ⟨p0, p1, p2, p3⟩ := rat (alloc_keep (.cells #[.int .i64 x.lo, .int .i64 x.hi, .int .i64 x.bits, .int .i64 x.opn] 80) x1)
  have hb := below_alloc' (Below.refl w5.heap.size w5) (rcells x.lo x.hi x.bits x.opn)
  have n0 := alloc_at' w5 (rcells x.lo x.hi x.bits x.opn)
  have hs1 := alloc_size w5 (rcells x.lo x.hi x.bits x.opn)
  have y2 := Below.keep hb y2
  have y3 := Below.keep hb y3
  have hB := bnext hB hb
  clear hb
  go_wp2_with fail
  refine (l2Apart_calls u t ou ot.fits _).mono ?_
  rintro e w6 ⟨y, tw, rfl, hr', hb⟩
  have hB := bnext hB hb
  have zz6 := hb.size
  have y2 := Below.keep hb y2
  have y3 := Below.keep hb y3
  have n0 := Below.keep hb n0
  have hr2 : Rg.branch 13 t u true = ifTwo (one && tw) x y := (branch_both t u (by decide) (by decide) (by decide)).trans (by rw [hr, hr', two_some])
  clear hb hr hr' q0 q1 q2 q3 p0 p1 p2 p3 x0 x1
  have hb := below_alloc' (Below.refl w6.heap.size w6) (.cells #[.int .i64 y.lo, .int .i64 y.hi, .int .i64 y.bits, .int .i64 y.opn] 80)
  have n1 := alloc_at' w6 (.cells #[.int .i64 y.lo, .int .i64 y.hi, .int .i64 y.bits, .int .i64 y.opn] 80)
  have hB := bnext hB hb
  have y2 := Below.keep hb y2
  have y3 := Below.keep hb y3
  have n0 := Below.keep hb n0
  have zw5 : w.heap.size + 4 ≤ w5.heap.size := by omega
  have zw6 : w5.heap.size + 1 ≤ w6.heap.size := by rw [alloc_size] at zz6; omega
  clear hb
  cases hot : (one && tw) with
  | false =>
    rw [hot] at hr2
    have HM : Hid (Rg.branch 13 t u true = ifTwo false Rg.no Rg.no) := hr2.trans (ifTwo_false _ _ _ _)
    clear hr2
    cases one with
    | false =>
      obtain ⟨th1, V3, hw1, y2, o1⟩ := rput4 y2 1 0 0 0
      have y3 := Only.keep o1 y3 (by omega)
      have hB := hB.trans (below_upon o1 (fun k hk => by omega) hB.size)
      obtain ⟨th2, V4, hw2, y3, o2⟩ := rput4 y3 1 0 0 0
      have y2 := Only.keep o2 y2 (by omega)
      have z5 := o1.size
      have hB := hB.trans (below_upon o2 (fun k hk => by omega) hB.size)
      go_wp2_with (first | ((with_reducible refine gate_store (p := 8) rfl ?_); go_loud (refine wpList_put rfl 80 _ _ rfl (w.heap.size + 1 + 1) 0 [.int .i64 1, .int .i64 0, .int .i64 0, .int .i64 0] rfl rfl th1.out (by kernel_rfl) rfl ?_; rw [hw1.out])) | ((with_reducible refine gate_store (p := 9) rfl ?_); go_loud (refine wpList_put rfl 80 _ _ rfl (w.heap.size + 1 + 1 + 1) 0 [.int .i64 1, .int .i64 0, .int .i64 0, .int .i64 0] rfl rfl th2.out (by kernel_rfl) rfl ?_; rw [hw2.out])))
      obtain ⟨g0, g1, g2, g3⟩ := rat y2
      obtain ⟨f0, f1, f2, f3⟩ := rat y3
      refine bodyPost_ret (v := .tuple #[.agg #[.int .i64 1, .int .i64 0, .int .i64 0, .int .i64 0], .agg #[.int .i64 1, .int .i64 0, .int .i64 0, .int .i64 0], .bool false]) (by simp [results, Try.results91, go_sem, g0, g1, g2, g3, f0, f1, f2, f3]) rfl ⟨Rg.no, Rg.no, false, rfl, HM.out, hB⟩
    | true =>
      simp only [Bool.true_and] at hot
      subst hot
      obtain ⟨th1, V3, hw1, y2, o1⟩ := rput4 y2 1 0 0 0
      have y3 := Only.keep o1 y3 (by omega)
      have hB := hB.trans (below_upon o1 (fun k hk => by omega) hB.size)
      obtain ⟨th2, V4, hw2, y3, o2⟩ := rput4 y3 1 0 0 0
      have y2 := Only.keep o2 y2 (by omega)
      have z5 := o1.size
      have hB := hB.trans (below_upon o2 (fun k hk => by omega) hB.size)
      go_wp2_with (first | ((with_reducible refine gate_store (p := 8) rfl ?_); go_loud (refine wpList_put rfl 80 _ _ rfl (w.heap.size + 1 + 1) 0 [.int .i64 1, .int .i64 0, .int .i64 0, .int .i64 0] rfl rfl th1.out (by kernel_rfl) rfl ?_; rw [hw1.out])) | ((with_reducible refine gate_store (p := 9) rfl ?_); go_loud (refine wpList_put rfl 80 _ _ rfl (w.heap.size + 1 + 1 + 1) 0 [.int .i64 1, .int .i64 0, .int .i64 0, .int .i64 0] rfl rfl th2.out (by kernel_rfl) rfl ?_; rw [hw2.out])))
      obtain ⟨g0, g1, g2, g3⟩ := rat y2
      obtain ⟨f0, f1, f2, f3⟩ := rat y3
      refine bodyPost_ret (v := .tuple #[.agg #[.int .i64 1, .int .i64 0, .int .i64 0, .int .i64 0], .agg #[.int .i64 1, .int .i64 0, .int .i64 0, .int .i64 0], .bool false]) (by simp [results, Try.results91, go_sem, g0, g1, g2, g3, f0, f1, f2, f3]) rfl ⟨Rg.no, Rg.no, false, rfl, HM.out, hB⟩
  | true =>
    rw [hot] at hr2
    have HM := Lib.hid hr2
    clear hr2
    obtain ⟨rfl, rfl⟩ : one = true ∧ tw = true := by simpa using hot
    clear hot
    go_wp2_with fail
    obtain ⟨W2, hW⟩ : ∃ W, w6.alloc (.cells #[.int .i64 y.lo, .int .i64 y.hi, .int .i64 y.bits, .int .i64 y.opn] 80) = W := ⟨_, rfl⟩
    rw [hW]
    have hB : Below w.heap.size w W2 := hW ▸ hB
    have n0 : W2.heap[w5.heap.size]? = some (rcells x.lo x.hi x.bits x.opn) := hW ▸ n0
    have n1 : W2.heap[w6.heap.size]? = some (rcells y.lo y.hi y.bits y.opn) := hW ▸ n1
    have y2 : W2.heap[w.heap.size + 1 + 1]? = some (rcells 0 0 0 0) := hW ▸ y2
    have y3 : W2.heap[w.heap.size + 1 + 1 + 1]? = some (rcells 0 0 0 0) := hW ▸ y3
    have hs2 : W2.heap.size = w6.heap.size + 1 := hW ▸ alloc_size w6 _
    have zW : w.heap.size + 4 ≤ W2.heap.size := by omega
    clear hW
    refine wp_region_plan [] (.one 0 .load (.one 1 .load (.one 2 .act (.one 3 .act (.one 4 .pure .done))))) (fun w' => ∃ q : Kept (fun w' => w'.heap[w5.heap.size]? = some (rcells x.lo x.hi x.bits x.opn) ∧ w'.heap[w6.heap.size]? = some (rcells y.lo y.hi y.bits y.opn)), w' = q.w) (by kernel_rfl) (by kernel_rfl) (fun _ _ d _ _ h => by cases d <;> exact h) ?_
    simp only [Plan.pick, List.getElem?_cons_zero, List.getElem?_cons_succ]
    have hB : Below _ _ W2.drew := below_drewN' hB 1
    have n0 : W2.drew.heap[w5.heap.size]? = some (rcells x.lo x.hi x.bits x.opn) := n0
    have n1 : W2.drew.heap[w6.heap.size]? = some (rcells y.lo y.hi y.bits y.opn) := n1
    have hS : W2.drew.heap[w5.heap.size]? = some (rcells x.lo x.hi x.bits x.opn) ∧ W2.drew.heap[w6.heap.size]? = some (rcells y.lo y.hi y.bits y.opn) := ⟨n0, n1⟩
    have y2 : W2.drew.heap[w.heap.size + 1 + 1]? = some (rcells 0 0 0 0) := y2
    have y3 : W2.drew.heap[w.heap.size + 1 + 1 + 1]? = some (rcells 0 0 0 0) := y3
    have zW : w.heap.size + 4 ≤ W2.drew.heap.size := zW
    have q0 : ∀ q : Kept (fun w' => w'.heap[w5.heap.size]? = some (rcells x.lo x.hi x.bits x.opn) ∧ w'.heap[w6.heap.size]? = some (rcells y.lo y.hi y.bits y.opn)), q.w.cell? ⟨w5.heap.size, 0, none⟩ = some (.int .i64 x.lo) := fun q => (rat q.kept.1).1
    have q1 : ∀ q : Kept (fun w' => w'.heap[w5.heap.size]? = some (rcells x.lo x.hi x.bits x.opn) ∧ w'.heap[w6.heap.size]? = some (rcells y.lo y.hi y.bits y.opn)), q.w.cell? ⟨w5.heap.size, 1, none⟩ = some (.int .i64 x.hi) := fun q => (rat q.kept.1).2.1
    have q2 : ∀ q : Kept (fun w' => w'.heap[w5.heap.size]? = some (rcells x.lo x.hi x.bits x.opn) ∧ w'.heap[w6.heap.size]? = some (rcells y.lo y.hi y.bits y.opn)), q.w.cell? ⟨w5.heap.size, 2, none⟩ = some (.int .i64 x.bits) := fun q => (rat q.kept.1).2.2.1
    have q3 : ∀ q : Kept (fun w' => w'.heap[w5.heap.size]? = some (rcells x.lo x.hi x.bits x.opn) ∧ w'.heap[w6.heap.size]? = some (rcells y.lo y.hi y.bits y.opn)), q.w.cell? ⟨w5.heap.size, 3, none⟩ = some (.int .i64 x.opn) := fun q => (rat q.kept.1).2.2.2
    have p0 : ∀ q : Kept (fun w' => w'.heap[w5.heap.size]? = some (rcells x.lo x.hi x.bits x.opn) ∧ w'.heap[w6.heap.size]? = some (rcells y.lo y.hi y.bits y.opn)), q.w.cell? ⟨w6.heap.size, 0, none⟩ = some (.int .i64 y.lo) := fun q => (rat q.kept.2).1
    have p1 : ∀ q : Kept (fun w' => w'.heap[w5.heap.size]? = some (rcells x.lo x.hi x.bits x.opn) ∧ w'.heap[w6.heap.size]? = some (rcells y.lo y.hi y.bits y.opn)), q.w.cell? ⟨w6.heap.size, 1, none⟩ = some (.int .i64 y.hi) := fun q => (rat q.kept.2).2.1
    have p2 : ∀ q : Kept (fun w' => w'.heap[w5.heap.size]? = some (rcells x.lo x.hi x.bits x.opn) ∧ w'.heap[w6.heap.size]? = some (rcells y.lo y.hi y.bits y.opn)), q.w.cell? ⟨w6.heap.size, 2, none⟩ = some (.int .i64 y.bits) := fun q => (rat q.kept.2).2.2.1
    have p3 : ∀ q : Kept (fun w' => w'.heap[w5.heap.size]? = some (rcells x.lo x.hi x.bits x.opn) ∧ w'.heap[w6.heap.size]? = some (rcells y.lo y.hi y.bits y.opn)), q.w.cell? ⟨w6.heap.size, 3, none⟩ = some (.int .i64 y.opn) := fun q => (rat q.kept.2).2.2.2
    have hKn : Nonempty (Kept (fun w' => w'.heap[w5.heap.size]? = some (rcells x.lo x.hi x.bits x.opn) ∧ w'.heap[w6.heap.size]? = some (rcells y.lo y.hi y.bits y.opn))) := ⟨⟨_, hS⟩⟩
    refine plan_load (fun K hK => ?_); go_simp; refine ⟨⟨⟨_, hS⟩, rfl⟩, hK _ _ ?_⟩; clear hK K
    refine plan_load (fun K hK => ?_); go_simp; refine ⟨⟨⟨_, hS⟩, rfl⟩, hK _ _ ?_⟩; clear hK K
    refine plan_act ?_
    clear q0 q1 q2 q3 p0 p1 p2 p3
    obtain ⟨th1, V5, hw1, y2, o1⟩ := rput4 y2 x.lo x.hi x.bits x.opn
    have y3 := Only.keep o1 y3 (by omega)
    have n0 := Only.keep o1 n0 (by omega)
    have n1 := Only.keep o1 n1 (by omega)
    have zW := Nat.le_trans zW o1.size
    have hB := hB.trans (below_upon o1 (fun k hk => by omega) (by omega))
    go_wp2_with ((with_reducible refine gate_store (p := 8) rfl ?_); go_loud (refine wpList_put rfl 80 _ _ rfl (w.heap.size + 1 + 1) 0 [.int .i64 x.lo, .int .i64 x.hi, .int .i64 x.bits, .int .i64 x.opn] rfl rfl th1.out (by kernel_rfl) rfl ?_; rw [hw1.out]))
    have hS := And.intro n0 n1
    refine ⟨⟨⟨_, hS⟩, rfl⟩, ?_⟩
    refine plan_act ?_
    obtain ⟨th2, V6, hw2, y3, o2⟩ := rput4 y3 y.lo y.hi y.bits y.opn
    have y2 := Only.keep o2 y2 (by omega)
    have n0 := Only.keep o2 n0 (by omega)
    have n1 := Only.keep o2 n1 (by omega)
    have zW := Nat.le_trans zW o2.size
    have hB := hB.trans (below_upon o2 (fun k hk => by omega) (by omega))
    go_wp2_with ((with_reducible refine gate_store (p := 9) rfl ?_); go_loud (refine wpList_put rfl 80 _ _ rfl (w.heap.size + 1 + 1 + 1) 0 [.int .i64 y.lo, .int .i64 y.hi, .int .i64 y.bits, .int .i64 y.opn] rfl rfl th2.out (by kernel_rfl) rfl ?_; rw [hw2.out]))
    have hS := And.intro n0 n1
    refine ⟨⟨⟨_, hS⟩, rfl⟩, ?_⟩
    refine plan_pure (fun K hK => ?_); go_simp; refine hK _ _ ?_; clear hK K
    refine plan_done ?_
    go_wp2
    obtain ⟨g0, g1, g2, g3⟩ := rat y2
    obtain ⟨f0, f1, f2, f3⟩ := rat y3
    refine bodyPost_ret (v := .tuple #[.agg #[.int .i64 x.lo, .int .i64 x.hi, .int .i64 x.bits, .int .i64 x.opn], .agg #[.int .i64 y.lo, .int .i64 y.hi, .int .i64 y.bits, .int .i64 y.opn], .bool true]) (by simp [results, Try.results91, go_sem, g0, g1, g2, g3, f0, f1, f2, f3]) rfl ⟨x, y, true, rfl, HM.out, hB⟩
set_option maxRecDepth 100000 in
set_option maxHeartbeats 3200000 in
theorem l2Branch13f (t u : Rg) (ot : t.Ok) (ou : u.Ok) (w : World) :
    Calls Try.prog 91 #[.int .i64 (13), .agg #[.int .i64 t.lo, .int .i64 t.hi, .int .i64 t.bits, .int .i64 t.opn], .agg #[.int .i64 u.lo, .int .i64 u.hi, .int .i64 u.bits, .int .i64 u.opn], .bool false] w fun e w' => ∃ (x y : Rg) (ok : Bool), e = .returned (.tuple #[.agg #[.int .i64 x.lo, .int .i64 x.hi, .int .i64 x.bits, .int .i64 x.opn], .agg #[.int .i64 y.lo, .int .i64 y.hi, .int .i64 y.bits, .int .i64 y.opn], .bool ok]) ∧ Rg.branch 13 t u false = ifTwo ok x y ∧ Below w.heap.size w w' := by
  go_enter Try.func91, Try.ntmps91
  go_wp2_with fail
  obtain ⟨hB, hs0, x0, x1, y2, y3⟩ := boxes4 w (rcells t.lo t.hi t.bits t.opn) (rcells u.lo u.hi u.bits u.opn) (rcells 0 0 0 0) (rcells 0 0 0 0)
  obtain ⟨W, hW⟩ : ∃ W, (((w.alloc (.cells #[.int .i64 t.lo, .int .i64 t.hi, .int .i64 t.bits, .int .i64 t.opn] 80)).alloc (.cells #[.int .i64 u.lo, .int .i64 u.hi, .int .i64 u.bits, .int .i64 u.opn] 80)).alloc (.cells #[.int .i64 0, .int .i64 0, .int .i64 0, .int .i64 0] 80)).alloc (.cells #[.int .i64 0, .int .i64 0, .int .i64 0, .int .i64 0] 80) = W := ⟨_, rfl⟩
  rw [hW]
  have hB : Below w.heap.size w W := hW ▸ hB
  have hs0 : W.heap.size = w.heap.size + 4 := hW ▸ hs0
  have x0 : W.heap[w.heap.size]? = some (rcells t.lo t.hi t.bits t.opn) := hW ▸ x0
  have x1 : W.heap[w.heap.size + 1]? = some (rcells u.lo u.hi u.bits u.opn) := hW ▸ x1
  have y2 : W.heap[w.heap.size + 1 + 1]? = some (rcells 0 0 0 0) := hW ▸ y2
  have y3 : W.heap[w.heap.size + 1 + 1 + 1]? = some (rcells 0 0 0 0) := hW ▸ y3
  clear hW
  refine (l2Meet_calls t u ot ou _).mono ?_
  rintro e w5 ⟨x, ok, rfl, hr, hb⟩
  have hB := bnext hB hb
  have zz5 := hb.size
  have y2 := Below.keep hb y2
  have y3 := Below.keep hb y3
  have HM : Hid (Rg.branch 13 t u false = ifTwo ok x x) := (branch_meet t u (by decide) (by decide) (by decide)).trans (by rw [hr, map_two])
  clear hb hr x0 x1
  go_wp2_with fail
  have hb := below_alloc' (Below.refl w5.heap.size w5) (rcells x.lo x.hi x.bits x.opn)
  have n0 := alloc_at' w5 (rcells x.lo x.hi x.bits x.opn)
  have hs1 := alloc_size w5 (rcells x.lo x.hi x.bits x.opn)
  obtain ⟨W2, hW⟩ : ∃ W, w5.alloc (.cells #[.int .i64 x.lo, .int .i64 x.hi, .int .i64 x.bits, .int .i64 x.opn] 80) = W := ⟨_, rfl⟩
  rw [hW]
  have hb : Below w5.heap.size w5 W2 := hW ▸ hb
  have hs1 : W2.heap.size = w5.heap.size + 1 := hW ▸ hs1
  have n0 : W2.heap[w5.heap.size]? = some (rcells x.lo x.hi x.bits x.opn) := hW ▸ n0
  have hB := bnext hB hb
  have y2 := Below.keep hb y2
  have y3 := Below.keep hb y3
  have zW : w.heap.size + 4 ≤ W2.heap.size := by omega
  have zw5 : w.heap.size + 4 ≤ w5.heap.size := by omega
  clear hW hb
  refine wp_region_plan [] (.one 2 .pure (.one 0 .load (.one 1 .load (.one 3 .act (.one 4 .act (.one 5 .pure .done)))))) (fun w' => ∃ q : Kept (fun w' => w'.heap[w5.heap.size]? = some (rcells x.lo x.hi x.bits x.opn)), w' = q.w) (by kernel_rfl) (by kernel_rfl) (fun _ _ d _ _ h => by cases d <;> exact h) ?_
  simp only [Plan.pick, List.getElem?_cons_zero, List.getElem?_cons_succ]
  have hB : Below _ _ W2.drew := below_drewN' hB 1
  have n0 : W2.drew.heap[w5.heap.size]? = some (rcells x.lo x.hi x.bits x.opn) := n0
  have hS : W2.drew.heap[w5.heap.size]? = some (rcells x.lo x.hi x.bits x.opn) := n0
  have y2 : W2.drew.heap[w.heap.size + 1 + 1]? = some (rcells 0 0 0 0) := y2
  have y3 : W2.drew.heap[w.heap.size + 1 + 1 + 1]? = some (rcells 0 0 0 0) := y3
  have zW : w.heap.size + 4 ≤ W2.drew.heap.size := zW
  have q0 : ∀ q : Kept (fun w' => w'.heap[w5.heap.size]? = some (rcells x.lo x.hi x.bits x.opn)), q.w.cell? ⟨w5.heap.size, 0, none⟩ = some (.int .i64 x.lo) := fun q => (rat q.kept).1
  have q1 : ∀ q : Kept (fun w' => w'.heap[w5.heap.size]? = some (rcells x.lo x.hi x.bits x.opn)), q.w.cell? ⟨w5.heap.size, 1, none⟩ = some (.int .i64 x.hi) := fun q => (rat q.kept).2.1
  have q2 : ∀ q : Kept (fun w' => w'.heap[w5.heap.size]? = some (rcells x.lo x.hi x.bits x.opn)), q.w.cell? ⟨w5.heap.size, 2, none⟩ = some (.int .i64 x.bits) := fun q => (rat q.kept).2.2.1
  have q3 : ∀ q : Kept (fun w' => w'.heap[w5.heap.size]? = some (rcells x.lo x.hi x.bits x.opn)), q.w.cell? ⟨w5.heap.size, 3, none⟩ = some (.int .i64 x.opn) := fun q => (rat q.kept).2.2.2
  have hKn : Nonempty (Kept (fun w' => w'.heap[w5.heap.size]? = some (rcells x.lo x.hi x.bits x.opn))) := ⟨⟨_, hS⟩⟩
  refine plan_pure (fun K hK => ?_); go_simp; refine hK _ _ ?_; clear hK K
  refine plan_load (fun K hK => ?_); go_simp; refine ⟨⟨⟨_, hS⟩, rfl⟩, hK _ _ ?_⟩; clear hK K
  refine plan_load (fun K hK => ?_); go_simp; refine ⟨⟨⟨_, hS⟩, rfl⟩, hK _ _ ?_⟩; clear hK K
  refine plan_act ?_
  clear q0 q1 q2 q3
  obtain ⟨th1, V5, hw1, y2, o1⟩ := rput4 y2 x.lo x.hi x.bits x.opn
  have y3 := Only.keep o1 y3 (by omega)
  have n0 := Only.keep o1 n0 (by omega)
  have zW := Nat.le_trans zW o1.size
  have hB := hB.trans (below_upon o1 (fun k hk => by omega) (by omega))
  go_wp2_with ((with_reducible refine gate_store (p := 8) rfl ?_); go_loud (refine wpList_put rfl 80 _ _ rfl (w.heap.size + 1 + 1) 0 [.int .i64 x.lo, .int .i64 x.hi, .int .i64 x.bits, .int .i64 x.opn] rfl rfl th1.out (by kernel_rfl) rfl ?_; rw [hw1.out]))
  have hS := n0
  refine ⟨⟨⟨_, hS⟩, rfl⟩, ?_⟩
  refine plan_act ?_
  obtain ⟨th2, V6, hw2, y3, o2⟩ := rput4 y3 x.lo x.hi x.bits x.opn
  have y2 := Only.keep o2 y2 (by omega)
  have n0 := Only.keep o2 n0 (by omega)
  have zW := Nat.le_trans zW o2.size
  have hB := hB.trans (below_upon o2 (fun k hk => by omega) (by omega))
  go_wp2_with ((with_reducible refine gate_store (p := 9) rfl ?_); go_loud (refine wpList_put rfl 80 _ _ rfl (w.heap.size + 1 + 1 + 1) 0 [.int .i64 x.lo, .int .i64 x.hi, .int .i64 x.bits, .int .i64 x.opn] rfl rfl th2.out (by kernel_rfl) rfl ?_; rw [hw2.out]))
  have hS := n0
  refine ⟨⟨⟨_, hS⟩, rfl⟩, ?_⟩
  refine plan_pure (fun K hK => ?_); go_simp; refine hK _ _ ?_; clear hK K
  refine plan_done ?_
  go_wp2
  obtain ⟨g0, g1, g2, g3⟩ := rat y2
  obtain ⟨f0, f1, f2, f3⟩ := rat y3
  refine bodyPost_ret (v := .tuple #[.agg #[.int .i64 x.lo, .int .i64 x.hi, .int .i64 x.bits, .int .i64 x.opn], .agg #[.int .i64 x.lo, .int .i64 x.hi, .int .i64 x.bits, .int .i64 x.opn], .bool ok]) (by simp [results, Try.results91, go_sem, g0, g1, g2, g3, f0, f1, f2, f3]) rfl ⟨x, x, ok, rfl, HM.out, hB⟩
set_option maxRecDepth 100000 in
set_option maxHeartbeats 3200000 in
theorem l2Branch14t (t u : Rg) (ot : t.Ok) (ou : u.Ok) (w : World) :
    Calls Try.prog 91 #[.int .i64 (14), .agg #[.int .i64 t.lo, .int .i64 t.hi, .int .i64 t.bits, .int .i64 t.opn], .agg #[.int .i64 u.lo, .int .i64 u.hi, .int .i64 u.bits, .int .i64 u.opn], .bool true] w fun e w' => ∃ (x y : Rg) (ok : Bool), e = .returned (.tuple #[.agg #[.int .i64 x.lo, .int .i64 x.hi, .int .i64 x.bits, .int .i64 x.opn], .agg #[.int .i64 y.lo, .int .i64 y.hi, .int .i64 y.bits, .int .i64 y.opn], .bool ok]) ∧ Rg.branch 14 t u true = ifTwo ok x y ∧ Below w.heap.size w w' := by
  go_enter Try.func91, Try.ntmps91
  go_wp2_with fail
  obtain ⟨hB, hs0, x0, x1, y2, y3⟩ := boxes4 w (rcells t.lo t.hi t.bits t.opn) (rcells u.lo u.hi u.bits u.opn) (rcells 0 0 0 0) (rcells 0 0 0 0)
  obtain ⟨W, hW⟩ : ∃ W, (((w.alloc (.cells #[.int .i64 t.lo, .int .i64 t.hi, .int .i64 t.bits, .int .i64 t.opn] 80)).alloc (.cells #[.int .i64 u.lo, .int .i64 u.hi, .int .i64 u.bits, .int .i64 u.opn] 80)).alloc (.cells #[.int .i64 0, .int .i64 0, .int .i64 0, .int .i64 0] 80)).alloc (.cells #[.int .i64 0, .int .i64 0, .int .i64 0, .int .i64 0] 80) = W := ⟨_, rfl⟩
  rw [hW]
  have hB : Below w.heap.size w W := hW ▸ hB
  have hs0 : W.heap.size = w.heap.size + 4 := hW ▸ hs0
  have x0 : W.heap[w.heap.size]? = some (rcells t.lo t.hi t.bits t.opn) := hW ▸ x0
  have x1 : W.heap[w.heap.size + 1]? = some (rcells u.lo u.hi u.bits u.opn) := hW ▸ x1
  have y2 : W.heap[w.heap.size + 1 + 1]? = some (rcells 0 0 0 0) := hW ▸ y2
  have y3 : W.heap[w.heap.size + 1 + 1 + 1]? = some (rcells 0 0 0 0) := hW ▸ y3
  clear hW
  refine (l2Below_calls t u 1 ot ou (by omega) (by omega) _).mono ?_
  rintro e w5 ⟨x, y, ok, rfl, hr, hb⟩
  have hB := bnext hB hb
  have zz5 := hb.size
  have y2 := Below.keep hb y2
  have y3 := Below.keep hb y3
  have HM : Hid (Rg.branch 14 t u true = ifTwo ok x y) := hr
  clear hb hr x0 x1
  obtain ⟨th1, V3, hw1, y2, o1⟩ := rput4 y2 x.lo x.hi x.bits x.opn
  have y3 := Only.keep o1 y3 (by omega)
  have hB := hB.trans (below_upon o1 (fun k hk => by omega) hB.size)
  obtain ⟨th2, V4, hw2, y3, o2⟩ := rput4 y3 y.lo y.hi y.bits y.opn
  have y2 := Only.keep o2 y2 (by omega)
  have z5 := o1.size
  have hB := hB.trans (below_upon o2 (fun k hk => by omega) hB.size)
  go_wp2_with (first | ((with_reducible refine gate_store (p := 8) rfl ?_); go_loud (refine wpList_put rfl 80 _ _ rfl (w.heap.size + 1 + 1) 0 [.int .i64 x.lo, .int .i64 x.hi, .int .i64 x.bits, .int .i64 x.opn] rfl rfl th1.out (by kernel_rfl) rfl ?_; rw [hw1.out])) | ((with_reducible refine gate_store (p := 9) rfl ?_); go_loud (refine wpList_put rfl 80 _ _ rfl (w.heap.size + 1 + 1 + 1) 0 [.int .i64 y.lo, .int .i64 y.hi, .int .i64 y.bits, .int .i64 y.opn] rfl rfl th2.out (by kernel_rfl) rfl ?_; rw [hw2.out])))
  obtain ⟨g0, g1, g2, g3⟩ := rat y2
  obtain ⟨f0, f1, f2, f3⟩ := rat y3
  refine bodyPost_ret (v := .tuple #[.agg #[.int .i64 x.lo, .int .i64 x.hi, .int .i64 x.bits, .int .i64 x.opn], .agg #[.int .i64 y.lo, .int .i64 y.hi, .int .i64 y.bits, .int .i64 y.opn], .bool ok]) (by simp [results, Try.results91, go_sem, g0, g1, g2, g3, f0, f1, f2, f3]) rfl ⟨x, y, ok, rfl, HM.out, hB⟩
set_option maxRecDepth 100000 in
set_option maxHeartbeats 3200000 in
theorem l2Branch14f (t u : Rg) (ot : t.Ok) (ou : u.Ok) (w : World) :
    Calls Try.prog 91 #[.int .i64 (14), .agg #[.int .i64 t.lo, .int .i64 t.hi, .int .i64 t.bits, .int .i64 t.opn], .agg #[.int .i64 u.lo, .int .i64 u.hi, .int .i64 u.bits, .int .i64 u.opn], .bool false] w fun e w' => ∃ (x y : Rg) (ok : Bool), e = .returned (.tuple #[.agg #[.int .i64 x.lo, .int .i64 x.hi, .int .i64 x.bits, .int .i64 x.opn], .agg #[.int .i64 y.lo, .int .i64 y.hi, .int .i64 y.bits, .int .i64 y.opn], .bool ok]) ∧ Rg.branch 14 t u false = ifTwo ok x y ∧ Below w.heap.size w w' := by
  go_enter Try.func91, Try.ntmps91
  go_wp2_with fail
  obtain ⟨hB, hs0, x0, x1, y2, y3⟩ := boxes4 w (rcells t.lo t.hi t.bits t.opn) (rcells u.lo u.hi u.bits u.opn) (rcells 0 0 0 0) (rcells 0 0 0 0)
  obtain ⟨W, hW⟩ : ∃ W, (((w.alloc (.cells #[.int .i64 t.lo, .int .i64 t.hi, .int .i64 t.bits, .int .i64 t.opn] 80)).alloc (.cells #[.int .i64 u.lo, .int .i64 u.hi, .int .i64 u.bits, .int .i64 u.opn] 80)).alloc (.cells #[.int .i64 0, .int .i64 0, .int .i64 0, .int .i64 0] 80)).alloc (.cells #[.int .i64 0, .int .i64 0, .int .i64 0, .int .i64 0] 80) = W := ⟨_, rfl⟩
  rw [hW]
  have hB : Below w.heap.size w W := hW ▸ hB
  have hs0 : W.heap.size = w.heap.size + 4 := hW ▸ hs0
  have x0 : W.heap[w.heap.size]? = some (rcells t.lo t.hi t.bits t.opn) := hW ▸ x0
  have x1 : W.heap[w.heap.size + 1]? = some (rcells u.lo u.hi u.bits u.opn) := hW ▸ x1
  have y2 : W.heap[w.heap.size + 1 + 1]? = some (rcells 0 0 0 0) := hW ▸ y2
  have y3 : W.heap[w.heap.size + 1 + 1 + 1]? = some (rcells 0 0 0 0) := hW ▸ y3
  clear hW
  refine (l2Below_calls u t 0 ou ot (by omega) (by omega) _).mono ?_
  rintro e w5 ⟨y, x, ok, rfl, hr, hb⟩
  have hB := bnext hB hb
  have zz5 := hb.size
  have y2 := Below.keep hb y2
  have y3 := Below.keep hb y3
  have HM : Hid (Rg.branch 14 t u false = ifTwo ok x y) := (show Rg.branch 14 t u false = swap2 (u.below t 0) from rfl).trans (by rw [hr, swap_two])
  clear hb hr x0 x1
  go_wp2_with fail
  obtain ⟨hb, hs1, n1, n0⟩ := boxes2 w5 (rcells y.lo y.hi y.bits y.opn) (rcells x.lo x.hi x.bits x.opn)
  obtain ⟨W2, hW⟩ : ∃ W, (w5.alloc (.cells #[.int .i64 y.lo, .int .i64 y.hi, .int .i64 y.bits, .int .i64 y.opn] 80)).alloc (.cells #[.int .i64 x.lo, .int .i64 x.hi, .int .i64 x.bits, .int .i64 x.opn] 80) = W := ⟨_, rfl⟩
  rw [hW]
  have hb : Below w5.heap.size w5 W2 := hW ▸ hb
  have hs1 : W2.heap.size = w5.heap.size + 2 := hW ▸ hs1
  have n1 : W2.heap[w5.heap.size]? = some (rcells y.lo y.hi y.bits y.opn) := hW ▸ n1
  have n0 : W2.heap[w5.heap.size + 1]? = some (rcells x.lo x.hi x.bits x.opn) := hW ▸ n0
  have hB := bnext hB hb
  have y2 := Below.keep hb y2
  have y3 := Below.keep hb y3
  have zW : w.heap.size + 4 ≤ W2.heap.size := by omega
  have zw5 : w.heap.size + 4 ≤ w5.heap.size := by omega
  clear hW hb
  refine wp_region_plan [] (.one 2 .pure (.one 0 .load (.one 1 .load (.one 3 .act (.one 4 .act (.one 5 .pure .done)))))) (fun w' => ∃ q : Kept (fun w' => w'.heap[w5.heap.size + 1]? = some (rcells x.lo x.hi x.bits x.opn) ∧ w'.heap[w5.heap.size]? = some (rcells y.lo y.hi y.bits y.opn)), w' = q.w) (by kernel_rfl) (by kernel_rfl) (fun _ _ d _ _ h => by cases d <;> exact h) ?_
  simp only [Plan.pick, List.getElem?_cons_zero, List.getElem?_cons_succ]
  have hB : Below _ _ W2.drew := below_drewN' hB 1
  have n0 : W2.drew.heap[w5.heap.size + 1]? = some (rcells x.lo x.hi x.bits x.opn) := n0
  have n1 : W2.drew.heap[w5.heap.size]? = some (rcells y.lo y.hi y.bits y.opn) := n1
  have hS : W2.drew.heap[w5.heap.size + 1]? = some (rcells x.lo x.hi x.bits x.opn) ∧ W2.drew.heap[w5.heap.size]? = some (rcells y.lo y.hi y.bits y.opn) := ⟨n0, n1⟩
  have y2 : W2.drew.heap[w.heap.size + 1 + 1]? = some (rcells 0 0 0 0) := y2
  have y3 : W2.drew.heap[w.heap.size + 1 + 1 + 1]? = some (rcells 0 0 0 0) := y3
  have zW : w.heap.size + 4 ≤ W2.drew.heap.size := zW
  have q0 : ∀ q : Kept (fun w' => w'.heap[w5.heap.size + 1]? = some (rcells x.lo x.hi x.bits x.opn) ∧ w'.heap[w5.heap.size]? = some (rcells y.lo y.hi y.bits y.opn)), q.w.cell? ⟨w5.heap.size + 1, 0, none⟩ = some (.int .i64 x.lo) := fun q => (rat q.kept.1).1
  have q1 : ∀ q : Kept (fun w' => w'.heap[w5.heap.size + 1]? = some (rcells x.lo x.hi x.bits x.opn) ∧ w'.heap[w5.heap.size]? = some (rcells y.lo y.hi y.bits y.opn)), q.w.cell? ⟨w5.heap.size + 1, 1, none⟩ = some (.int .i64 x.hi) := fun q => (rat q.kept.1).2.1
  have q2 : ∀ q : Kept (fun w' => w'.heap[w5.heap.size + 1]? = some (rcells x.lo x.hi x.bits x.opn) ∧ w'.heap[w5.heap.size]? = some (rcells y.lo y.hi y.bits y.opn)), q.w.cell? ⟨w5.heap.size + 1, 2, none⟩ = some (.int .i64 x.bits) := fun q => (rat q.kept.1).2.2.1
  have q3 : ∀ q : Kept (fun w' => w'.heap[w5.heap.size + 1]? = some (rcells x.lo x.hi x.bits x.opn) ∧ w'.heap[w5.heap.size]? = some (rcells y.lo y.hi y.bits y.opn)), q.w.cell? ⟨w5.heap.size + 1, 3, none⟩ = some (.int .i64 x.opn) := fun q => (rat q.kept.1).2.2.2
  have p0 : ∀ q : Kept (fun w' => w'.heap[w5.heap.size + 1]? = some (rcells x.lo x.hi x.bits x.opn) ∧ w'.heap[w5.heap.size]? = some (rcells y.lo y.hi y.bits y.opn)), q.w.cell? ⟨w5.heap.size, 0, none⟩ = some (.int .i64 y.lo) := fun q => (rat q.kept.2).1
  have p1 : ∀ q : Kept (fun w' => w'.heap[w5.heap.size + 1]? = some (rcells x.lo x.hi x.bits x.opn) ∧ w'.heap[w5.heap.size]? = some (rcells y.lo y.hi y.bits y.opn)), q.w.cell? ⟨w5.heap.size, 1, none⟩ = some (.int .i64 y.hi) := fun q => (rat q.kept.2).2.1
  have p2 : ∀ q : Kept (fun w' => w'.heap[w5.heap.size + 1]? = some (rcells x.lo x.hi x.bits x.opn) ∧ w'.heap[w5.heap.size]? = some (rcells y.lo y.hi y.bits y.opn)), q.w.cell? ⟨w5.heap.size, 2, none⟩ = some (.int .i64 y.bits) := fun q => (rat q.kept.2).2.2.1
  have p3 : ∀ q : Kept (fun w' => w'.heap[w5.heap.size + 1]? = some (rcells x.lo x.hi x.bits x.opn) ∧ w'.heap[w5.heap.size]? = some (rcells y.lo y.hi y.bits y.opn)), q.w.cell? ⟨w5.heap.size, 3, none⟩ = some (.int .i64 y.opn) := fun q => (rat q.kept.2).2.2.2
  have hKn : Nonempty (Kept (fun w' => w'.heap[w5.heap.size + 1]? = some (rcells x.lo x.hi x.bits x.opn) ∧ w'.heap[w5.heap.size]? = some (rcells y.lo y.hi y.bits y.opn))) := ⟨⟨_, hS⟩⟩
  refine plan_pure (fun K hK => ?_); go_simp; refine hK _ _ ?_; clear hK K
  refine plan_load (fun K hK => ?_); go_simp; refine ⟨⟨⟨_, hS⟩, rfl⟩, hK _ _ ?_⟩; clear hK K
  refine plan_load (fun K hK => ?_); go_simp; refine ⟨⟨⟨_, hS⟩, rfl⟩, hK _ _ ?_⟩; clear hK K
  refine plan_act ?_
  clear q0 q1 q2 q3 p0 p1 p2 p3
  obtain ⟨th1, V5, hw1, y2, o1⟩ := rput4 y2 x.lo x.hi x.bits x.opn
  have y3 := Only.keep o1 y3 (by omega)
  have n0 := Only.keep o1 n0 (by omega)
  have n1 := Only.keep o1 n1 (by omega)
  have zW := Nat.le_trans zW o1.size
  have hB := hB.trans (below_upon o1 (fun k hk => by omega) (by omega))
  go_wp2_with ((with_reducible refine gate_store (p := 8) rfl ?_); go_loud (refine wpList_put rfl 80 _ _ rfl (w.heap.size + 1 + 1) 0 [.int .i64 x.lo, .int .i64 x.hi, .int .i64 x.bits, .int .i64 x.opn] rfl rfl th1.out (by kernel_rfl) rfl ?_; rw [hw1.out]))
  have hS := And.intro n0 n1
  refine ⟨⟨⟨_, hS⟩, rfl⟩, ?_⟩
  refine plan_act ?_
  obtain ⟨th2, V6, hw2, y3, o2⟩ := rput4 y3 y.lo y.hi y.bits y.opn
  have y2 := Only.keep o2 y2 (by omega)
  have n0 := Only.keep o2 n0 (by omega)
  have n1 := Only.keep o2 n1 (by omega)
  have zW := Nat.le_trans zW o2.size
  have hB := hB.trans (below_upon o2 (fun k hk => by omega) (by omega))
  go_wp2_with ((with_reducible refine gate_store (p := 9) rfl ?_); go_loud (refine wpList_put rfl 80 _ _ rfl (w.heap.size + 1 + 1 + 1) 0 [.int .i64 y.lo, .int .i64 y.hi, .int .i64 y.bits, .int .i64 y.opn] rfl rfl th2.out (by kernel_rfl) rfl ?_; rw [hw2.out]))
  have hS := And.intro n0 n1
  refine ⟨⟨⟨_, hS⟩, rfl⟩, ?_⟩
  refine plan_pure (fun K hK => ?_); go_simp; refine hK _ _ ?_; clear hK K
  refine plan_done ?_
  go_wp2
  obtain ⟨g0, g1, g2, g3⟩ := rat y2
  obtain ⟨f0, f1, f2, f3⟩ := rat y3
  refine bodyPost_ret (v := .tuple #[.agg #[.int .i64 x.lo, .int .i64 x.hi, .int .i64 x.bits, .int .i64 x.opn], .agg #[.int .i64 y.lo, .int .i64 y.hi, .int .i64 y.bits, .int .i64 y.opn], .bool ok]) (by simp [results, Try.results91, go_sem, g0, g1, g2, g3, f0, f1, f2, f3]) rfl ⟨x, y, ok, rfl, HM.out, hB⟩
set_option maxRecDepth 100000 in
set_option maxHeartbeats 3200000 in
theorem l2Branch15t (t u : Rg) (ot : t.Ok) (ou : u.Ok) (w : World) :
    Calls Try.prog 91 #[.int .i64 (15), .agg #[.int .i64 t.lo, .int .i64 t.hi, .int .i64 t.bits, .int .i64 t.opn], .agg #[.int .i64 u.lo, .int .i64 u.hi, .int .i64 u.bits, .int .i64 u.opn], .bool true] w fun e w' => ∃ (x y : Rg) (ok : Bool), e = .returned (.tuple #[.agg #[.int .i64 x.lo, .int .i64 x.hi, .int .i64 x.bits, .int .i64 x.opn], .agg #[.int .i64 y.lo, .int .i64 y.hi, .int .i64 y.bits, .int .i64 y.opn], .bool ok]) ∧ Rg.branch 15 t u true = ifTwo ok x y ∧ Below w.heap.size w w' := by
  go_enter Try.func91, Try.ntmps91
  go_wp2_with fail
  obtain ⟨hB, hs0, x0, x1, y2, y3⟩ := boxes4 w (rcells t.lo t.hi t.bits t.opn) (rcells u.lo u.hi u.bits u.opn) (rcells 0 0 0 0) (rcells 0 0 0 0)
  obtain ⟨W, hW⟩ : ∃ W, (((w.alloc (.cells #[.int .i64 t.lo, .int .i64 t.hi, .int .i64 t.bits, .int .i64 t.opn] 80)).alloc (.cells #[.int .i64 u.lo, .int .i64 u.hi, .int .i64 u.bits, .int .i64 u.opn] 80)).alloc (.cells #[.int .i64 0, .int .i64 0, .int .i64 0, .int .i64 0] 80)).alloc (.cells #[.int .i64 0, .int .i64 0, .int .i64 0, .int .i64 0] 80) = W := ⟨_, rfl⟩
  rw [hW]
  have hB : Below w.heap.size w W := hW ▸ hB
  have hs0 : W.heap.size = w.heap.size + 4 := hW ▸ hs0
  have x0 : W.heap[w.heap.size]? = some (rcells t.lo t.hi t.bits t.opn) := hW ▸ x0
  have x1 : W.heap[w.heap.size + 1]? = some (rcells u.lo u.hi u.bits u.opn) := hW ▸ x1
  have y2 : W.heap[w.heap.size + 1 + 1]? = some (rcells 0 0 0 0) := hW ▸ y2
  have y3 : W.heap[w.heap.size + 1 + 1 + 1]? = some (rcells 0 0 0 0) := hW ▸ y3
  clear hW
  refine (l2Below_calls u t 1 ou ot (by omega) (by omega) _).mono ?_
  rintro e w5 ⟨y, x, ok, rfl, hr, hb⟩
  have hB := bnext hB hb
  have zz5 := hb.size
  have y2 := Below.keep hb y2
  have y3 := Below.keep hb y3
  have HM : Hid (Rg.branch 15 t u true = ifTwo ok x y) := (show Rg.branch 15 t u true = swap2 (u.below t 1) from rfl).trans (by rw [hr, swap_two])
  clear hb hr x0 x1
  go_wp2_with fail
  obtain ⟨hb, hs1, n1, n0⟩ := boxes2 w5 (rcells y.lo y.hi y.bits y.opn) (rcells x.lo x.hi x.bits x.opn)
  obtain ⟨W2, hW⟩ : ∃ W, (w5.alloc (.cells #[.int .i64 y.lo, .int .i64 y.hi, .int .i64 y.bits, .int .i64 y.opn] 80)).alloc (.cells #[.int .i64 x.lo, .int .i64 x.hi, .int .i64 x.bits, .int .i64 x.opn] 80) = W := ⟨_, rfl⟩
  rw [hW]
  have hb : Below w5.heap.size w5 W2 := hW ▸ hb
  have hs1 : W2.heap.size = w5.heap.size + 2 := hW ▸ hs1
  have n1 : W2.heap[w5.heap.size]? = some (rcells y.lo y.hi y.bits y.opn) := hW ▸ n1
  have n0 : W2.heap[w5.heap.size + 1]? = some (rcells x.lo x.hi x.bits x.opn) := hW ▸ n0
  have hB := bnext hB hb
  have y2 := Below.keep hb y2
  have y3 := Below.keep hb y3
  have zW : w.heap.size + 4 ≤ W2.heap.size := by omega
  have zw5 : w.heap.size + 4 ≤ w5.heap.size := by omega
  clear hW hb
  refine wp_region_plan [] (.one 2 .pure (.one 0 .load (.one 1 .load (.one 3 .act (.one 4 .act (.one 5 .pure .done)))))) (fun w' => ∃ q : Kept (fun w' => w'.heap[w5.heap.size + 1]? = some (rcells x.lo x.hi x.bits x.opn) ∧ w'.heap[w5.heap.size]? = some (rcells y.lo y.hi y.bits y.opn)), w' = q.w) (by kernel_rfl) (by kernel_rfl) (fun _ _ d _ _ h => by cases d <;> exact h) ?_
  simp only [Plan.pick, List.getElem?_cons_zero, List.getElem?_cons_succ]
  have hB : Below _ _ W2.drew := below_drewN' hB 1
  have n0 : W2.drew.heap[w5.heap.size + 1]? = some (rcells x.lo x.hi x.bits x.opn) := n0
  have n1 : W2.drew.heap[w5.heap.size]? = some (rcells y.lo y.hi y.bits y.opn) := n1
  have hS : W2.drew.heap[w5.heap.size + 1]? = some (rcells x.lo x.hi x.bits x.opn) ∧ W2.drew.heap[w5.heap.size]? = some (rcells y.lo y.hi y.bits y.opn) := ⟨n0, n1⟩
  have y2 : W2.drew.heap[w.heap.size + 1 + 1]? = some (rcells 0 0 0 0) := y2
  have y3 : W2.drew.heap[w.heap.size + 1 + 1 + 1]? = some (rcells 0 0 0 0) := y3
  have zW : w.heap.size + 4 ≤ W2.drew.heap.size := zW
  have q0 : ∀ q : Kept (fun w' => w'.heap[w5.heap.size + 1]? = some (rcells x.lo x.hi x.bits x.opn) ∧ w'.heap[w5.heap.size]? = some (rcells y.lo y.hi y.bits y.opn)), q.w.cell? ⟨w5.heap.size + 1, 0, none⟩ = some (.int .i64 x.lo) := fun q => (rat q.kept.1).1
  have q1 : ∀ q : Kept (fun w' => w'.heap[w5.heap.size + 1]? = some (rcells x.lo x.hi x.bits x.opn) ∧ w'.heap[w5.heap.size]? = some (rcells y.lo y.hi y.bits y.opn)), q.w.cell? ⟨w5.heap.size + 1, 1, none⟩ = some (.int .i64 x.hi) := fun q => (rat q.kept.1).2.1
  have q2 : ∀ q : Kept (fun w' => w'.heap[w5.heap.size + 1]? = some (rcells x.lo x.hi x.bits x.opn) ∧ w'.heap[w5.heap.size]? = some (rcells y.lo y.hi y.bits y.opn)), q.w.cell? ⟨w5.heap.size + 1, 2, none⟩ = some (.int .i64 x.bits) := fun q => (rat q.kept.1).2.2.1
  have q3 : ∀ q : Kept (fun w' => w'.heap[w5.heap.size + 1]? = some (rcells x.lo x.hi x.bits x.opn) ∧ w'.heap[w5.heap.size]? = some (rcells y.lo y.hi y.bits y.opn)), q.w.cell? ⟨w5.heap.size + 1, 3, none⟩ = some (.int .i64 x.opn) := fun q => (rat q.kept.1).2.2.2
  have p0 : ∀ q : Kept (fun w' => w'.heap[w5.heap.size + 1]? = some (rcells x.lo x.hi x.bits x.opn) ∧ w'.heap[w5.heap.size]? = some (rcells y.lo y.hi y.bits y.opn)), q.w.cell? ⟨w5.heap.size, 0, none⟩ = some (.int .i64 y.lo) := fun q => (rat q.kept.2).1
  have p1 : ∀ q : Kept (fun w' => w'.heap[w5.heap.size + 1]? = some (rcells x.lo x.hi x.bits x.opn) ∧ w'.heap[w5.heap.size]? = some (rcells y.lo y.hi y.bits y.opn)), q.w.cell? ⟨w5.heap.size, 1, none⟩ = some (.int .i64 y.hi) := fun q => (rat q.kept.2).2.1
  have p2 : ∀ q : Kept (fun w' => w'.heap[w5.heap.size + 1]? = some (rcells x.lo x.hi x.bits x.opn) ∧ w'.heap[w5.heap.size]? = some (rcells y.lo y.hi y.bits y.opn)), q.w.cell? ⟨w5.heap.size, 2, none⟩ = some (.int .i64 y.bits) := fun q => (rat q.kept.2).2.2.1
  have p3 : ∀ q : Kept (fun w' => w'.heap[w5.heap.size + 1]? = some (rcells x.lo x.hi x.bits x.opn) ∧ w'.heap[w5.heap.size]? = some (rcells y.lo y.hi y.bits y.opn)), q.w.cell? ⟨w5.heap.size, 3, none⟩ = some (.int .i64 y.opn) := fun q => (rat q.kept.2).2.2.2
  have hKn : Nonempty (Kept (fun w' => w'.heap[w5.heap.size + 1]? = some (rcells x.lo x.hi x.bits x.opn) ∧ w'.heap[w5.heap.size]? = some (rcells y.lo y.hi y.bits y.opn))) := ⟨⟨_, hS⟩⟩
  refine plan_pure (fun K hK => ?_); go_simp; refine hK _ _ ?_; clear hK K
  refine plan_load (fun K hK => ?_); go_simp; refine ⟨⟨⟨_, hS⟩, rfl⟩, hK _ _ ?_⟩; clear hK K
  refine plan_load (fun K hK => ?_); go_simp; refine ⟨⟨⟨_, hS⟩, rfl⟩, hK _ _ ?_⟩; clear hK K
  refine plan_act ?_
  clear q0 q1 q2 q3 p0 p1 p2 p3
  obtain ⟨th1, V5, hw1, y2, o1⟩ := rput4 y2 x.lo x.hi x.bits x.opn
  have y3 := Only.keep o1 y3 (by omega)
  have n0 := Only.keep o1 n0 (by omega)
  have n1 := Only.keep o1 n1 (by omega)
  have zW := Nat.le_trans zW o1.size
  have hB := hB.trans (below_upon o1 (fun k hk => by omega) (by omega))
  go_wp2_with ((with_reducible refine gate_store (p := 8) rfl ?_); go_loud (refine wpList_put rfl 80 _ _ rfl (w.heap.size + 1 + 1) 0 [.int .i64 x.lo, .int .i64 x.hi, .int .i64 x.bits, .int .i64 x.opn] rfl rfl th1.out (by kernel_rfl) rfl ?_; rw [hw1.out]))
  have hS := And.intro n0 n1
  refine ⟨⟨⟨_, hS⟩, rfl⟩, ?_⟩
  refine plan_act ?_
  obtain ⟨th2, V6, hw2, y3, o2⟩ := rput4 y3 y.lo y.hi y.bits y.opn
  have y2 := Only.keep o2 y2 (by omega)
  have n0 := Only.keep o2 n0 (by omega)
  have n1 := Only.keep o2 n1 (by omega)
  have zW := Nat.le_trans zW o2.size
  have hB := hB.trans (below_upon o2 (fun k hk => by omega) (by omega))
  go_wp2_with ((with_reducible refine gate_store (p := 9) rfl ?_); go_loud (refine wpList_put rfl 80 _ _ rfl (w.heap.size + 1 + 1 + 1) 0 [.int .i64 y.lo, .int .i64 y.hi, .int .i64 y.bits, .int .i64 y.opn] rfl rfl th2.out (by kernel_rfl) rfl ?_; rw [hw2.out]))
  have hS := And.intro n0 n1
  refine ⟨⟨⟨_, hS⟩, rfl⟩, ?_⟩
  refine plan_pure (fun K hK => ?_); go_simp; refine hK _ _ ?_; clear hK K
  refine plan_done ?_
  go_wp2
  obtain ⟨g0, g1, g2, g3⟩ := rat y2
  obtain ⟨f0, f1, f2, f3⟩ := rat y3
  refine bodyPost_ret (v := .tuple #[.agg #[.int .i64 x.lo, .int .i64 x.hi, .int .i64 x.bits, .int .i64 x.opn], .agg #[.int .i64 y.lo, .int .i64 y.hi, .int .i64 y.bits, .int .i64 y.opn], .bool ok]) (by simp [results, Try.results91, go_sem, g0, g1, g2, g3, f0, f1, f2, f3]) rfl ⟨x, y, ok, rfl, HM.out, hB⟩
set_option maxRecDepth 100000 in
set_option maxHeartbeats 3200000 in
theorem l2Branch15f (t u : Rg) (ot : t.Ok) (ou : u.Ok) (w : World) :
    Calls Try.prog 91 #[.int .i64 (15), .agg #[.int .i64 t.lo, .int .i64 t.hi, .int .i64 t.bits, .int .i64 t.opn], .agg #[.int .i64 u.lo, .int .i64 u.hi, .int .i64 u.bits, .int .i64 u.opn], .bool false] w fun e w' => ∃ (x y : Rg) (ok : Bool), e = .returned (.tuple #[.agg #[.int .i64 x.lo, .int .i64 x.hi, .int .i64 x.bits, .int .i64 x.opn], .agg #[.int .i64 y.lo, .int .i64 y.hi, .int .i64 y.bits, .int .i64 y.opn], .bool ok]) ∧ Rg.branch 15 t u false = ifTwo ok x y ∧ Below w.heap.size w w' := by
  go_enter Try.func91, Try.ntmps91
  go_wp2_with fail
  obtain ⟨hB, hs0, x0, x1, y2, y3⟩ := boxes4 w (rcells t.lo t.hi t.bits t.opn) (rcells u.lo u.hi u.bits u.opn) (rcells 0 0 0 0) (rcells 0 0 0 0)
  obtain ⟨W, hW⟩ : ∃ W, (((w.alloc (.cells #[.int .i64 t.lo, .int .i64 t.hi, .int .i64 t.bits, .int .i64 t.opn] 80)).alloc (.cells #[.int .i64 u.lo, .int .i64 u.hi, .int .i64 u.bits, .int .i64 u.opn] 80)).alloc (.cells #[.int .i64 0, .int .i64 0, .int .i64 0, .int .i64 0] 80)).alloc (.cells #[.int .i64 0, .int .i64 0, .int .i64 0, .int .i64 0] 80) = W := ⟨_, rfl⟩
  rw [hW]
  have hB : Below w.heap.size w W := hW ▸ hB
  have hs0 : W.heap.size = w.heap.size + 4 := hW ▸ hs0
  have x0 : W.heap[w.heap.size]? = some (rcells t.lo t.hi t.bits t.opn) := hW ▸ x0
  have x1 : W.heap[w.heap.size + 1]? = some (rcells u.lo u.hi u.bits u.opn) := hW ▸ x1
  have y2 : W.heap[w.heap.size + 1 + 1]? = some (rcells 0 0 0 0) := hW ▸ y2
  have y3 : W.heap[w.heap.size + 1 + 1 + 1]? = some (rcells 0 0 0 0) := hW ▸ y3
  clear hW
  refine (l2Below_calls t u 0 ot ou (by omega) (by omega) _).mono ?_
  rintro e w5 ⟨x, y, ok, rfl, hr, hb⟩
  have hB := bnext hB hb
  have zz5 := hb.size
  have y2 := Below.keep hb y2
  have y3 := Below.keep hb y3
  have HM : Hid (Rg.branch 15 t u false = ifTwo ok x y) := hr
  clear hb hr x0 x1
  obtain ⟨th1, V3, hw1, y2, o1⟩ := rput4 y2 x.lo x.hi x.bits x.opn
  have y3 := Only.keep o1 y3 (by omega)
  have hB := hB.trans (below_upon o1 (fun k hk => by omega) hB.size)
  obtain ⟨th2, V4, hw2, y3, o2⟩ := rput4 y3 y.lo y.hi y.bits y.opn
  have y2 := Only.keep o2 y2 (by omega)
  have z5 := o1.size
  have hB := hB.trans (below_upon o2 (fun k hk => by omega) hB.size)
  go_wp2_with (first | ((with_reducible refine gate_store (p := 8) rfl ?_); go_loud (refine wpList_put rfl 80 _ _ rfl (w.heap.size + 1 + 1) 0 [.int .i64 x.lo, .int .i64 x.hi, .int .i64 x.bits, .int .i64 x.opn] rfl rfl th1.out (by kernel_rfl) rfl ?_; rw [hw1.out])) | ((with_reducible refine gate_store (p := 9) rfl ?_); go_loud (refine wpList_put rfl 80 _ _ rfl (w.heap.size + 1 + 1 + 1) 0 [.int .i64 y.lo, .int .i64 y.hi, .int .i64 y.bits, .int .i64 y.opn] rfl rfl th2.out (by kernel_rfl) rfl ?_; rw [hw2.out])))
  obtain ⟨g0, g1, g2, g3⟩ := rat y2
  obtain ⟨f0, f1, f2, f3⟩ := rat y3
  refine bodyPost_ret (v := .tuple #[.agg #[.int .i64 x.lo, .int .i64 x.hi, .int .i64 x.bits, .int .i64 x.opn], .agg #[.int .i64 y.lo, .int .i64 y.hi, .int .i64 y.bits, .int .i64 y.opn], .bool ok]) (by simp [results, Try.results91, go_sem, g0, g1, g2, g3, f0, f1, f2, f3]) rfl ⟨x, y, ok, rfl, HM.out, hB⟩
theorem l2Branch_calls (op : Int) (t u : Rg) (is : Bool) (h0 : 12 ≤ op) (h1 : op ≤ 15) (ot : t.Ok) (ou : u.Ok) (w : World) :
    Calls Try.prog 91 #[.int .i64 op, .agg #[.int .i64 t.lo, .int .i64 t.hi, .int .i64 t.bits, .int .i64 t.opn], .agg #[.int .i64 u.lo, .int .i64 u.hi, .int .i64 u.bits, .int .i64 u.opn], .bool is] w fun e w' => ∃ (x y : Rg) (ok : Bool), e = .returned (.tuple #[.agg #[.int .i64 x.lo, .int .i64 x.hi, .int .i64 x.bits, .int .i64 x.opn], .agg #[.int .i64 y.lo, .int .i64 y.hi, .int .i64 y.bits, .int .i64 y.opn], .bool ok]) ∧ Rg.branch op t u is = ifTwo ok x y ∧ Below w.heap.size w w' := by
  have h : op = 12 ∨ op = 13 ∨ op = 14 ∨ op = 15 := by omega
  rcases h with rfl | rfl | rfl | rfl <;> cases is
  · exact l2Branch12f t u ot ou w
  · exact l2Branch12t t u ot ou w
  · exact l2Branch13f t u ot ou w
  · exact l2Branch13t t u ot ou w
  · exact l2Branch14f t u ot ou w
  · exact l2Branch14t t u ot ou w
  · exact l2Branch15f t u ot ou w
  · exact l2Branch15t t u ot ou w
end Go.Proofs.Ytoimeebildcofaa
