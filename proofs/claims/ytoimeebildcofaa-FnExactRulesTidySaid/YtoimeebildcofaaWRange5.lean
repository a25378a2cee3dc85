/- The walk of the program's branch: what two ranges are behind an op that asks. -/
import Derived.Test.YtoimeebildcofaaWRange4
namespace Go.Proofs.Ytoimeebildcofaa
open Go.RowKit
theorem boxes2 (w : World) (o1 o2 : Obj) : Below w.heap.size w ((w.alloc o1).alloc o2) ∧ ((w.alloc o1).alloc o2).heap.size = w.heap.size + 2 ∧
    ((w.alloc o1).alloc o2).heap[w.heap.size]? = some o1 ∧ ((w.alloc o1).alloc o2).heap[w.heap.size + 1]? = some o2 := by
  have h1 := alloc_at' w o1
  have h2 := alloc_at' (w.alloc o1) o2
  rw [alloc_size] at h2
  exact ⟨below_alloc' (below_alloc' (Below.refl _ _) _) _, by simp only [alloc_size], alloc_keep _ h1, h2⟩
theorem branch_less (a b : Rg) (is : Bool) : Rg.branch 14 a b is = a.belowB b is := by cases is <;> rfl
theorem swap_swap (o : Option (Rg × Rg)) : swap2 (swap2 o) = o := by cases o <;> rfl
theorem branch_more (a b : Rg) (is : Bool) : Rg.branch 15 a b is = swap2 (b.belowB a is) := by
  cases is
  · show a.below b 0 = swap2 (swap2 (a.below b 0))
    rw [swap_swap]
  · rfl
theorem branch_meet {op : Int} (a b : Rg) {is : Bool} (h1 : op ≠ 14) (h2 : op ≠ 15) (h : is = decide (op = 12)) : Rg.branch op a b is = (a.meet b).map fun m => (m, m) := by
  unfold Rg.branch
  rw [if_neg h1, if_neg h2, if_pos h]
theorem branch_both {op : Int} (a b : Rg) {is : Bool} (h1 : op ≠ 14) (h2 : op ≠ 15) (h : is ≠ decide (op = 12)) : Rg.branch op a b is = two (a.but b) (b.but a) := by
  unfold Rg.branch
  rw [if_neg h1, if_neg h2, if_neg h]
  rfl
theorem swap_two (ok : Bool) (x y : Rg) : swap2 (ifTwo ok x y) = ifTwo ok y x := by cases ok <;> rfl
theorem map_two (ok : Bool) (x : Rg) : (ifSome ok x).map (fun m => (m, m)) = ifTwo ok x x := by cases ok <;> rfl
theorem two_some (p q : Bool) (x y : Rg) : two (ifSome p x) (ifSome q y) = ifTwo (p && q) x y := by cases p <;> cases q <;> rfl
theorem ifTwo_false (x y x' y' : Rg) : ifTwo false x y = ifTwo false x' y' := rfl
set_option maxRecDepth 100000 in
set_option maxHeartbeats 3200000 in
theorem branch14_calls (t u : Rg) (is : Bool) (a b : Rg) (fa : a.fits32) (fb : b.fits32) (ha : a.tidy = t) (hb' : b.tidy = u) (ot : t.Ok) (ou : u.Ok) (w : World) :
    Calls Try.prog 66 #[.int .i64 (14), .agg #[.int .i64 a.lo, .int .i64 a.hi, .int .i64 a.bits, .int .i64 a.opn], .agg #[.int .i64 b.lo, .int .i64 b.hi, .int .i64 b.bits, .int .i64 b.opn], .bool is] w fun e w' => ∃ (x y : Rg) (ok : Bool), e = .returned (.tuple #[.agg #[.int .i64 x.lo, .int .i64 x.hi, .int .i64 x.bits, .int .i64 x.opn], .agg #[.int .i64 y.lo, .int .i64 y.hi, .int .i64 y.bits, .int .i64 y.opn], .bool ok]) ∧ Rg.branch 14 t u is = ifTwo ok x y ∧ Below w.heap.size w w' := by
  have cTa := tidy_calls a fa
  have cTb := tidy_calls b fb
  rw [ha] at cTa
  rw [hb'] at cTb
  clear ha hb' fa fb
  go_enter Try.func66, Try.ntmps66
  go_wp2_with fail
  obtain ⟨hB, hs0, x0, x1, y2, y3⟩ := boxes4 w (rcells a.lo a.hi a.bits a.opn) (rcells b.lo b.hi b.bits b.opn) (rcells 0 0 0 0) (rcells 0 0 0 0)
  obtain ⟨W, hW⟩ : ∃ W, (((w.alloc (.cells #[.int .i64 a.lo, .int .i64 a.hi, .int .i64 a.bits, .int .i64 a.opn] 80)).alloc (.cells #[.int .i64 b.lo, .int .i64 b.hi, .int .i64 b.bits, .int .i64 b.opn] 80)).alloc (.cells #[.int .i64 0, .int .i64 0, .int .i64 0, .int .i64 0] 80)).alloc (.cells #[.int .i64 0, .int .i64 0, .int .i64 0, .int .i64 0] 80) = W := ⟨_, rfl⟩
  rw [hW]
  have hB : Below w.heap.size w W := hW ▸ hB
  have hs0 : W.heap.size = w.heap.size + 4 := hW ▸ hs0
  have x0 : W.heap[w.heap.size]? = some (rcells a.lo a.hi a.bits a.opn) := hW ▸ x0
  have x1 : W.heap[w.heap.size + 1]? = some (rcells b.lo b.hi b.bits b.opn) := hW ▸ x1
  have y2 : W.heap[w.heap.size + 1 + 1]? = some (rcells 0 0 0 0) := hW ▸ y2
  have y3 : W.heap[w.heap.size + 1 + 1 + 1]? = some (rcells 0 0 0 0) := hW ▸ y3
  clear hW
  have q0 := cell_regrown (rat x0).1
  have q1 := cell_regrown (rat x0).2.1
  have q2 := cell_regrown (rat x0).2.2.1
  have q3 := cell_regrown (rat x0).2.2.2
  have p0 := cell_regrown (rat x1).1
  have p1 := cell_regrown (rat x1).2.1
  have p2 := cell_regrown (rat x1).2.2.1
  have p3 := cell_regrown (rat x1).2.2.2
  refine wp_region_plan [4, 5] (.one 0 .load (.one 2 .load (.one 1 .act (.one 3 .act (.one 4 .last (.one 5 .last .done)))))) (fun w' => ∃ p : Regrown, w' = Sort.grow (redrawn W p.d) p.os) (by kernel_rfl) (by kernel_rfl) (fun _ _ d _ _ h => by cases d <;> exact h) ?_
  simp only [Plan.pick, List.getElem?_cons_zero, List.getElem?_cons_succ]
  have hS : Below W.heap.size W W.drew := below_drewN' (Below.refl _ _) 1
  have hB : Below _ _ W.drew := below_drewN' hB 1
  refine plan_load (fun K hK => ?_); go_simp; refine ⟨regrown_of_below hS, hK _ _ ?_⟩; clear hK K
  refine plan_load (fun K hK => ?_); go_simp; refine ⟨regrown_of_below hS, hK _ _ ?_⟩; clear hK K
  refine plan_act ?_
  go_wp2_with fail
  refine (cTa _).mono ?_
  rintro e w3 ⟨rfl, hb⟩
  have hS := bnext hS hb
  have hB := bnext hB hb
  clear hb
  go_wp2
  refine ⟨regrown_of_below hS, ?_⟩
  refine plan_act ?_
  go_wp2_with fail
  refine (cTb _).mono ?_
  rintro e w4 ⟨rfl, hb⟩
  have hS := bnext hS hb
  have hB := bnext hB hb
  clear hb
  go_wp2
  refine ⟨regrown_of_below hS, ?_⟩
  refine plan_last_ ?_
  have x0 := Below.keep hS x0
  have x1 := Below.keep hS x1
  have y2 := Below.keep hS y2
  have y3 := Below.keep hS y3
  have z1 := hS.size
  clear q0 q1 q2 q3 p0 p1 p2 p3 cTa cTb hS
  obtain ⟨th1, V1, hw1, x0, o1⟩ := rput4 x0 t.lo t.hi t.bits t.opn
  have x1 := Only.keep o1 x1 (by omega)
  have y2 := Only.keep o1 y2 (by omega)
  have y3 := Only.keep o1 y3 (by omega)
  have hB := hB.trans (below_upon o1 (fun k hk => by omega) hB.size)
  obtain ⟨th2, V2, hw2, x1, o2⟩ := rput4 x1 u.lo u.hi u.bits u.opn
  have x0 := Only.keep o2 x0 (by omega)
  have y2 := Only.keep o2 y2 (by omega)
  have y3 := Only.keep o2 y3 (by omega)
  have z3 := o1.size
  have z4 := o2.size
  have hB := hB.trans (below_upon o2 (fun k hk => by omega) hB.size)
  go_wp2_with ((with_reducible refine gate_store (p := 5) rfl ?_); go_loud (refine wpList_put rfl 80 _ _ rfl (w.heap.size) 0 [.int .i64 t.lo, .int .i64 t.hi, .int .i64 t.bits, .int .i64 t.opn] rfl rfl th1.out (by kernel_rfl) rfl ?_; rw [hw1.out]))
  refine plan_last_ ?_
  go_wp2_with ((with_reducible refine gate_store (p := 6) rfl ?_); go_loud (refine wpList_put rfl 80 _ _ rfl (w.heap.size + 1) 0 [.int .i64 u.lo, .int .i64 u.hi, .int .i64 u.bits, .int .i64 u.opn] rfl rfl th2.out (by kernel_rfl) rfl ?_; rw [hw2.out]))
  refine plan_done ?_
  clear th1 th2 hw1 hw2 o1 o2
  obtain ⟨q0, q1, q2, q3⟩ := rat x0
  obtain ⟨p0, p1, p2, p3⟩ := rat x1
  go_wp2_with fail
  refine (below_calls t u is ot.fits ou.fits _).mono ?_
  rintro e w5 ⟨x, y, ok, rfl, hr, hb⟩
  have hB := bnext hB hb
  have zz5 := hb.size
  have y2 := Below.keep hb y2
  have y3 := Below.keep hb y3
  have HM : Hid (Rg.branch 14 t u is = ifTwo ok x y) := (branch_less t u is).trans hr
  clear hb hr q0 q1 q2 q3 p0 p1 p2 p3 x0 x1
  obtain ⟨th1, V3, hw1, y2, o1⟩ := rput4 y2 x.lo x.hi x.bits x.opn
  have y3 := Only.keep o1 y3 (by omega)
  have hB := hB.trans (below_upon o1 (fun k hk => by omega) hB.size)
  obtain ⟨th2, V4, hw2, y3, o2⟩ := rput4 y3 y.lo y.hi y.bits y.opn
  have y2 := Only.keep o2 y2 (by omega)
  have z5 := o1.size
  have hB := hB.trans (below_upon o2 (fun k hk => by omega) hB.size)
  go_wp2_with (first | ((with_reducible refine gate_store (p := 8) rfl ?_); go_loud (refine wpList_put rfl 80 _ _ rfl (w.heap.size + 1 + 1) 0 [.int .i64 x.lo, .int .i64 x.hi, .int .i64 x.bits, .int .i64 x.opn] rfl rfl th1.out (by kernel_rfl) rfl ?_; rw [hw1.out])) | ((with_reducible refine gate_store (p := 9) rfl ?_); go_loud (refine wpList_put rfl 80 _ _ rfl (w.heap.size + 1 + 1 + 1) 0 [.int .i64 y.lo, .int .i64 y.hi, .int .i64 y.bits, .int .i64 y.opn] rfl rfl th2.out (by kernel_rfl) rfl ?_; rw [hw2.out])))
  obtain ⟨g0, g1, g2, g3⟩ := rat y2
  obtain ⟨f0, f1, f2, f3⟩ := rat y3
  refine bodyPost_ret (v := .tuple #[.agg #[.int .i64 x.lo, .int .i64 x.hi, .int .i64 x.bits, .int .i64 x.opn], .agg #[.int .i64 y.lo, .int .i64 y.hi, .int .i64 y.bits, .int .i64 y.opn], .bool ok]) (by simp [results, Try.results66, go_sem, g0, g1, g2, g3, f0, f1, f2, f3]) rfl ⟨x, y, ok, rfl, HM.out, hB⟩
set_option maxRecDepth 100000 in
set_option maxHeartbeats 3200000 in
theorem branch15_calls (t u : Rg) (is : Bool) (a b : Rg) (fa : a.fits32) (fb : b.fits32) (ha : a.tidy = t) (hb' : b.tidy = u) (ot : t.Ok) (ou : u.Ok) (w : World) :
    Calls Try.prog 66 #[.int .i64 (15), .agg #[.int .i64 a.lo, .int .i64 a.hi, .int .i64 a.bits, .int .i64 a.opn], .agg #[.int .i64 b.lo, .int .i64 b.hi, .int .i64 b.bits, .int .i64 b.opn], .bool is] w fun e w' => ∃ (x y : Rg) (ok : Bool), e = .returned (.tuple #[.agg #[.int .i64 x.lo, .int .i64 x.hi, .int .i64 x.bits, .int .i64 x.opn], .agg #[.int .i64 y.lo, .int .i64 y.hi, .int .i64 y.bits, .int .i64 y.opn], .bool ok]) ∧ Rg.branch 15 t u is = ifTwo ok x y ∧ Below w.heap.size w w' := by
  have cTa := tidy_calls a fa
  have cTb := tidy_calls b fb
  rw [ha] at cTa
  rw [hb'] at cTb
  clear ha hb' fa fb
  go_enter Try.func66, Try.ntmps66
  go_wp2_with fail
  obtain ⟨hB, hs0, x0, x1, y2, y3⟩ := boxes4 w (rcells a.lo a.hi a.bits a.opn) (rcells b.lo b.hi b.bits b.opn) (rcells 0 0 0 0) (rcells 0 0 0 0)
  obtain ⟨W, hW⟩ : ∃ W, (((w.alloc (.cells #[.int .i64 a.lo, .int .i64 a.hi, .int .i64 a.bits, .int .i64 a.opn] 80)).alloc (.cells #[.int .i64 b.lo, .int .i64 b.hi, .int .i64 b.bits, .int .i64 b.opn] 80)).alloc (.cells #[.int .i64 0, .int .i64 0, .int .i64 0, .int .i64 0] 80)).alloc (.cells #[.int .i64 0, .int .i64 0, .int .i64 0, .int .i64 0] 80) = W := ⟨_, rfl⟩
  rw [hW]
  have hB : Below w.heap.size w W := hW ▸ hB
  have hs0 : W.heap.size = w.heap.size + 4 := hW ▸ hs0
  have x0 : W.heap[w.heap.size]? = some (rcells a.lo a.hi a.bits a.opn) := hW ▸ x0
  have x1 : W.heap[w.heap.size + 1]? = some (rcells b.lo b.hi b.bits b.opn) := hW ▸ x1
  have y2 : W.heap[w.heap.size + 1 + 1]? = some (rcells 0 0 0 0) := hW ▸ y2
  have y3 : W.heap[w.heap.size + 1 + 1 + 1]? = some (rcells 0 0 0 0) := hW ▸ y3
  clear hW
  have q0 := cell_regrown (rat x0).1
  have q1 := cell_regrown (rat x0).2.1
  have q2 := cell_regrown (rat x0).2.2.1
  have q3 := cell_regrown (rat x0).2.2.2
  have p0 := cell_regrown (rat x1).1
  have p1 := cell_regrown (rat x1).2.1
  have p2 := cell_regrown (rat x1).2.2.1
  have p3 := cell_regrown (rat x1).2.2.2
  refine wp_region_plan [4, 5] (.one 0 .load (.one 2 .load (.one 1 .act (.one 3 .act (.one 4 .last (.one 5 .last .done)))))) (fun w' => ∃ p : Regrown, w' = Sort.grow (redrawn W p.d) p.os) (by kernel_rfl) (by kernel_rfl) (fun _ _ d _ _ h => by cases d <;> exact h) ?_
  simp only [Plan.pick, List.getElem?_cons_zero, List.getElem?_cons_succ]
  have hS : Below W.heap.size W W.drew := below_drewN' (Below.refl _ _) 1
  have hB : Below _ _ W.drew := below_drewN' hB 1
  refine plan_load (fun K hK => ?_); go_simp; refine ⟨regrown_of_below hS, hK _ _ ?_⟩; clear hK K
  refine plan_load (fun K hK => ?_); go_simp; refine ⟨regrown_of_below hS, hK _ _ ?_⟩; clear hK K
  refine plan_act ?_
  go_wp2_with fail
  refine (cTa _).mono ?_
  rintro e w3 ⟨rfl, hb⟩
  have hS := bnext hS hb
  have hB := bnext hB hb
  clear hb
  go_wp2
  refine ⟨regrown_of_below hS, ?_⟩
  refine plan_act ?_
  go_wp2_with fail
  refine (cTb _).mono ?_
  rintro e w4 ⟨rfl, hb⟩
  have hS := bnext hS hb
  have hB := bnext hB hb
  clear hb
  go_wp2
  refine ⟨regrown_of_below hS, ?_⟩
  refine plan_last_ ?_
  have x0 := Below.keep hS x0
  have x1 := Below.keep hS x1
  have y2 := Below.keep hS y2
  have y3 := Below.keep hS y3
  have z1 := hS.size
  clear q0 q1 q2 q3 p0 p1 p2 p3 cTa cTb hS
  obtain ⟨th1, V1, hw1, x0, o1⟩ := rput4 x0 t.lo t.hi t.bits t.opn
  have x1 := Only.keep o1 x1 (by omega)
  have y2 := Only.keep o1 y2 (by omega)
  have y3 := Only.keep o1 y3 (by omega)
  have hB := hB.trans (below_upon o1 (fun k hk => by omega) hB.size)
  obtain ⟨th2, V2, hw2, x1, o2⟩ := rput4 x1 u.lo u.hi u.bits u.opn
  have x0 := Only.keep o2 x0 (by omega)
  have y2 := Only.keep o2 y2 (by omega)
  have y3 := Only.keep o2 y3 (by omega)
  have z3 := o1.size
  have z4 := o2.size
  have hB := hB.trans (below_upon o2 (fun k hk => by omega) hB.size)
  go_wp2_with ((with_reducible refine gate_store (p := 5) rfl ?_); go_loud (refine wpList_put rfl 80 _ _ rfl (w.heap.size) 0 [.int .i64 t.lo, .int .i64 t.hi, .int .i64 t.bits, .int .i64 t.opn] rfl rfl th1.out (by kernel_rfl) rfl ?_; rw [hw1.out]))
  refine plan_last_ ?_
  go_wp2_with ((with_reducible refine gate_store (p := 6) rfl ?_); go_loud (refine wpList_put rfl 80 _ _ rfl (w.heap.size + 1) 0 [.int .i64 u.lo, .int .i64 u.hi, .int .i64 u.bits, .int .i64 u.opn] rfl rfl th2.out (by kernel_rfl) rfl ?_; rw [hw2.out]))
  refine plan_done ?_
  clear th1 th2 hw1 hw2 o1 o2
  obtain ⟨q0, q1, q2, q3⟩ := rat x0
  obtain ⟨p0, p1, p2, p3⟩ := rat x1
  go_wp2_with fail
  refine (below_calls u t is ou.fits ot.fits _).mono ?_
  rintro e w5 ⟨y, x, ok, rfl, hr, hb⟩
  have hB := bnext hB hb
  have zz5 := hb.size
  have y2 := Below.keep hb y2
  have y3 := Below.keep hb y3
  have HM : Hid (Rg.branch 15 t u is = ifTwo ok x y) := (branch_more t u is).trans (by rw [hr, swap_two])
  clear hb hr q0 q1 q2 q3 p0 p1 p2 p3 x0 x1
  go_wp2_with fail
  obtain ⟨hb, hs1, n1, n0⟩ := boxes2 w5 (rcells y.lo y.hi y.bits y.opn) (rcells x.lo x.hi x.bits x.opn)
  obtain ⟨W2, hW⟩ : ∃ W, (w5.alloc (.cells #[.int .i64 y.lo, .int .i64 y.hi, .int .i64 y.bits, .int .i64 y.opn] 80)).alloc (.cells #[.int .i64 x.lo, .int .i64 x.hi, .int .i64 x.bits, .int .i64 x.opn] 80) = W := ⟨_, rfl⟩
  rw [hW]
  have hb : Below w5.heap.size w5 W2 := hW ▸ hb
  have hs1 : W2.heap.size = w5.heap.size + 2 := hW ▸ hs1
  have n1 : W2.heap[w5.heap.size]? = some (rcells y.lo y.hi y.bits y.opn) := hW ▸ n1
  have n0 : W2.heap[w5.heap.size + 1]? = some (rcells x.lo x.hi x.bits x.opn) := hW ▸ n0
  have hB := bnext hB hb
  have y2 := Below.keep hb y2
  have y3 := Below.keep hb y3
  have zW : w.heap.size + 4 ≤ W2.heap.size := by omega
  have zw5 : w.heap.size + 4 ≤ w5.heap.size := by omega
  clear hW hb
  refine wp_region_plan [] (.one 2 .pure (.one 0 .load (.one 1 .load (.one 3 .act (.one 4 .act (.one 5 .pure .done)))))) (fun w' => ∃ q : Kept (fun w' => w'.heap[w5.heap.size + 1]? = some (rcells x.lo x.hi x.bits x.opn) ∧ w'.heap[w5.heap.size]? = some (rcells y.lo y.hi y.bits y.opn)), w' = q.w) (by kernel_rfl) (by kernel_rfl) (fun _ _ d _ _ h => by cases d <;> exact h) ?_
  simp only [Plan.pick, List.getElem?_cons_zero, List.getElem?_cons_succ]
  have hB : Below _ _ W2.drew := below_drewN' hB 1
  have n0 : W2.drew.heap[w5.heap.size + 1]? = some (rcells x.lo x.hi x.bits x.opn) := n0
  have n1 : W2.drew.heap[w5.heap.size]? = some (rcells y.lo y.hi y.bits y.opn) := n1
  have hS : W2.drew.heap[w5.heap.size + 1]? = some (rcells x.lo x.hi x.bits x.opn) ∧ W2.drew.heap[w5.heap.size]? = some (rcells y.lo y.hi y.bits y.opn) := ⟨n0, n1⟩
  have y2 : W2.drew.heap[w.heap.size + 1 + 1]? = some (rcells 0 0 0 0) := y2
  have y3 : W2.drew.heap[w.heap.size + 1 + 1 + 1]? = some (rcells 0 0 0 0) := y3
  have zW : w.heap.size + 4 ≤ W2.drew.heap.size := zW
  have q0 : ∀ q : Kept (fun w' => w'.heap[w5.heap.size + 1]? = some (rcells x.lo x.hi x.bits x.opn) ∧ w'.heap[w5.heap.size]? = some (rcells y.lo y.hi y.bits y.opn)), q.w.cell? ⟨w5.heap.size + 1, 0, none⟩ = some (.int .i64 x.lo) := fun q => (rat q.kept.1).1
  have q1 : ∀ q : Kept (fun w' => w'.heap[w5.heap.size + 1]? = some (rcells x.lo x.hi x.bits x.opn) ∧ w'.heap[w5.heap.size]? = some (rcells y.lo y.hi y.bits y.opn)), q.w.cell? ⟨w5.heap.size + 1, 1, none⟩ = some (.int .i64 x.hi) := fun q => (rat q.kept.1).2.1
  have q2 : ∀ q : Kept (fun w' => w'.heap[w5.heap.size + 1]? = some (rcells x.lo x.hi x.bits x.opn) ∧ w'.heap[w5.heap.size]? = some (rcells y.lo y.hi y.bits y.opn)), q.w.cell? ⟨w5.heap.size + 1, 2, none⟩ = some (.int .i64 x.bits) := fun q => (rat q.kept.1).2.2.1
  have q3 : ∀ q : Kept (fun w' => w'.heap[w5.heap.size + 1]? = some (rcells x.lo x.hi x.bits x.opn) ∧ w'.heap[w5.heap.size]? = some (rcells y.lo y.hi y.bits y.opn)), q.w.cell? ⟨w5.heap.size + 1, 3, none⟩ = some (.int .i64 x.opn) := fun q => (rat q.kept.1).2.2.2
  have p0 : ∀ q : Kept (fun w' => w'.heap[w5.heap.size + 1]? = some (rcells x.lo x.hi x.bits x.opn) ∧ w'.heap[w5.heap.size]? = some (rcells y.lo y.hi y.bits y.opn)), q.w.cell? ⟨w5.heap.size, 0, none⟩ = some (.int .i64 y.lo) := fun q => (rat q.kept.2).1
  have p1 : ∀ q : Kept (fun w' => w'.heap[w5.heap.size + 1]? = some (rcells x.lo x.hi x.bits x.opn) ∧ w'.heap[w5.heap.size]? = some (rcells y.lo y.hi y.bits y.opn)), q.w.cell? ⟨w5.heap.size, 1, none⟩ = some (.int .i64 y.hi) := fun q => (rat q.kept.2).2.1
  have p2 : ∀ q : Kept (fun w' => w'.heap[w5.heap.size + 1]? = some (rcells x.lo x.hi x.bits x.opn) ∧ w'.heap[w5.heap.size]? = some (rcells y.lo y.hi y.bits y.opn)), q.w.cell? ⟨w5.heap.size, 2, none⟩ = some (.int .i64 y.bits) := fun q => (rat q.kept.2).2.2.1
  have p3 : ∀ q : Kept (fun w' => w'.heap[w5.heap.size + 1]? = some (rcells x.lo x.hi x.bits x.opn) ∧ w'.heap[w5.heap.size]? = some (rcells y.lo y.hi y.bits y.opn)), q.w.cell? ⟨w5.heap.size, 3, none⟩ = some (.int .i64 y.opn) := fun q => (rat q.kept.2).2.2.2
  have hKn : Nonempty (Kept (fun w' => w'.heap[w5.heap.size + 1]? = some (rcells x.lo x.hi x.bits x.opn) ∧ w'.heap[w5.heap.size]? = some (rcells y.lo y.hi y.bits y.opn))) := ⟨⟨_, hS⟩⟩
  refine plan_pure (fun K hK => ?_); go_simp; refine hK _ _ ?_; clear hK K
  refine plan_load (fun K hK => ?_); go_simp; refine ⟨⟨⟨_, hS⟩, rfl⟩, hK _ _ ?_⟩; clear hK K
  refine plan_load (fun K hK => ?_); go_simp; refine ⟨⟨⟨_, hS⟩, rfl⟩, hK _ _ ?_⟩; clear hK K
  refine plan_act ?_
  clear q0 q1 q2 q3 p0 p1 p2 p3
  obtain ⟨th1, V5, hw1, y2, o1⟩ := rput4 y2 x.lo x.hi x.bits x.opn
  have y3 := Only.keep o1 y3 (by omega)
  have n0 := Only.keep o1 n0 (by omega)
  have n1 := Only.keep o1 n1 (by omega)
  have zW := Nat.le_trans zW o1.size
  have hB := hB.trans (below_upon o1 (fun k hk => by omega) (by omega))
  go_wp2_with ((with_reducible refine gate_store (p := 8) rfl ?_); go_loud (refine wpList_put rfl 80 _ _ rfl (w.heap.size + 1 + 1) 0 [.int .i64 x.lo, .int .i64 x.hi, .int .i64 x.bits, .int .i64 x.opn] rfl rfl th1.out (by kernel_rfl) rfl ?_; rw [hw1.out]))
  have hS := And.intro n0 n1
  refine ⟨⟨⟨_, hS⟩, rfl⟩, ?_⟩
  refine plan_act ?_
  obtain ⟨th2, V6, hw2, y3, o2⟩ := rput4 y3 y.lo y.hi y.bits y.opn
  have y2 := Only.keep o2 y2 (by omega)
  have n0 := Only.keep o2 n0 (by omega)
  have n1 := Only.keep o2 n1 (by omega)
  have zW := Nat.le_trans zW o2.size
  have hB := hB.trans (below_upon o2 (fun k hk => by omega) (by omega))
  go_wp2_with ((with_reducible refine gate_store (p := 9) rfl ?_); go_loud (refine wpList_put rfl 80 _ _ rfl (w.heap.size + 1 + 1 + 1) 0 [.int .i64 y.lo, .int .i64 y.hi, .int .i64 y.bits, .int .i64 y.opn] rfl rfl th2.out (by kernel_rfl) rfl ?_; rw [hw2.out]))
  have hS := And.intro n0 n1
  refine ⟨⟨⟨_, hS⟩, rfl⟩, ?_⟩
  refine plan_pure (fun K hK => ?_); go_simp; refine hK _ _ ?_; clear hK K
  refine plan_done ?_
  go_wp2
  obtain ⟨g0, g1, g2, g3⟩ := rat y2
  obtain ⟨f0, f1, f2, f3⟩ := rat y3
  refine bodyPost_ret (v := .tuple #[.agg #[.int .i64 x.lo, .int .i64 x.hi, .int .i64 x.bits, .int .i64 x.opn], .agg #[.int .i64 y.lo, .int .i64 y.hi, .int .i64 y.bits, .int .i64 y.opn], .bool ok]) (by simp [results, Try.results66, go_sem, g0, g1, g2, g3, f0, f1, f2, f3]) rfl ⟨x, y, ok, rfl, HM.out, hB⟩
set_option maxRecDepth 100000 in
set_option maxHeartbeats 3200000 in
theorem branchMeet_calls (op : Int) (t u : Rg) (a b : Rg) (fa : a.fits32) (fb : b.fits32) (ha : a.tidy = t) (hb' : b.tidy = u) (ot : t.Ok) (ou : u.Ok) (i14' : op ≠ 14) (i15' : op ≠ 15) (i12 : op = 12) (w : World) :
    Calls Try.prog 66 #[.int .i64 op, .agg #[.int .i64 a.lo, .int .i64 a.hi, .int .i64 a.bits, .int .i64 a.opn], .agg #[.int .i64 b.lo, .int .i64 b.hi, .int .i64 b.bits, .int .i64 b.opn], .bool true] w fun e w' => ∃ (x y : Rg) (ok : Bool), e = .returned (.tuple #[.agg #[.int .i64 x.lo, .int .i64 x.hi, .int .i64 x.bits, .int .i64 x.opn], .agg #[.int .i64 y.lo, .int .i64 y.hi, .int .i64 y.bits, .int .i64 y.opn], .bool ok]) ∧ Rg.branch op t u true = ifTwo ok x y ∧ Below w.heap.size w w' := by
  have cTa := tidy_calls a fa
  have cTb := tidy_calls b fb
  rw [ha] at cTa
  rw [hb'] at cTb
  clear ha hb' fa fb
  subst i12
  have HIS : Hid (true = decide ((12 : Int) = 12)) := Lib.hid (by decide)
  go_enter Try.func66, Try.ntmps66
  go_wp2_with fail
  obtain ⟨hB, hs0, x0, x1, y2, y3⟩ := boxes4 w (rcells a.lo a.hi a.bits a.opn) (rcells b.lo b.hi b.bits b.opn) (rcells 0 0 0 0) (rcells 0 0 0 0)
  obtain ⟨W, hW⟩ : ∃ W, (((w.alloc (.cells #[.int .i64 a.lo, .int .i64 a.hi, .int .i64 a.bits, .int .i64 a.opn] 80)).alloc (.cells #[.int .i64 b.lo, .int .i64 b.hi, .int .i64 b.bits, .int .i64 b.opn] 80)).alloc (.cells #[.int .i64 0, .int .i64 0, .int .i64 0, .int .i64 0] 80)).alloc (.cells #[.int .i64 0, .int .i64 0, .int .i64 0, .int .i64 0] 80) = W := ⟨_, rfl⟩
  rw [hW]
  have hB : Below w.heap.size w W := hW ▸ hB
  have hs0 : W.heap.size = w.heap.size + 4 := hW ▸ hs0
  have x0 : W.heap[w.heap.size]? = some (rcells a.lo a.hi a.bits a.opn) := hW ▸ x0
  have x1 : W.heap[w.heap.size + 1]? = some (rcells b.lo b.hi b.bits b.opn) := hW ▸ x1
  have y2 : W.heap[w.heap.size + 1 + 1]? = some (rcells 0 0 0 0) := hW ▸ y2
  have y3 : W.heap[w.heap.size + 1 + 1 + 1]? = some (rcells 0 0 0 0) := hW ▸ y3
  clear hW
  have q0 := cell_regrown (rat x0).1
  have q1 := cell_regrown (rat x0).2.1
  have q2 := cell_regrown (rat x0).2.2.1
  have q3 := cell_regrown (rat x0).2.2.2
  have p0 := cell_regrown (rat x1).1
  have p1 := cell_regrown (rat x1).2.1
  have p2 := cell_regrown (rat x1).2.2.1
  have p3 := cell_regrown (rat x1).2.2.2
  refine wp_region_plan [4, 5] (.one 0 .load (.one 2 .load (.one 1 .act (.one 3 .act (.one 4 .last (.one 5 .last .done)))))) (fun w' => ∃ p : Regrown, w' = Sort.grow (redrawn W p.d) p.os) (by kernel_rfl) (by kernel_rfl) (fun _ _ d _ _ h => by cases d <;> exact h) ?_
  simp only [Plan.pick, List.getElem?_cons_zero, List.getElem?_cons_succ]
  have hS : Below W.heap.size W W.drew := below_drewN' (Below.refl _ _) 1
  have hB : Below _ _ W.drew := below_drewN' hB 1
  refine plan_load (fun K hK => ?_); go_simp; refine ⟨regrown_of_below hS, hK _ _ ?_⟩; clear hK K
  refine plan_load (fun K hK => ?_); go_simp; refine ⟨regrown_of_below hS, hK _ _ ?_⟩; clear hK K
  refine plan_act ?_
  go_wp2_with fail
  refine (cTa _).mono ?_
  rintro e w3 ⟨rfl, hb⟩
  have hS := bnext hS hb
  have hB := bnext hB hb
  clear hb
  go_wp2
  refine ⟨regrown_of_below hS, ?_⟩
  refine plan_act ?_
  go_wp2_with fail
  refine (cTb _).mono ?_
  rintro e w4 ⟨rfl, hb⟩
  have hS := bnext hS hb
  have hB := bnext hB hb
  clear hb
  go_wp2
  refine ⟨regrown_of_below hS, ?_⟩
  refine plan_last_ ?_
  have x0 := Below.keep hS x0
  have x1 := Below.keep hS x1
  have y2 := Below.keep hS y2
  have y3 := Below.keep hS y3
  have z1 := hS.size
  clear q0 q1 q2 q3 p0 p1 p2 p3 cTa cTb hS
  obtain ⟨th1, V1, hw1, x0, o1⟩ := rput4 x0 t.lo t.hi t.bits t.opn
  have x1 := Only.keep o1 x1 (by omega)
  have y2 := Only.keep o1 y2 (by omega)
  have y3 := Only.keep o1 y3 (by omega)
  have hB := hB.trans (below_upon o1 (fun k hk => by omega) hB.size)
  obtain ⟨th2, V2, hw2, x1, o2⟩ := rput4 x1 u.lo u.hi u.bits u.opn
  have x0 := Only.keep o2 x0 (by omega)
  have y2 := Only.keep o2 y2 (by omega)
  have y3 := Only.keep o2 y3 (by omega)
  have z3 := o1.size
  have z4 := o2.size
  have hB := hB.trans (below_upon o2 (fun k hk => by omega) hB.size)
  go_wp2_with ((with_reducible refine gate_store (p := 5) rfl ?_); go_loud (refine wpList_put rfl 80 _ _ rfl (w.heap.size) 0 [.int .i64 t.lo, .int .i64 t.hi, .int .i64 t.bits, .int .i64 t.opn] rfl rfl th1.out (by kernel_rfl) rfl ?_; rw [hw1.out]))
  refine plan_last_ ?_
  go_wp2_with ((with_reducible refine gate_store (p := 6) rfl ?_); go_loud (refine wpList_put rfl 80 _ _ rfl (w.heap.size + 1) 0 [.int .i64 u.lo, .int .i64 u.hi, .int .i64 u.bits, .int .i64 u.opn] rfl rfl th2.out (by kernel_rfl) rfl ?_; rw [hw2.out]))
  refine plan_done ?_
  clear th1 th2 hw1 hw2 o1 o2
  obtain ⟨q0, q1, q2, q3⟩ := rat x0
  obtain ⟨p0, p1, p2, p3⟩ := rat x1
  go_wp2_with fail
  refine (meet_calls t u ot ou _).mono ?_
  rintro e w5 ⟨x, ok, rfl, hr, hb⟩
  have hB := bnext hB hb
  have zz5 := hb.size
  have y2 := Below.keep hb y2
  have y3 := Below.keep hb y3
  have HM : Hid (Rg.branch 12 t u true = ifTwo ok x x) := (branch_meet t u i14' i15' HIS.out).trans (by rw [hr, map_two])
  clear hb hr q0 q1 q2 q3 p0 p1 p2 p3 x0 x1
  go_wp2_with fail
  have hb := below_alloc' (Below.refl w5.heap.size w5) (rcells x.lo x.hi x.bits x.opn)
  have n0 := alloc_at' w5 (rcells x.lo x.hi x.bits x.opn)
  have hs1 := alloc_size w5 (rcells x.lo x.hi x.bits x.opn)
  obtain ⟨W2, hW⟩ : ∃ W, w5.alloc (.cells #[.int .i64 x.lo, .int .i64 x.hi, .int .i64 x.bits, .int .i64 x.opn] 80) = W := ⟨_, rfl⟩
  rw [hW]
  have hb : Below w5.heap.size w5 W2 := hW ▸ hb
  have hs1 : W2.heap.size = w5.heap.size + 1 := hW ▸ hs1
  have n0 : W2.heap[w5.heap.size]? = some (rcells x.lo x.hi x.bits x.opn) := hW ▸ n0
  have hB := bnext hB hb
  have y2 := Below.keep hb y2
  have y3 := Below.keep hb y3
  have zW : w.heap.size + 4 ≤ W2.heap.size := by omega
  have zw5 : w.heap.size + 4 ≤ w5.heap.size := by omega
  clear hW hb
  refine wp_region_plan [] (.one 2 .pure (.one 0 .load (.one 1 .load (.one 3 .act (.one 4 .act (.one 5 .pure .done)))))) (fun w' => ∃ q : Kept (fun w' => w'.heap[w5.heap.size]? = some (rcells x.lo x.hi x.bits x.opn)), w' = q.w) (by kernel_rfl) (by kernel_rfl) (fun _ _ d _ _ h => by cases d <;> exact h) ?_
  simp only [Plan.pick, List.getElem?_cons_zero, List.getElem?_cons_succ]
  have hB : Below _ _ W2.drew := below_drewN' hB 1
  have n0 : W2.drew.heap[w5.heap.size]? = some (rcells x.lo x.hi x.bits x.opn) := n0
  have hS : W2.drew.heap[w5.heap.size]? = some (rcells x.lo x.hi x.bits x.opn) := n0
  have y2 : W2.drew.heap[w.heap.size + 1 + 1]? = some (rcells 0 0 0 0) := y2
  have y3 : W2.drew.heap[w.heap.size + 1 + 1 + 1]? = some (rcells 0 0 0 0) := y3
  have zW : w.heap.size + 4 ≤ W2.drew.heap.size := zW
  have q0 : ∀ q : Kept (fun w' => w'.heap[w5.heap.size]? = some (rcells x.lo x.hi x.bits x.opn)), q.w.cell? ⟨w5.heap.size, 0, none⟩ = some (.int .i64 x.lo) := fun q => (rat q.kept).1
  have q1 : ∀ q : Kept (fun w' => w'.heap[w5.heap.size]? = some (rcells x.lo x.hi x.bits x.opn)), q.w.cell? ⟨w5.heap.size, 1, none⟩ = some (.int .i64 x.hi) := fun q => (rat q.kept).2.1
  have q2 : ∀ q : Kept (fun w' => w'.heap[w5.heap.size]? = some (rcells x.lo x.hi x.bits x.opn)), q.w.cell? ⟨w5.heap.size, 2, none⟩ = some (.int .i64 x.bits) := fun q => (rat q.kept).2.2.1
  have q3 : ∀ q : Kept (fun w' => w'.heap[w5.heap.size]? = some (rcells x.lo x.hi x.bits x.opn)), q.w.cell? ⟨w5.heap.size, 3, none⟩ = some (.int .i64 x.opn) := fun q => (rat q.kept).2.2.2
  have hKn : Nonempty (Kept (fun w' => w'.heap[w5.heap.size]? = some (rcells x.lo x.hi x.bits x.opn))) := ⟨⟨_, hS⟩⟩
  refine plan_pure (fun K hK => ?_); go_simp; refine hK _ _ ?_; clear hK K
  refine plan_load (fun K hK => ?_); go_simp; refine ⟨⟨⟨_, hS⟩, rfl⟩, hK _ _ ?_⟩; clear hK K
  refine plan_load (fun K hK => ?_); go_simp; refine ⟨⟨⟨_, hS⟩, rfl⟩, hK _ _ ?_⟩; clear hK K
  refine plan_act ?_
  clear q0 q1 q2 q3
  obtain ⟨th1, V5, hw1, y2, o1⟩ := rput4 y2 x.lo x.hi x.bits x.opn
  have y3 := Only.keep o1 y3 (by omega)
  have n0 := Only.keep o1 n0 (by omega)
  have zW := Nat.le_trans zW o1.size
  have hB := hB.trans (below_upon o1 (fun k hk => by omega) (by omega))
  go_wp2_with ((with_reducible refine gate_store (p := 8) rfl ?_); go_loud (refine wpList_put rfl 80 _ _ rfl (w.heap.size + 1 + 1) 0 [.int .i64 x.lo, .int .i64 x.hi, .int .i64 x.bits, .int .i64 x.opn] rfl rfl th1.out (by kernel_rfl) rfl ?_; rw [hw1.out]))
  have hS := n0
  refine ⟨⟨⟨_, hS⟩, rfl⟩, ?_⟩
  refine plan_act ?_
  obtain ⟨th2, V6, hw2, y3, o2⟩ := rput4 y3 x.lo x.hi x.bits x.opn
  have y2 := Only.keep o2 y2 (by omega)
  have n0 := Only.keep o2 n0 (by omega)
  have zW := Nat.le_trans zW o2.size
  have hB := hB.trans (below_upon o2 (fun k hk => by omega) (by omega))
  go_wp2_with ((with_reducible refine gate_store (p := 9) rfl ?_); go_loud (refine wpList_put rfl 80 _ _ rfl (w.heap.size + 1 + 1 + 1) 0 [.int .i64 x.lo, .int .i64 x.hi, .int .i64 x.bits, .int .i64 x.opn] rfl rfl th2.out (by kernel_rfl) rfl ?_; rw [hw2.out]))
  have hS := n0
  refine ⟨⟨⟨_, hS⟩, rfl⟩, ?_⟩
  refine plan_pure (fun K hK => ?_); go_simp; refine hK _ _ ?_; clear hK K
  refine plan_done ?_
  go_wp2
  obtain ⟨g0, g1, g2, g3⟩ := rat y2
  obtain ⟨f0, f1, f2, f3⟩ := rat y3
  refine bodyPost_ret (v := .tuple #[.agg #[.int .i64 x.lo, .int .i64 x.hi, .int .i64 x.bits, .int .i64 x.opn], .agg #[.int .i64 x.lo, .int .i64 x.hi, .int .i64 x.bits, .int .i64 x.opn], .bool ok]) (by simp [results, Try.results66, go_sem, g0, g1, g2, g3, f0, f1, f2, f3]) rfl ⟨x, x, ok, rfl, HM.out, hB⟩
set_option maxRecDepth 100000 in
set_option maxHeartbeats 3200000 in
theorem branchBoth_calls (op : Int) (t u : Rg) (a b : Rg) (fa : a.fits32) (fb : b.fits32) (ha : a.tidy = t) (hb' : b.tidy = u) (ot : t.Ok) (ou : u.Ok) (i14' : op ≠ 14) (i15' : op ≠ 15) (i12 : op = 12) (w : World) :
    Calls Try.prog 66 #[.int .i64 op, .agg #[.int .i64 a.lo, .int .i64 a.hi, .int .i64 a.bits, .int .i64 a.opn], .agg #[.int .i64 b.lo, .int .i64 b.hi, .int .i64 b.bits, .int .i64 b.opn], .bool false] w fun e w' => ∃ (x y : Rg) (ok : Bool), e = .returned (.tuple #[.agg #[.int .i64 x.lo, .int .i64 x.hi, .int .i64 x.bits, .int .i64 x.opn], .agg #[.int .i64 y.lo, .int .i64 y.hi, .int .i64 y.bits, .int .i64 y.opn], .bool ok]) ∧ Rg.branch op t u false = ifTwo ok x y ∧ Below w.heap.size w w' := by
  have cTa := tidy_calls a fa
  have cTb := tidy_calls b fb
  rw [ha] at cTa
  rw [hb'] at cTb
  clear ha hb' fa fb
  subst i12
  have HIS : Hid (false ≠ decide ((12 : Int) = 12)) := Lib.hid (by decide)
  go_enter Try.func66, Try.ntmps66
  go_wp2_with fail
  obtain ⟨hB, hs0, x0, x1, y2, y3⟩ := boxes4 w (rcells a.lo a.hi a.bits a.opn) (rcells b.lo b.hi b.bits b.opn) (rcells 0 0 0 0) (rcells 0 0 0 0)
  obtain ⟨W, hW⟩ : ∃ W, (((w.alloc (.cells #[.int .i64 a.lo, .int .i64 a.hi, .int .i64 a.bits, .int .i64 a.opn] 80)).alloc (.cells #[.int .i64 b.lo, .int .i64 b.hi, .int .i64 b.bits, .int .i64 b.opn] 80)).alloc (.cells #[.int .i64 0, .int .i64 0, .int .i64 0, .int .i64 0] 80)).alloc (.cells #[.int .i64 0, .int .i64 0, .int .i64 0, .int .i64 0] 80) = W := ⟨_, rfl⟩
  rw [hW]
  have hB : Below w.heap.size w W := hW ▸ hB
  have hs0 : W.heap.size = w.heap.size + 4 := hW ▸ hs0
  have x0 : W.heap[w.heap.size]? = some (rcells a.lo a.hi a.bits a.opn) := hW ▸ x0
  have x1 : W.heap[w.heap.size + 1]? = some (rcells b.lo b.hi b.bits b.opn) := hW ▸ x1
  have y2 : W.heap[w.heap.size + 1 + 1]? = some (rcells 0 0 0 0) := hW ▸ y2
  have y3 : W.heap[w.heap.size + 1 + 1 + 1]? = some (rcells 0 0 0 0) := hW ▸ y3
  clear hW
  have q0 := cell_regrown (rat x0).1
  have q1 := cell_regrown (rat x0).2.1
  have q2 := cell_regrown (rat x0).2.2.1
  have q3 := cell_regrown (rat x0).2.2.2
  have p0 := cell_regrown (rat x1).1
  have p1 := cell_regrown (rat x1).2.1
  have p2 := cell_regrown (rat x1).2.2.1
  have p3 := cell_regrown (rat x1).2.2.2
  refine wp_region_plan [4, 5] (.one 0 .load (.one 2 .load (.one 1 .act (.one 3 .act (.one 4 .last (.one 5 .last .done)))))) (fun w' => ∃ p : Regrown, w' = Sort.grow (redrawn W p.d) p.os) (by kernel_rfl) (by kernel_rfl) (fun _ _ d _ _ h => by cases d <;> exact h) ?_
  simp only [Plan.pick, List.getElem?_cons_zero, List.getElem?_cons_succ]
  have hS : Below W.heap.size W W.drew := below_drewN' (Below.refl _ _) 1
  have hB : Below _ _ W.drew := below_drewN' hB 1
  refine plan_load (fun K hK => ?_); go_simp; refine ⟨regrown_of_below hS, hK _ _ ?_⟩; clear hK K
  refine plan_load (fun K hK => ?_); go_simp; refine ⟨regrown_of_below hS, hK _ _ ?_⟩; clear hK K
  refine plan_act ?_
  go_wp2_with fail
  refine (cTa _).mono ?_
  rintro e w3 ⟨rfl, hb⟩
  have hS := bnext hS hb
  have hB := bnext hB hb
  clear hb
  go_wp2
  refine ⟨regrown_of_below hS, ?_⟩
  refine plan_act ?_
  go_wp2_with fail
  refine (cTb _).mono ?_
  rintro e w4 ⟨rfl, hb⟩
  have hS := bnext hS hb
  have hB := bnext hB hb
  clear hb
  go_wp2
  refine ⟨regrown_of_below hS, ?_⟩
  refine plan_last_ ?_
  have x0 := Below.keep hS x0
  have x1 := Below.keep hS x1
  have y2 := Below.keep hS y2
  have y3 := Below.keep hS y3
  have z1 := hS.size
  clear q0 q1 q2 q3 p0 p1 p2 p3 cTa cTb hS
  obtain ⟨th1, V1, hw1, x0, o1⟩ := rput4 x0 t.lo t.hi t.bits t.opn
  have x1 := Only.keep o1 x1 (by omega)
  have y2 := Only.keep o1 y2 (by omega)
  have y3 := Only.keep o1 y3 (by omega)
  have hB := hB.trans (below_upon o1 (fun k hk => by omega) hB.size)
  obtain ⟨th2, V2, hw2, x1, o2⟩ := rput4 x1 u.lo u.hi u.bits u.opn
  have x0 := Only.keep o2 x0 (by omega)
  have y2 := Only.keep o2 y2 (by omega)
  have y3 := Only.keep o2 y3 (by omega)
  have z3 := o1.size
  have z4 := o2.size
  have hB := hB.trans (below_upon o2 (fun k hk => by omega) hB.size)
  go_wp2_with ((with_reducible refine gate_store (p := 5) rfl ?_); go_loud (refine wpList_put rfl 80 _ _ rfl (w.heap.size) 0 [.int .i64 t.lo, .int .i64 t.hi, .int .i64 t.bits, .int .i64 t.opn] rfl rfl th1.out (by kernel_rfl) rfl ?_; rw [hw1.out]))
  refine plan_last_ ?_
  go_wp2_with ((with_reducible refine gate_store (p := 6) rfl ?_); go_loud (refine wpList_put rfl 80 _ _ rfl (w.heap.size + 1) 0 [.int .i64 u.lo, .int .i64 u.hi, .int .i64 u.bits, .int .i64 u.opn] rfl rfl th2.out (by kernel_rfl) rfl ?_; rw [hw2.out]))
  refine plan_done ?_
  clear th1 th2 hw1 hw2 o1 o2
  obtain ⟨q0, q1, q2, q3⟩ := rat x0
  obtain ⟨p0, p1, p2, p3⟩ := rat x1
  go_wp2_with fail
  refine (but_calls t u ot ou _).mono ?_
  rintro e w5 ⟨x, one, rfl, hr, hb⟩
  have hB := bnext hB hb
  have zz5 := hb.size
  have y2 := Below.keep hb y2
  have y3 := Below.keep hb y3
  have x0 := Below.keep hb x0
  have x1 := Below.keep hb x1
  clear hb q0 q1 q2 q3 p0 p1 p2 p3
  obtain ⟨q0, q1, q2, q3⟩ := rat (alloc_keep (.cells #[.int .i64 x.lo, .int .i64 x.hi, .int .i64 x.bits, .int .i64 x.opn] 80) x0)
  obtain ⟨p0, p1, p2, p3⟩ := rat (alloc_keep (.cells #[.int .i64 x.lo, .int .i64 x.hi, .int .i64 x.bits, .int .i64 x.opn] 80) x1)
  have hb := below_alloc' (Below.refl w5.heap.size w5) (rcells x.lo x.hi x.bits x.opn)
  have n0 := alloc_at' w5 (rcells x.lo x.hi x.bits x.opn)
  have hs1 := alloc_size w5 (rcells x.lo x.hi x.bits x.opn)
  have y2 := Below.keep hb y2
  have y3 := Below.keep hb y3
  have hB := bnext hB hb
  clear hb
  go_wp2_with fail
  refine (but_calls u t ou ot _).mono ?_
  rintro e w6 ⟨y, tw, rfl, hr', hb⟩
  have hB := bnext hB hb
  have zz6 := hb.size
  have y2 := Below.keep hb y2
  have y3 := Below.keep hb y3
  have n0 := Below.keep hb n0
  have hr2 : Rg.branch 12 t u false = ifTwo (one && tw) x y := (branch_both t u i14' i15' HIS.out).trans (by rw [hr, hr', two_some])
  clear hb hr hr' q0 q1 q2 q3 p0 p1 p2 p3 x0 x1
  have hb := below_alloc' (Below.refl w6.heap.size w6) (rcells y.lo y.hi y.bits y.opn)
  have n1 := alloc_at' w6 (rcells y.lo y.hi y.bits y.opn)
  have hB := bnext hB hb
  have y2 := Below.keep hb y2
  have y3 := Below.keep hb y3
  have n0 := Below.keep hb n0
  have zw5 : w.heap.size + 4 ≤ w5.heap.size := by omega
  have zw6 : w5.heap.size + 1 ≤ w6.heap.size := by rw [alloc_size] at zz6; omega
  clear hb
  cases hot : (one && tw) with
  | false =>
    rw [hot] at hr2
    have HM : Hid (Rg.branch 12 t u false = ifTwo false Rg.no Rg.no) := hr2.trans (ifTwo_false _ _ _ _)
    clear hr2
    cases one with
    | false =>
      go_wp2_with fail
      refine (noRange_calls _).mono ?_
      rintro e w7 ⟨rfl, hb⟩
      have hB := bnext hB hb
      have z7 := hb.size
      have y2 := Below.keep hb y2
      have y3 := Below.keep hb y3
      clear hb
      go_wp2_with fail
      refine (noRange_calls _).mono ?_
      rintro e w8 ⟨rfl, hb⟩
      have hB := bnext hB hb
      have z8 := hb.size
      have y2 := Below.keep hb y2
      have y3 := Below.keep hb y3
      clear hb
      obtain ⟨th1, V3, hw1, y2, o1⟩ := rput4 y2 1 0 0 0
      have y3 := Only.keep o1 y3 (by omega)
      have hB := hB.trans (below_upon o1 (fun k hk => by omega) hB.size)
      obtain ⟨th2, V4, hw2, y3, o2⟩ := rput4 y3 1 0 0 0
      have y2 := Only.keep o2 y2 (by omega)
      have z5 := o1.size
      have hB := hB.trans (below_upon o2 (fun k hk => by omega) hB.size)
      go_wp2_with (first | ((with_reducible refine gate_store (p := 8) rfl ?_); go_loud (refine wpList_put rfl 80 _ _ rfl (w.heap.size + 1 + 1) 0 [.int .i64 1, .int .i64 0, .int .i64 0, .int .i64 0] rfl rfl th1.out (by kernel_rfl) rfl ?_; rw [hw1.out])) | ((with_reducible refine gate_store (p := 9) rfl ?_); go_loud (refine wpList_put rfl 80 _ _ rfl (w.heap.size + 1 + 1 + 1) 0 [.int .i64 1, .int .i64 0, .int .i64 0, .int .i64 0] rfl rfl th2.out (by kernel_rfl) rfl ?_; rw [hw2.out])))
      obtain ⟨g0, g1, g2, g3⟩ := rat y2
      obtain ⟨f0, f1, f2, f3⟩ := rat y3
      refine bodyPost_ret (v := .tuple #[.agg #[.int .i64 1, .int .i64 0, .int .i64 0, .int .i64 0], .agg #[.int .i64 1, .int .i64 0, .int .i64 0, .int .i64 0], .bool false]) (by simp [results, Try.results66, go_sem, g0, g1, g2, g3, f0, f1, f2, f3]) rfl ⟨Rg.no, Rg.no, false, rfl, HM.out, hB⟩
    | true =>
      simp only [Bool.true_and] at hot
      subst hot
      go_wp2_with fail
      refine (noRange_calls _).mono ?_
      rintro e w7 ⟨rfl, hb⟩
      have hB := bnext hB hb
      have z7 := hb.size
      have y2 := Below.keep hb y2
      have y3 := Below.keep hb y3
      clear hb
      go_wp2_with fail
      refine (noRange_calls _).mono ?_
      rintro e w8 ⟨rfl, hb⟩
      have hB := bnext hB hb
      have z8 := hb.size
      have y2 := Below.keep hb y2
      have y3 := Below.keep hb y3
      clear hb
      obtain ⟨th1, V3, hw1, y2, o1⟩ := rput4 y2 1 0 0 0
      have y3 := Only.keep o1 y3 (by omega)
      have hB := hB.trans (below_upon o1 (fun k hk => by omega) hB.size)
      obtain ⟨th2, V4, hw2, y3, o2⟩ := rput4 y3 1 0 0 0
      have y2 := Only.keep o2 y2 (by omega)
      have z5 := o1.size
      have hB := hB.trans (below_upon o2 (fun k hk => by omega) hB.size)
      go_wp2_with (first | ((with_reducible refine gate_store (p := 8) rfl ?_); go_loud (refine wpList_put rfl 80 _ _ rfl (w.heap.size + 1 + 1) 0 [.int .i64 1, .int .i64 0, .int .i64 0, .int .i64 0] rfl rfl th1.out (by kernel_rfl) rfl ?_; rw [hw1.out])) | ((with_reducible refine gate_store (p := 9) rfl ?_); go_loud (refine wpList_put rfl 80 _ _ rfl (w.heap.size + 1 + 1 + 1) 0 [.int .i64 1, .int .i64 0, .int .i64 0, .int .i64 0] rfl rfl th2.out (by kernel_rfl) rfl ?_; rw [hw2.out])))
      obtain ⟨g0, g1, g2, g3⟩ := rat y2
      obtain ⟨f0, f1, f2, f3⟩ := rat y3
      refine bodyPost_ret (v := .tuple #[.agg #[.int .i64 1, .int .i64 0, .int .i64 0, .int .i64 0], .agg #[.int .i64 1, .int .i64 0, .int .i64 0, .int .i64 0], .bool false]) (by simp [results, Try.results66, go_sem, g0, g1, g2, g3, f0, f1, f2, f3]) rfl ⟨Rg.no, Rg.no, false, rfl, HM.out, hB⟩
  | true =>
    rw [hot] at hr2
    have HM := Lib.hid hr2
    clear hr2
    obtain ⟨rfl, rfl⟩ : one = true ∧ tw = true := by simpa using hot
    clear hot
    go_wp2_with fail
    obtain ⟨W2, hW⟩ : ∃ W, w6.alloc (.cells #[.int .i64 y.lo, .int .i64 y.hi, .int .i64 y.bits, .int .i64 y.opn] 80) = W := ⟨_, rfl⟩
    rw [hW]
    have hB : Below w.heap.size w W2 := hW ▸ hB
    have n0 : W2.heap[w5.heap.size]? = some (rcells x.lo x.hi x.bits x.opn) := hW ▸ n0
    have n1 : W2.heap[w6.heap.size]? = some (rcells y.lo y.hi y.bits y.opn) := hW ▸ n1
    have y2 : W2.heap[w.heap.size + 1 + 1]? = some (rcells 0 0 0 0) := hW ▸ y2
    have y3 : W2.heap[w.heap.size + 1 + 1 + 1]? = some (rcells 0 0 0 0) := hW ▸ y3
    have hs2 : W2.heap.size = w6.heap.size + 1 := hW ▸ alloc_size w6 _
    have zW : w.heap.size + 4 ≤ W2.heap.size := by omega
    clear hW
    refine wp_region_plan [] (.one 0 .load (.one 1 .load (.one 2 .act (.one 3 .act (.one 4 .pure .done))))) (fun w' => ∃ q : Kept (fun w' => w'.heap[w5.heap.size]? = some (rcells x.lo x.hi x.bits x.opn) ∧ w'.heap[w6.heap.size]? = some (rcells y.lo y.hi y.bits y.opn)), w' = q.w) (by kernel_rfl) (by kernel_rfl) (fun _ _ d _ _ h => by cases d <;> exact h) ?_
    simp only [Plan.pick, List.getElem?_cons_zero, List.getElem?_cons_succ]
    have hB : Below _ _ W2.drew := below_drewN' hB 1
    have n0 : W2.drew.heap[w5.heap.size]? = some (rcells x.lo x.hi x.bits x.opn) := n0
    have n1 : W2.drew.heap[w6.heap.size]? = some (rcells y.lo y.hi y.bits y.opn) := n1
    have hS : W2.drew.heap[w5.heap.size]? = some (rcells x.lo x.hi x.bits x.opn) ∧ W2.drew.heap[w6.heap.size]? = some (rcells y.lo y.hi y.bits y.opn) := ⟨n0, n1⟩
    have y2 : W2.drew.heap[w.heap.size + 1 + 1]? = some (rcells 0 0 0 0) := y2
    have y3 : W2.drew.heap[w.heap.size + 1 + 1 + 1]? = some (rcells 0 0 0 0) := y3
    have zW : w.heap.size + 4 ≤ W2.drew.heap.size := zW
    have q0 : ∀ q : Kept (fun w' => w'.heap[w5.heap.size]? = some (rcells x.lo x.hi x.bits x.opn) ∧ w'.heap[w6.heap.size]? = some (rcells y.lo y.hi y.bits y.opn)), q.w.cell? ⟨w5.heap.size, 0, none⟩ = some (.int .i64 x.lo) := fun q => (rat q.kept.1).1
    have q1 : ∀ q : Kept (fun w' => w'.heap[w5.heap.size]? = some (rcells x.lo x.hi x.bits x.opn) ∧ w'.heap[w6.heap.size]? = some (rcells y.lo y.hi y.bits y.opn)), q.w.cell? ⟨w5.heap.size, 1, none⟩ = some (.int .i64 x.hi) := fun q => (rat q.kept.1).2.1
    have q2 : ∀ q : Kept (fun w' => w'.heap[w5.heap.size]? = some (rcells x.lo x.hi x.bits x.opn) ∧ w'.heap[w6.heap.size]? = some (rcells y.lo y.hi y.bits y.opn)), q.w.cell? ⟨w5.heap.size, 2, none⟩ = some (.int .i64 x.bits) := fun q => (rat q.kept.1).2.2.1
    have q3 : ∀ q : Kept (fun w' => w'.heap[w5.heap.size]? = some (rcells x.lo x.hi x.bits x.opn) ∧ w'.heap[w6.heap.size]? = some (rcells y.lo y.hi y.bits y.opn)), q.w.cell? ⟨w5.heap.size, 3, none⟩ = some (.int .i64 x.opn) := fun q => (rat q.kept.1).2.2.2
    have p0 : ∀ q : Kept (fun w' => w'.heap[w5.heap.size]? = some (rcells x.lo x.hi x.bits x.opn) ∧ w'.heap[w6.heap.size]? = some (rcells y.lo y.hi y.bits y.opn)), q.w.cell? ⟨w6.heap.size, 0, none⟩ = some (.int .i64 y.lo) := fun q => (rat q.kept.2).1
    have p1 : ∀ q : Kept (fun w' => w'.heap[w5.heap.size]? = some (rcells x.lo x.hi x.bits x.opn) ∧ w'.heap[w6.heap.size]? = some (rcells y.lo y.hi y.bits y.opn)), q.w.cell? ⟨w6.heap.size, 1, none⟩ = some (.int .i64 y.hi) := fun q => (rat q.kept.2).2.1
    have p2 : ∀ q : Kept (fun w' => w'.heap[w5.heap.size]? = some (rcells x.lo x.hi x.bits x.opn) ∧ w'.heap[w6.heap.size]? = some (rcells y.lo y.hi y.bits y.opn)), q.w.cell? ⟨w6.heap.size, 2, none⟩ = some (.int .i64 y.bits) := fun q => (rat q.kept.2).2.2.1
    have p3 : ∀ q : Kept (fun w' => w'.heap[w5.heap.size]? = some (rcells x.lo x.hi x.bits x.opn) ∧ w'.heap[w6.heap.size]? = some (rcells y.lo y.hi y.bits y.opn)), q.w.cell? ⟨w6.heap.size, 3, none⟩ = some (.int .i64 y.opn) := fun q => (rat q.kept.2).2.2.2
    have hKn : Nonempty (Kept (fun w' => w'.heap[w5.heap.size]? = some (rcells x.lo x.hi x.bits x.opn) ∧ w'.heap[w6.heap.size]? = some (rcells y.lo y.hi y.bits y.opn))) := ⟨⟨_, hS⟩⟩
    refine plan_load (fun K hK => ?_); go_simp; refine ⟨⟨⟨_, hS⟩, rfl⟩, hK _ _ ?_⟩; clear hK K
    refine plan_load (fun K hK => ?_); go_simp; refine ⟨⟨⟨_, hS⟩, rfl⟩, hK _ _ ?_⟩; clear hK K
    refine plan_act ?_
    clear q0 q1 q2 q3 p0 p1 p2 p3
    obtain ⟨th1, V5, hw1, y2, o1⟩ := rput4 y2 x.lo x.hi x.bits x.opn
    have y3 := Only.keep o1 y3 (by omega)
    have n0 := Only.keep o1 n0 (by omega)
    have n1 := Only.keep o1 n1 (by omega)
    have zW := Nat.le_trans zW o1.size
    have hB := hB.trans (below_upon o1 (fun k hk => by omega) (by omega))
    go_wp2_with ((with_reducible refine gate_store (p := 8) rfl ?_); go_loud (refine wpList_put rfl 80 _ _ rfl (w.heap.size + 1 + 1) 0 [.int .i64 x.lo, .int .i64 x.hi, .int .i64 x.bits, .int .i64 x.opn] rfl rfl th1.out (by kernel_rfl) rfl ?_; rw [hw1.out]))
    have hS := And.intro n0 n1
    refine ⟨⟨⟨_, hS⟩, rfl⟩, ?_⟩
    refine plan_act ?_
    obtain ⟨th2, V6, hw2, y3, o2⟩ := rput4 y3 y.lo y.hi y.bits y.opn
    have y2 := Only.keep o2 y2 (by omega)
    have n0 := Only.keep o2 n0 (by omega)
    have n1 := Only.keep o2 n1 (by omega)
    have zW := Nat.le_trans zW o2.size
    have hB := hB.trans (below_upon o2 (fun k hk => by omega) (by omega))
    go_wp2_with ((with_reducible refine gate_store (p := 9) rfl ?_); go_loud (refine wpList_put rfl 80 _ _ rfl (w.heap.size + 1 + 1 + 1) 0 [.int .i64 y.lo, .int .i64 y.hi, .int .i64 y.bits, .int .i64 y.opn] rfl rfl th2.out (by kernel_rfl) rfl ?_; rw [hw2.out]))
    have hS := And.intro n0 n1
    refine ⟨⟨⟨_, hS⟩, rfl⟩, ?_⟩
    refine plan_pure (fun K hK => ?_); go_simp; refine hK _ _ ?_; clear hK K
    refine plan_done ?_
    go_wp2
    obtain ⟨g0, g1, g2, g3⟩ := rat y2
    obtain ⟨f0, f1, f2, f3⟩ := rat y3
    refine bodyPost_ret (v := .tuple #[.agg #[.int .i64 x.lo, .int .i64 x.hi, .int .i64 x.bits, .int .i64 x.opn], .agg #[.int .i64 y.lo, .int .i64 y.hi, .int .i64 y.bits, .int .i64 y.opn], .bool true]) (by simp [results, Try.results66, go_sem, g0, g1, g2, g3, f0, f1, f2, f3]) rfl ⟨x, y, true, rfl, HM.out, hB⟩
set_option maxRecDepth 100000 in
set_option maxHeartbeats 3200000 in
theorem branchBoth2_calls (op : Int) (t u : Rg) (a b : Rg) (fa : a.fits32) (fb : b.fits32) (ha : a.tidy = t) (hb' : b.tidy = u) (ot : t.Ok) (ou : u.Ok) (i14' : op ≠ 14) (i15' : op ≠ 15) (i12 : op ≠ 12) (w : World) :
    Calls Try.prog 66 #[.int .i64 op, .agg #[.int .i64 a.lo, .int .i64 a.hi, .int .i64 a.bits, .int .i64 a.opn], .agg #[.int .i64 b.lo, .int .i64 b.hi, .int .i64 b.bits, .int .i64 b.opn], .bool true] w fun e w' => ∃ (x y : Rg) (ok : Bool), e = .returned (.tuple #[.agg #[.int .i64 x.lo, .int .i64 x.hi, .int .i64 x.bits, .int .i64 x.opn], .agg #[.int .i64 y.lo, .int .i64 y.hi, .int .i64 y.bits, .int .i64 y.opn], .bool ok]) ∧ Rg.branch op t u true = ifTwo ok x y ∧ Below w.heap.size w w' := by
  have cTa := tidy_calls a fa
  have cTb := tidy_calls b fb
  rw [ha] at cTa
  rw [hb'] at cTb
  clear ha hb' fa fb
  have HIS : Hid (true ≠ decide (op = 12)) := Lib.hid (by simp [i12])
  go_enter Try.func66, Try.ntmps66
  go_wp2_with fail
  obtain ⟨hB, hs0, x0, x1, y2, y3⟩ := boxes4 w (rcells a.lo a.hi a.bits a.opn) (rcells b.lo b.hi b.bits b.opn) (rcells 0 0 0 0) (rcells 0 0 0 0)
  obtain ⟨W, hW⟩ : ∃ W, (((w.alloc (.cells #[.int .i64 a.lo, .int .i64 a.hi, .int .i64 a.bits, .int .i64 a.opn] 80)).alloc (.cells #[.int .i64 b.lo, .int .i64 b.hi, .int .i64 b.bits, .int .i64 b.opn] 80)).alloc (.cells #[.int .i64 0, .int .i64 0, .int .i64 0, .int .i64 0] 80)).alloc (.cells #[.int .i64 0, .int .i64 0, .int .i64 0, .int .i64 0] 80) = W := ⟨_, rfl⟩
  rw [hW]
  have hB : Below w.heap.size w W := hW ▸ hB
  have hs0 : W.heap.size = w.heap.size + 4 := hW ▸ hs0
  have x0 : W.heap[w.heap.size]? = some (rcells a.lo a.hi a.bits a.opn) := hW ▸ x0
  have x1 : W.heap[w.heap.size + 1]? = some (rcells b.lo b.hi b.bits b.opn) := hW ▸ x1
  have y2 : W.heap[w.heap.size + 1 + 1]? = some (rcells 0 0 0 0) := hW ▸ y2
  have y3 : W.heap[w.heap.size + 1 + 1 + 1]? = some (rcells 0 0 0 0) := hW ▸ y3
  clear hW
  have q0 := cell_regrown (rat x0).1
  have q1 := cell_regrown (rat x0).2.1
  have q2 := cell_regrown (rat x0).2.2.1
  have q3 := cell_regrown (rat x0).2.2.2
  have p0 := cell_regrown (rat x1).1
  have p1 := cell_regrown (rat x1).2.1
  have p2 := cell_regrown (rat x1).2.2.1
  have p3 := cell_regrown (rat x1).2.2.2
  refine wp_region_plan [4, 5] (.one 0 .load (.one 2 .load (.one 1 .act (.one 3 .act (.one 4 .last (.one 5 .last .done)))))) (fun w' => ∃ p : Regrown, w' = Sort.grow (redrawn W p.d) p.os) (by kernel_rfl) (by kernel_rfl) (fun _ _ d _ _ h => by cases d <;> exact h) ?_
  simp only [Plan.pick, List.getElem?_cons_zero, List.getElem?_cons_succ]
  have hS : Below W.heap.size W W.drew := below_drewN' (Below.refl _ _) 1
  have hB : Below _ _ W.drew := below_drewN' hB 1
  refine plan_load (fun K hK => ?_); go_simp; refine ⟨regrown_of_below hS, hK _ _ ?_⟩; clear hK K
  refine plan_load (fun K hK => ?_); go_simp; refine ⟨regrown_of_below hS, hK _ _ ?_⟩; clear hK K
  refine plan_act ?_
  go_wp2_with fail
  refine (cTa _).mono ?_
  rintro e w3 ⟨rfl, hb⟩
  have hS := bnext hS hb
  have hB := bnext hB hb
  clear hb
  go_wp2
  refine ⟨regrown_of_below hS, ?_⟩
  refine plan_act ?_
  go_wp2_with fail
  refine (cTb _).mono ?_
  rintro e w4 ⟨rfl, hb⟩
  have hS := bnext hS hb
  have hB := bnext hB hb
  clear hb
  go_wp2
  refine ⟨regrown_of_below hS, ?_⟩
  refine plan_last_ ?_
  have x0 := Below.keep hS x0
  have x1 := Below.keep hS x1
  have y2 := Below.keep hS y2
  have y3 := Below.keep hS y3
  have z1 := hS.size
  clear q0 q1 q2 q3 p0 p1 p2 p3 cTa cTb hS
  obtain ⟨th1, V1, hw1, x0, o1⟩ := rput4 x0 t.lo t.hi t.bits t.opn
  have x1 := Only.keep o1 x1 (by omega)
  have y2 := Only.keep o1 y2 (by omega)
  have y3 := Only.keep o1 y3 (by omega)
  have hB := hB.trans (below_upon o1 (fun k hk => by omega) hB.size)
  obtain ⟨th2, V2, hw2, x1, o2⟩ := rput4 x1 u.lo u.hi u.bits u.opn
  have x0 := Only.keep o2 x0 (by omega)
  have y2 := Only.keep o2 y2 (by omega)
  have y3 := Only.keep o2 y3 (by omega)
  have z3 := o1.size
  have z4 := o2.size
  have hB := hB.trans (below_upon o2 (fun k hk => by omega) hB.size)
  go_wp2_with ((with_reducible refine gate_store (p := 5) rfl ?_); go_loud (refine wpList_put rfl 80 _ _ rfl (w.heap.size) 0 [.int .i64 t.lo, .int .i64 t.hi, .int .i64 t.bits, .int .i64 t.opn] rfl rfl th1.out (by kernel_rfl) rfl ?_; rw [hw1.out]))
  refine plan_last_ ?_
  go_wp2_with ((with_reducible refine gate_store (p := 6) rfl ?_); go_loud (refine wpList_put rfl 80 _ _ rfl (w.heap.size + 1) 0 [.int .i64 u.lo, .int .i64 u.hi, .int .i64 u.bits, .int .i64 u.opn] rfl rfl th2.out (by kernel_rfl) rfl ?_; rw [hw2.out]))
  refine plan_done ?_
  clear th1 th2 hw1 hw2 o1 o2
  obtain ⟨q0, q1, q2, q3⟩ := rat x0
  obtain ⟨p0, p1, p2, p3⟩ := rat x1
  go_wp2_with fail
  refine (but_calls t u ot ou _).mono ?_
  rintro e w5 ⟨x, one, rfl, hr, hb⟩
  have hB := bnext hB hb
  have zz5 := hb.size
  have y2 := Below.keep hb y2
  have y3 := Below.keep hb y3
  have x0 := Below.keep hb x0
  have x1 := Below.keep hb x1
  clear hb q0 q1 q2 q3 p0 p1 p2 p3
  obtain ⟨q0, q1, q2, q3⟩ := rat (alloc_keep (.cells #[.int .i64 x.lo, .int .i64 x.hi, .int .i64 x.bits, .int .i64 x.opn] 80) x0)
  obtain ⟨p0, p1, p2, p3⟩ := rat (alloc_keep (.cells #[.int .i64 x.lo, .int .i64 x.hi, .int .i64 x.bits, .int .i64 x.opn] 80) x1)
  have hb := below_alloc' (Below.refl w5.heap.size w5) (rcells x.lo x.hi x.bits x.opn)
  have n0 := alloc_at' w5 (rcells x.lo x.hi x.bits x.opn)
  have hs1 := alloc_size w5 (rcells x.lo x.hi x.bits x.opn)
  have y2 := Below.keep hb y2
  have y3 := Below.keep hb y3
  have hB := bnext hB hb
  clear hb
  go_wp2_with fail
  refine (but_calls u t ou ot _).mono ?_
  rintro e w6 ⟨y, tw, rfl, hr', hb⟩
  have hB := bnext hB hb
  have zz6 := hb.size
  have y2 := Below.keep hb y2
  have y3 := Below.keep hb y3
  have n0 := Below.keep hb n0
  have hr2 : Rg.branch op t u true = ifTwo (one && tw) x y := (branch_both t u i14' i15' HIS.out).trans (by rw [hr, hr', two_some])
  clear hb hr hr' q0 q1 q2 q3 p0 p1 p2 p3 x0 x1
  have hb := below_alloc' (Below.refl w6.heap.size w6) (rcells y.lo y.hi y.bits y.opn)
  have n1 := alloc_at' w6 (rcells y.lo y.hi y.bits y.opn)
  have hB := bnext hB hb
  have y2 := Below.keep hb y2
  have y3 := Below.keep hb y3
  have n0 := Below.keep hb n0
  have zw5 : w.heap.size + 4 ≤ w5.heap.size := by omega
  have zw6 : w5.heap.size + 1 ≤ w6.heap.size := by rw [alloc_size] at zz6; omega
  clear hb
  cases hot : (one && tw) with
  | false =>
    rw [hot] at hr2
    have HM : Hid (Rg.branch op t u true = ifTwo false Rg.no Rg.no) := hr2.trans (ifTwo_false _ _ _ _)
    clear hr2
    cases one with
    | false =>
      go_wp2_with fail
      refine (noRange_calls _).mono ?_
      rintro e w7 ⟨rfl, hb⟩
      have hB := bnext hB hb
      have z7 := hb.size
      have y2 := Below.keep hb y2
      have y3 := Below.keep hb y3
      clear hb
      go_wp2_with fail
      refine (noRange_calls _).mono ?_
      rintro e w8 ⟨rfl, hb⟩
      have hB := bnext hB hb
      have z8 := hb.size
      have y2 := Below.keep hb y2
      have y3 := Below.keep hb y3
      clear hb
      obtain ⟨th1, V3, hw1, y2, o1⟩ := rput4 y2 1 0 0 0
      have y3 := Only.keep o1 y3 (by omega)
      have hB := hB.trans (below_upon o1 (fun k hk => by omega) hB.size)
      obtain ⟨th2, V4, hw2, y3, o2⟩ := rput4 y3 1 0 0 0
      have y2 := Only.keep o2 y2 (by omega)
      have z5 := o1.size
      have hB := hB.trans (below_upon o2 (fun k hk => by omega) hB.size)
      go_wp2_with (first | ((with_reducible refine gate_store (p := 8) rfl ?_); go_loud (refine wpList_put rfl 80 _ _ rfl (w.heap.size + 1 + 1) 0 [.int .i64 1, .int .i64 0, .int .i64 0, .int .i64 0] rfl rfl th1.out (by kernel_rfl) rfl ?_; rw [hw1.out])) | ((with_reducible refine gate_store (p := 9) rfl ?_); go_loud (refine wpList_put rfl 80 _ _ rfl (w.heap.size + 1 + 1 + 1) 0 [.int .i64 1, .int .i64 0, .int .i64 0, .int .i64 0] rfl rfl th2.out (by kernel_rfl) rfl ?_; rw [hw2.out])))
      obtain ⟨g0, g1, g2, g3⟩ := rat y2
      obtain ⟨f0, f1, f2, f3⟩ := rat y3
      refine bodyPost_ret (v := .tuple #[.agg #[.int .i64 1, .int .i64 0, .int .i64 0, .int .i64 0], .agg #[.int .i64 1, .int .i64 0, .int .i64 0, .int .i64 0], .bool false]) (by simp [results, Try.results66, go_sem, g0, g1, g2, g3, f0, f1, f2, f3]) rfl ⟨Rg.no, Rg.no, false, rfl, HM.out, hB⟩
    | true =>
      simp only [Bool.true_and] at hot
      subst hot
      go_wp2_with fail
      refine (noRange_calls _).mono ?_
      rintro e w7 ⟨rfl, hb⟩
      have hB := bnext hB hb
      have z7 := hb.size
      have y2 := Below.keep hb y2
      have y3 := Below.keep hb y3
      clear hb
      go_wp2_with fail
      refine (noRange_calls _).mono ?_
      rintro e w8 ⟨rfl, hb⟩
      have hB := bnext hB hb
      have z8 := hb.size
      have y2 := Below.keep hb y2
      have y3 := Below.keep hb y3
      clear hb
      obtain ⟨th1, V3, hw1, y2, o1⟩ := rput4 y2 1 0 0 0
      have y3 := Only.keep o1 y3 (by omega)
      have hB := hB.trans (below_upon o1 (fun k hk => by omega) hB.size)
      obtain ⟨th2, V4, hw2, y3, o2⟩ := rput4 y3 1 0 0 0
      have y2 := Only.keep o2 y2 (by omega)
      have z5 := o1.size
      have hB := hB.trans (below_upon o2 (fun k hk => by omega) hB.size)
      go_wp2_with (first | ((with_reducible refine gate_store (p := 8) rfl ?_); go_loud (refine wpList_put rfl 80 _ _ rfl (w.heap.size + 1 + 1) 0 [.int .i64 1, .int .i64 0, .int .i64 0, .int .i64 0] rfl rfl th1.out (by kernel_rfl) rfl ?_; rw [hw1.out])) | ((with_reducible refine gate_store (p := 9) rfl ?_); go_loud (refine wpList_put rfl 80 _ _ rfl (w.heap.size + 1 + 1 + 1) 0 [.int .i64 1, .int .i64 0, .int .i64 0, .int .i64 0] rfl rfl th2.out (by kernel_rfl) rfl ?_; rw [hw2.out])))
      obtain ⟨g0, g1, g2, g3⟩ := rat y2
      obtain ⟨f0, f1, f2, f3⟩ := rat y3
      refine bodyPost_ret (v := .tuple #[.agg #[.int .i64 1, .int .i64 0, .int .i64 0, .int .i64 0], .agg #[.int .i64 1, .int .i64 0, .int .i64 0, .int .i64 0], .bool false]) (by simp [results, Try.results66, go_sem, g0, g1, g2, g3, f0, f1, f2, f3]) rfl ⟨Rg.no, Rg.no, false, rfl, HM.out, hB⟩
  | true =>
    rw [hot] at hr2
    have HM := Lib.hid hr2
    clear hr2
    obtain ⟨rfl, rfl⟩ : one = true ∧ tw = true := by simpa using hot
    clear hot
    go_wp2_with fail
    obtain ⟨W2, hW⟩ : ∃ W, w6.alloc (.cells #[.int .i64 y.lo, .int .i64 y.hi, .int .i64 y.bits, .int .i64 y.opn] 80) = W := ⟨_, rfl⟩
    rw [hW]
    have hB : Below w.heap.size w W2 := hW ▸ hB
    have n0 : W2.heap[w5.heap.size]? = some (rcells x.lo x.hi x.bits x.opn) := hW ▸ n0
    have n1 : W2.heap[w6.heap.size]? = some (rcells y.lo y.hi y.bits y.opn) := hW ▸ n1
    have y2 : W2.heap[w.heap.size + 1 + 1]? = some (rcells 0 0 0 0) := hW ▸ y2
    have y3 : W2.heap[w.heap.size + 1 + 1 + 1]? = some (rcells 0 0 0 0) := hW ▸ y3
    have hs2 : W2.heap.size = w6.heap.size + 1 := hW ▸ alloc_size w6 _
    have zW : w.heap.size + 4 ≤ W2.heap.size := by omega
    clear hW
    refine wp_region_plan [] (.one 0 .load (.one 1 .load (.one 2 .act (.one 3 .act (.one 4 .pure .done))))) (fun w' => ∃ q : Kept (fun w' => w'.heap[w5.heap.size]? = some (rcells x.lo x.hi x.bits x.opn) ∧ w'.heap[w6.heap.size]? = some (rcells y.lo y.hi y.bits y.opn)), w' = q.w) (by kernel_rfl) (by kernel_rfl) (fun _ _ d _ _ h => by cases d <;> exact h) ?_
    simp only [Plan.pick, List.getElem?_cons_zero, List.getElem?_cons_succ]
    have hB : Below _ _ W2.drew := below_drewN' hB 1
    have n0 : W2.drew.heap[w5.heap.size]? = some (rcells x.lo x.hi x.bits x.opn) := n0
    have n1 : W2.drew.heap[w6.heap.size]? = some (rcells y.lo y.hi y.bits y.opn) := n1
    have hS : W2.drew.heap[w5.heap.size]? = some (rcells x.lo x.hi x.bits x.opn) ∧ W2.drew.heap[w6.heap.size]? = some (rcells y.lo y.hi y.bits y.opn) := ⟨n0, n1⟩
    have y2 : W2.drew.heap[w.heap.size + 1 + 1]? = some (rcells 0 0 0 0) := y2
    have y3 : W2.drew.heap[w.heap.size + 1 + 1 + 1]? = some (rcells 0 0 0 0) := y3
    have zW : w.heap.size + 4 ≤ W2.drew.heap.size := zW
    have q0 : ∀ q : Kept (fun w' => w'.heap[w5.heap.size]? = some (rcells x.lo x.hi x.bits x.opn) ∧ w'.heap[w6.heap.size]? = some (rcells y.lo y.hi y.bits y.opn)), q.w.cell? ⟨w5.heap.size, 0, none⟩ = some (.int .i64 x.lo) := fun q => (rat q.kept.1).1
    have q1 : ∀ q : Kept (fun w' => w'.heap[w5.heap.size]? = some (rcells x.lo x.hi x.bits x.opn) ∧ w'.heap[w6.heap.size]? = some (rcells y.lo y.hi y.bits y.opn)), q.w.cell? ⟨w5.heap.size, 1, none⟩ = some (.int .i64 x.hi) := fun q => (rat q.kept.1).2.1
    have q2 : ∀ q : Kept (fun w' => w'.heap[w5.heap.size]? = some (rcells x.lo x.hi x.bits x.opn) ∧ w'.heap[w6.heap.size]? = some (rcells y.lo y.hi y.bits y.opn)), q.w.cell? ⟨w5.heap.size, 2, none⟩ = some (.int .i64 x.bits) := fun q => (rat q.kept.1).2.2.1
    have q3 : ∀ q : Kept (fun w' => w'.heap[w5.heap.size]? = some (rcells x.lo x.hi x.bits x.opn) ∧ w'.heap[w6.heap.size]? = some (rcells y.lo y.hi y.bits y.opn)), q.w.cell? ⟨w5.heap.size, 3, none⟩ = some (.int .i64 x.opn) := fun q => (rat q.kept.1).2.2.2
    have p0 : ∀ q : Kept (fun w' => w'.heap[w5.heap.size]? = some (rcells x.lo x.hi x.bits x.opn) ∧ w'.heap[w6.heap.size]? = some (rcells y.lo y.hi y.bits y.opn)), q.w.cell? ⟨w6.heap.size, 0, none⟩ = some (.int .i64 y.lo) := fun q => (rat q.kept.2).1
    have p1 : ∀ q : Kept (fun w' => w'.heap[w5.heap.size]? = some (rcells x.lo x.hi x.bits x.opn) ∧ w'.heap[w6.heap.size]? = some (rcells y.lo y.hi y.bits y.opn)), q.w.cell? ⟨w6.heap.size, 1, none⟩ = some (.int .i64 y.hi) := fun q => (rat q.kept.2).2.1
    have p2 : ∀ q : Kept (fun w' => w'.heap[w5.heap.size]? = some (rcells x.lo x.hi x.bits x.opn) ∧ w'.heap[w6.heap.size]? = some (rcells y.lo y.hi y.bits y.opn)), q.w.cell? ⟨w6.heap.size, 2, none⟩ = some (.int .i64 y.bits) := fun q => (rat q.kept.2).2.2.1
    have p3 : ∀ q : Kept (fun w' => w'.heap[w5.heap.size]? = some (rcells x.lo x.hi x.bits x.opn) ∧ w'.heap[w6.heap.size]? = some (rcells y.lo y.hi y.bits y.opn)), q.w.cell? ⟨w6.heap.size, 3, none⟩ = some (.int .i64 y.opn) := fun q => (rat q.kept.2).2.2.2
    have hKn : Nonempty (Kept (fun w' => w'.heap[w5.heap.size]? = some (rcells x.lo x.hi x.bits x.opn) ∧ w'.heap[w6.heap.size]? = some (rcells y.lo y.hi y.bits y.opn))) := ⟨⟨_, hS⟩⟩
    refine plan_load (fun K hK => ?_); go_simp; refine ⟨⟨⟨_, hS⟩, rfl⟩, hK _ _ ?_⟩; clear hK K
    refine plan_load (fun K hK => ?_); go_simp; refine ⟨⟨⟨_, hS⟩, rfl⟩, hK _ _ ?_⟩; clear hK K
    refine plan_act ?_
    clear q0 q1 q2 q3 p0 p1 p2 p3
    obtain ⟨th1, V5, hw1, y2, o1⟩ := rput4 y2 x.lo x.hi x.bits x.opn
    have y3 := Only.keep o1 y3 (by omega)
    have n0 := Only.keep o1 n0 (by omega)
    have n1 := Only.keep o1 n1 (by omega)
    have zW := Nat.le_trans zW o1.size
    have hB := hB.trans (below_upon o1 (fun k hk => by omega) (by omega))
    go_wp2_with ((with_reducible refine gate_store (p := 8) rfl ?_); go_loud (refine wpList_put rfl 80 _ _ rfl (w.heap.size + 1 + 1) 0 [.int .i64 x.lo, .int .i64 x.hi, .int .i64 x.bits, .int .i64 x.opn] rfl rfl th1.out (by kernel_rfl) rfl ?_; rw [hw1.out]))
    have hS := And.intro n0 n1
    refine ⟨⟨⟨_, hS⟩, rfl⟩, ?_⟩
    refine plan_act ?_
    obtain ⟨th2, V6, hw2, y3, o2⟩ := rput4 y3 y.lo y.hi y.bits y.opn
    have y2 := Only.keep o2 y2 (by omega)
    have n0 := Only.keep o2 n0 (by omega)
    have n1 := Only.keep o2 n1 (by omega)
    have zW := Nat.le_trans zW o2.size
    have hB := hB.trans (below_upon o2 (fun k hk => by omega) (by omega))
    go_wp2_with ((with_reducible refine gate_store (p := 9) rfl ?_); go_loud (refine wpList_put rfl 80 _ _ rfl (w.heap.size + 1 + 1 + 1) 0 [.int .i64 y.lo, .int .i64 y.hi, .int .i64 y.bits, .int .i64 y.opn] rfl rfl th2.out (by kernel_rfl) rfl ?_; rw [hw2.out]))
    have hS := And.intro n0 n1
    refine ⟨⟨⟨_, hS⟩, rfl⟩, ?_⟩
    refine plan_pure (fun K hK => ?_); go_simp; refine hK _ _ ?_; clear hK K
    refine plan_done ?_
    go_wp2
    obtain ⟨g0, g1, g2, g3⟩ := rat y2
    obtain ⟨f0, f1, f2, f3⟩ := rat y3
    refine bodyPost_ret (v := .tuple #[.agg #[.int .i64 x.lo, .int .i64 x.hi, .int .i64 x.bits, .int .i64 x.opn], .agg #[.int .i64 y.lo, .int .i64 y.hi, .int .i64 y.bits, .int .i64 y.opn], .bool true]) (by simp [results, Try.results66, go_sem, g0, g1, g2, g3, f0, f1, f2, f3]) rfl ⟨x, y, true, rfl, HM.out, hB⟩
set_option maxRecDepth 100000 in
set_option maxHeartbeats 3200000 in
theorem branchMeet2_calls (op : Int) (t u : Rg) (a b : Rg) (fa : a.fits32) (fb : b.fits32) (ha : a.tidy = t) (hb' : b.tidy = u) (ot : t.Ok) (ou : u.Ok) (i14' : op ≠ 14) (i15' : op ≠ 15) (i12 : op ≠ 12) (w : World) :
    Calls Try.prog 66 #[.int .i64 op, .agg #[.int .i64 a.lo, .int .i64 a.hi, .int .i64 a.bits, .int .i64 a.opn], .agg #[.int .i64 b.lo, .int .i64 b.hi, .int .i64 b.bits, .int .i64 b.opn], .bool false] w fun e w' => ∃ (x y : Rg) (ok : Bool), e = .returned (.tuple #[.agg #[.int .i64 x.lo, .int .i64 x.hi, .int .i64 x.bits, .int .i64 x.opn], .agg #[.int .i64 y.lo, .int .i64 y.hi, .int .i64 y.bits, .int .i64 y.opn], .bool ok]) ∧ Rg.branch op t u false = ifTwo ok x y ∧ Below w.heap.size w w' := by
  have cTa := tidy_calls a fa
  have cTb := tidy_calls b fb
  rw [ha] at cTa
  rw [hb'] at cTb
  clear ha hb' fa fb
  have HIS : Hid (false = decide (op = 12)) := Lib.hid (by simp [i12])
  have hn12 : (!(op == 12)) = true := by simp [i12]
  clear i12
  go_enter Try.func66, Try.ntmps66
  go_wp2_with fail
  obtain ⟨hB, hs0, x0, x1, y2, y3⟩ := boxes4 w (rcells a.lo a.hi a.bits a.opn) (rcells b.lo b.hi b.bits b.opn) (rcells 0 0 0 0) (rcells 0 0 0 0)
  obtain ⟨W, hW⟩ : ∃ W, (((w.alloc (.cells #[.int .i64 a.lo, .int .i64 a.hi, .int .i64 a.bits, .int .i64 a.opn] 80)).alloc (.cells #[.int .i64 b.lo, .int .i64 b.hi, .int .i64 b.bits, .int .i64 b.opn] 80)).alloc (.cells #[.int .i64 0, .int .i64 0, .int .i64 0, .int .i64 0] 80)).alloc (.cells #[.int .i64 0, .int .i64 0, .int .i64 0, .int .i64 0] 80) = W := ⟨_, rfl⟩
  rw [hW]
  have hB : Below w.heap.size w W := hW ▸ hB
  have hs0 : W.heap.size = w.heap.size + 4 := hW ▸ hs0
  have x0 : W.heap[w.heap.size]? = some (rcells a.lo a.hi a.bits a.opn) := hW ▸ x0
  have x1 : W.heap[w.heap.size + 1]? = some (rcells b.lo b.hi b.bits b.opn) := hW ▸ x1
  have y2 : W.heap[w.heap.size + 1 + 1]? = some (rcells 0 0 0 0) := hW ▸ y2
  have y3 : W.heap[w.heap.size + 1 + 1 + 1]? = some (rcells 0 0 0 0) := hW ▸ y3
  clear hW
  have q0 := cell_regrown (rat x0).1
  have q1 := cell_regrown (rat x0).2.1
  have q2 := cell_regrown (rat x0).2.2.1
  have q3 := cell_regrown (rat x0).2.2.2
  have p0 := cell_regrown (rat x1).1
  have p1 := cell_regrown (rat x1).2.1
  have p2 := cell_regrown (rat x1).2.2.1
  have p3 := cell_regrown (rat x1).2.2.2
  refine wp_region_plan [4, 5] (.one 0 .load (.one 2 .load (.one 1 .act (.one 3 .act (.one 4 .last (.one 5 .last .done)))))) (fun w' => ∃ p : Regrown, w' = Sort.grow (redrawn W p.d) p.os) (by kernel_rfl) (by kernel_rfl) (fun _ _ d _ _ h => by cases d <;> exact h) ?_
  simp only [Plan.pick, List.getElem?_cons_zero, List.getElem?_cons_succ]
  have hS : Below W.heap.size W W.drew := below_drewN' (Below.refl _ _) 1
  have hB : Below _ _ W.drew := below_drewN' hB 1
  refine plan_load (fun K hK => ?_); go_simp; refine ⟨regrown_of_below hS, hK _ _ ?_⟩; clear hK K
  refine plan_load (fun K hK => ?_); go_simp; refine ⟨regrown_of_below hS, hK _ _ ?_⟩; clear hK K
  refine plan_act ?_
  go_wp2_with fail
  refine (cTa _).mono ?_
  rintro e w3 ⟨rfl, hb⟩
  have hS := bnext hS hb
  have hB := bnext hB hb
  clear hb
  go_wp2
  refine ⟨regrown_of_below hS, ?_⟩
  refine plan_act ?_
  go_wp2_with fail
  refine (cTb _).mono ?_
  rintro e w4 ⟨rfl, hb⟩
  have hS := bnext hS hb
  have hB := bnext hB hb
  clear hb
  go_wp2
  refine ⟨regrown_of_below hS, ?_⟩
  refine plan_last_ ?_
  have x0 := Below.keep hS x0
  have x1 := Below.keep hS x1
  have y2 := Below.keep hS y2
  have y3 := Below.keep hS y3
  have z1 := hS.size
  clear q0 q1 q2 q3 p0 p1 p2 p3 cTa cTb hS
  obtain ⟨th1, V1, hw1, x0, o1⟩ := rput4 x0 t.lo t.hi t.bits t.opn
  have x1 := Only.keep o1 x1 (by omega)
  have y2 := Only.keep o1 y2 (by omega)
  have y3 := Only.keep o1 y3 (by omega)
  have hB := hB.trans (below_upon o1 (fun k hk => by omega) hB.size)
  obtain ⟨th2, V2, hw2, x1, o2⟩ := rput4 x1 u.lo u.hi u.bits u.opn
  have x0 := Only.keep o2 x0 (by omega)
  have y2 := Only.keep o2 y2 (by omega)
  have y3 := Only.keep o2 y3 (by omega)
  have z3 := o1.size
  have z4 := o2.size
  have hB := hB.trans (below_upon o2 (fun k hk => by omega) hB.size)
  go_wp2_with ((with_reducible refine gate_store (p := 5) rfl ?_); go_loud (refine wpList_put rfl 80 _ _ rfl (w.heap.size) 0 [.int .i64 t.lo, .int .i64 t.hi, .int .i64 t.bits, .int .i64 t.opn] rfl rfl th1.out (by kernel_rfl) rfl ?_; rw [hw1.out]))
  refine plan_last_ ?_
  go_wp2_with ((with_reducible refine gate_store (p := 6) rfl ?_); go_loud (refine wpList_put rfl 80 _ _ rfl (w.heap.size + 1) 0 [.int .i64 u.lo, .int .i64 u.hi, .int .i64 u.bits, .int .i64 u.opn] rfl rfl th2.out (by kernel_rfl) rfl ?_; rw [hw2.out]))
  refine plan_done ?_
  clear th1 th2 hw1 hw2 o1 o2
  obtain ⟨q0, q1, q2, q3⟩ := rat x0
  obtain ⟨p0, p1, p2, p3⟩ := rat x1
  go_wp2_with fail
  refine (meet_calls t u ot ou _).mono ?_
  rintro e w5 ⟨x, ok, rfl, hr, hb⟩
  have hB := bnext hB hb
  have zz5 := hb.size
  have y2 := Below.keep hb y2
  have y3 := Below.keep hb y3
  have HM : Hid (Rg.branch op t u false = ifTwo ok x x) := (branch_meet t u i14' i15' HIS.out).trans (by rw [hr, map_two])
  clear hb hr q0 q1 q2 q3 p0 p1 p2 p3 x0 x1
  go_wp2_with fail
  have hb := below_alloc' (Below.refl w5.heap.size w5) (rcells x.lo x.hi x.bits x.opn)
  have n0 := alloc_at' w5 (rcells x.lo x.hi x.bits x.opn)
  have hs1 := alloc_size w5 (rcells x.lo x.hi x.bits x.opn)
  obtain ⟨W2, hW⟩ : ∃ W, w5.alloc (.cells #[.int .i64 x.lo, .int .i64 x.hi, .int .i64 x.bits, .int .i64 x.opn] 80) = W := ⟨_, rfl⟩
  rw [hW]
  have hb : Below w5.heap.size w5 W2 := hW ▸ hb
  have hs1 : W2.heap.size = w5.heap.size + 1 := hW ▸ hs1
  have n0 : W2.heap[w5.heap.size]? = some (rcells x.lo x.hi x.bits x.opn) := hW ▸ n0
  have hB := bnext hB hb
  have y2 := Below.keep hb y2
  have y3 := Below.keep hb y3
  have zW : w.heap.size + 4 ≤ W2.heap.size := by omega
  have zw5 : w.heap.size + 4 ≤ w5.heap.size := by omega
  clear hW hb
  refine wp_region_plan [] (.one 2 .pure (.one 0 .load (.one 1 .load (.one 3 .act (.one 4 .act (.one 5 .pure .done)))))) (fun w' => ∃ q : Kept (fun w' => w'.heap[w5.heap.size]? = some (rcells x.lo x.hi x.bits x.opn)), w' = q.w) (by kernel_rfl) (by kernel_rfl) (fun _ _ d _ _ h => by cases d <;> exact h) ?_
  simp only [Plan.pick, List.getElem?_cons_zero, List.getElem?_cons_succ]
  have hB : Below _ _ W2.drew := below_drewN' hB 1
  have n0 : W2.drew.heap[w5.heap.size]? = some (rcells x.lo x.hi x.bits x.opn) := n0
  have hS : W2.drew.heap[w5.heap.size]? = some (rcells x.lo x.hi x.bits x.opn) := n0
  have y2 : W2.drew.heap[w.heap.size + 1 + 1]? = some (rcells 0 0 0 0) := y2
  have y3 : W2.drew.heap[w.heap.size + 1 + 1 + 1]? = some (rcells 0 0 0 0) := y3
  have zW : w.heap.size + 4 ≤ W2.drew.heap.size := zW
  have q0 : ∀ q : Kept (fun w' => w'.heap[w5.heap.size]? = some (rcells x.lo x.hi x.bits x.opn)), q.w.cell? ⟨w5.heap.size, 0, none⟩ = some (.int .i64 x.lo) := fun q => (rat q.kept).1
  have q1 : ∀ q : Kept (fun w' => w'.heap[w5.heap.size]? = some (rcells x.lo x.hi x.bits x.opn)), q.w.cell? ⟨w5.heap.size, 1, none⟩ = some (.int .i64 x.hi) := fun q => (rat q.kept).2.1
  have q2 : ∀ q : Kept (fun w' => w'.heap[w5.heap.size]? = some (rcells x.lo x.hi x.bits x.opn)), q.w.cell? ⟨w5.heap.size, 2, none⟩ = some (.int .i64 x.bits) := fun q => (rat q.kept).2.2.1
  have q3 : ∀ q : Kept (fun w' => w'.heap[w5.heap.size]? = some (rcells x.lo x.hi x.bits x.opn)), q.w.cell? ⟨w5.heap.size, 3, none⟩ = some (.int .i64 x.opn) := fun q => (rat q.kept).2.2.2
  have hKn : Nonempty (Kept (fun w' => w'.heap[w5.heap.size]? = some (rcells x.lo x.hi x.bits x.opn))) := ⟨⟨_, hS⟩⟩
  refine plan_pure (fun K hK => ?_); go_simp; refine hK _ _ ?_; clear hK K
  refine plan_load (fun K hK => ?_); go_simp; refine ⟨⟨⟨_, hS⟩, rfl⟩, hK _ _ ?_⟩; clear hK K
  refine plan_load (fun K hK => ?_); go_simp; refine ⟨⟨⟨_, hS⟩, rfl⟩, hK _ _ ?_⟩; clear hK K
  refine plan_act ?_
  clear q0 q1 q2 q3
  obtain ⟨th1, V5, hw1, y2, o1⟩ := rput4 y2 x.lo x.hi x.bits x.opn
  have y3 := Only.keep o1 y3 (by omega)
  have n0 := Only.keep o1 n0 (by omega)
  have zW := Nat.le_trans zW o1.size
  have hB := hB.trans (below_upon o1 (fun k hk => by omega) (by omega))
  go_wp2_with ((with_reducible refine gate_store (p := 8) rfl ?_); go_loud (refine wpList_put rfl 80 _ _ rfl (w.heap.size + 1 + 1) 0 [.int .i64 x.lo, .int .i64 x.hi, .int .i64 x.bits, .int .i64 x.opn] rfl rfl th1.out (by kernel_rfl) rfl ?_; rw [hw1.out]))
  have hS := n0
  refine ⟨⟨⟨_, hS⟩, rfl⟩, ?_⟩
  refine plan_act ?_
  obtain ⟨th2, V6, hw2, y3, o2⟩ := rput4 y3 x.lo x.hi x.bits x.opn
  have y2 := Only.keep o2 y2 (by omega)
  have n0 := Only.keep o2 n0 (by omega)
  have zW := Nat.le_trans zW o2.size
  have hB := hB.trans (below_upon o2 (fun k hk => by omega) (by omega))
  go_wp2_with ((with_reducible refine gate_store (p := 9) rfl ?_); go_loud (refine wpList_put rfl 80 _ _ rfl (w.heap.size + 1 + 1 + 1) 0 [.int .i64 x.lo, .int .i64 x.hi, .int .i64 x.bits, .int .i64 x.opn] rfl rfl th2.out (by kernel_rfl) rfl ?_; rw [hw2.out]))
  have hS := n0
  refine ⟨⟨⟨_, hS⟩, rfl⟩, ?_⟩
  refine plan_pure (fun K hK => ?_); go_simp; refine hK _ _ ?_; clear hK K
  refine plan_done ?_
  go_wp2
  obtain ⟨g0, g1, g2, g3⟩ := rat y2
  obtain ⟨f0, f1, f2, f3⟩ := rat y3
  refine bodyPost_ret (v := .tuple #[.agg #[.int .i64 x.lo, .int .i64 x.hi, .int .i64 x.bits, .int .i64 x.opn], .agg #[.int .i64 x.lo, .int .i64 x.hi, .int .i64 x.bits, .int .i64 x.opn], .bool ok]) (by simp [results, Try.results66, go_sem, g0, g1, g2, g3, f0, f1, f2, f3]) rfl ⟨x, x, ok, rfl, HM.out, hB⟩
theorem branch_calls (op : Int) (a b : Rg) (is : Bool) (sa : a.Some) (sb : b.Some) (w : World) :
    Calls Try.prog 66 #[.int .i64 op, .agg #[.int .i64 a.lo, .int .i64 a.hi, .int .i64 a.bits, .int .i64 a.opn], .agg #[.int .i64 b.lo, .int .i64 b.hi, .int .i64 b.bits, .int .i64 b.opn], .bool is] w fun e w' => ∃ (x y : Rg) (ok : Bool), e = .returned (.tuple #[.agg #[.int .i64 x.lo, .int .i64 x.hi, .int .i64 x.bits, .int .i64 x.opn], .agg #[.int .i64 y.lo, .int .i64 y.hi, .int .i64 y.bits, .int .i64 y.opn], .bool ok]) ∧ Rg.branch op a.tidy b.tidy is = ifTwo ok x y ∧ Below w.heap.size w w' := by
  have fa := sa.1.fits
  have fb := sb.1.fits
  have ot := (Rg.tidy_ok sa).1
  have ou := (Rg.tidy_ok sb).1
  by_cases i14 : op = 14
  · subst i14
    exact branch14_calls _ _ is a b fa fb rfl rfl ot ou w
  · by_cases i15 : op = 15
    · subst i15
      exact branch15_calls _ _ is a b fa fb rfl rfl ot ou w
    · by_cases i12 : op = 12
      · cases is with
        | true => exact branchMeet_calls op _ _ a b fa fb rfl rfl ot ou i14 i15 i12 w
        | false => exact branchBoth_calls op _ _ a b fa fb rfl rfl ot ou i14 i15 i12 w
      · cases is with
        | true => exact branchBoth2_calls op _ _ a b fa fb rfl rfl ot ou i14 i15 i12 w
        | false => exact branchMeet2_calls op _ _ a b fa fb rfl rfl ot ou i14 i15 i12 w
end Go.Proofs.Ytoimeebildcofaa
