/- The walk of the reference's range of a byte behind a rule. -/
import Derived.Test.YtoimeebildcofaaWTidy0
namespace Go.Proofs.Ytoimeebildcofaa
open Go.RowKit
def ruleObj (a b c d e : Int) : Obj := .cells #[.int .i64 a, .int .i64 b, .int .i64 c, .int .i64 d, .int .i64 e] 56 (0, 0)
theorem ruleat {w : World} {g : Nat} {a b c d e : Int} (h : w.heap[g]? = some (ruleObj a b c d e)) : w.cell? ⟨g, 0, none⟩ = some (.int .i64 a) ∧ w.cell? ⟨g, 1, none⟩ = some (.int .i64 b) ∧ w.cell? ⟨g, 2, none⟩ = some (.int .i64 c) ∧ w.cell? ⟨g, 3, none⟩ = some (.int .i64 d) ∧ w.cell? ⟨g, 4, none⟩ = some (.int .i64 e) := by
  simp [World.cell?, h, ruleObj]
theorem heap_lt {w : World} {g : Nat} {o : Obj} (h : w.heap[g]? = some o) : g < w.heap.size := (Array.getElem?_eq_some_iff.1 h).1
set_option maxRecDepth 100000 in
set_option maxHeartbeats 3200000 in
theorem l9Range_calls (a op n v y0 : Int) (k : Rg) (is : Bool) (h0 : 12 ≤ op) (h1 : op ≤ 15) (n0 : 0 ≤ n) (n1 : n ≤ 255) (ok : k.Ok) (w : World) :
    Calls Try.prog 60 #[.agg #[.int .i64 a, .int .i64 op, .int .i64 n, .int .i64 v, .int .i64 y0], .agg #[.int .i64 k.lo, .int .i64 k.hi, .int .i64 k.bits, .int .i64 k.opn], .bool is] w fun e w' => ∃ (x y : Rg) (b : Bool), e = .returned (.tuple #[.agg #[.int .i64 x.lo, .int .i64 x.hi, .int .i64 x.bits, .int .i64 x.opn], .bool b]) ∧ Rg.branch op k (ival n.toNat n.toNat) is = ifTwo b x y ∧ Below w.heap.size w w' := by
  obtain ⟨n, rfl⟩ : ∃ m : Nat, n = m := ⟨n.toNat, by omega⟩
  rw [Int.toNat_natCast]
  have cB := fun w => l2Branch_calls op k (ival n n) is h0 h1 ok (ival_ok (Nat.le_refl n) (by omega)) w
  rw [ival_self] at cB
  rw [ival_self]
  go_enter Try.func60, Try.ntmps60
  go_wp2_with fail
  obtain ⟨hB, hs0, x0, x1, y2⟩ := boxes3 w (ruleObj a op n v y0) (rcells k.lo k.hi k.bits k.opn) (rcells 0 0 0 0)
  obtain ⟨W, hW⟩ : ∃ W, ((w.alloc (.cells #[.int .i64 a, .int .i64 op, .int .i64 n, .int .i64 v, .int .i64 y0] 56)).alloc (.cells #[.int .i64 k.lo, .int .i64 k.hi, .int .i64 k.bits, .int .i64 k.opn] 80)).alloc (.cells #[.int .i64 0, .int .i64 0, .int .i64 0, .int .i64 0] 80) = W := ⟨_, rfl⟩
  rw [hW]
  have hB : Below w.heap.size w W := hW ▸ hB
  have hs0 : W.heap.size = w.heap.size + 3 := hW ▸ hs0
  have x0 : W.heap[w.heap.size]? = some (ruleObj a op n v y0) := hW ▸ x0
  have x1 : W.heap[w.heap.size + 1]? = some (rcells k.lo k.hi k.bits k.opn) := hW ▸ x1
  have y2 : W.heap[w.heap.size + 1 + 1]? = some (rcells 0 0 0 0) := hW ▸ y2
  clear hW
  have r1 := cell_regrown (ruleat x0).2.1
  have r2 := cell_regrown (ruleat x0).2.2.1
  have p0 := cell_regrown (rat x1).1
  have p1 := cell_regrown (rat x1).2.1
  have p2 := cell_regrown (rat x1).2.2.1
  have p3 := cell_regrown (rat x1).2.2.2
  refine wp_region_plan [14, 15] (.one 0 .pure (.one 3 .pure (.one 6 .pure (.one 1 .load (.one 2 .load (.one 4 .load (.both (.one 5 .act (.both (.one 7 .act (.one 8 .pure (.one 9 .pure (.one 10 .pure (.one 11 .pure (.both (.one 12 .act (.one 13 .act (.one 14 .last (.one 15 .last (.one 16 .pure .done))))) (.one 13 .act (.one 12 .act (.one 14 .last (.one 15 .last (.one 16 .pure .done))))))))))) (.both (.one 12 .act (.both (.one 7 .act (.one 8 .pure (.one 9 .pure (.one 10 .pure (.one 11 .pure (.one 13 .act (.one 14 .last (.one 15 .last (.one 16 .pure .done))))))))) (.one 13 .act (.one 7 .act (.one 8 .pure (.one 9 .pure (.one 10 .pure (.one 11 .pure (.one 14 .last (.one 15 .last (.one 16 .pure .done))))))))))) (.one 13 .act (.both (.one 7 .act (.one 8 .pure (.one 9 .pure (.one 10 .pure (.one 11 .pure (.one 12 .act (.one 14 .last (.one 15 .last (.one 16 .pure .done))))))))) (.one 12 .act (.one 7 .act (.one 8 .pure (.one 9 .pure (.one 10 .pure (.one 11 .pure (.one 14 .last (.one 15 .last (.one 16 .pure .done)))))))))))))) (.both (.one 12 .act (.both (.one 5 .act (.both (.one 7 .act (.one 8 .pure (.one 9 .pure (.one 10 .pure (.one 11 .pure (.one 13 .act (.one 14 .last (.one 15 .last (.one 16 .pure .done))))))))) (.one 13 .act (.one 7 .act (.one 8 .pure (.one 9 .pure (.one 10 .pure (.one 11 .pure (.one 14 .last (.one 15 .last (.one 16 .pure .done))))))))))) (.one 13 .act (.one 5 .act (.one 7 .act (.one 8 .pure (.one 9 .pure (.one 10 .pure (.one 11 .pure (.one 14 .last (.one 15 .last (.one 16 .pure .done)))))))))))) (.one 13 .act (.both (.one 5 .act (.both (.one 7 .act (.one 8 .pure (.one 9 .pure (.one 10 .pure (.one 11 .pure (.one 12 .act (.one 14 .last (.one 15 .last (.one 16 .pure .done))))))))) (.one 12 .act (.one 7 .act (.one 8 .pure (.one 9 .pure (.one 10 .pure (.one 11 .pure (.one 14 .last (.one 15 .last (.one 16 .pure .done))))))))))) (.one 12 .act (.one 5 .act (.one 7 .act (.one 8 .pure (.one 9 .pure (.one 10 .pure (.one 11 .pure (.one 14 .last (.one 15 .last (.one 16 .pure .done)))))))))))))))))))) (fun w' => ∃ p : Regrown, w' = Sort.grow (redrawn W p.d) p.os) (by kernel_rfl) (by kernel_rfl) (fun _ _ d _ _ h => by cases d <;> exact h) ?_
  simp only [Plan.pick, List.getElem?_cons_zero, List.getElem?_cons_succ]
  have hS : Below W.heap.size W W.drew := below_drewN' (Below.refl _ _) 1
  have hB : Below _ _ W.drew := below_drewN' hB 1
  generalize W.drew = wc at *
  refine plan_pure (fun K hK => ?_); go_simp; refine hK _ _ ?_; clear hK K
  refine plan_pure (fun K hK => ?_); go_simp; refine hK _ _ ?_; clear hK K
  refine plan_pure (fun K hK => ?_); go_simp; refine hK _ _ ?_; clear hK K
  refine plan_load (fun K hK => ?_); go_simp; refine ⟨regrown_of_below hS, hK _ _ ?_⟩; clear hK K
  refine plan_load (fun K hK => ?_); go_simp; refine ⟨regrown_of_below hS, hK _ _ ?_⟩; clear hK K
  refine plan_load (fun K hK => ?_); go_simp; refine ⟨regrown_of_below hS, hK _ _ ?_⟩; clear hK K
  refine plan_both ?_ ?_
  · refine plan_act ?_
    go_wp2_with fail
    refine (l2One_calls n _).mono ?_
    rintro e wc ⟨rfl, hb⟩
    have hS := bnext hS hb
    have hB := bnext hB hb
    first | have m8 := Below.keep hb m8 | skip
    first | have m9 := Below.keep hb m9 | skip
    clear hb
    go_wp2
    refine ⟨regrown_of_below hS, ?_⟩
    refine plan_both ?_ ?_
    · refine plan_act ?_
      go_wp2_with fail
      refine (cB _).mono ?_
      rintro e wc ⟨x, y, ok', rfl, hr, hb⟩
      have hS := bnext hS hb
      have hB := bnext hB hb
      first | have m8 := Below.keep hb m8 | skip
      first | have m9 := Below.keep hb m9 | skip
      clear hb
      have HM := Lib.hid hr
      clear hr
      go_wp2
      refine ⟨regrown_of_below hS, ?_⟩
      refine plan_pure (fun K hK => ?_); go_simp; refine hK _ _ ?_; clear hK K
      refine plan_pure (fun K hK => ?_); go_simp; refine hK _ _ ?_; clear hK K
      refine plan_pure (fun K hK => ?_); go_simp; refine hK _ _ ?_; clear hK K
      refine plan_pure (fun K hK => ?_); go_simp; refine hK _ _ ?_; clear hK K
      refine plan_both ?_ ?_
      · refine plan_act ?_
        go_wp2
        have hb := below_alloc' (Below.refl wc.heap.size wc) (.cells #[.int .i64 0, .int .i64 0, .int .i64 0, .int .i64 0] 80)
        have m8 := alloc_at' wc (.cells #[.int .i64 0, .int .i64 0, .int .i64 0, .int .i64 0] 80)
        obtain ⟨g8, hg8⟩ : ∃ g, wc.heap.size = g := ⟨_, rfl⟩
        have h8 : w.heap.size + 3 ≤ g8 := by have := hS.size; omega
        first | (have hne : g8 ≠ g9 := by have := heap_lt m9; omega) | skip
        first | have m9 := Below.keep hb m9 | skip
        have hS := bnext hS hb
        have hB := bnext hB hb
        rw [hg8] at m8 ⊢
        generalize wc.alloc (.cells #[.int .i64 0, .int .i64 0, .int .i64 0, .int .i64 0] 80) = wc at *
        clear hb hg8
        refine ⟨regrown_of_below hS, ?_⟩
        refine plan_act ?_
        go_wp2
        have hb := below_alloc' (Below.refl wc.heap.size wc) (.cells #[.int .i64 0, .int .i64 0, .int .i64 0, .int .i64 0] 80)
        have m9 := alloc_at' wc (.cells #[.int .i64 0, .int .i64 0, .int .i64 0, .int .i64 0] 80)
        obtain ⟨g9, hg9⟩ : ∃ g, wc.heap.size = g := ⟨_, rfl⟩
        have h9 : w.heap.size + 3 ≤ g9 := by have := hS.size; omega
        first | (have hne : g8 ≠ g9 := by have := heap_lt m8; omega) | skip
        first | have m8 := Below.keep hb m8 | skip
        have hS := bnext hS hb
        have hB := bnext hB hb
        rw [hg9] at m9 ⊢
        generalize wc.alloc (.cells #[.int .i64 0, .int .i64 0, .int .i64 0, .int .i64 0] 80) = wc at *
        clear hb hg9
        refine ⟨regrown_of_below hS, ?_⟩
        refine plan_last_ ?_
        have y2 := Below.keep hS y2
        clear r1 r2 p0 p1 p2 p3 cB
        obtain ⟨th1, V1, hw1, m8, o1⟩ := rput4 m8 x.lo x.hi x.bits x.opn
        have m9 := Only.keep o1 m9 (by omega)
        have y2 := Only.keep o1 y2 (by omega)
        have hB := hB.trans (below_upon o1 (fun k hk => by omega) hB.size)
        obtain ⟨th2, V2, hw2, m9, o2⟩ := rput4 m9 y.lo y.hi y.bits y.opn
        have m8 := Only.keep o2 m8 (by omega)
        have y2 := Only.keep o2 y2 (by omega)
        have hB := hB.trans (below_upon o2 (fun k hk => by omega) hB.size)
        go_wp2_with ((with_reducible refine gate_store (p := 8) rfl ?_); go_loud (refine wpList_put rfl 80 _ _ rfl (g8) 0 [.int .i64 x.lo, .int .i64 x.hi, .int .i64 x.bits, .int .i64 x.opn] rfl rfl th1.out (by kernel_rfl) rfl ?_; rw [hw1.out]))
        refine plan_last_ ?_
        go_wp2_with ((with_reducible refine gate_store (p := 9) rfl ?_); go_loud (refine wpList_put rfl 80 _ _ rfl (g9) 0 [.int .i64 y.lo, .int .i64 y.hi, .int .i64 y.bits, .int .i64 y.opn] rfl rfl th2.out (by kernel_rfl) rfl ?_; rw [hw2.out]))
        refine plan_pure (fun K hK => ?_); go_simp; refine hK _ _ ?_; clear hK K
        refine plan_done ?_
        obtain ⟨q0, q1, q2, q3⟩ := rat m8
        clear th1 th2 hw1 hw2 o1 o2
        obtain ⟨th1, V3, hw1, y2, o1⟩ := rput4 y2 x.lo x.hi x.bits x.opn
        have hB := hB.trans (below_upon o1 (fun k hk => by omega) hB.size)
        go_wp2_with ((with_reducible refine gate_store (p := 6) rfl ?_); go_loud (refine wpList_put rfl 80 _ _ rfl (w.heap.size + 1 + 1) 0 [.int .i64 x.lo, .int .i64 x.hi, .int .i64 x.bits, .int .i64 x.opn] rfl rfl th1.out (by kernel_rfl) rfl ?_; rw [hw1.out]))
        obtain ⟨q0, q1, q2, q3⟩ := rat y2
        refine bodyPost_ret (v := .tuple #[.agg #[.int .i64 x.lo, .int .i64 x.hi, .int .i64 x.bits, .int .i64 x.opn], .bool ok']) (by simp [results, Try.results60, go_sem, q0, q1, q2, q3]) rfl ⟨x, y, ok', rfl, HM.out, hB⟩
      · refine plan_act ?_
        go_wp2
        have hb := below_alloc' (Below.refl wc.heap.size wc) (.cells #[.int .i64 0, .int .i64 0, .int .i64 0, .int .i64 0] 80)
        have m9 := alloc_at' wc (.cells #[.int .i64 0, .int .i64 0, .int .i64 0, .int .i64 0] 80)
        obtain ⟨g9, hg9⟩ : ∃ g, wc.heap.size = g := ⟨_, rfl⟩
        have h9 : w.heap.size + 3 ≤ g9 := by have := hS.size; omega
        first | (have hne : g8 ≠ g9 := by have := heap_lt m8; omega) | skip
        first | have m8 := Below.keep hb m8 | skip
        have hS := bnext hS hb
        have hB := bnext hB hb
        rw [hg9] at m9 ⊢
        generalize wc.alloc (.cells #[.int .i64 0, .int .i64 0, .int .i64 0, .int .i64 0] 80) = wc at *
        clear hb hg9
        refine ⟨regrown_of_below hS, ?_⟩
        refine plan_act ?_
        go_wp2
        have hb := below_alloc' (Below.refl wc.heap.size wc) (.cells #[.int .i64 0, .int .i64 0, .int .i64 0, .int .i64 0] 80)
        have m8 := alloc_at' wc (.cells #[.int .i64 0, .int .i64 0, .int .i64 0, .int .i64 0] 80)
        obtain ⟨g8, hg8⟩ : ∃ g, wc.heap.size = g := ⟨_, rfl⟩
        have h8 : w.heap.size + 3 ≤ g8 := by have := hS.size; omega
        first | (have hne : g8 ≠ g9 := by have := heap_lt m9; omega) | skip
        first | have m9 := Below.keep hb m9 | skip
        have hS := bnext hS hb
        have hB := bnext hB hb
        rw [hg8] at m8 ⊢
        generalize wc.alloc (.cells #[.int .i64 0, .int .i64 0, .int .i64 0, .int .i64 0] 80) = wc at *
        clear hb hg8
        refine ⟨regrown_of_below hS, ?_⟩
        refine plan_last_ ?_
        have y2 := Below.keep hS y2
        clear r1 r2 p0 p1 p2 p3 cB
        obtain ⟨th1, V1, hw1, m8, o1⟩ := rput4 m8 x.lo x.hi x.bits x.opn
        have m9 := Only.keep o1 m9 (by omega)
        have y2 := Only.keep o1 y2 (by omega)
        have hB := hB.trans (below_upon o1 (fun k hk => by omega) hB.size)
        obtain ⟨th2, V2, hw2, m9, o2⟩ := rput4 m9 y.lo y.hi y.bits y.opn
        have m8 := Only.keep o2 m8 (by omega)
        have y2 := Only.keep o2 y2 (by omega)
        have hB := hB.trans (below_upon o2 (fun k hk => by omega) hB.size)
        go_wp2_with ((with_reducible refine gate_store (p := 8) rfl ?_); go_loud (refine wpList_put rfl 80 _ _ rfl (g8) 0 [.int .i64 x.lo, .int .i64 x.hi, .int .i64 x.bits, .int .i64 x.opn] rfl rfl th1.out (by kernel_rfl) rfl ?_; rw [hw1.out]))
        refine plan_last_ ?_
        go_wp2_with ((with_reducible refine gate_store (p := 9) rfl ?_); go_loud (refine wpList_put rfl 80 _ _ rfl (g9) 0 [.int .i64 y.lo, .int .i64 y.hi, .int .i64 y.bits, .int .i64 y.opn] rfl rfl th2.out (by kernel_rfl) rfl ?_; rw [hw2.out]))
        refine plan_pure (fun K hK => ?_); go_simp; refine hK _ _ ?_; clear hK K
        refine plan_done ?_
        obtain ⟨q0, q1, q2, q3⟩ := rat m8
        clear th1 th2 hw1 hw2 o1 o2
        obtain ⟨th1, V3, hw1, y2, o1⟩ := rput4 y2 x.lo x.hi x.bits x.opn
        have hB := hB.trans (below_upon o1 (fun k hk => by omega) hB.size)
        go_wp2_with ((with_reducible refine gate_store (p := 6) rfl ?_); go_loud (refine wpList_put rfl 80 _ _ rfl (w.heap.size + 1 + 1) 0 [.int .i64 x.lo, .int .i64 x.hi, .int .i64 x.bits, .int .i64 x.opn] rfl rfl th1.out (by kernel_rfl) rfl ?_; rw [hw1.out]))
        obtain ⟨q0, q1, q2, q3⟩ := rat y2
        refine bodyPost_ret (v := .tuple #[.agg #[.int .i64 x.lo, .int .i64 x.hi, .int .i64 x.bits, .int .i64 x.opn], .bool ok']) (by simp [results, Try.results60, go_sem, q0, q1, q2, q3]) rfl ⟨x, y, ok', rfl, HM.out, hB⟩
    · refine plan_both ?_ ?_
      · refine plan_act ?_
        go_wp2
        have hb := below_alloc' (Below.refl wc.heap.size wc) (.cells #[.int .i64 0, .int .i64 0, .int .i64 0, .int .i64 0] 80)
        have m8 := alloc_at' wc (.cells #[.int .i64 0, .int .i64 0, .int .i64 0, .int .i64 0] 80)
        obtain ⟨g8, hg8⟩ : ∃ g, wc.heap.size = g := ⟨_, rfl⟩
        have h8 : w.heap.size + 3 ≤ g8 := by have := hS.size; omega
        first | (have hne : g8 ≠ g9 := by have := heap_lt m9; omega) | skip
        first | have m9 := Below.keep hb m9 | skip
        have hS := bnext hS hb
        have hB := bnext hB hb
        rw [hg8] at m8 ⊢
        generalize wc.alloc (.cells #[.int .i64 0, .int .i64 0, .int .i64 0, .int .i64 0] 80) = wc at *
        clear hb hg8
        refine ⟨regrown_of_below hS, ?_⟩
        refine plan_both ?_ ?_
        · refine plan_act ?_
          go_wp2_with fail
          refine (cB _).mono ?_
          rintro e wc ⟨x, y, ok', rfl, hr, hb⟩
          have hS := bnext hS hb
          have hB := bnext hB hb
          first | have m8 := Below.keep hb m8 | skip
          first | have m9 := Below.keep hb m9 | skip
          clear hb
          have HM := Lib.hid hr
          clear hr
          go_wp2
          refine ⟨regrown_of_below hS, ?_⟩
          refine plan_pure (fun K hK => ?_); go_simp; refine hK _ _ ?_; clear hK K
          refine plan_pure (fun K hK => ?_); go_simp; refine hK _ _ ?_; clear hK K
          refine plan_pure (fun K hK => ?_); go_simp; refine hK _ _ ?_; clear hK K
          refine plan_pure (fun K hK => ?_); go_simp; refine hK _ _ ?_; clear hK K
          refine plan_act ?_
          go_wp2
          have hb := below_alloc' (Below.refl wc.heap.size wc) (.cells #[.int .i64 0, .int .i64 0, .int .i64 0, .int .i64 0] 80)
          have m9 := alloc_at' wc (.cells #[.int .i64 0, .int .i64 0, .int .i64 0, .int .i64 0] 80)
          obtain ⟨g9, hg9⟩ : ∃ g, wc.heap.size = g := ⟨_, rfl⟩
          have h9 : w.heap.size + 3 ≤ g9 := by have := hS.size; omega
          first | (have hne : g8 ≠ g9 := by have := heap_lt m8; omega) | skip
          first | have m8 := Below.keep hb m8 | skip
          have hS := bnext hS hb
          have hB := bnext hB hb
          rw [hg9] at m9 ⊢
          generalize wc.alloc (.cells #[.int .i64 0, .int .i64 0, .int .i64 0, .int .i64 0] 80) = wc at *
          clear hb hg9
          refine ⟨regrown_of_below hS, ?_⟩
          refine plan_last_ ?_
          have y2 := Below.keep hS y2
          clear r1 r2 p0 p1 p2 p3 cB
          obtain ⟨th1, V1, hw1, m8, o1⟩ := rput4 m8 x.lo x.hi x.bits x.opn
          have m9 := Only.keep o1 m9 (by omega)
          have y2 := Only.keep o1 y2 (by omega)
          have hB := hB.trans (below_upon o1 (fun k hk => by omega) hB.size)
          obtain ⟨th2, V2, hw2, m9, o2⟩ := rput4 m9 y.lo y.hi y.bits y.opn
          have m8 := Only.keep o2 m8 (by omega)
          have y2 := Only.keep o2 y2 (by omega)
          have hB := hB.trans (below_upon o2 (fun k hk => by omega) hB.size)
          go_wp2_with ((with_reducible refine gate_store (p := 8) rfl ?_); go_loud (refine wpList_put rfl 80 _ _ rfl (g8) 0 [.int .i64 x.lo, .int .i64 x.hi, .int .i64 x.bits, .int .i64 x.opn] rfl rfl th1.out (by kernel_rfl) rfl ?_; rw [hw1.out]))
          refine plan_last_ ?_
          go_wp2_with ((with_reducible refine gate_store (p := 9) rfl ?_); go_loud (refine wpList_put rfl 80 _ _ rfl (g9) 0 [.int .i64 y.lo, .int .i64 y.hi, .int .i64 y.bits, .int .i64 y.opn] rfl rfl th2.out (by kernel_rfl) rfl ?_; rw [hw2.out]))
          refine plan_pure (fun K hK => ?_); go_simp; refine hK _ _ ?_; clear hK K
          refine plan_done ?_
          obtain ⟨q0, q1, q2, q3⟩ := rat m8
          clear th1 th2 hw1 hw2 o1 o2
          obtain ⟨th1, V3, hw1, y2, o1⟩ := rput4 y2 x.lo x.hi x.bits x.opn
          have hB := hB.trans (below_upon o1 (fun k hk => by omega) hB.size)
          go_wp2_with ((with_reducible refine gate_store (p := 6) rfl ?_); go_loud (refine wpList_put rfl 80 _ _ rfl (w.heap.size + 1 + 1) 0 [.int .i64 x.lo, .int .i64 x.hi, .int .i64 x.bits, .int .i64 x.opn] rfl rfl th1.out (by kernel_rfl) rfl ?_; rw [hw1.out]))
          obtain ⟨q0, q1, q2, q3⟩ := rat y2
          refine bodyPost_ret (v := .tuple #[.agg #[.int .i64 x.lo, .int .i64 x.hi, .int .i64 x.bits, .int .i64 x.opn], .bool ok']) (by simp [results, Try.results60, go_sem, q0, q1, q2, q3]) rfl ⟨x, y, ok', rfl, HM.out, hB⟩
        · refine plan_act ?_
          go_wp2
          have hb := below_alloc' (Below.refl wc.heap.size wc) (.cells #[.int .i64 0, .int .i64 0, .int .i64 0, .int .i64 0] 80)
          have m9 := alloc_at' wc (.cells #[.int .i64 0, .int .i64 0, .int .i64 0, .int .i64 0] 80)
          obtain ⟨g9, hg9⟩ : ∃ g, wc.heap.size = g := ⟨_, rfl⟩
          have h9 : w.heap.size + 3 ≤ g9 := by have := hS.size; omega
          first | (have hne : g8 ≠ g9 := by have := heap_lt m8; omega) | skip
          first | have m8 := Below.keep hb m8 | skip
          have hS := bnext hS hb
          have hB := bnext hB hb
          rw [hg9] at m9 ⊢
          generalize wc.alloc (.cells #[.int .i64 0, .int .i64 0, .int .i64 0, .int .i64 0] 80) = wc at *
          clear hb hg9
          refine ⟨regrown_of_below hS, ?_⟩
          refine plan_act ?_
          go_wp2_with fail
          refine (cB _).mono ?_
          rintro e wc ⟨x, y, ok', rfl, hr, hb⟩
          have hS := bnext hS hb
          have hB := bnext hB hb
          first | have m8 := Below.keep hb m8 | skip
          first | have m9 := Below.keep hb m9 | skip
          clear hb
          have HM := Lib.hid hr
          clear hr
          go_wp2
          refine ⟨regrown_of_below hS, ?_⟩
          refine plan_pure (fun K hK => ?_); go_simp; refine hK _ _ ?_; clear hK K
          refine plan_pure (fun K hK => ?_); go_simp; refine hK _ _ ?_; clear hK K
          refine plan_pure (fun K hK => ?_); go_simp; refine hK _ _ ?_; clear hK K
          refine plan_pure (fun K hK => ?_); go_simp; refine hK _ _ ?_; clear hK K
          refine plan_last_ ?_
          have y2 := Below.keep hS y2
          clear r1 r2 p0 p1 p2 p3 cB
          obtain ⟨th1, V1, hw1, m8, o1⟩ := rput4 m8 x.lo x.hi x.bits x.opn
          have m9 := Only.keep o1 m9 (by omega)
          have y2 := Only.keep o1 y2 (by omega)
          have hB := hB.trans (below_upon o1 (fun k hk => by omega) hB.size)
          obtain ⟨th2, V2, hw2, m9, o2⟩ := rput4 m9 y.lo y.hi y.bits y.opn
          have m8 := Only.keep o2 m8 (by omega)
          have y2 := Only.keep o2 y2 (by omega)
          have hB := hB.trans (below_upon o2 (fun k hk => by omega) hB.size)
          go_wp2_with ((with_reducible refine gate_store (p := 8) rfl ?_); go_loud (refine wpList_put rfl 80 _ _ rfl (g8) 0 [.int .i64 x.lo, .int .i64 x.hi, .int .i64 x.bits, .int .i64 x.opn] rfl rfl th1.out (by kernel_rfl) rfl ?_; rw [hw1.out]))
          refine plan_last_ ?_
          go_wp2_with ((with_reducible refine gate_store (p := 9) rfl ?_); go_loud (refine wpList_put rfl 80 _ _ rfl (g9) 0 [.int .i64 y.lo, .int .i64 y.hi, .int .i64 y.bits, .int .i64 y.opn] rfl rfl th2.out (by kernel_rfl) rfl ?_; rw [hw2.out]))
          refine plan_pure (fun K hK => ?_); go_simp; refine hK _ _ ?_; clear hK K
          refine plan_done ?_
          obtain ⟨q0, q1, q2, q3⟩ := rat m8
          clear th1 th2 hw1 hw2 o1 o2
          obtain ⟨th1, V3, hw1, y2, o1⟩ := rput4 y2 x.lo x.hi x.bits x.opn
          have hB := hB.trans (below_upon o1 (fun k hk => by omega) hB.size)
          go_wp2_with ((with_reducible refine gate_store (p := 6) rfl ?_); go_loud (refine wpList_put rfl 80 _ _ rfl (w.heap.size + 1 + 1) 0 [.int .i64 x.lo, .int .i64 x.hi, .int .i64 x.bits, .int .i64 x.opn] rfl rfl th1.out (by kernel_rfl) rfl ?_; rw [hw1.out]))
          obtain ⟨q0, q1, q2, q3⟩ := rat y2
          refine bodyPost_ret (v := .tuple #[.agg #[.int .i64 x.lo, .int .i64 x.hi, .int .i64 x.bits, .int .i64 x.opn], .bool ok']) (by simp [results, Try.results60, go_sem, q0, q1, q2, q3]) rfl ⟨x, y, ok', rfl, HM.out, hB⟩
      · refine plan_act ?_
        go_wp2
        have hb := below_alloc' (Below.refl wc.heap.size wc) (.cells #[.int .i64 0, .int .i64 0, .int .i64 0, .int .i64 0] 80)
        have m9 := alloc_at' wc (.cells #[.int .i64 0, .int .i64 0, .int .i64 0, .int .i64 0] 80)
        obtain ⟨g9, hg9⟩ : ∃ g, wc.heap.size = g := ⟨_, rfl⟩
        have h9 : w.heap.size + 3 ≤ g9 := by have := hS.size; omega
        first | (have hne : g8 ≠ g9 := by have := heap_lt m8; omega) | skip
        first | have m8 := Below.keep hb m8 | skip
        have hS := bnext hS hb
        have hB := bnext hB hb
        rw [hg9] at m9 ⊢
        generalize wc.alloc (.cells #[.int .i64 0, .int .i64 0, .int .i64 0, .int .i64 0] 80) = wc at *
        clear hb hg9
        refine ⟨regrown_of_below hS, ?_⟩
        refine plan_both ?_ ?_
        · refine plan_act ?_
          go_wp2_with fail
          refine (cB _).mono ?_
          rintro e wc ⟨x, y, ok', rfl, hr, hb⟩
          have hS := bnext hS hb
          have hB := bnext hB hb
          first | have m8 := Below.keep hb m8 | skip
          first | have m9 := Below.keep hb m9 | skip
          clear hb
          have HM := Lib.hid hr
          clear hr
          go_wp2
          refine ⟨regrown_of_below hS, ?_⟩
          refine plan_pure (fun K hK => ?_); go_simp; refine hK _ _ ?_; clear hK K
          refine plan_pure (fun K hK => ?_); go_simp; refine hK _ _ ?_; clear hK K
          refine plan_pure (fun K hK => ?_); go_simp; refine hK _ _ ?_; clear hK K
          refine plan_pure (fun K hK => ?_); go_simp; refine hK _ _ ?_; clear hK K
          refine plan_act ?_
          go_wp2
          have hb := below_alloc' (Below.refl wc.heap.size wc) (.cells #[.int .i64 0, .int .i64 0, .int .i64 0, .int .i64 0] 80)
          have m8 := alloc_at' wc (.cells #[.int .i64 0, .int .i64 0, .int .i64 0, .int .i64 0] 80)
          obtain ⟨g8, hg8⟩ : ∃ g, wc.heap.size = g := ⟨_, rfl⟩
          have h8 : w.heap.size + 3 ≤ g8 := by have := hS.size; omega
          first | (have hne : g8 ≠ g9 := by have := heap_lt m9; omega) | skip
          first | have m9 := Below.keep hb m9 | skip
          have hS := bnext hS hb
          have hB := bnext hB hb
          rw [hg8] at m8 ⊢
          generalize wc.alloc (.cells #[.int .i64 0, .int .i64 0, .int .i64 0, .int .i64 0] 80) = wc at *
          clear hb hg8
          refine ⟨regrown_of_below hS, ?_⟩
          refine plan_last_ ?_
          have y2 := Below.keep hS y2
          clear r1 r2 p0 p1 p2 p3 cB
          obtain ⟨th1, V1, hw1, m8, o1⟩ := rput4 m8 x.lo x.hi x.bits x.opn
          have m9 := Only.keep o1 m9 (by omega)
          have y2 := Only.keep o1 y2 (by omega)
          have hB := hB.trans (below_upon o1 (fun k hk => by omega) hB.size)
          obtain ⟨th2, V2, hw2, m9, o2⟩ := rput4 m9 y.lo y.hi y.bits y.opn
          have m8 := Only.keep o2 m8 (by omega)
          have y2 := Only.keep o2 y2 (by omega)
          have hB := hB.trans (below_upon o2 (fun k hk => by omega) hB.size)
          go_wp2_with ((with_reducible refine gate_store (p := 8) rfl ?_); go_loud (refine wpList_put rfl 80 _ _ rfl (g8) 0 [.int .i64 x.lo, .int .i64 x.hi, .int .i64 x.bits, .int .i64 x.opn] rfl rfl th1.out (by kernel_rfl) rfl ?_; rw [hw1.out]))
          refine plan_last_ ?_
          go_wp2_with ((with_reducible refine gate_store (p := 9) rfl ?_); go_loud (refine wpList_put rfl 80 _ _ rfl (g9) 0 [.int .i64 y.lo, .int .i64 y.hi, .int .i64 y.bits, .int .i64 y.opn] rfl rfl th2.out (by kernel_rfl) rfl ?_; rw [hw2.out]))
          refine plan_pure (fun K hK => ?_); go_simp; refine hK _ _ ?_; clear hK K
          refine plan_done ?_
          obtain ⟨q0, q1, q2, q3⟩ := rat m8
          clear th1 th2 hw1 hw2 o1 o2
          obtain ⟨th1, V3, hw1, y2, o1⟩ := rput4 y2 x.lo x.hi x.bits x.opn
          have hB := hB.trans (below_upon o1 (fun k hk => by omega) hB.size)
          go_wp2_with ((with_reducible refine gate_store (p := 6) rfl ?_); go_loud (refine wpList_put rfl 80 _ _ rfl (w.heap.size + 1 + 1) 0 [.int .i64 x.lo, .int .i64 x.hi, .int .i64 x.bits, .int .i64 x.opn] rfl rfl th1.out (by kernel_rfl) rfl ?_; rw [hw1.out]))
          obtain ⟨q0, q1, q2, q3⟩ := rat y2
          refine bodyPost_ret (v := .tuple #[.agg #[.int .i64 x.lo, .int .i64 x.hi, .int .i64 x.bits, .int .i64 x.opn], .bool ok']) (by simp [results, Try.results60, go_sem, q0, q1, q2, q3]) rfl ⟨x, y, ok', rfl, HM.out, hB⟩
        · refine plan_act ?_
          go_wp2
          have hb := below_alloc' (Below.refl wc.heap.size wc) (.cells #[.int .i64 0, .int .i64 0, .int .i64 0, .int .i64 0] 80)
          have m8 := alloc_at' wc (.cells #[.int .i64 0, .int .i64 0, .int .i64 0, .int .i64 0] 80)
          obtain ⟨g8, hg8⟩ : ∃ g, wc.heap.size = g := ⟨_, rfl⟩
          have h8 : w.heap.size + 3 ≤ g8 := by have := hS.size; omega
          first | (have hne : g8 ≠ g9 := by have := heap_lt m9; omega) | skip
          first | have m9 := Below.keep hb m9 | skip
          have hS := bnext hS hb
          have hB := bnext hB hb
          rw [hg8] at m8 ⊢
          generalize wc.alloc (.cells #[.int .i64 0, .int .i64 0, .int .i64 0, .int .i64 0] 80) = wc at *
          clear hb hg8
          refine ⟨regrown_of_below hS, ?_⟩
          refine plan_act ?_
          go_wp2_with fail
          refine (cB _).mono ?_
          rintro e wc ⟨x, y, ok', rfl, hr, hb⟩
          have hS := bnext hS hb
          have hB := bnext hB hb
          first | have m8 := Below.keep hb m8 | skip
          first | have m9 := Below.keep hb m9 | skip
          clear hb
          have HM := Lib.hid hr
          clear hr
          go_wp2
          refine ⟨regrown_of_below hS, ?_⟩
          refine plan_pure (fun K hK => ?_); go_simp; refine hK _ _ ?_; clear hK K
          refine plan_pure (fun K hK => ?_); go_simp; refine hK _ _ ?_; clear hK K
          refine plan_pure (fun K hK => ?_); go_simp; refine hK _ _ ?_; clear hK K
          refine plan_pure (fun K hK => ?_); go_simp; refine hK _ _ ?_; clear hK K
          refine plan_last_ ?_
          have y2 := Below.keep hS y2
          clear r1 r2 p0 p1 p2 p3 cB
          obtain ⟨th1, V1, hw1, m8, o1⟩ := rput4 m8 x.lo x.hi x.bits x.opn
          have m9 := Only.keep o1 m9 (by omega)
          have y2 := Only.keep o1 y2 (by omega)
          have hB := hB.trans (below_upon o1 (fun k hk => by omega) hB.size)
          obtain ⟨th2, V2, hw2, m9, o2⟩ := rput4 m9 y.lo y.hi y.bits y.opn
          have m8 := Only.keep o2 m8 (by omega)
          have y2 := Only.keep o2 y2 (by omega)
          have hB := hB.trans (below_upon o2 (fun k hk => by omega) hB.size)
          go_wp2_with ((with_reducible refine gate_store (p := 8) rfl ?_); go_loud (refine wpList_put rfl 80 _ _ rfl (g8) 0 [.int .i64 x.lo, .int .i64 x.hi, .int .i64 x.bits, .int .i64 x.opn] rfl rfl th1.out (by kernel_rfl) rfl ?_; rw [hw1.out]))
          refine plan_last_ ?_
          go_wp2_with ((with_reducible refine gate_store (p := 9) rfl ?_); go_loud (refine wpList_put rfl 80 _ _ rfl (g9) 0 [.int .i64 y.lo, .int .i64 y.hi, .int .i64 y.bits, .int .i64 y.opn] rfl rfl th2.out (by kernel_rfl) rfl ?_; rw [hw2.out]))
          refine plan_pure (fun K hK => ?_); go_simp; refine hK _ _ ?_; clear hK K
          refine plan_done ?_
          obtain ⟨q0, q1, q2, q3⟩ := rat m8
          clear th1 th2 hw1 hw2 o1 o2
          obtain ⟨th1, V3, hw1, y2, o1⟩ := rput4 y2 x.lo x.hi x.bits x.opn
          have hB := hB.trans (below_upon o1 (fun k hk => by omega) hB.size)
          go_wp2_with ((with_reducible refine gate_store (p := 6) rfl ?_); go_loud (refine wpList_put rfl 80 _ _ rfl (w.heap.size + 1 + 1) 0 [.int .i64 x.lo, .int .i64 x.hi, .int .i64 x.bits, .int .i64 x.opn] rfl rfl th1.out (by kernel_rfl) rfl ?_; rw [hw1.out]))
          obtain ⟨q0, q1, q2, q3⟩ := rat y2
          refine bodyPost_ret (v := .tuple #[.agg #[.int .i64 x.lo, .int .i64 x.hi, .int .i64 x.bits, .int .i64 x.opn], .bool ok']) (by simp [results, Try.results60, go_sem, q0, q1, q2, q3]) rfl ⟨x, y, ok', rfl, HM.out, hB⟩
  · refine plan_both ?_ ?_
    · refine plan_act ?_
      go_wp2
      have hb := below_alloc' (Below.refl wc.heap.size wc) (.cells #[.int .i64 0, .int .i64 0, .int .i64 0, .int .i64 0] 80)
      have m8 := alloc_at' wc (.cells #[.int .i64 0, .int .i64 0, .int .i64 0, .int .i64 0] 80)
      obtain ⟨g8, hg8⟩ : ∃ g, wc.heap.size = g := ⟨_, rfl⟩
      have h8 : w.heap.size + 3 ≤ g8 := by have := hS.size; omega
      first | (have hne : g8 ≠ g9 := by have := heap_lt m9; omega) | skip
      first | have m9 := Below.keep hb m9 | skip
      have hS := bnext hS hb
      have hB := bnext hB hb
      rw [hg8] at m8 ⊢
      generalize wc.alloc (.cells #[.int .i64 0, .int .i64 0, .int .i64 0, .int .i64 0] 80) = wc at *
      clear hb hg8
      refine ⟨regrown_of_below hS, ?_⟩
      refine plan_both ?_ ?_
      · refine plan_act ?_
        go_wp2_with fail
        refine (l2One_calls n _).mono ?_
        rintro e wc ⟨rfl, hb⟩
        have hS := bnext hS hb
        have hB := bnext hB hb
        first | have m8 := Below.keep hb m8 | skip
        first | have m9 := Below.keep hb m9 | skip
        clear hb
        go_wp2
        refine ⟨regrown_of_below hS, ?_⟩
        refine plan_both ?_ ?_
        · refine plan_act ?_
          go_wp2_with fail
          refine (cB _).mono ?_
          rintro e wc ⟨x, y, ok', rfl, hr, hb⟩
          have hS := bnext hS hb
          have hB := bnext hB hb
          first | have m8 := Below.keep hb m8 | skip
          first | have m9 := Below.keep hb m9 | skip
          clear hb
          have HM := Lib.hid hr
          clear hr
          go_wp2
          refine ⟨regrown_of_below hS, ?_⟩
          refine plan_pure (fun K hK => ?_); go_simp; refine hK _ _ ?_; clear hK K
          refine plan_pure (fun K hK => ?_); go_simp; refine hK _ _ ?_; clear hK K
          refine plan_pure (fun K hK => ?_); go_simp; refine hK _ _ ?_; clear hK K
          refine plan_pure (fun K hK => ?_); go_simp; refine hK _ _ ?_; clear hK K
          refine plan_act ?_
          go_wp2
          have hb := below_alloc' (Below.refl wc.heap.size wc) (.cells #[.int .i64 0, .int .i64 0, .int .i64 0, .int .i64 0] 80)
          have m9 := alloc_at' wc (.cells #[.int .i64 0, .int .i64 0, .int .i64 0, .int .i64 0] 80)
          obtain ⟨g9, hg9⟩ : ∃ g, wc.heap.size = g := ⟨_, rfl⟩
          have h9 : w.heap.size + 3 ≤ g9 := by have := hS.size; omega
          first | (have hne : g8 ≠ g9 := by have := heap_lt m8; omega) | skip
          first | have m8 := Below.keep hb m8 | skip
          have hS := bnext hS hb
          have hB := bnext hB hb
          rw [hg9] at m9 ⊢
          generalize wc.alloc (.cells #[.int .i64 0, .int .i64 0, .int .i64 0, .int .i64 0] 80) = wc at *
          clear hb hg9
          refine ⟨regrown_of_below hS, ?_⟩
          refine plan_last_ ?_
          have y2 := Below.keep hS y2
          clear r1 r2 p0 p1 p2 p3 cB
          obtain ⟨th1, V1, hw1, m8, o1⟩ := rput4 m8 x.lo x.hi x.bits x.opn
          have m9 := Only.keep o1 m9 (by omega)
          have y2 := Only.keep o1 y2 (by omega)
          have hB := hB.trans (below_upon o1 (fun k hk => by omega) hB.size)
          obtain ⟨th2, V2, hw2, m9, o2⟩ := rput4 m9 y.lo y.hi y.bits y.opn
          have m8 := Only.keep o2 m8 (by omega)
          have y2 := Only.keep o2 y2 (by omega)
          have hB := hB.trans (below_upon o2 (fun k hk => by omega) hB.size)
          go_wp2_with ((with_reducible refine gate_store (p := 8) rfl ?_); go_loud (refine wpList_put rfl 80 _ _ rfl (g8) 0 [.int .i64 x.lo, .int .i64 x.hi, .int .i64 x.bits, .int .i64 x.opn] rfl rfl th1.out (by kernel_rfl) rfl ?_; rw [hw1.out]))
          refine plan_last_ ?_
          go_wp2_with ((with_reducible refine gate_store (p := 9) rfl ?_); go_loud (refine wpList_put rfl 80 _ _ rfl (g9) 0 [.int .i64 y.lo, .int .i64 y.hi, .int .i64 y.bits, .int .i64 y.opn] rfl rfl th2.out (by kernel_rfl) rfl ?_; rw [hw2.out]))
          refine plan_pure (fun K hK => ?_); go_simp; refine hK _ _ ?_; clear hK K
          refine plan_done ?_
          obtain ⟨q0, q1, q2, q3⟩ := rat m8
          clear th1 th2 hw1 hw2 o1 o2
          obtain ⟨th1, V3, hw1, y2, o1⟩ := rput4 y2 x.lo x.hi x.bits x.opn
          have hB := hB.trans (below_upon o1 (fun k hk => by omega) hB.size)
          go_wp2_with ((with_reducible refine gate_store (p := 6) rfl ?_); go_loud (refine wpList_put rfl 80 _ _ rfl (w.heap.size + 1 + 1) 0 [.int .i64 x.lo, .int .i64 x.hi, .int .i64 x.bits, .int .i64 x.opn] rfl rfl th1.out (by kernel_rfl) rfl ?_; rw [hw1.out]))
          obtain ⟨q0, q1, q2, q3⟩ := rat y2
          refine bodyPost_ret (v := .tuple #[.agg #[.int .i64 x.lo, .int .i64 x.hi, .int .i64 x.bits, .int .i64 x.opn], .bool ok']) (by simp [results, Try.results60, go_sem, q0, q1, q2, q3]) rfl ⟨x, y, ok', rfl, HM.out, hB⟩
        · refine plan_act ?_
          go_wp2
          have hb := below_alloc' (Below.refl wc.heap.size wc) (.cells #[.int .i64 0, .int .i64 0, .int .i64 0, .int .i64 0] 80)
          have m9 := alloc_at' wc (.cells #[.int .i64 0, .int .i64 0, .int .i64 0, .int .i64 0] 80)
          obtain ⟨g9, hg9⟩ : ∃ g, wc.heap.size = g := ⟨_, rfl⟩
          have h9 : w.heap.size + 3 ≤ g9 := by have := hS.size; omega
          first | (have hne : g8 ≠ g9 := by have := heap_lt m8; omega) | skip
          first | have m8 := Below.keep hb m8 | skip
          have hS := bnext hS hb
          have hB := bnext hB hb
          rw [hg9] at m9 ⊢
          generalize wc.alloc (.cells #[.int .i64 0, .int .i64 0, .int .i64 0, .int .i64 0] 80) = wc at *
          clear hb hg9
          refine ⟨regrown_of_below hS, ?_⟩
          refine plan_act ?_
          go_wp2_with fail
          refine (cB _).mono ?_
          rintro e wc ⟨x, y, ok', rfl, hr, hb⟩
          have hS := bnext hS hb
          have hB := bnext hB hb
          first | have m8 := Below.keep hb m8 | skip
          first | have m9 := Below.keep hb m9 | skip
          clear hb
          have HM := Lib.hid hr
          clear hr
          go_wp2
          refine ⟨regrown_of_below hS, ?_⟩
          refine plan_pure (fun K hK => ?_); go_simp; refine hK _ _ ?_; clear hK K
          refine plan_pure (fun K hK => ?_); go_simp; refine hK _ _ ?_; clear hK K
          refine plan_pure (fun K hK => ?_); go_simp; refine hK _ _ ?_; clear hK K
          refine plan_pure (fun K hK => ?_); go_simp; refine hK _ _ ?_; clear hK K
          refine plan_last_ ?_
          have y2 := Below.keep hS y2
          clear r1 r2 p0 p1 p2 p3 cB
          obtain ⟨th1, V1, hw1, m8, o1⟩ := rput4 m8 x.lo x.hi x.bits x.opn
          have m9 := Only.keep o1 m9 (by omega)
          have y2 := Only.keep o1 y2 (by omega)
          have hB := hB.trans (below_upon o1 (fun k hk => by omega) hB.size)
          obtain ⟨th2, V2, hw2, m9, o2⟩ := rput4 m9 y.lo y.hi y.bits y.opn
          have m8 := Only.keep o2 m8 (by omega)
          have y2 := Only.keep o2 y2 (by omega)
          have hB := hB.trans (below_upon o2 (fun k hk => by omega) hB.size)
          go_wp2_with ((with_reducible refine gate_store (p := 8) rfl ?_); go_loud (refine wpList_put rfl 80 _ _ rfl (g8) 0 [.int .i64 x.lo, .int .i64 x.hi, .int .i64 x.bits, .int .i64 x.opn] rfl rfl th1.out (by kernel_rfl) rfl ?_; rw [hw1.out]))
          refine plan_last_ ?_
          go_wp2_with ((with_reducible refine gate_store (p := 9) rfl ?_); go_loud (refine wpList_put rfl 80 _ _ rfl (g9) 0 [.int .i64 y.lo, .int .i64 y.hi, .int .i64 y.bits, .int .i64 y.opn] rfl rfl th2.out (by kernel_rfl) rfl ?_; rw [hw2.out]))
          refine plan_pure (fun K hK => ?_); go_simp; refine hK _ _ ?_; clear hK K
          refine plan_done ?_
          obtain ⟨q0, q1, q2, q3⟩ := rat m8
          clear th1 th2 hw1 hw2 o1 o2
          obtain ⟨th1, V3, hw1, y2, o1⟩ := rput4 y2 x.lo x.hi x.bits x.opn
          have hB := hB.trans (below_upon o1 (fun k hk => by omega) hB.size)
          go_wp2_with ((with_reducible refine gate_store (p := 6) rfl ?_); go_loud (refine wpList_put rfl 80 _ _ rfl (w.heap.size + 1 + 1) 0 [.int .i64 x.lo, .int .i64 x.hi, .int .i64 x.bits, .int .i64 x.opn] rfl rfl th1.out (by kernel_rfl) rfl ?_; rw [hw1.out]))
          obtain ⟨q0, q1, q2, q3⟩ := rat y2
          refine bodyPost_ret (v := .tuple #[.agg #[.int .i64 x.lo, .int .i64 x.hi, .int .i64 x.bits, .int .i64 x.opn], .bool ok']) (by simp [results, Try.results60, go_sem, q0, q1, q2, q3]) rfl ⟨x, y, ok', rfl, HM.out, hB⟩
      · refine plan_act ?_
        go_wp2
        have hb := below_alloc' (Below.refl wc.heap.size wc) (.cells #[.int .i64 0, .int .i64 0, .int .i64 0, .int .i64 0] 80)
        have m9 := alloc_at' wc (.cells #[.int .i64 0, .int .i64 0, .int .i64 0, .int .i64 0] 80)
        obtain ⟨g9, hg9⟩ : ∃ g, wc.heap.size = g := ⟨_, rfl⟩
        have h9 : w.heap.size + 3 ≤ g9 := by have := hS.size; omega
        first | (have hne : g8 ≠ g9 := by have := heap_lt m8; omega) | skip
        first | have m8 := Below.keep hb m8 | skip
        have hS := bnext hS hb
        have hB := bnext hB hb
        rw [hg9] at m9 ⊢
        generalize wc.alloc (.cells #[.int .i64 0, .int .i64 0, .int .i64 0, .int .i64 0] 80) = wc at *
        clear hb hg9
        refine ⟨regrown_of_below hS, ?_⟩
        refine plan_act ?_
        go_wp2_with fail
        refine (l2One_calls n _).mono ?_
        rintro e wc ⟨rfl, hb⟩
        have hS := bnext hS hb
        have hB := bnext hB hb
        first | have m8 := Below.keep hb m8 | skip
        first | have m9 := Below.keep hb m9 | skip
        clear hb
        go_wp2
        refine ⟨regrown_of_below hS, ?_⟩
        refine plan_act ?_
        go_wp2_with fail
        refine (cB _).mono ?_
        rintro e wc ⟨x, y, ok', rfl, hr, hb⟩
        have hS := bnext hS hb
        have hB := bnext hB hb
        first | have m8 := Below.keep hb m8 | skip
        first | have m9 := Below.keep hb m9 | skip
        clear hb
        have HM := Lib.hid hr
        clear hr
        go_wp2
        refine ⟨regrown_of_below hS, ?_⟩
        refine plan_pure (fun K hK => ?_); go_simp; refine hK _ _ ?_; clear hK K
        refine plan_pure (fun K hK => ?_); go_simp; refine hK _ _ ?_; clear hK K
        refine plan_pure (fun K hK => ?_); go_simp; refine hK _ _ ?_; clear hK K
        refine plan_pure (fun K hK => ?_); go_simp; refine hK _ _ ?_; clear hK K
        refine plan_last_ ?_
        have y2 := Below.keep hS y2
        clear r1 r2 p0 p1 p2 p3 cB
        obtain ⟨th1, V1, hw1, m8, o1⟩ := rput4 m8 x.lo x.hi x.bits x.opn
        have m9 := Only.keep o1 m9 (by omega)
        have y2 := Only.keep o1 y2 (by omega)
        have hB := hB.trans (below_upon o1 (fun k hk => by omega) hB.size)
        obtain ⟨th2, V2, hw2, m9, o2⟩ := rput4 m9 y.lo y.hi y.bits y.opn
        have m8 := Only.keep o2 m8 (by omega)
        have y2 := Only.keep o2 y2 (by omega)
        have hB := hB.trans (below_upon o2 (fun k hk => by omega) hB.size)
        go_wp2_with ((with_reducible refine gate_store (p := 8) rfl ?_); go_loud (refine wpList_put rfl 80 _ _ rfl (g8) 0 [.int .i64 x.lo, .int .i64 x.hi, .int .i64 x.bits, .int .i64 x.opn] rfl rfl th1.out (by kernel_rfl) rfl ?_; rw [hw1.out]))
        refine plan_last_ ?_
        go_wp2_with ((with_reducible refine gate_store (p := 9) rfl ?_); go_loud (refine wpList_put rfl 80 _ _ rfl (g9) 0 [.int .i64 y.lo, .int .i64 y.hi, .int .i64 y.bits, .int .i64 y.opn] rfl rfl th2.out (by kernel_rfl) rfl ?_; rw [hw2.out]))
        refine plan_pure (fun K hK => ?_); go_simp; refine hK _ _ ?_; clear hK K
        refine plan_done ?_
        obtain ⟨q0, q1, q2, q3⟩ := rat m8
        clear th1 th2 hw1 hw2 o1 o2
        obtain ⟨th1, V3, hw1, y2, o1⟩ := rput4 y2 x.lo x.hi x.bits x.opn
        have hB := hB.trans (below_upon o1 (fun k hk => by omega) hB.size)
        go_wp2_with ((with_reducible refine gate_store (p := 6) rfl ?_); go_loud (refine wpList_put rfl 80 _ _ rfl (w.heap.size + 1 + 1) 0 [.int .i64 x.lo, .int .i64 x.hi, .int .i64 x.bits, .int .i64 x.opn] rfl rfl th1.out (by kernel_rfl) rfl ?_; rw [hw1.out]))
        obtain ⟨q0, q1, q2, q3⟩ := rat y2
        refine bodyPost_ret (v := .tuple #[.agg #[.int .i64 x.lo, .int .i64 x.hi, .int .i64 x.bits, .int .i64 x.opn], .bool ok']) (by simp [results, Try.results60, go_sem, q0, q1, q2, q3]) rfl ⟨x, y, ok', rfl, HM.out, hB⟩
    · refine plan_act ?_
      go_wp2
      have hb := below_alloc' (Below.refl wc.heap.size wc) (.cells #[.int .i64 0, .int .i64 0, .int .i64 0, .int .i64 0] 80)
      have m9 := alloc_at' wc (.cells #[.int .i64 0, .int .i64 0, .int .i64 0, .int .i64 0] 80)
      obtain ⟨g9, hg9⟩ : ∃ g, wc.heap.size = g := ⟨_, rfl⟩
      have h9 : w.heap.size + 3 ≤ g9 := by have := hS.size; omega
      first | (have hne : g8 ≠ g9 := by have := heap_lt m8; omega) | skip
      first | have m8 := Below.keep hb m8 | skip
      have hS := bnext hS hb
      have hB := bnext hB hb
      rw [hg9] at m9 ⊢
      generalize wc.alloc (.cells #[.int .i64 0, .int .i64 0, .int .i64 0, .int .i64 0] 80) = wc at *
      clear hb hg9
      refine ⟨regrown_of_below hS, ?_⟩
      refine plan_both ?_ ?_
      · refine plan_act ?_
        go_wp2_with fail
        refine (l2One_calls n _).mono ?_
        rintro e wc ⟨rfl, hb⟩
        have hS := bnext hS hb
        have hB := bnext hB hb
        first | have m8 := Below.keep hb m8 | skip
        first | have m9 := Below.keep hb m9 | skip
        clear hb
        go_wp2
        refine ⟨regrown_of_below hS, ?_⟩
        refine plan_both ?_ ?_
        · refine plan_act ?_
          go_wp2_with fail
          refine (cB _).mono ?_
          rintro e wc ⟨x, y, ok', rfl, hr, hb⟩
          have hS := bnext hS hb
          have hB := bnext hB hb
          first | have m8 := Below.keep hb m8 | skip
          first | have m9 := Below.keep hb m9 | skip
          clear hb
          have HM := Lib.hid hr
          clear hr
          go_wp2
          refine ⟨regrown_of_below hS, ?_⟩
          refine plan_pure (fun K hK => ?_); go_simp; refine hK _ _ ?_; clear hK K
          refine plan_pure (fun K hK => ?_); go_simp; refine hK _ _ ?_; clear hK K
          refine plan_pure (fun K hK => ?_); go_simp; refine hK _ _ ?_; clear hK K
          refine plan_pure (fun K hK => ?_); go_simp; refine hK _ _ ?_; clear hK K
          refine plan_act ?_
          go_wp2
          have hb := below_alloc' (Below.refl wc.heap.size wc) (.cells #[.int .i64 0, .int .i64 0, .int .i64 0, .int .i64 0] 80)
          have m8 := alloc_at' wc (.cells #[.int .i64 0, .int .i64 0, .int .i64 0, .int .i64 0] 80)
          obtain ⟨g8, hg8⟩ : ∃ g, wc.heap.size = g := ⟨_, rfl⟩
          have h8 : w.heap.size + 3 ≤ g8 := by have := hS.size; omega
          first | (have hne : g8 ≠ g9 := by have := heap_lt m9; omega) | skip
          first | have m9 := Below.keep hb m9 | skip
          have hS := bnext hS hb
          have hB := bnext hB hb
          rw [hg8] at m8 ⊢
          generalize wc.alloc (.cells #[.int .i64 0, .int .i64 0, .int .i64 0, .int .i64 0] 80) = wc at *
          clear hb hg8
          refine ⟨regrown_of_below hS, ?_⟩
          refine plan_last_ ?_
          have y2 := Below.keep hS y2
          clear r1 r2 p0 p1 p2 p3 cB
          obtain ⟨th1, V1, hw1, m8, o1⟩ := rput4 m8 x.lo x.hi x.bits x.opn
          have m9 := Only.keep o1 m9 (by omega)
          have y2 := Only.keep o1 y2 (by omega)
          have hB := hB.trans (below_upon o1 (fun k hk => by omega) hB.size)
          obtain ⟨th2, V2, hw2, m9, o2⟩ := rput4 m9 y.lo y.hi y.bits y.opn
          have m8 := Only.keep o2 m8 (by omega)
          have y2 := Only.keep o2 y2 (by omega)
          have hB := hB.trans (below_upon o2 (fun k hk => by omega) hB.size)
          go_wp2_with ((with_reducible refine gate_store (p := 8) rfl ?_); go_loud (refine wpList_put rfl 80 _ _ rfl (g8) 0 [.int .i64 x.lo, .int .i64 x.hi, .int .i64 x.bits, .int .i64 x.opn] rfl rfl th1.out (by kernel_rfl) rfl ?_; rw [hw1.out]))
          refine plan_last_ ?_
          go_wp2_with ((with_reducible refine gate_store (p := 9) rfl ?_); go_loud (refine wpList_put rfl 80 _ _ rfl (g9) 0 [.int .i64 y.lo, .int .i64 y.hi, .int .i64 y.bits, .int .i64 y.opn] rfl rfl th2.out (by kernel_rfl) rfl ?_; rw [hw2.out]))
          refine plan_pure (fun K hK => ?_); go_simp; refine hK _ _ ?_; clear hK K
          refine plan_done ?_
          obtain ⟨q0, q1, q2, q3⟩ := rat m8
          clear th1 th2 hw1 hw2 o1 o2
          obtain ⟨th1, V3, hw1, y2, o1⟩ := rput4 y2 x.lo x.hi x.bits x.opn
          have hB := hB.trans (below_upon o1 (fun k hk => by omega) hB.size)
          go_wp2_with ((with_reducible refine gate_store (p := 6) rfl ?_); go_loud (refine wpList_put rfl 80 _ _ rfl (w.heap.size + 1 + 1) 0 [.int .i64 x.lo, .int .i64 x.hi, .int .i64 x.bits, .int .i64 x.opn] rfl rfl th1.out (by kernel_rfl) rfl ?_; rw [hw1.out]))
          obtain ⟨q0, q1, q2, q3⟩ := rat y2
          refine bodyPost_ret (v := .tuple #[.agg #[.int .i64 x.lo, .int .i64 x.hi, .int .i64 x.bits, .int .i64 x.opn], .bool ok']) (by simp [results, Try.results60, go_sem, q0, q1, q2, q3]) rfl ⟨x, y, ok', rfl, HM.out, hB⟩
        · refine plan_act ?_
          go_wp2
          have hb := below_alloc' (Below.refl wc.heap.size wc) (.cells #[.int .i64 0, .int .i64 0, .int .i64 0, .int .i64 0] 80)
          have m8 := alloc_at' wc (.cells #[.int .i64 0, .int .i64 0, .int .i64 0, .int .i64 0] 80)
          obtain ⟨g8, hg8⟩ : ∃ g, wc.heap.size = g := ⟨_, rfl⟩
          have h8 : w.heap.size + 3 ≤ g8 := by have := hS.size; omega
          first | (have hne : g8 ≠ g9 := by have := heap_lt m9; omega) | skip
          first | have m9 := Below.keep hb m9 | skip
          have hS := bnext hS hb
          have hB := bnext hB hb
          rw [hg8] at m8 ⊢
          generalize wc.alloc (.cells #[.int .i64 0, .int .i64 0, .int .i64 0, .int .i64 0] 80) = wc at *
          clear hb hg8
          refine ⟨regrown_of_below hS, ?_⟩
          refine plan_act ?_
          go_wp2_with fail
          refine (cB _).mono ?_
          rintro e wc ⟨x, y, ok', rfl, hr, hb⟩
          have hS := bnext hS hb
          have hB := bnext hB hb
          first | have m8 := Below.keep hb m8 | skip
          first | have m9 := Below.keep hb m9 | skip
          clear hb
          have HM := Lib.hid hr
          clear hr
          go_wp2
          refine ⟨regrown_of_below hS, ?_⟩
          refine plan_pure (fun K hK => ?_); go_simp; refine hK _ _ ?_; clear hK K
          refine plan_pure (fun K hK => ?_); go_simp; refine hK _ _ ?_; clear hK K
          refine plan_pure (fun K hK => ?_); go_simp; refine hK _ _ ?_; clear hK K
          refine plan_pure (fun K hK => ?_); go_simp; refine hK _ _ ?_; clear hK K
          refine plan_last_ ?_
          have y2 := Below.keep hS y2
          clear r1 r2 p0 p1 p2 p3 cB
          obtain ⟨th1, V1, hw1, m8, o1⟩ := rput4 m8 x.lo x.hi x.bits x.opn
          have m9 := Only.keep o1 m9 (by omega)
          have y2 := Only.keep o1 y2 (by omega)
          have hB := hB.trans (below_upon o1 (fun k hk => by omega) hB.size)
          obtain ⟨th2, V2, hw2, m9, o2⟩ := rput4 m9 y.lo y.hi y.bits y.opn
          have m8 := Only.keep o2 m8 (by omega)
          have y2 := Only.keep o2 y2 (by omega)
          have hB := hB.trans (below_upon o2 (fun k hk => by omega) hB.size)
          go_wp2_with ((with_reducible refine gate_store (p := 8) rfl ?_); go_loud (refine wpList_put rfl 80 _ _ rfl (g8) 0 [.int .i64 x.lo, .int .i64 x.hi, .int .i64 x.bits, .int .i64 x.opn] rfl rfl th1.out (by kernel_rfl) rfl ?_; rw [hw1.out]))
          refine plan_last_ ?_
          go_wp2_with ((with_reducible refine gate_store (p := 9) rfl ?_); go_loud (refine wpList_put rfl 80 _ _ rfl (g9) 0 [.int .i64 y.lo, .int .i64 y.hi, .int .i64 y.bits, .int .i64 y.opn] rfl rfl th2.out (by kernel_rfl) rfl ?_; rw [hw2.out]))
          refine plan_pure (fun K hK => ?_); go_simp; refine hK _ _ ?_; clear hK K
          refine plan_done ?_
          obtain ⟨q0, q1, q2, q3⟩ := rat m8
          clear th1 th2 hw1 hw2 o1 o2
          obtain ⟨th1, V3, hw1, y2, o1⟩ := rput4 y2 x.lo x.hi x.bits x.opn
          have hB := hB.trans (below_upon o1 (fun k hk => by omega) hB.size)
          go_wp2_with ((with_reducible refine gate_store (p := 6) rfl ?_); go_loud (refine wpList_put rfl 80 _ _ rfl (w.heap.size + 1 + 1) 0 [.int .i64 x.lo, .int .i64 x.hi, .int .i64 x.bits, .int .i64 x.opn] rfl rfl th1.out (by kernel_rfl) rfl ?_; rw [hw1.out]))
          obtain ⟨q0, q1, q2, q3⟩ := rat y2
          refine bodyPost_ret (v := .tuple #[.agg #[.int .i64 x.lo, .int .i64 x.hi, .int .i64 x.bits, .int .i64 x.opn], .bool ok']) (by simp [results, Try.results60, go_sem, q0, q1, q2, q3]) rfl ⟨x, y, ok', rfl, HM.out, hB⟩
      · refine plan_act ?_
        go_wp2
        have hb := below_alloc' (Below.refl wc.heap.size wc) (.cells #[.int .i64 0, .int .i64 0, .int .i64 0, .int .i64 0] 80)
        have m8 := alloc_at' wc (.cells #[.int .i64 0, .int .i64 0, .int .i64 0, .int .i64 0] 80)
        obtain ⟨g8, hg8⟩ : ∃ g, wc.heap.size = g := ⟨_, rfl⟩
        have h8 : w.heap.size + 3 ≤ g8 := by have := hS.size; omega
        first | (have hne : g8 ≠ g9 := by have := heap_lt m9; omega) | skip
        first | have m9 := Below.keep hb m9 | skip
        have hS := bnext hS hb
        have hB := bnext hB hb
        rw [hg8] at m8 ⊢
        generalize wc.alloc (.cells #[.int .i64 0, .int .i64 0, .int .i64 0, .int .i64 0] 80) = wc at *
        clear hb hg8
        refine ⟨regrown_of_below hS, ?_⟩
        refine plan_act ?_
        go_wp2_with fail
        refine (l2One_calls n _).mono ?_
        rintro e wc ⟨rfl, hb⟩
        have hS := bnext hS hb
        have hB := bnext hB hb
        first | have m8 := Below.keep hb m8 | skip
        first | have m9 := Below.keep hb m9 | skip
        clear hb
        go_wp2
        refine ⟨regrown_of_below hS, ?_⟩
        refine plan_act ?_
        go_wp2_with fail
        refine (cB _).mono ?_
        rintro e wc ⟨x, y, ok', rfl, hr, hb⟩
        have hS := bnext hS hb
        have hB := bnext hB hb
        first | have m8 := Below.keep hb m8 | skip
        first | have m9 := Below.keep hb m9 | skip
        clear hb
        have HM := Lib.hid hr
        clear hr
        go_wp2
        refine ⟨regrown_of_below hS, ?_⟩
        refine plan_pure (fun K hK => ?_); go_simp; refine hK _ _ ?_; clear hK K
        refine plan_pure (fun K hK => ?_); go_simp; refine hK _ _ ?_; clear hK K
        refine plan_pure (fun K hK => ?_); go_simp; refine hK _ _ ?_; clear hK K
        refine plan_pure (fun K hK => ?_); go_simp; refine hK _ _ ?_; clear hK K
        refine plan_last_ ?_
        have y2 := Below.keep hS y2
        clear r1 r2 p0 p1 p2 p3 cB
        obtain ⟨th1, V1, hw1, m8, o1⟩ := rput4 m8 x.lo x.hi x.bits x.opn
        have m9 := Only.keep o1 m9 (by omega)
        have y2 := Only.keep o1 y2 (by omega)
        have hB := hB.trans (below_upon o1 (fun k hk => by omega) hB.size)
        obtain ⟨th2, V2, hw2, m9, o2⟩ := rput4 m9 y.lo y.hi y.bits y.opn
        have m8 := Only.keep o2 m8 (by omega)
        have y2 := Only.keep o2 y2 (by omega)
        have hB := hB.trans (below_upon o2 (fun k hk => by omega) hB.size)
        go_wp2_with ((with_reducible refine gate_store (p := 8) rfl ?_); go_loud (refine wpList_put rfl 80 _ _ rfl (g8) 0 [.int .i64 x.lo, .int .i64 x.hi, .int .i64 x.bits, .int .i64 x.opn] rfl rfl th1.out (by kernel_rfl) rfl ?_; rw [hw1.out]))
        refine plan_last_ ?_
        go_wp2_with ((with_reducible refine gate_store (p := 9) rfl ?_); go_loud (refine wpList_put rfl 80 _ _ rfl (g9) 0 [.int .i64 y.lo, .int .i64 y.hi, .int .i64 y.bits, .int .i64 y.opn] rfl rfl th2.out (by kernel_rfl) rfl ?_; rw [hw2.out]))
        refine plan_pure (fun K hK => ?_); go_simp; refine hK _ _ ?_; clear hK K
        refine plan_done ?_
        obtain ⟨q0, q1, q2, q3⟩ := rat m8
        clear th1 th2 hw1 hw2 o1 o2
        obtain ⟨th1, V3, hw1, y2, o1⟩ := rput4 y2 x.lo x.hi x.bits x.opn
        have hB := hB.trans (below_upon o1 (fun k hk => by omega) hB.size)
        go_wp2_with ((with_reducible refine gate_store (p := 6) rfl ?_); go_loud (refine wpList_put rfl 80 _ _ rfl (w.heap.size + 1 + 1) 0 [.int .i64 x.lo, .int .i64 x.hi, .int .i64 x.bits, .int .i64 x.opn] rfl rfl th1.out (by kernel_rfl) rfl ?_; rw [hw1.out]))
        obtain ⟨q0, q1, q2, q3⟩ := rat y2
        refine bodyPost_ret (v := .tuple #[.agg #[.int .i64 x.lo, .int .i64 x.hi, .int .i64 x.bits, .int .i64 x.opn], .bool ok']) (by simp [results, Try.results60, go_sem, q0, q1, q2, q3]) rfl ⟨x, y, ok', rfl, HM.out, hB⟩
end Go.Proofs.Ytoimeebildcofaa
