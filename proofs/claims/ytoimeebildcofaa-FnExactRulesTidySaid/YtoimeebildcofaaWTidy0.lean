/- The walks of the small makers of ranges, of the program and of the reference. -/
import Derived.Test.YtoimeebildcofaaWRangeS6
import Derived.Test.YtoimeebildcofaaTidyData
namespace Go.Proofs.Ytoimeebildcofaa
open Go.RowKit



set_option maxRecDepth 100000 in
theorem rangeOne_calls (n : Nat) (hn : n ≤ 4294967295) (w : World) :
    Calls Try.prog 65 #[.int .i64 n] w fun e w' => e = .returned (.agg #[.int .i64 n, .int .i64 n, .int .i64 n, .int .i64 0]) ∧ Below w.heap.size w w' := by
  have k1 : (0 : Int) ≤ n := by omega
  have k2 : (n : Int) ≤ 4294967295 := by omega
  go_enter Try.func65, Try.ntmps65
  go_wp2
  refine bodyPost_ret (v := .agg #[.int .i64 n, .int .i64 n, .int .i64 n, .int .i64 0]) (by simp [results, Try.results65, go_sem]) rfl ⟨rfl, ?_⟩
  repeat (first | exact Below.refl _ _ | refine below_alloc' ?_ _)
set_option maxRecDepth 100000 in
theorem l2One_calls (n : Nat) (w : World) :
    Calls Try.prog 92 #[.int .i64 n] w fun e w' => e = .returned (.agg #[.int .i64 n, .int .i64 n, .int .i64 n, .int .i64 0]) ∧ Below w.heap.size w w' := by
  go_enter Try.func92, Try.ntmps92
  go_wp2
  refine bodyPost_ret (v := .agg #[.int .i64 n, .int .i64 n, .int .i64 n, .int .i64 0]) (by simp [results, Try.results92, go_sem]) rfl ⟨rfl, ?_⟩
  repeat (first | exact Below.refl _ _ | refine below_alloc' ?_ _)
set_option maxRecDepth 100000 in
theorem fromTo_calls (w : World) :
    Calls Try.prog 64 #[.int .i64 0, .int .i64 255] w fun e w' => e = .returned (.agg #[.int .i64 0, .int .i64 255, .int .i64 0, .int .i64 255]) ∧ Below w.heap.size w w' := by
  have cT := tidy_calls ⟨0, 255, 0, 4294967295⟩ ⟨by decide, by decide, by decide, by decide⟩
  rw [byte_tidy] at cT
  have h1 := below_alloc' (Below.refl w.heap.size w) (rcells 0 0 0 0)
  have x0 := alloc_at' w (rcells 0 0 0 0)
  go_enter Try.func64, Try.ntmps64
  go_wp2_with fail
  refine (cT _).mono ?_
  rintro e w1 ⟨rfl, hb⟩
  have hB := bnext h1 hb
  have z1 := hb.size
  have y2 := Below.keep hb x0
  clear hb x0 h1
  obtain ⟨th1, V1, hw1, y1, o1⟩ := rput4 y2 0 255 0 255
  go_wp2_with ((with_reducible refine gate_store (p := 4) rfl ?_); go_loud (refine wpList_put rfl 80 _ _ rfl (w.heap.size) 0 [.int .i64 0, .int .i64 255, .int .i64 0, .int .i64 255] rfl rfl th1.out (by kernel_rfl) rfl ?_; rw [hw1.out]))
  obtain ⟨q0, q1, q2, q3⟩ := rat y1
  refine bodyPost_ret (v := .agg #[.int .i64 0, .int .i64 255, .int .i64 0, .int .i64 255]) (by simp [results, Try.results64, go_sem, q0, q1, q2, q3]) rfl ⟨rfl, hB.trans (below_upon o1 (fun k hk => by omega) hB.size)⟩
set_option maxRecDepth 100000 in
theorem l2Ends_calls (w : World) :
    Calls Try.prog 59 #[.int .i64 0, .int .i64 255] w fun e w' => e = .returned (.agg #[.int .i64 0, .int .i64 255, .int .i64 0, .int .i64 255]) ∧ Below w.heap.size w w' := by
  have cT := l2Tidy_calls ⟨0, 255, 0, 4294967295⟩ ⟨by decide, by decide, by decide, by decide⟩
  rw [byte_tidy] at cT
  have h1 := below_alloc' (Below.refl w.heap.size w) (rcells 0 0 0 0)
  have x0 := alloc_at' w (rcells 0 0 0 0)
  go_enter Try.func59, Try.ntmps59
  go_wp2_with fail
  refine (l2Top_calls _).mono ?_
  rintro e w0 ⟨rfl, rfl⟩
  go_wp2_with fail
  refine (cT _).mono ?_
  rintro e w1 ⟨rfl, hb⟩
  have hB := bnext h1 hb
  have z1 := hb.size
  have y2 := Below.keep hb x0
  clear hb x0 h1
  obtain ⟨th1, V1, hw1, y1, o1⟩ := rput4 y2 0 255 0 255
  go_wp2_with ((with_reducible refine gate_store (p := 4) rfl ?_); go_loud (refine wpList_put rfl 80 _ _ rfl (w.heap.size) 0 [.int .i64 0, .int .i64 255, .int .i64 0, .int .i64 255] rfl rfl th1.out (by kernel_rfl) rfl ?_; rw [hw1.out]))
  obtain ⟨q0, q1, q2, q3⟩ := rat y1
  refine bodyPost_ret (v := .agg #[.int .i64 0, .int .i64 255, .int .i64 0, .int .i64 255]) (by simp [results, Try.results59, go_sem, q0, q1, q2, q3]) rfl ⟨rfl, hB.trans (below_upon o1 (fun k hk => by omega) hB.size)⟩
end Go.Proofs.Ytoimeebildcofaa
