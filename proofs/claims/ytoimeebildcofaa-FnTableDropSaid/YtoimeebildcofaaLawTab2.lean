/- The law of TablePut beside the reference. -/
import Derived.Test.YtoimeebildcofaaLawTab
namespace Go.Proofs.Ytoimeebildcofaa
open Go.RowKit
theorem OwnT.base {B : Nat} {t : Table} {kv sv : Value} {M1 M2 : Blocks} {w : World} (h : OwnT B t kv sv M1 M2 w) : ∀ p ∈ M1 ++ M2, B ≤ p.1 := fun p hp => (List.mem_append.1 hp).elim (h.1.base p) (h.2.1.base p)
theorem newbox (W : World) (t : Table) (kv sv : Value) : (W.alloc zcells).there W.heap.size 0 5 ∧ Holds ((W.alloc zcells).setCells W.heap.size 0 [.int .i64 t.kind, .int .i64 t.size, .int .i64 t.most, kv, sv]) [(W.heap.size, tcells t kv sv)] ∧
    Below W.heap.size W ((W.alloc zcells).setCells W.heap.size 0 [.int .i64 t.kind, .int .i64 t.size, .int .i64 t.most, kv, sv]) ∧ W.heap.size < ((W.alloc zcells).setCells W.heap.size 0 [.int .i64 t.kind, .int .i64 t.size, .int .i64 t.most, kv, sv]).heap.size := by
  obtain ⟨h1, h2, h3⟩ := tput (t0 := Table.zero) (holds_new (w := W) (o := zcells) rfl).get t kv sv
  exact ⟨h1, Holds.one h2, (below_alloc' (Below.refl _ W) zcells).trans (below_only h3 (fun k hk => by omega) (by simp)), (Holds.one h2).lt (List.mem_singleton.2 rfl)⟩
end Go.Proofs.Ytoimeebildcofaa
