/- The walks of the program's ranges met, parted, told to be less. -/
import Derived.Test.YtoimeebildcofaaWRange
import Derived.Test.YtoimeebildcofaaPlan
namespace Go.Proofs.Ytoimeebildcofaa
open Go.RowKit
theorem Below.keep {w w' : World} (hb : Below w.heap.size w w') {g : Nat} {o : Obj} (h : w.heap[g]? = some o) : w'.heap[g]? = some o :=
  (hb.block g (Array.getElem?_eq_some_iff.1 h).1).trans h
theorem Only.keep {S : Nat → Prop} {w w' : World} (hb : Only S w w') {g : Nat} {o : Obj} (h : w.heap[g]? = some o) (hg : ¬ S g) : w'.heap[g]? = some o :=
  (hb.block g (Array.getElem?_eq_some_iff.1 h).1 hg).trans h
theorem rsome {V : World} {g : Nat} {a b c d : Int} (h : V.heap[g]? = some (rcells a b c d)) (j : Nat) (hj : j < 4) : (V.cell? ⟨g, 0 + j, none⟩).isSome = true := by
  obtain ⟨c0, c1, c2, c3⟩ := rat h
  have hj' : j = 0 ∨ j = 1 ∨ j = 2 ∨ j = 3 := by omega
  rcases hj' with rfl | rfl | rfl | rfl <;> simp [c0, c1, c2, c3]
theorem rput4 {V : World} {g : Nat} {a b c d : Int} (h : V.heap[g]? = some (rcells a b c d)) (a' b' c' d' : Int) :
    Hid (V.there g 0 4) ∧ ∃ V', Hid (V.setCells g 0 [.int .i64 a', .int .i64 b', .int .i64 c', .int .i64 d'] = V') ∧ V'.heap[g]? = some (rcells a' b' c' d') ∧ Only (· = g) V V' :=
  ⟨fun j hj => ⟨rsome h j hj, frozen_of_row V _ _ _ _ h⟩, _, rfl, heap_setCells [.int .i64 a', .int .i64 b', .int .i64 c', .int .i64 d'] 0 _ V h (by simp), only_setCells _ _ _ _ (Only.refl _ _) (.inl rfl)⟩
theorem below_upon {B : Nat} {S : Nat → Prop} {w w' : World} (ho : Only S w w') (hS : ∀ k, S k → B ≤ k) (hB : B ≤ w.heap.size) : Below B w w' :=
  ⟨ho.os, ho.tape, ho.output, ho.size, fun k hk => ho.block k (by omega) (fun h => by have := hS k h; omega)⟩
theorem alloc_at' (w : World) (o : Obj) : (w.alloc o).heap[w.heap.size]? = some o := heap_alloc_new w o
theorem alloc_keep {w : World} (o : Obj) {g : Nat} {o' : Obj} (h : w.heap[g]? = some o') : (w.alloc o).heap[g]? = some o' := Below.keep (below_alloc' (Below.refl _ _) o) h
theorem alloc_size (w : World) (o : Obj) : (w.alloc o).heap.size = w.heap.size + 1 := by show (w.heap.push o).size = _; simp
theorem boxes3 (w : World) (o1 o2 o3 : Obj) : Below w.heap.size w (((w.alloc o1).alloc o2).alloc o3) ∧ (((w.alloc o1).alloc o2).alloc o3).heap.size = w.heap.size + 3 ∧
    (((w.alloc o1).alloc o2).alloc o3).heap[w.heap.size]? = some o1 ∧ (((w.alloc o1).alloc o2).alloc o3).heap[w.heap.size + 1]? = some o2 ∧ (((w.alloc o1).alloc o2).alloc o3).heap[w.heap.size + 1 + 1]? = some o3 := by
  have h1 := alloc_at' w o1
  have h2 := alloc_at' (w.alloc o1) o2
  have h3 := alloc_at' ((w.alloc o1).alloc o2) o3
  rw [alloc_size] at h2
  rw [alloc_size, alloc_size] at h3
  exact ⟨below_alloc' (below_alloc' (below_alloc' (Below.refl _ _) _) _) _, by simp only [alloc_size], alloc_keep _ (alloc_keep _ h1), alloc_keep _ h2, h3⟩
theorem boxes4 (w : World) (o1 o2 o3 o4 : Obj) : Below w.heap.size w ((((w.alloc o1).alloc o2).alloc o3).alloc o4) ∧ ((((w.alloc o1).alloc o2).alloc o3).alloc o4).heap.size = w.heap.size + 4 ∧
    ((((w.alloc o1).alloc o2).alloc o3).alloc o4).heap[w.heap.size]? = some o1 ∧ ((((w.alloc o1).alloc o2).alloc o3).alloc o4).heap[w.heap.size + 1]? = some o2 ∧ ((((w.alloc o1).alloc o2).alloc o3).alloc o4).heap[w.heap.size + 1 + 1]? = some o3 ∧ ((((w.alloc o1).alloc o2).alloc o3).alloc o4).heap[w.heap.size + 1 + 1 + 1]? = some o4 := by
  obtain ⟨hb, hs, h1, h2, h3⟩ := boxes3 w o1 o2 o3
  have h4 := alloc_at' (((w.alloc o1).alloc o2).alloc o3) o4
  rw [hs] at h4
  exact ⟨below_alloc' hb _, by rw [alloc_size, hs], alloc_keep _ h1, alloc_keep _ h2, alloc_keep _ h3, h4⟩
def ifSome (ok : Bool) (x : Rg) : Option Rg := if ok then some x else none
def ifTwo (ok : Bool) (x y : Rg) : Option (Rg × Rg) := if ok then some (x, y) else none
theorem RI.fits32 {r : RI} (h : r.someB = true) : r.nat.fits32 := (RI.some_of h).1.fits
theorem RI.nats {r : RI} (h : r.someB = true) : r.lo = (r.nat.lo : Int) ∧ r.hi = (r.nat.hi : Int) := by
  have h1 := of_decide_eq_true ((Bool.and_eq_true _ _).mp h).1
  constructor <;> simp only [RI.nat] <;> omega
set_option maxRecDepth 100000 in
theorem noRange_calls (w : World) : Calls Try.prog 98 #[] w fun e w' => e = .returned (.agg #[.int .i64 1, .int .i64 0, .int .i64 0, .int .i64 0]) ∧ Below w.heap.size w w' := by
  go_enter Try.func98, Try.ntmps98
  go_wp2
  refine bodyPost_ret (v := .agg #[.int .i64 1, .int .i64 0, .int .i64 0, .int .i64 0]) (by simp [results, Try.results98, go_sem]) rfl ⟨rfl, below_alloc' (Below.refl _ _) _⟩
set_option maxRecDepth 100000 in
set_option maxHeartbeats 1600000 in
theorem meet_calls (a b : Rg) (oa : a.Ok) (ob : b.Ok) (w : World) :
    Calls Try.prog 100 #[.agg #[.int .i64 a.lo, .int .i64 a.hi, .int .i64 a.bits, .int .i64 a.opn], .agg #[.int .i64 b.lo, .int .i64 b.hi, .int .i64 b.bits, .int .i64 b.opn]] w fun e w' => ∃ (x : Rg) (ok : Bool), e = .returned (.tuple #[.agg #[.int .i64 x.lo, .int .i64 x.hi, .int .i64 x.bits, .int .i64 x.opn], .bool ok]) ∧ a.meet b = ifSome ok x ∧ Below w.heap.size w w' := by
  obtain ⟨a1, a2, a3, a4⟩ := oa.fits
  obtain ⟨b1, b2, b3, b4⟩ := ob.fits
  have hx : a.bits ^^^ b.bits < 2 ^ 32 := Nat.xor_lt_two_pow (by omega) (by omega)
  have ho : a.opn ||| b.opn < 2 ^ 32 := Nat.or_lt_two_pow (by omega) (by omega)
  have e1 := xor_nat a.bits b.bits (by omega) (by omega)
  have e2 := or_nat a.opn b.opn (by omega) (by omega)
  have e3 := andNot_nat (a.bits ^^^ b.bits) (a.opn ||| b.opn) (by omega) (by omega)
  have e4 := or_nat a.bits b.bits (by omega) (by omega)
  have e5 := and_nat a.opn b.opn (by omega) (by omega)
  have g4 : a.bits ||| b.bits < 2 ^ 32 := Nat.or_lt_two_pow (by omega) (by omega)
  have g5 : a.opn &&& b.opn ≤ a.opn := Nat.and_le_left
  have cSome := some_calls (max (a.lo : Int) b.lo) (min (a.hi : Int) b.hi) (a.bits ||| b.bits) (a.opn &&& b.opn) (by omega) (by omega)
  have hM : a.meet b = if andNot (a.bits ^^^ b.bits) (a.opn ||| b.opn) = 0 then (a.meetI b).fit else none := rfl
  have hI : a.meetI b = ⟨max (a.lo : Int) b.lo, min (a.hi : Int) b.hi, a.bits ||| b.bits, a.opn &&& b.opn⟩ := rfl
  rw [hI] at hM
  clear hI
  generalize a.bits ^^^ b.bits = X at *
  generalize a.opn ||| b.opn = Y at *
  generalize andNot X Y = Q at *
  generalize a.bits ||| b.bits = P at *
  generalize a.opn &&& b.opn = O at *
  obtain ⟨lo, hlo⟩ : ∃ lo, max (a.lo : Int) b.lo = lo := ⟨_, rfl⟩
  obtain ⟨hi, hhi⟩ : ∃ hi, min (a.hi : Int) b.hi = hi := ⟨_, rfl⟩
  rw [hlo, hhi] at hM cSome
  by_cases hq : Q = 0
  · rw [if_pos hq] at hM
    have hq' : (Q : Int) = 0 := by omega
    have fit : (⟨lo, hi, P, O⟩ : RI).fit = if (⟨lo, hi, P, O⟩ : RI).someB then some (⟨lo, hi, P, O⟩ : RI).nat.tidy else none := rfl
    rw [hq'] at e3
    obtain ⟨hB0, hs0, x0, x1, x2, x3⟩ := boxes4 w (rcells a.lo a.hi a.bits a.opn) (rcells b.lo b.hi b.bits b.opn) (rcells 0 0 0 0) (rcells lo hi P O)
    cases hs : (⟨lo, hi, P, O⟩ : RI).someB with
    | false =>
      rw [hs] at cSome fit
      have HM : Hid (a.meet b = ifSome false Rg.no) := by show _ = _; rw [hM, fit]; rfl
      clear hM fit hs hq hq'
      go_enter Try.func100, Try.ntmps100
      go_wp2_with fail
      refine (cSome _).mono ?_
      rintro e w1 ⟨rfl, hb⟩
      have hB1 := bnext hB0 hb
      have z1 := hb.size
      have y2 := Below.keep hb x2
      clear hb x0 x1 x2 x3
      go_wp2_with fail
      refine (noRange_calls _).mono ?_
      rintro e w2 ⟨rfl, hb⟩
      have hB2 := bnext hB1 hb
      have z2 := hb.size
      have y2 := Below.keep hb y2
      clear hb
      obtain ⟨th1, V1, hw1, y1, o1⟩ := rput4 y2 (1) (0) (0) (0)
      go_wp2_with ((with_reducible refine gate_store (p := 4) rfl ?_); go_loud (refine wpList_put rfl 80 _ _ rfl (w.heap.size + 1 + 1) 0 [.int .i64 1, .int .i64 0, .int .i64 0, .int .i64 0] rfl rfl th1.out (by kernel_rfl) rfl ?_; rw [hw1.out]))
      obtain ⟨q0, q1, q2, q3⟩ := rat y1
      refine bodyPost_ret (v := .tuple #[.agg #[.int .i64 1, .int .i64 0, .int .i64 0, .int .i64 0], .bool false]) (by simp [results, Try.results100, go_sem, q0, q1, q2, q3]) rfl ⟨Rg.no, false, rfl, HM.out, hB2.trans (below_upon o1 (fun k hk => by omega) hB2.size)⟩
    | true =>
      rw [hs] at cSome fit
      obtain ⟨k1, k2⟩ := RI.nats hs
      have hf := RI.fits32 hs
      have HM : Hid (a.meet b = ifSome true (⟨lo, hi, P, O⟩ : RI).nat.tidy) := by show _ = _; rw [hM, fit]; rfl
      simp only [RI.nat] at k1 k2 hf HM
      generalize lo.toNat = l at *
      generalize hi.toNat = h at *
      subst k1 k2
      clear hM fit hs hq hq'
      go_enter Try.func100, Try.ntmps100
      go_wp2_with fail
      refine (cSome _).mono ?_
      rintro e w1 ⟨rfl, hb⟩
      have hB1 := bnext hB0 hb
      have z1 := hb.size
      have y2 := Below.keep hb x2
      obtain ⟨q0, q1, q2, q3⟩ := rat (Below.keep hb x3)
      clear hb x0 x1 x2 x3
      go_wp2_with fail
      refine (tidy_calls ⟨l, h, P, O⟩ hf _).mono ?_
      rintro e w2 ⟨rfl, hb⟩
      have hB2 := bnext hB1 hb
      have z2 := hb.size
      have y2 := Below.keep hb y2
      generalize (⟨l, h, P, O⟩ : Rg).tidy = t at *
      clear hb q0 q1 q2 q3
      obtain ⟨th1, V1, hw1, y1, o1⟩ := rput4 y2 (t.lo) (t.hi) (t.bits) (t.opn)
      go_wp2_with ((with_reducible refine gate_store (p := 4) rfl ?_); go_loud (refine wpList_put rfl 80 _ _ rfl (w.heap.size + 1 + 1) 0 [.int .i64 t.lo, .int .i64 t.hi, .int .i64 t.bits, .int .i64 t.opn] rfl rfl th1.out (by kernel_rfl) rfl ?_; rw [hw1.out]))
      obtain ⟨q0, q1, q2, q3⟩ := rat y1
      refine bodyPost_ret (v := .tuple #[.agg #[.int .i64 t.lo, .int .i64 t.hi, .int .i64 t.bits, .int .i64 t.opn], .bool true]) (by simp [results, Try.results100, go_sem, q0, q1, q2, q3]) rfl ⟨t, true, rfl, HM.out, hB2.trans (below_upon o1 (fun k hk => by omega) hB2.size)⟩
  · rw [if_neg hq] at hM
    have hq' : ¬ (Q : Int) = 0 := by omega
    have HM : Hid (a.meet b = ifSome false Rg.no) := hM
    clear hM hq
    go_enter Try.func100, Try.ntmps100
    go_wp2
    refine bodyPost_ret (v := .agg #[.int .i64 1, .int .i64 0, .int .i64 0, .int .i64 0]) (by simp [results, Try.results98, go_sem]) rfl ?_
    go_wp2
    refine bodyPost_ret (v := .tuple #[.agg #[.int .i64 1, .int .i64 0, .int .i64 0, .int .i64 0], .bool false]) (by simp [results, Try.results100, go_sem]) rfl ⟨Rg.no, false, rfl, HM.out, ?_⟩
    repeat (first | exact Below.refl _ _ | refine below_alloc' ?_ _)
end Go.Proofs.Ytoimeebildcofaa
