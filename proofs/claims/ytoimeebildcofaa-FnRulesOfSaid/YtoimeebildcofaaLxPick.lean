/- The walk of the draw of a number, by roots. -/
import Derived.Test.YtoimeebildcofaaLxD
import Derived.Test.YtoimeebildcofaaDraws
namespace Go.Proofs.Ytoimeebildcofaa
open Go.RowKit
set_option linter.unusedSimpArgs false
set_option linter.unusedVariables false
/-- The reader's variable. -/
structure RdC (w : World) (g : Nat) (s : Value) (k : Nat) : Prop where
  heap : ∃ cur e, w.heap[g]? = some (.cells cur e (0, 0)) ∧ cur[0]? = some s ∧ cur[1]? = some (.int .i64 k) ∧ 2 ≤ cur.size
theorem RdC.cells {w : World} {g : Nat} {s : Value} {k : Nat} (h : RdC w g s k) : w.cell? ⟨g, 0, none⟩ = some s ∧ w.cell? ⟨g, 1, none⟩ = some (.int .i64 k) := by
  obtain ⟨cur, e, h1, h2, h3, _⟩ := h.heap
  simp [World.cell?, h1, h2, h3]
theorem RdC.only {S : Nat → Prop} {w w' : World} {g : Nat} {s : Value} {k : Nat} (h : RdC w g s k) (o : Only S w w') (h0 : ¬ S g) : RdC w' g s k := by
  obtain ⟨cur, e, h1, h2, h3, h4⟩ := h.heap
  exact ⟨cur, e, (o.block g (Array.getElem?_eq_some_iff.1 h1).1 h0).trans h1, h2, h3, h4⟩
theorem RdC.step {w : World} {g : Nat} {s : Value} {k : Nat} (h : RdC w g s k) : w.there g 1 1 ∧ ∃ w1, w.setCells g 1 [.int .i64 (k + 1 : Nat)] = w1 ∧ RdC w1 g s (k + 1) ∧ Only (· = g) w w1 := by
  obtain ⟨cur, e, h1, h2, h3, h4⟩ := h.heap
  refine ⟨fun j hj => ?_, _, rfl, ?_, only_setCells _ _ _ _ (Only.refl _ _) (.inl rfl)⟩
  · have : j = 0 := by omega
    subst this
    exact ⟨by simp [World.cell?, h1, h3], frozen_of_row w g _ _ _ h1⟩
  · have h5 := heap_setCells [.int .i64 (k + 1 : Nat)] 1 cur w h1 (by simp; omega)
    refine ⟨_, _, h5, ?_, ?_, ?_⟩
    · rw [List.getElem?_toArray, List.append_assoc, List.getElem?_append_left (by simp; omega)]
      simp only [List.getElem?_take, Nat.zero_lt_one, if_true, Array.getElem?_toList, h2]
    · rw [List.getElem?_toArray, List.append_assoc, List.getElem?_append_right (by simp; omega)]
      have : (cur.toList.take 1).length = 1 := by simp; omega
      simp [this]
    · simp
      omega
theorem byte_of {w : World} {n c : Nat} {A : Option Addr} {vs : List Int} {L : Blocks} (hr : Row 1 (.slice A n c) (vs.map byteCell) L) (hL : Holds w L) (hs : ∀ v, v ∈ vs → 0 ≤ v ∧ v ≤ 255) {i : Nat} (hi : i < n) :
    ∃ b off v, A = some ⟨b, off, none⟩ ∧ w.cell? ⟨b, off + i, none⟩ = some (.int .u8 v) ∧ 0 ≤ v ∧ v ≤ 255 := by
  have hl := hr.len'.1
  rw [List.length_map] at hl
  have hv : vs[i]? = some vs[i] := List.getElem?_eq_getElem (by omega)
  obtain ⟨b, off, hA, hq⟩ := hr.at_ hL (k := i) (cs := byteCell vs[i]) (by rw [List.getElem?_map, hv]; rfl)
  have := hq 0 _ rfl
  rw [Nat.mul_one] at this
  exact ⟨b, off, vs[i], hA, this, hs _ (List.getElem_mem _)⟩
set_option maxRecDepth 100000 in
theorem pickC_calls (m : Int) (w : World) (g : Nat) (s : Value) (vs : List Int) (L : Blocks) (k : Nat) (h : RdC w g s k) (hr : Row 1 s (vs.map byteCell) L) (hL : Holds w L) (hap : ∀ p, p ∈ L → p.1 ≠ g) (hs : ∀ v, v ∈ vs → 0 ≤ v ∧ v ≤ 255) (hk : k ≤ 1099511627776) (hm : m ≤ 1099511627776) :
    Calls Try.prog 85 #[.pointer (some ⟨g, 0, none⟩), .int .i64 m] w fun e w' => (∃ r : Nat, e = .returned (.int .i64 r) ∧ (r = 0 ∨ (r : Int) < m)) ∧ RdC w' g s (k + 1) ∧ Only (· = g) w w' := by
  obtain ⟨A, n, c, rfl⟩ := hr.slice
  obtain ⟨hnl, hn⟩ := hr.len'
  obtain ⟨c0, c1⟩ := h.cells
  obtain ⟨ht, w1, hw1, R1, o1⟩ := h.step
  have hL1 := hL.only o1 hap
  obtain ⟨d0, d1⟩ := R1.cells
  have hk2 : ((k + 1 : Nat) : Int) = (k : Int) + 1 := by omega
  rw [hk2] at d1 hw1
  have HT := Lib.hid ht
  have HW := Lib.hid hw1
  clear ht hw1 hk2
  by_cases hm1 : m < 1
  · have hm2 : m ≤ 0 := by omega
    go_enter Try.func85, Try.ntmps85
    go_wp2_with ((with_reducible refine gate_store (p := 14) rfl ?_); refine wpList_put rfl 3 _ _ rfl g 1 [.int .i64 ((k : Int) + 1)] rfl rfl HT.out (by kernel_rfl) rfl ?_; rw [HW.out])
    go_ret
    exact ⟨⟨0, rfl, .inl rfl⟩, R1, o1⟩
  · have hm2 : 1 ≤ m := by omega
    by_cases hn0 : n = 0
    · subst hn0
      go_enter Try.func85, Try.ntmps85
      go_wp2_with ((with_reducible refine gate_store (p := 14) rfl ?_); refine wpList_put rfl 3 _ _ rfl g 1 [.int .i64 ((k : Int) + 1)] rfl rfl HT.out (by kernel_rfl) rfl ?_; rw [HW.out])
      go_ret
      exact ⟨⟨0, rfl, .inl rfl⟩, R1, o1⟩
    · by_cases hkn : k < n
      · obtain ⟨b, off, v, rfl, hv, hv0, hv1⟩ := byte_of hr hL1 hs hkn
        go_enter Try.func85, Try.ntmps85
        go_wp2_with ((with_reducible refine gate_store (p := 14) rfl ?_); refine wpList_put rfl 3 _ _ rfl g 1 [.int .i64 ((k : Int) + 1)] rfl rfl HT.out (by kernel_rfl) rfl ?_; rw [HW.out])
        go_ret
        exact ⟨⟨(v % m).toNat, int_of (by have := Int.emod_nonneg v (show m ≠ 0 by omega); omega), .inr (by have := Int.emod_lt_of_pos v (show 0 < m by omega); have := Int.emod_nonneg v (show m ≠ 0 by omega); omega)⟩, R1, o1⟩
      · have hn1 : 1 ≤ (n : Int) := by omega
        have i0 : 0 ≤ (k : Int) % (n : Int) := Int.emod_nonneg _ (by omega)
        have i1 : (k : Int) % (n : Int) < n := Int.emod_lt_of_pos _ (by omega)
        have j0 : 0 ≤ ((k : Int) * 7 + 3) % (n : Int) := Int.emod_nonneg _ (by omega)
        have j1 : ((k : Int) * 7 + 3) % (n : Int) < n := Int.emod_lt_of_pos _ (by omega)
        have q0 : 0 ≤ (k : Int) / (n : Int) := Int.ediv_nonneg (by omega) (by omega)
        have q1 : (k : Int) / (n : Int) ≤ k := Int.ediv_le_self _ (by omega)
        obtain ⟨b, off, v, rfl, hv, hv0, hv1⟩ := byte_of hr hL1 hs (i := k % n) (Nat.mod_lt _ (by omega))
        obtain ⟨b', off', u, hbb, hu, hu0, hu1⟩ := byte_of hr hL1 hs (i := (k * 7 + 3) % n) (Nat.mod_lt _ (by omega))
        simp only [Option.some.injEq, Addr.mk.injEq, and_true] at hbb
        obtain ⟨rfl, rfl⟩ := hbb
        go_enter Try.func85, Try.ntmps85
        go_wp2_with ((with_reducible refine gate_store (p := 14) rfl ?_); refine wpList_put rfl 3 _ _ rfl g 1 [.int .i64 ((k : Int) + 1)] rfl rfl HT.out (by kernel_rfl) rfl ?_; rw [HW.out])
        refine wp_region_quiet_lit (by kernel_rfl) (by kernel_rfl) ?_
        repeat (any_goals (first | go_big_quiet_step (fail) | quiet_step (fail) | (refine wpQuiet_step (fun K hK => ?_); go_simp; split <;> (refine hK _ ?_; clear hK K))))
        all_goals (refine wpQuiet_nil ?_; intro _ hw'; obtain ⟨nq, hw''⟩ := hw'; subst hw'')
        obtain ⟨X, hX, hX1⟩ : ∃ X : Nat, v * 131 + u * 1117 + (k : Int) * 29 + (k : Int) / (n : Int) * 53 = X ∧ X ≤ 281474976710656 := ⟨(v * 131 + u * 1117 + (k : Int) * 29 + (k : Int) / (n : Int) * 53).toNat, by omega, by omega⟩
        rw [hX]
        clear hX
        go_wp2
        go_ret
        have hx : bits .xor .i64 (X : Int) ((X : Int) / 64) = ((X ^^^ (X / 64) : Nat) : Int) := by
          rw [show (X : Int) / 64 = ((X / 64 : Nat) : Int) by omega]
          exact xor_nat _ _ (by omega) (by omega)
        refine ⟨⟨(((X ^^^ (X / 64) : Nat) : Int) % m).toNat, int_of (by rw [hx, Int.tmod_eq_emod_of_nonneg (by omega)]; have := Int.emod_nonneg ((X ^^^ (X / 64) : Nat) : Int) (show m ≠ 0 by omega); omega), .inr ?_⟩, R1.only (S := fun _ => False) ((Only.refl _ _).drewN nq) id, o1.drewN nq⟩
        have := Int.emod_lt_of_pos ((X ^^^ (X / 64) : Nat) : Int) (show 0 < m by omega)
        have := Int.emod_nonneg ((X ^^^ (X / 64) : Nat) : Int) (show m ≠ 0 by omega)
        omega
abbrev natUnder (m : Int) (x : EV) : Prop := ∃ r : Nat, x = .one (iv r) ∧ (r = 0 ∨ (r : Int) < m)
theorem pick_dr (m : Int) (hm : m ≤ 1099511627776) : Dr0 Try.prog 85 [iv m] 1 (natUnder m) := by
  intro sl L p hrd hp
  refine ⟨by kernel_rfl, fun ρ w vs hR hF hV => ?_⟩
  obtain ⟨v, vs, rfl, h1, h2⟩ := hV.inv1
  obtain ⟨v2, vs, rfl, h3, h4⟩ := h2.inv1
  obtain rfl := h4.inv0
  cases h3.inv
  obtain ⟨hlt, hok⟩ := hR.ok _ List.mem_cons_self
  rcases hok with ⟨_, _, e, _⟩ | ⟨b, cur, e, q1, q2, q3, q4⟩
  · cases e
  have hρ : ρ 0 = .pointer (some ⟨b, 0, none⟩) := q3
  have hv : v = .pointer (some ⟨b, 0, none⟩) := by
    obtain ⟨cs, hc, hv⟩ := h1
    cases hc
    rw [hv]
    show pack _ [_] = _
    simp only [hρ]
    rfl
  subst hv
  obtain ⟨bs, hrow, hsm⟩ := hrd.row
  have hcur : cur[0]? = some sl ∧ cur[1]? = some (.int .i64 p) ∧ 2 ≤ cur.size := by
    simp only [Root.tree, rdv] at q2
    cases q2 with
    | st h5 =>
      generalize hl : List.take (LV.st [Sh.one, Sh.one] [LV.v sl, LV.v (Value.int IntKind.i64 ↑p)]).shape.size cur.toList = cs at h5
      cases h5 with
      | cons k1 k2 k3 =>
        cases k1
        cases k3 with
        | cons k4 k5 k6 =>
          cases k4
          cases k6
          have hl' : List.take 2 cur.toList = [sl, .int .i64 p] := hl
          have e0 := congrArg (·[0]?) hl'
          have e1 := congrArg (·[1]?) hl'
          have e2 := congrArg List.length hl'
          simp [List.getElem?_take] at e0 e1 e2
          exact ⟨e0, e1, by omega⟩
  have hM : Mine ρ [(0, .box (rdv sl p))] b := ⟨_, List.mem_cons_self, by rw [hρ]; rfl⟩
  refine (pickC_calls m w b sl bs L p ⟨cur, e, q1, hcur.1, hcur.2.1, hcur.2.2⟩ hrow (fun q hq => (hF q hq).2) (fun q hq e => (hF q hq).1 (e ▸ hM)) hsm (by omega) hm).mono fun e' w' ⟨⟨r, he, hr⟩, hc, ho⟩ => ?_
  subst he
  obtain ⟨cur', e2, g1, g2, g3, g4⟩ := hc.heap
  have hmine : ∀ b', Mine ρ [(0, .box (rdv sl (p + 1)))] b' ↔ b' = b := fun b' => by
    constructor
    · rintro ⟨y, hy, hb⟩
      rw [List.mem_singleton.1 hy] at hb
      simp only [hρ] at hb
      exact hb.symm
    · rintro rfl
      exact ⟨_, List.mem_cons_self, by rw [hρ]; rfl⟩
  have hmine0 : ∀ b', Mine ρ [(0, .box (rdv sl p))] b' ↔ b' = b := fun b' => by
    constructor
    · rintro ⟨y, hy, hb⟩
      rw [List.mem_singleton.1 hy] at hb
      simp only [hρ] at hb
      exact hb.symm
    · rintro rfl
      exact hM
  refine ⟨ρ, .one (iv r), [(0, .box (rdv sl (p + 1)))], ⟨p + 1, [], Nat.le_refl _, rfl, ⟨r, rfl, hr⟩, rfl⟩, ⟨⟨fun y hy => ?_, List.pairwise_singleton _ _, by simp⟩, fun _ _ => rfl, ho.mono fun k _ hk => (hmine0 k).2 hk, fun b' hb' => .inl ((hmine0 b').2 ((hmine b').1 hb'))⟩, ⟨_, .v rfl, rfl⟩⟩
  rw [List.mem_singleton.1 hy]
  refine ⟨by simp, .inr ⟨b, cur', e2, g1, ?_, hρ, trivial⟩⟩
  have hl : List.take 2 cur'.toList = [sl] ++ [Value.int .i64 ((p + 1 : Nat) : Int)] := by
    apply List.ext_getElem?
    intro j
    rcases j with _ | _ | j
    · simp [List.getElem?_take, g2]
    · simp [List.getElem?_take, g3]
    · rw [List.getElem?_eq_none (by rw [List.length_take]; omega), List.getElem?_eq_none (by simp)]
  simp only [Root.tree, rdv]
  show Con _ _ _ _ _ _ (List.take 2 cur'.toList)
  rw [hl]
  exact .st (.cons (.v hrd.one) rfl (.cons (cs := []) (.v rfl) rfl .nil))
end Go.Proofs.Ytoimeebildcofaa
