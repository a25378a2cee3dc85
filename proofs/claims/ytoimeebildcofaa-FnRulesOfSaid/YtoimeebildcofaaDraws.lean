/- The walks of the reference's draws out of bytes: what is drawn is of its kind and within bounds; nothing else is said of it. -/
import Derived.Test.YtoimeebildcofaaWRules
namespace Go.Proofs.Ytoimeebildcofaa
open Go.RowKit
/-- The reader at block g: the bytes vs in the blocks L, the k-th draw. -/
structure Rd (w : World) (g : Nat) (s : Value) (vs : List Int) (L : Blocks) (k : Nat) : Prop where
  heap : ∃ cur e, w.heap[g]? = some (.cells cur e (0, 0)) ∧ cur[0]? = some s ∧ cur[1]? = some (.int .i64 k) ∧ 2 ≤ cur.size
  row : Row 1 s (vs.map byteCell) L
  holds : Holds w L
  apart : ∀ p, p ∈ L → p.1 ≠ g
  small : ∀ v, v ∈ vs → 0 ≤ v ∧ v ≤ 255
theorem Rd.lt {w : World} {g : Nat} {s : Value} {vs : List Int} {L : Blocks} {k : Nat} (h : Rd w g s vs L k) : g < w.heap.size := by
  obtain ⟨_, _, h1, _⟩ := h.heap
  exact (Array.getElem?_eq_some_iff.1 h1).1
theorem Rd.only {S : Nat → Prop} {w w' : World} {g : Nat} {s : Value} {vs : List Int} {L : Blocks} {k : Nat} (h : Rd w g s vs L k) (o : Only S w w') (h0 : ¬ S g) (h1 : ∀ p, p ∈ L → ¬ S p.1) : Rd w' g s vs L k :=
  ⟨(by rw [o.block g h.lt h0]; exact h.heap), h.row, h.holds.only o h1, h.apart, h.small⟩
theorem Rd.below {w w' : World} {g : Nat} {s : Value} {vs : List Int} {L : Blocks} {k : Nat} (h : Rd w g s vs L k) (hb : Below w.heap.size w w') : Rd w' g s vs L k :=
  ⟨(by rw [hb.block g h.lt]; exact h.heap), h.row, h.holds.below hb, h.apart, h.small⟩
theorem Rd.step {w : World} {g : Nat} {s : Value} {vs : List Int} {L : Blocks} {k : Nat} (h : Rd w g s vs L k) :
    w.there g 1 1 ∧ ∃ w1, w.setCells g 1 [.int .i64 (k + 1 : Nat)] = w1 ∧ Rd w1 g s vs L (k + 1) ∧ Only (· = g) w w1 := by
  obtain ⟨cur, e, h1, h2, h3, h4⟩ := h.heap
  refine ⟨fun j hj => ?_, _, rfl, ⟨?_, h.row, ?_, h.apart, h.small⟩, ?_⟩
  · have : j = 0 := by omega
    subst this
    exact ⟨by simp [World.cell?, h1, h3], frozen_of_row w g _ _ _ h1⟩
  · have h5 := heap_setCells [.int .i64 (k + 1 : Nat)] 1 cur w h1 (by simp; omega)
    refine ⟨_, _, h5, ?_, ?_, ?_⟩
    · rw [List.getElem?_toArray, List.append_assoc, List.getElem?_append_left (by simp; omega)]
      simp only [List.getElem?_take, Nat.zero_lt_one, if_true, Array.getElem?_toList, h2]
    · rw [List.getElem?_toArray, List.append_assoc, List.getElem?_append_right (by simp; omega)]
      have : (cur.toList.take 1).length = 1 := by simp; omega
      simp [this]
    · simp
      omega
  · exact h.holds.only (only_setCells (S := (· = g)) _ _ _ _ (Only.refl _ _) (.inl rfl)) (fun p hp => h.apart p hp)
  · exact only_setCells _ _ _ _ (Only.refl _ _) (.inl rfl)
theorem Rd.cells {w : World} {g : Nat} {s : Value} {vs : List Int} {L : Blocks} {k : Nat} (h : Rd w g s vs L k) : w.cell? ⟨g, 0, none⟩ = some s ∧ w.cell? ⟨g, 1, none⟩ = some (.int .i64 k) := by
  obtain ⟨cur, e, h1, h2, h3, _⟩ := h.heap
  simp [World.cell?, h1, h2, h3]
theorem Rd.byte {w : World} {g n c : Nat} {A : Option Addr} {vs : List Int} {L : Blocks} {k : Nat} (h : Rd w g (.slice A n c) vs L k) {i : Nat} (hi : i < n) :
    ∃ b off v, A = some ⟨b, off, none⟩ ∧ w.cell? ⟨b, off + i, none⟩ = some (.int .u8 v) ∧ 0 ≤ v ∧ v ≤ 255 := by
  have hl := h.row.len'.1
  rw [List.length_map] at hl
  have hv : vs[i]? = some vs[i] := List.getElem?_eq_getElem (by omega)
  obtain ⟨b, off, hA, hr⟩ := h.row.at_ h.holds (k := i) (cs := byteCell vs[i]) (by rw [List.getElem?_map, hv]; rfl)
  have := hr 0 _ rfl
  rw [Nat.mul_one] at this
  exact ⟨b, off, vs[i], hA, this, h.small _ (List.getElem_mem _)⟩
theorem xor_nat (a b : Nat) (ha : a < 2 ^ 63) (hb : b < 2 ^ 63) : bits .xor .i64 (a : Int) (b : Int) = ((a ^^^ b : Nat) : Int) := by
  have ha' : a % 2 ^ IntKind.i64.bits = a := Nat.mod_eq_of_lt (Nat.lt_of_lt_of_le ha (Nat.pow_le_pow_right (by decide) (by decide)))
  have hb' : b % 2 ^ IntKind.i64.bits = b := Nat.mod_eq_of_lt (Nat.lt_of_lt_of_le hb (Nat.pow_le_pow_right (by decide) (by decide)))
  simp only [bits, BitVec.ofInt_natCast, BitVec.toNat_xor, BitVec.toNat_ofNat, ha', hb']
  have := Nat.xor_lt_two_pow ha hb
  rw [IntKind.wrap_i64]
  omega
set_option maxRecDepth 100000 in
theorem pick_calls (m : Int) (w : World) (g : Nat) (s : Value) (vs : List Int) (L : Blocks) (k : Nat) (h : Rd w g s vs L k) (hk : k ≤ 1099511627776) (hm : m ≤ 1099511627776) :
    Calls Try.prog 85 #[.pointer (some ⟨g, 0, none⟩), .int .i64 m] w fun e w' => (∃ r : Nat, e = .returned (.int .i64 r) ∧ (r = 0 ∨ (r : Int) < m)) ∧ Rd w' g s vs L (k + 1) ∧ Only (· = g) w w' := by
  obtain ⟨A, n, c, rfl⟩ := h.row.slice
  obtain ⟨hnl, hn⟩ := h.row.len'
  obtain ⟨c0, c1⟩ := h.cells
  obtain ⟨ht, w1, hw1, R1, o1⟩ := h.step
  obtain ⟨d0, d1⟩ := R1.cells
  have hk2 : ((k + 1 : Nat) : Int) = (k : Int) + 1 := by omega
  rw [hk2] at d1 hw1
  have HT := Lib.hid ht
  have HW := Lib.hid hw1
  clear ht hw1 hk2
  by_cases hm1 : m < 1
  · have hm2 : m ≤ 0 := by omega
    go_enter Try.func85, Try.ntmps85
    go_wp2_with ((with_reducible refine gate_store (p := 14) rfl ?_); refine wpList_put rfl 3 _ _ rfl g 1 [.int .i64 ((k : Int) + 1)] rfl rfl HT.out (by kernel_rfl) rfl ?_; rw [HW.out])
    go_ret
    exact ⟨⟨0, rfl, .inl rfl⟩, R1, o1⟩
  · have hm2 : 1 ≤ m := by omega
    by_cases hn0 : n = 0
    · subst hn0
      go_enter Try.func85, Try.ntmps85
      go_wp2_with ((with_reducible refine gate_store (p := 14) rfl ?_); refine wpList_put rfl 3 _ _ rfl g 1 [.int .i64 ((k : Int) + 1)] rfl rfl HT.out (by kernel_rfl) rfl ?_; rw [HW.out])
      go_ret
      exact ⟨⟨0, rfl, .inl rfl⟩, R1, o1⟩
    · by_cases hkn : k < n
      · obtain ⟨b, off, v, rfl, hv, hv0, hv1⟩ := R1.byte hkn
        go_enter Try.func85, Try.ntmps85
        go_wp2_with ((with_reducible refine gate_store (p := 14) rfl ?_); refine wpList_put rfl 3 _ _ rfl g 1 [.int .i64 ((k : Int) + 1)] rfl rfl HT.out (by kernel_rfl) rfl ?_; rw [HW.out])
        go_ret
        exact ⟨⟨(v % m).toNat, int_of (by have := Int.emod_nonneg v (show m ≠ 0 by omega); omega), .inr (by have := Int.emod_lt_of_pos v (show 0 < m by omega); have := Int.emod_nonneg v (show m ≠ 0 by omega); omega)⟩, R1, o1⟩
      · have hn1 : 1 ≤ (n : Int) := by omega
        have i0 : 0 ≤ (k : Int) % (n : Int) := Int.emod_nonneg _ (by omega)
        have i1 : (k : Int) % (n : Int) < n := Int.emod_lt_of_pos _ (by omega)
        have j0 : 0 ≤ ((k : Int) * 7 + 3) % (n : Int) := Int.emod_nonneg _ (by omega)
        have j1 : ((k : Int) * 7 + 3) % (n : Int) < n := Int.emod_lt_of_pos _ (by omega)
        have q0 : 0 ≤ (k : Int) / (n : Int) := Int.ediv_nonneg (by omega) (by omega)
        have q1 : (k : Int) / (n : Int) ≤ k := Int.ediv_le_self _ (by omega)
        obtain ⟨b, off, v, rfl, hv, hv0, hv1⟩ := R1.byte (i := k % n) (Nat.mod_lt _ (by omega))
        obtain ⟨b', off', u, hbb, hu, hu0, hu1⟩ := R1.byte (i := (k * 7 + 3) % n) (Nat.mod_lt _ (by omega))
        simp only [Option.some.injEq, Addr.mk.injEq, and_true] at hbb
        obtain ⟨rfl, rfl⟩ := hbb
        go_enter Try.func85, Try.ntmps85
        go_wp2_with ((with_reducible refine gate_store (p := 14) rfl ?_); refine wpList_put rfl 3 _ _ rfl g 1 [.int .i64 ((k : Int) + 1)] rfl rfl HT.out (by kernel_rfl) rfl ?_; rw [HW.out])
        refine wp_region_quiet_lit (by kernel_rfl) (by kernel_rfl) ?_
        repeat (any_goals (first | go_big_quiet_step (fail) | quiet_step (fail) | (refine wpQuiet_step (fun K hK => ?_); go_simp; split <;> (refine hK _ ?_; clear hK K))))
        all_goals (refine wpQuiet_nil ?_; intro _ hw'; obtain ⟨nq, hw''⟩ := hw'; subst hw'')
        obtain ⟨X, hX, hX1⟩ : ∃ X : Nat, v * 131 + u * 1117 + (k : Int) * 29 + (k : Int) / (n : Int) * 53 = X ∧ X ≤ 281474976710656 := ⟨(v * 131 + u * 1117 + (k : Int) * 29 + (k : Int) / (n : Int) * 53).toNat, by omega, by omega⟩
        rw [hX]
        clear hX
        go_wp2
        go_ret
        have hx : bits .xor .i64 (X : Int) ((X : Int) / 64) = ((X ^^^ (X / 64) : Nat) : Int) := by
          rw [show (X : Int) / 64 = ((X / 64 : Nat) : Int) by omega]
          exact xor_nat _ _ (by omega) (by omega)
        refine ⟨⟨(((X ^^^ (X / 64) : Nat) : Int) % m).toNat, int_of (by rw [hx, Int.tmod_eq_emod_of_nonneg (by omega)]; have := Int.emod_nonneg ((X ^^^ (X / 64) : Nat) : Int) (show m ≠ 0 by omega); omega), .inr ?_⟩, ⟨(R1.only (S := fun _ => False) ((Only.refl _ _).drewN nq) id (fun _ _ => id)).heap, R1.row, R1.holds.drewN nq, R1.apart, R1.small⟩, o1.drewN nq⟩
        have := Int.emod_lt_of_pos ((X ^^^ (X / 64) : Nat) : Int) (show 0 < m by omega)
        have := Int.emod_nonneg ((X ^^^ (X / 64) : Nat) : Int) (show m ≠ 0 by omega)
        omega
set_option maxRecDepth 100000 in
theorem one_calls (u : Value) (zs : List Int) (M : Blocks) (w : World) (g : Nat) (s : Value) (vs : List Int) (L : Blocks) (k : Nat) (R : Rd w g s vs L k) (hk : k ≤ 1099511627776)
    (h : Row 1 u (zs.map intCell) M) (H : Holds w M) (hM : ∀ p, p ∈ M → p.1 ≠ g) (h0 : 0 < zs.length) (h1 : zs.length ≤ 1000) :
    Calls Try.prog 86 #[.pointer (some ⟨g, 0, none⟩), u] w fun e w' => (∃ z : Int, e = .returned (.int .i64 z) ∧ z ∈ zs) ∧ Rd w' g s vs L (k + 1) ∧ Only (· = g) w w' := by
  obtain ⟨A, n, c, rfl⟩ := h.slice
  obtain ⟨hnl, hn⟩ := h.len'
  rw [List.length_map] at hnl
  have HN := Lib.hid hnl
  have hn1 : n ≤ 1000 := by omega
  have hn2 : 0 < n := by omega
  clear hnl h0 h1
  go_enter Try.func86, Try.ntmps86
  go_wp2_with fail
  refine (pick_calls n w g s vs L k R hk (by omega)).mono ?_
  rintro e w' ⟨⟨r, rfl, hr⟩, R', o'⟩
  have hr1 : r < n := by omega
  obtain ⟨z, hz⟩ : ∃ z, zs[r]? = some z := ⟨_, List.getElem?_eq_getElem (by rw [HN.out]; exact hr1)⟩
  have HZ := Lib.hid hz
  clear hz hr
  obtain ⟨b, off, rfl, hq⟩ := h.at_ (H.only o' hM) (k := r) (cs := intCell z) (by simp [HZ.out])
  have q0 : w'.cell? ⟨b, off + r * 1, none⟩ = some (.int .i64 z) := hq 0 _ rfl
  rw [Nat.mul_one] at q0
  clear hq
  go_wp2
  go_ret
  exact ⟨⟨z, rfl, List.mem_of_getElem? HZ.out⟩, R', o'⟩
theorem infoByte : (Try.prog.info? 5).map (fun i => (i.zero, i.size, i.bytes)) = some (some (.int .u8 0), 1, 1) := by kernel_rfl
set_option maxRecDepth 100000 in
theorem openRd_calls (v : Value) (vs : List Int) (L : Blocks) (w : World) (h : Row 1 v (vs.map byteCell) L) (H : Holds w L) (hs : ∀ v, v ∈ vs → 0 ≤ v ∧ v ≤ 255) :
    Calls Try.prog 49 #[v] w fun e w' => e = .returned (.pointer (some ⟨w.heap.size, 0, none⟩)) ∧ ∃ s us, Rd w' w.heap.size s us L 0 ∧ Below w.heap.size w w' := by
  obtain ⟨A, n, c, rfl⟩ := h.slice
  obtain ⟨hnl, hn⟩ := h.len'
  have hap : ∀ p, p ∈ L → p.1 ≠ w.heap.size := fun p hp => by have := H.lt hp; omega
  by_cases hbig : 2000 < n
  · have hcap : n ≤ c := by rcases h.len with ⟨_, h2, _⟩ | ⟨_, h3⟩ <;> omega
    have hT := h.take (m := 2000) (by omega) (by omega)
    rw [← List.map_take] at hT
    have HT := Lib.hid hT
    clear hT
    go_enter Try.func49, Try.ntmps49
    go_wp2
    go_ret
    exact ⟨rfl, _, vs.take 2000, ⟨⟨_, _, heap_alloc_new w _, rfl, rfl, Nat.le_refl 2⟩, HT.out, H.alloc _, hap, fun v hv => hs v (List.mem_of_mem_take hv)⟩, (Below.refl _ _).alloc (Nat.le_refl _) _⟩
  · go_enter Try.func49, Try.ntmps49
    go_wp2
    go_ret
    exact ⟨rfl, _, vs, ⟨⟨_, _, heap_alloc_new w _, rfl, rfl, Nat.le_refl 2⟩, h, H.alloc _, hap, hs⟩, (Below.refl _ _).alloc (Nat.le_refl _) _⟩
end Go.Proofs.Ytoimeebildcofaa
