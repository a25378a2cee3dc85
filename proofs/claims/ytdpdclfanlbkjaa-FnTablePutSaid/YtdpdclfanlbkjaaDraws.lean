/- The walks of the reference's draws out of bytes: what is drawn is of its kind and within bounds; nothing else is said of it. -/
import Derived.Test.YtdpdclfanlbkjaaWRules
namespace Go.Proofs.Ytdpdclfanlbkjaa
open Go.RowKit
/-- The reader at block g: the bytes vs in the blocks L, the k-th draw. -/
structure Rd (w : World) (g : Nat) (s : Value) (vs : List Int) (L : Blocks) (k : Nat) : Prop where
  heap : w.heap[g]? = some (.cells #[s, .int .i64 k] 107 (0, 0))
  row : Row 1 s (vs.map byteCell) L
  holds : Holds w L
  apart : ∀ p, p ∈ L → p.1 ≠ g
  small : ∀ v, v ∈ vs → 0 ≤ v ∧ v ≤ 255
theorem Rd.lt {w : World} {g : Nat} {s : Value} {vs : List Int} {L : Blocks} {k : Nat} (h : Rd w g s vs L k) : g < w.heap.size := (Array.getElem?_eq_some_iff.1 h.heap).1
theorem Rd.only {S : Nat → Prop} {w w' : World} {g : Nat} {s : Value} {vs : List Int} {L : Blocks} {k : Nat} (h : Rd w g s vs L k) (o : Only S w w') (h0 : ¬ S g) (h1 : ∀ p, p ∈ L → ¬ S p.1) : Rd w' g s vs L k :=
  ⟨(o.block g h.lt h0).trans h.heap, h.row, h.holds.only o h1, h.apart, h.small⟩
theorem Rd.below {w w' : World} {g : Nat} {s : Value} {vs : List Int} {L : Blocks} {k : Nat} (h : Rd w g s vs L k) (hb : Below w.heap.size w w') : Rd w' g s vs L k :=
  ⟨(hb.block g h.lt).trans h.heap, h.row, h.holds.below hb, h.apart, h.small⟩
theorem Rd.step {w : World} {g : Nat} {s : Value} {vs : List Int} {L : Blocks} {k : Nat} (h : Rd w g s vs L k) :
    w.there g 1 1 ∧ ∃ w1, w.setCells g 1 [.int .i64 (k + 1 : Nat)] = w1 ∧ Rd w1 g s vs L (k + 1) ∧ Only (· = g) w w1 := by
  have hsz : (#[s, Value.int .i64 k] : Array Value).size = 2 := rfl
  refine ⟨fun j hj => ?_, _, rfl, ⟨?_, h.row, ?_, h.apart, h.small⟩, ?_⟩
  · have : j = 0 := by omega
    subst this
    exact ⟨by simp [World.cell?, h.heap], frozen_of_row w g _ _ _ h.heap⟩
  · have := heap_setCells [.int .i64 (k + 1 : Nat)] 1 _ w h.heap (by simp)
    simpa using this
  · exact h.holds.only (only_setCells (S := (· = g)) _ _ _ _ (Only.refl _ _) (.inl rfl)) (fun p hp => h.apart p hp)
  · exact only_setCells _ _ _ _ (Only.refl _ _) (.inl rfl)
theorem Rd.cells {w : World} {g : Nat} {s : Value} {vs : List Int} {L : Blocks} {k : Nat} (h : Rd w g s vs L k) : w.cell? ⟨g, 0, none⟩ = some s ∧ w.cell? ⟨g, 1, none⟩ = some (.int .i64 k) := by
  simp [World.cell?, h.heap]
theorem Rd.byte {w : World} {g n c : Nat} {A : Option Addr} {vs : List Int} {L : Blocks} {k : Nat} (h : Rd w g (.slice A n c) vs L k) {i : Nat} (hi : i < n) :
    ∃ b off v, A = some ⟨b, off, none⟩ ∧ w.cell? ⟨b, off + i, none⟩ = some (.int .u8 v) ∧ 0 ≤ v ∧ v ≤ 255 := by
  have hl := h.row.len'.1
  rw [List.length_map] at hl
  have hv : vs[i]? = some vs[i] := List.getElem?_eq_getElem (by omega)
  obtain ⟨b, off, hA, hr⟩ := h.row.at_ h.holds (k := i) (cs := byteCell vs[i]) (by rw [List.getElem?_map, hv]; rfl)
  have := hr 0 _ rfl
  rw [Nat.mul_one] at this
  exact ⟨b, off, vs[i], hA, this, h.small _ (List.getElem_mem _)⟩
theorem xor_nat (a b : Nat) (ha : a < 2 ^ 63) (hb : b < 2 ^ 63) : bits .xor .i64 (a : Int) (b : Int) = ((a ^^^ b : Nat) : Int) := by
  have ha' : a % 2 ^ IntKind.i64.bits = a := Nat.mod_eq_of_lt (Nat.lt_of_lt_of_le ha (Nat.pow_le_pow_right (by decide) (by decide)))
  have hb' : b % 2 ^ IntKind.i64.bits = b := Nat.mod_eq_of_lt (Nat.lt_of_lt_of_le hb (Nat.pow_le_pow_right (by decide) (by decide)))
  simp only [bits, BitVec.ofInt_natCast, BitVec.toNat_xor, BitVec.toNat_ofNat, ha', hb']
  have := Nat.xor_lt_two_pow ha hb
  rw [IntKind.wrap_i64]
  omega
set_option maxRecDepth 100000 in
theorem pick_calls (m : Int) (w : World) (g : Nat) (s : Value) (vs : List Int) (L : Blocks) (k : Nat) (h : Rd w g s vs L k) (hk : k ≤ 1099511627776) (hm : m ≤ 1099511627776) :
    Calls Try.prog 79 #[.pointer (some ⟨g, 0, none⟩), .int .i64 m] w fun e w' => (∃ r : Nat, e = .returned (.int .i64 r) ∧ (r = 0 ∨ (r : Int) < m)) ∧ Rd w' g s vs L (k + 1) ∧ Only (· = g) w w' := by
  obtain ⟨A, n, c, rfl⟩ := h.row.slice
  obtain ⟨hnl, hn⟩ := h.row.len'
  obtain ⟨c0, c1⟩ := h.cells
  obtain ⟨ht, w1, hw1, R1, o1⟩ := h.step
  obtain ⟨d0, d1⟩ := R1.cells
  have hk2 : ((k + 1 : Nat) : Int) = (k : Int) + 1 := by omega
  rw [hk2] at d1 hw1
  have HT := Lib.hid ht
  have HW := Lib.hid hw1
  clear ht hw1 hk2
  by_cases hm1 : m < 1
  · have hm2 : m ≤ 0 := by omega
    go_enter Try.func79, Try.ntmps79
    go_wp2_with ((with_reducible refine gate_store (p := 14) rfl ?_); refine wpList_put rfl 3 _ _ rfl g 1 [.int .i64 ((k : Int) + 1)] rfl rfl HT.out (by kernel_rfl) rfl ?_; rw [HW.out])
    go_ret
    exact ⟨⟨0, rfl, .inl rfl⟩, R1, o1⟩
  · have hm2 : 1 ≤ m := by omega
    by_cases hn0 : n = 0
    · subst hn0
      go_enter Try.func79, Try.ntmps79
      go_wp2_with ((with_reducible refine gate_store (p := 14) rfl ?_); refine wpList_put rfl 3 _ _ rfl g 1 [.int .i64 ((k : Int) + 1)] rfl rfl HT.out (by kernel_rfl) rfl ?_; rw [HW.out])
      go_ret
      exact ⟨⟨0, rfl, .inl rfl⟩, R1, o1⟩
    · by_cases hkn : k < n
      · obtain ⟨b, off, v, rfl, hv, hv0, hv1⟩ := R1.byte hkn
        go_enter Try.func79, Try.ntmps79
        go_wp2_with ((with_reducible refine gate_store (p := 14) rfl ?_); refine wpList_put rfl 3 _ _ rfl g 1 [.int .i64 ((k : Int) + 1)] rfl rfl HT.out (by kernel_rfl) rfl ?_; rw [HW.out])
        go_ret
        exact ⟨⟨(v % m).toNat, int_of (by have := Int.emod_nonneg v (show m ≠ 0 by omega); omega), .inr (by have := Int.emod_lt_of_pos v (show 0 < m by omega); have := Int.emod_nonneg v (show m ≠ 0 by omega); omega)⟩, R1, o1⟩
      · have hn1 : 1 ≤ (n : Int) := by omega
        have i0 : 0 ≤ (k : Int) % (n : Int) := Int.emod_nonneg _ (by omega)
        have i1 : (k : Int) % (n : Int) < n := Int.emod_lt_of_pos _ (by omega)
        have j0 : 0 ≤ ((k : Int) * 7 + 3) % (n : Int) := Int.emod_nonneg _ (by omega)
        have j1 : ((k : Int) * 7 + 3) % (n : Int) < n := Int.emod_lt_of_pos _ (by omega)
        have q0 : 0 ≤ (k : Int) / (n : Int) := Int.ediv_nonneg (by omega) (by omega)
        have q1 : (k : Int) / (n : Int) ≤ k := Int.ediv_le_self _ (by omega)
        obtain ⟨b, off, v, rfl, hv, hv0, hv1⟩ := R1.byte (i := k % n) (Nat.mod_lt _ (by omega))
        obtain ⟨b', off', u, hbb, hu, hu0, hu1⟩ := R1.byte (i := (k * 7 + 3) % n) (Nat.mod_lt _ (by omega))
        simp only [Option.some.injEq, Addr.mk.injEq, and_true] at hbb
        obtain ⟨rfl, rfl⟩ := hbb
        go_enter Try.func79, Try.ntmps79
        go_wp2_with ((with_reducible refine gate_store (p := 14) rfl ?_); refine wpList_put rfl 3 _ _ rfl g 1 [.int .i64 ((k : Int) + 1)] rfl rfl HT.out (by kernel_rfl) rfl ?_; rw [HW.out])
        refine wp_region_quiet_lit (by kernel_rfl) (by kernel_rfl) ?_
        repeat (any_goals (first | go_big_quiet_step (fail) | quiet_step (fail) | (refine wpQuiet_step (fun K hK => ?_); go_simp; split <;> (refine hK _ ?_; clear hK K))))
        all_goals (refine wpQuiet_nil ?_; intro _ hw'; obtain ⟨nq, hw''⟩ := hw'; subst hw'')
        obtain ⟨X, hX, hX1⟩ : ∃ X : Nat, v * 131 + u * 1117 + (k : Int) * 29 + (k : Int) / (n : Int) * 53 = X ∧ X ≤ 281474976710656 := ⟨(v * 131 + u * 1117 + (k : Int) * 29 + (k : Int) / (n : Int) * 53).toNat, by omega, by omega⟩
        rw [hX]
        clear hX
        go_wp2
        go_ret
        have hx : bits .xor .i64 (X : Int) ((X : Int) / 64) = ((X ^^^ (X / 64) : Nat) : Int) := by
          rw [show (X : Int) / 64 = ((X / 64 : Nat) : Int) by omega]
          exact xor_nat _ _ (by omega) (by omega)
        refine ⟨⟨(((X ^^^ (X / 64) : Nat) : Int) % m).toNat, int_of (by rw [hx, Int.tmod_eq_emod_of_nonneg (by omega)]; have := Int.emod_nonneg ((X ^^^ (X / 64) : Nat) : Int) (show m ≠ 0 by omega); omega), .inr ?_⟩, ⟨R1.heap, R1.row, R1.holds.drewN nq, R1.apart, R1.small⟩, o1.drewN nq⟩
        have := Int.emod_lt_of_pos ((X ^^^ (X / 64) : Nat) : Int) (show 0 < m by omega)
        have := Int.emod_nonneg ((X ^^^ (X / 64) : Nat) : Int) (show m ≠ 0 by omega)
        omega
set_option maxRecDepth 100000 in
theorem one_calls (u : Value) (zs : List Int) (M : Blocks) (w : World) (g : Nat) (s : Value) (vs : List Int) (L : Blocks) (k : Nat) (R : Rd w g s vs L k) (hk : k ≤ 1099511627776)
    (h : Row 1 u (zs.map intCell) M) (H : Holds w M) (hM : ∀ p, p ∈ M → p.1 ≠ g) (h0 : 0 < zs.length) (h1 : zs.length ≤ 1000) :
    Calls Try.prog 93 #[.pointer (some ⟨g, 0, none⟩), u] w fun e w' => (∃ z : Int, e = .returned (.int .i64 z) ∧ z ∈ zs) ∧ Rd w' g s vs L (k + 1) ∧ Only (· = g) w w' := by
  obtain ⟨A, n, c, rfl⟩ := h.slice
  obtain ⟨hnl, hn⟩ := h.len'
  rw [List.length_map] at hnl
  have HN := Lib.hid hnl
  have hn1 : n ≤ 1000 := by omega
  have hn2 : 0 < n := by omega
  clear hnl h0 h1
  go_enter Try.func93, Try.ntmps93
  go_wp2_with fail
  refine (pick_calls n w g s vs L k R hk (by omega)).mono ?_
  rintro e w' ⟨⟨r, rfl, hr⟩, R', o'⟩
  have hr1 : r < n := by omega
  obtain ⟨z, hz⟩ : ∃ z, zs[r]? = some z := ⟨_, List.getElem?_eq_getElem (by rw [HN.out]; exact hr1)⟩
  have HZ := Lib.hid hz
  clear hz hr
  obtain ⟨b, off, rfl, hq⟩ := h.at_ (H.only o' hM) (k := r) (cs := intCell z) (by simp [HZ.out])
  have q0 : w'.cell? ⟨b, off + r * 1, none⟩ = some (.int .i64 z) := hq 0 _ rfl
  rw [Nat.mul_one] at q0
  clear hq
  go_wp2
  go_ret
  exact ⟨⟨z, rfl, List.mem_of_getElem? HZ.out⟩, R', o'⟩
set_option maxRecDepth 100000 in
theorem of_calls (u : Value) (zs : List ByteArray) (M : Blocks) (w : World) (g : Nat) (s : Value) (vs : List Int) (L : Blocks) (k : Nat) (R : Rd w g s vs L k) (hk : k ≤ 1099511627776)
    (h : Row 1 u (zs.map strCell) M) (H : Holds w M) (hM : ∀ p, p ∈ M → p.1 ≠ g) (h0 : 0 < zs.length) (h1 : zs.length ≤ 1000) :
    Calls Try.prog 68 #[.pointer (some ⟨g, 0, none⟩), u] w fun e w' => (∃ z : ByteArray, e = .returned (.string z) ∧ z ∈ zs) ∧ Rd w' g s vs L (k + 1) ∧ Only (· = g) w w' := by
  obtain ⟨A, n, c, rfl⟩ := h.slice
  obtain ⟨hnl, hn⟩ := h.len'
  rw [List.length_map] at hnl
  have HN := Lib.hid hnl
  have hn1 : n ≤ 1000 := by omega
  have hn2 : 0 < n := by omega
  clear hnl h0 h1
  go_enter Try.func68, Try.ntmps68
  go_wp2_with fail
  refine (pick_calls n w g s vs L k R hk (by omega)).mono ?_
  rintro e w' ⟨⟨r, rfl, hr⟩, R', o'⟩
  have hr1 : r < n := by omega
  obtain ⟨z, hz⟩ : ∃ z, zs[r]? = some z := ⟨_, List.getElem?_eq_getElem (by rw [HN.out]; exact hr1)⟩
  have HZ := Lib.hid hz
  clear hz hr
  obtain ⟨b, off, rfl, hq⟩ := h.at_ (H.only o' hM) (k := r) (cs := strCell z) (by simp [HZ.out])
  have q0 : w'.cell? ⟨b, off + r * 1, none⟩ = some (.string z) := hq 0 _ rfl
  rw [Nat.mul_one] at q0
  clear hq
  go_wp2
  go_ret
  exact ⟨⟨z, rfl, List.mem_of_getElem? HZ.out⟩, R', o'⟩
theorem infoByte : (Try.prog.info? 5).map (fun i => (i.zero, i.size, i.bytes)) = some (some (.int .u8 0), 1, 1) := by kernel_rfl
set_option maxRecDepth 100000 in
theorem openRd_calls (v : Value) (vs : List Int) (L : Blocks) (w : World) (h : Row 1 v (vs.map byteCell) L) (H : Holds w L) (hs : ∀ v, v ∈ vs → 0 ≤ v ∧ v ≤ 255) :
    Calls Try.prog 67 #[v] w fun e w' => e = .returned (.pointer (some ⟨w.heap.size, 0, none⟩)) ∧ ∃ s us, Rd w' w.heap.size s us L 0 ∧ Below w.heap.size w w' := by
  obtain ⟨A, n, c, rfl⟩ := h.slice
  obtain ⟨hnl, hn⟩ := h.len'
  have hap : ∀ p, p ∈ L → p.1 ≠ w.heap.size := fun p hp => by have := H.lt hp; omega
  by_cases hbig : 2000 < n
  · have hcap : n ≤ c := by rcases h.len with ⟨_, h2, _⟩ | ⟨_, h3⟩ <;> omega
    have hT := h.take (m := 2000) (by omega) (by omega)
    rw [← List.map_take] at hT
    have HT := Lib.hid hT
    clear hT
    go_enter Try.func67, Try.ntmps67
    go_wp2
    go_ret
    exact ⟨rfl, _, vs.take 2000, ⟨heap_alloc_new w _, HT.out, H.alloc _, hap, fun v hv => hs v (List.mem_of_mem_take hv)⟩, (Below.refl _ _).alloc (Nat.le_refl _) _⟩
  · go_enter Try.func67, Try.ntmps67
    go_wp2
    go_ret
    exact ⟨rfl, _, vs, ⟨heap_alloc_new w _, h, H.alloc _, hap, hs⟩, (Below.refl _ _).alloc (Nat.le_refl _) _⟩
set_option maxRecDepth 100000 in
theorem l20Frame_calls (w : World) (g : Nat) (s : Value) (vs : List Int) (L : Blocks) (k : Nat) (R : Rd w g s vs L k) (hk : k ≤ 1099511627000) :
    Calls Try.prog 69 #[.pointer (some ⟨g, 0, none⟩)] w fun e w' => (∃ x : ByteArray, e = .returned (.string x) ∧ x.size ≤ 5) ∧ (∃ k', k' ≤ k + 6 ∧ Rd w' g s vs L k') ∧ Only (· = g) w w' := by
  obtain ⟨i0, hi0, hz0, hs0, hb0⟩ := info_of infoByte
  have HI := Lib.hid hi0
  clear hi0
  have Ra := R.below ((Below.refl _ _).alloc (Nat.le_refl _) (.cells #[] 5))
  go_enter Try.func69, Try.ntmps69
  go_wp2_with fail
  refine (pick_calls 5 _ g s vs L k Ra (by omega) (by omega)).mono ?_
  rintro e w1 ⟨⟨r, rfl, hr⟩, R1, o1⟩
  have hr1 : r ≤ 4 := by omega
  have o2 : Only (· = g) w w1 := (((Only.refl _ w).alloc _).trans o1)
  have o3 := o2.size
  have hg := R.lt
  go_wp2
  go_loopw [3, 4] (fun v i wr => ∃ (j k' : Nat) (zs : List Int) (M : Blocks), j ≤ 5 ∧ i = .int .i64 j ∧ Own w.heap.size 5 1 v (zs.map byteCell) M ∧ Holds wr M ∧ zs.length + j ≤ 5 ∧ k' + j ≤ k + 6 ∧ Rd wr g s vs L k' ∧ Only (· = g) w wr) (fun _ i _ => (intOf i).toNat)
  case atStart =>
    refine ⟨r + 1, k + 1, [], _, by omega, by go_num, ⟨by simp, .inr ⟨_, 0, #[], rfl, Nat.le_refl _, Nat.le_refl _, by omega, by simp, rfl, rfl⟩⟩, ?_, by simp; omega, by omega, R1, o2⟩
    exact (Holds.one (heap_alloc_new w _)).only o1 (fun p hp => by rw [List.mem_singleton.1 hp]; show w.heap.size ≠ g; omega)
  case round =>
    obtain ⟨j, k', zs, M, hj, rfl, ho, hH, hl, hkj, hR, hon⟩ := hrel
    have hsz := hon.size
    by_cases hj0 : j = 0
    · subst hj0
      obtain ⟨x, hx, hcv⟩ := ho.text (P := Try.prog) hH 36 9 5 Try.underlying36 Try.underlying5 Try.underlying9
      have HC := Lib.hid hcv
      clear hcv
      go_wp2_with ((with_reducible refine gate_dst (N := 21) rfl ?_); refine wpList_conv rfl 36 9 _ rfl _ _ rfl HC.out ?_)
      go_ret
      exact ⟨⟨x, rfl, by omega⟩, ⟨k', by omega, hR⟩, hon⟩
    · obtain ⟨hrow, hrowH⟩ := row_new wr #[.int .i64 0, .int .i64 1, .int .i64 2, .int .i64 3, .int .i64 7, .int .i64 9, .int .i64 200] 3 7 ([0, 1, 2, 3, 7, 9, 200].map intCell) rfl (by omega) (by simp [intCell]) rfl
      have hRa := hR.below ((Below.refl _ _).alloc (Nat.le_refl _) (.cells #[.int .i64 0, .int .i64 1, .int .i64 2, .int .i64 3, .int .i64 7, .int .i64 9, .int .i64 200] 3))
      have hg2 := hR.lt
      go_wp2_with fail
      refine (one_calls _ [0, 1, 2, 3, 7, 9, 200] _ _ g s vs L k' hRa (by omega) hrow hrowH (fun p hp => by rw [List.mem_singleton.1 hp]; show wr.heap.size ≠ g; omega) (by simp) (by simp)).mono ?_
      rintro e w2 ⟨⟨z, rfl, hz⟩, R2, o4⟩
      have hz0' : 0 ≤ z ∧ z ≤ 255 := by simp at hz; omega
      obtain ⟨hz1, hz2⟩ := hz0'
      have o5 : Only (· = g) wr w2 := ((Only.refl _ wr).alloc _).trans o4
      have hH2 : Holds w2 M := hH.only o5 (fun p hp => by have := ho.base p hp; omega)
      have hs2 := o5.size
      clear hz hrow hrowH hRa
      go_wp2_with (first | ((with_reducible refine gate_dst (N := 19) rfl ?_); refine wpList_append' rfl _ _ 36 rfl w.heap.size 5 i0 _ 1 1 Try.underlying36 HI.out hz0 hs0 hb0 rfl (by decide) _ (zs.map byteCell) M rfl ho (hH2.alloc _) ⟨w2.heap.size, 0, none⟩ 1 1 [[.int .u8 z]] rfl (by simp) rfl (cells_new _ _ _) (by simp [Value.oneCell']) (by simp; omega) (by decide) (by simp; omega) ?_; intro v2 w4 M2 ho2 hM2 hon2 hat))
      go_roundw
      case rel =>
        have o6 : Only (fun x => x = g ∨ w.heap.size ≤ x) w w4 := ((hon.mono (fun _ _ h => .inl h)).trans (o5.mono (fun _ _ h => .inl h))).trans (((Only.refl _ w2).alloc _).trans (hon2.mono (fun x _ ⟨p, hp, hpx⟩ => .inr (by rw [← hpx]; exact ho.base p hp))))
        have o7 : Only (· = g) w w4 := ⟨o6.os, o6.tape, o6.output, o6.size, fun x hx hn => o6.block x hx (fun h => by omega)⟩
        have R4 : Rd w4 g s vs L (k' + 1) := ((R2.below ((Below.refl _ _).alloc (Nat.le_refl _) _))).only hon2 (fun ⟨p, hp, hpx⟩ => by have := ho.base p hp; omega) (fun q hq ⟨p, hp, hpx⟩ => by have := ho.base p hp; have := R.holds.lt hq; omega)
        exact ⟨j - 1, k' + 1, zs ++ [z], M2, by omega, by go_num, by simpa [byteCell] using ho2, hM2, by simp; omega, by omega, R4, o7⟩
      case measure => simp [intOf]; omega
end Go.Proofs.Ytdpdclfanlbkjaa
