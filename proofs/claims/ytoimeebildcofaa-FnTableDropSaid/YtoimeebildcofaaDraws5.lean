/- The walk of the reference's draw of any table. -/
import Derived.Test.YtoimeebildcofaaDraws4
namespace Go.Proofs.Ytoimeebildcofaa
open Go.RowKit
/-- A store of one number into a table's cells. -/
theorem tputi {V : World} {r : Nat} {t0 : Table} {k0 s0 : Value} (h : V.heap[r]? = some (tcells t0 k0 s0)) (z : Int) :
    (V.there r 0 1 ∧ (V.setCells r 0 [.int .i64 z]).heap[r]? = some (tcells { t0 with kind := z } k0 s0) ∧ Only (· = r) V (V.setCells r 0 [.int .i64 z])) ∧
    (V.there r 1 1 ∧ (V.setCells r 1 [.int .i64 z]).heap[r]? = some (tcells { t0 with size := z } k0 s0) ∧ Only (· = r) V (V.setCells r 1 [.int .i64 z])) :=
  ⟨⟨fun j hj => ⟨by simp [World.cell?, h]; omega, frozen_of_row V _ _ _ _ h⟩, heap_setCells [.int .i64 z] 0 _ V h (by simp), only_setCells _ _ _ _ (Only.refl _ _) (.inl rfl)⟩,
   ⟨fun j hj => ⟨by simp [World.cell?, h]; omega, frozen_of_row V _ _ _ _ h⟩, heap_setCells [.int .i64 z] 1 _ V h (by simp), only_setCells _ _ _ _ (Only.refl _ _) (.inl rfl)⟩⟩
set_option maxRecDepth 100000 in
set_option maxHeartbeats 6400000 in
theorem l20AnyTable_calls (w : World) (g : Nat) (s : Value) (vs : List Int) (L : Blocks) (k : Nat) (R : Rd w g s vs L k) (hk : k ≤ 1099511626000) :
    Calls Try.prog 50 #[.pointer (some ⟨g, 0, none⟩)] w fun e w' => ∃ (u : Table) (kv sv : Value), e = .returned (.agg #[.int .i64 u.kind, .int .i64 u.size, .int .i64 u.most, kv, sv]) ∧ u.keys.length ≤ 9 ∧ u.slots.length ≤ 9 ∧ (∃ M1 M2, OwnT w.heap.size u kv sv M1 M2 w') ∧ (∃ k', k' ≤ k + 80 ∧ Rd w' g s vs L k') ∧ Only (· = g) w w' := by
  obtain ⟨i0, hi0, hz0, hs0, hb0⟩ := info_of infoInt
  have HI := Lib.hid hi0
  obtain ⟨j0, hj0, hy0, ht0, hc0⟩ := info_of infoStr
  have HJ := Lib.hid hj0
  clear hi0 hj0
  have hgw := R.lt
  have hLlt : ∀ p ∈ L, p.1 < w.heap.size := fun p hp => R.holds.lt hp
  have R := R.below (below_alloc' (Below.refl _ w) zcells)
  have Kr := holds_new (w := w) (o := zcells) rfl
  have hO : Only (· = g) w (w.alloc zcells) := (Only.refl _ w).alloc _
  go_enter Try.func50, Try.ntmps50
  go_wp2_with fail
  refine (l20Table_calls _ g s vs L k R (by omega)).mono ?_
  rintro e w1 ⟨u, k1, s1, rfl, hsm, ⟨M1, M2, T⟩, ⟨k', hk', R⟩, o⟩
  obtain ⟨A1, n1, c1, rfl⟩ := T.1.row.slice
  obtain ⟨A2, n2, c2, rfl⟩ := T.2.1.row.slice
  have Kr := Kr.only o (fun p hp (e : p.1 = g) => by rw [List.mem_singleton.1 hp] at e; simp only at e; omega)
  have hO := hO.trans o
  have T := T.lower (B' := w.heap.size + 1) (by simp)
  have hTlt := T.lt
  have hw1 := Kr.lt (List.mem_singleton.2 rfl)
  have hne : ∀ p ∈ M1 ++ M2, p.1 ≠ w1.heap.size := fun p hp => by have := hTlt p hp; omega
  clear o
  go_wp2_with ((with_reducible refine gate_store (p := 3) rfl ?_); go_loud (
         refine wpList_put rfl 27 _ _ rfl w1.heap.size 0 [.int .i64 u.kind, .int .i64 u.size, .int .i64 u.most, (.slice A1 n1 c1), (.slice A2 n2 c2)] rfl rfl (newbox' w1 u (.slice A1 n1 c1) (.slice A2 n2 c2)).1 (by kernel_rfl) rfl ?_
         obtain ⟨_, Kb, hb, sb⟩ := newbox' w1 u (.slice A1 n1 c1) (.slice A2 n2 c2)
         have T := T.below hb
         have Kr := Kr.below hb
         have R := R.below hb
         have hO := hO.then_below hb
         generalize (w1.alloc zcells).setCells w1.heap.size 0 [.int .i64 u.kind, .int .i64 u.size, .int .i64 u.most, (.slice A1 n1 c1), (.slice A2 n2 c2)] = w2 at *
         clear hb))
  refine (pick_calls 12 _ g s vs L _ R (by omega) (by omega)).mono ?_
  rintro e w3 ⟨⟨n, rfl, hn⟩, R, o⟩
  have hbw : w.heap.size < w1.heap.size := by omega
  have hs2 := o.size
  have T := T.only o (fun p hp (e : p.1 = g) => by have := T.base' p hp; omega)
  have Kr := Kr.only o (fun p hp (e : p.1 = g) => by rw [List.mem_singleton.1 hp] at e; simp only at e; omega)
  have hG := (Kb.only o (fun p hp (e : p.1 = g) => by rw [List.mem_singleton.1 hp] at e; simp only at e; omega)).get
  have hO := hO.trans o
  have hb3 : w1.heap.size < w3.heap.size := by omega
  have ne1 : ∀ p ∈ M1, p.1 ≠ w1.heap.size := fun p hp => hne p (List.mem_append_left _ hp)
  have ne2 : ∀ p ∈ M2, p.1 ≠ w1.heap.size := fun p hp => hne p (List.mem_append_right _ hp)
  have hn12 : n = 0 ∨ n = 1 ∨ n = 2 ∨ n = 3 ∨ (n ≠ 0 ∧ n ≠ 1 ∧ n ≠ 2 ∧ n ≠ 3) := by omega
  obtain ⟨hsk, hss, hsz0, hsz8⟩ := hsm
  clear o hn hTlt Kb hs2
  rcases hn12 with rfl | rfl | rfl | rfl | ⟨h0, h1, h2, h3⟩
  · go_wp2_with fail
    refine (oneLit_calls [0, 3] _ g s vs L _ R (by omega) (by simp) (by simp)).mono ?_
    rintro e w4 ⟨⟨z, rfl, hz⟩, R, o⟩
    have T := T.only o (fun p hp (e : p.1 = g) => by have := T.base' p hp; omega)
    have Kr := Kr.only o (fun p hp (e : p.1 = g) => by rw [List.mem_singleton.1 hp] at e; simp only at e; omega)
    have hG := ((Holds.one hG).only o (fun p hp (e : p.1 = g) => by rw [List.mem_singleton.1 hp] at e; simp only at e; omega)).get
    have hO := hO.trans o
    clear o hz
    obtain ⟨hth, hGz, hon⟩ := (tputi hG z).1
    have hO := only_setCells (S := (· = g)) (b := w1.heap.size) [.int .i64 z] 0 w w4 hO (.inr (by omega))
    have hV : ∃ V, V = w4.setCells w1.heap.size 0 [.int .i64 z] := ⟨_, rfl⟩
    obtain ⟨V, hV⟩ := hV
    rw [← hV] at hGz hon hO
    have T := T.beside hon ne1 ne2
    have T : OwnT (w.heap.size + 1) { u with kind := z } (.slice A1 n1 c1) (.slice A2 n2 c2) M1 M2 V := T
    have R := R.only hon (show ¬ g = w1.heap.size by omega) (fun p hp (e : p.1 = w1.heap.size) => by have := hLlt p hp; omega)
    have Kr := Kr.only hon (fun p hp (e : p.1 = w1.heap.size) => by rw [List.mem_singleton.1 hp] at e; simp only at e; omega)
    obtain ⟨d0, d1, d2, d3, d4⟩ := tbox_cells hGz
    generalize hv : ({ u with kind := z } : Table) = v at *
    have hvl : v.keys.length ≤ 9 ∧ v.slots.length ≤ 9 := by rw [← hv]; exact ⟨by simp only; omega, by simp only; omega⟩
    clear hv

    obtain ⟨hth2, hfin, hon2⟩ := tput (t0 := Table.zero) Kr.get v (.slice A1 n1 c1) (.slice A2 n2 c2)
    go_wp2_with (first
      | ((with_reducible refine gate_store (p := 13) rfl ?_); go_loud (refine wpList_put rfl 3 _ _ rfl w1.heap.size 0 [.int .i64 z] rfl rfl hth (by kernel_rfl) rfl ?_; rw [← hV]; clear hth hV hon hG))
      | ((with_reducible refine gate_store (p := 2) rfl ?_); go_loud (refine wpList_put rfl 27 _ _ rfl w.heap.size 0 [.int .i64 v.kind, .int .i64 v.size, .int .i64 v.most, (.slice A1 n1 c1), (.slice A2 n2 c2)] rfl rfl hth2 (by kernel_rfl) rfl ?_)))
    have hTf := (T.beside hon2 (fun p hp => by have := T.1.base p hp; omega) (fun p hp => by have := T.2.1.base p hp; omega)).lower (B' := w.heap.size) (by omega)
    have Rf := R.only hon2 (show ¬ g = w.heap.size by omega) (fun p hp (e : p.1 = w.heap.size) => by have := hLlt p hp; omega)
    have hOf := only_setCells (S := (· = g)) (b := w.heap.size) [.int .i64 v.kind, .int .i64 v.size, .int .i64 v.most, (.slice A1 n1 c1), (.slice A2 n2 c2)] 0 w V hO (.inr (Nat.le_refl _))
    obtain ⟨g0, g1, g2, g3, g4⟩ := tbox_cells hfin
    refine bodyPost_ret (v := .agg #[.int .i64 v.kind, .int .i64 v.size, .int .i64 v.most, (.slice A1 n1 c1), (.slice A2 n2 c2)]) (by simp [results, Try.results50, go_sem, g0, g1, g2, g3, g4]) rfl ⟨v, _, _, rfl, hvl.1, hvl.2, ⟨_, _, hTf⟩, ⟨k' + 1 + 1, by omega, Rf⟩, hOf⟩
  · go_wp2_with fail
    refine (oneLit_calls [0, 3, 9] _ g s vs L _ R (by omega) (by simp) (by simp)).mono ?_
    rintro e w4 ⟨⟨z, rfl, hz⟩, R, o⟩
    have T := T.only o (fun p hp (e : p.1 = g) => by have := T.base' p hp; omega)
    have Kr := Kr.only o (fun p hp (e : p.1 = g) => by rw [List.mem_singleton.1 hp] at e; simp only at e; omega)
    have hG := ((Holds.one hG).only o (fun p hp (e : p.1 = g) => by rw [List.mem_singleton.1 hp] at e; simp only at e; omega)).get
    have hO := hO.trans o
    clear o hz
    obtain ⟨hth, hGz, hon⟩ := (tputi hG z).2
    have hO := only_setCells (S := (· = g)) (b := w1.heap.size) [.int .i64 z] 1 w w4 hO (.inr (by omega))
    have hV : ∃ V, V = w4.setCells w1.heap.size 1 [.int .i64 z] := ⟨_, rfl⟩
    obtain ⟨V, hV⟩ := hV
    rw [← hV] at hGz hon hO
    have T := T.beside hon ne1 ne2
    have T : OwnT (w.heap.size + 1) { u with size := z } (.slice A1 n1 c1) (.slice A2 n2 c2) M1 M2 V := T
    have R := R.only hon (show ¬ g = w1.heap.size by omega) (fun p hp (e : p.1 = w1.heap.size) => by have := hLlt p hp; omega)
    have Kr := Kr.only hon (fun p hp (e : p.1 = w1.heap.size) => by rw [List.mem_singleton.1 hp] at e; simp only at e; omega)
    obtain ⟨d0, d1, d2, d3, d4⟩ := tbox_cells hGz
    generalize hv : ({ u with size := z } : Table) = v at *
    have hvl : v.keys.length ≤ 9 ∧ v.slots.length ≤ 9 := by rw [← hv]; exact ⟨by simp only; omega, by simp only; omega⟩
    clear hv

    obtain ⟨hth2, hfin, hon2⟩ := tput (t0 := Table.zero) Kr.get v (.slice A1 n1 c1) (.slice A2 n2 c2)
    go_wp2_with (first
      | ((with_reducible refine gate_store (p := 19) rfl ?_); go_loud (refine wpList_put rfl 3 _ _ rfl w1.heap.size 1 [.int .i64 z] rfl rfl hth (by kernel_rfl) rfl ?_; rw [← hV]; clear hth hV hon hG))
      | ((with_reducible refine gate_store (p := 2) rfl ?_); go_loud (refine wpList_put rfl 27 _ _ rfl w.heap.size 0 [.int .i64 v.kind, .int .i64 v.size, .int .i64 v.most, (.slice A1 n1 c1), (.slice A2 n2 c2)] rfl rfl hth2 (by kernel_rfl) rfl ?_)))
    have hTf := (T.beside hon2 (fun p hp => by have := T.1.base p hp; omega) (fun p hp => by have := T.2.1.base p hp; omega)).lower (B' := w.heap.size) (by omega)
    have Rf := R.only hon2 (show ¬ g = w.heap.size by omega) (fun p hp (e : p.1 = w.heap.size) => by have := hLlt p hp; omega)
    have hOf := only_setCells (S := (· = g)) (b := w.heap.size) [.int .i64 v.kind, .int .i64 v.size, .int .i64 v.most, (.slice A1 n1 c1), (.slice A2 n2 c2)] 0 w V hO (.inr (Nat.le_refl _))
    obtain ⟨g0, g1, g2, g3, g4⟩ := tbox_cells hfin
    refine bodyPost_ret (v := .agg #[.int .i64 v.kind, .int .i64 v.size, .int .i64 v.most, (.slice A1 n1 c1), (.slice A2 n2 c2)]) (by simp [results, Try.results50, go_sem, g0, g1, g2, g3, g4]) rfl ⟨v, _, _, rfl, hvl.1, hvl.2, ⟨_, _, hTf⟩, ⟨k' + 1 + 1, by omega, Rf⟩, hOf⟩
  · obtain ⟨d0, d1, d2, d3, d4⟩ := tbox_cells hG
    have hgl := hG
    have hw3k : u.keys.length ≤ 8 := hsk
    go_wp2_with (first
      | ((with_reducible refine gate_dst (N := 25) rfl ?_); go_loud (
         ((with_reducible refine gate_dst (N := 25) rfl ?_); refine wpList_append' rfl _ _ 22 rfl (w.heap.size + 1) 3 i0 _ 1 8 Try.underlying22 HI.out hz0 hs0 hb0 rfl (by decide) _ (u.keys.map intCell) M1 rfl (T.1) (T.2.2.1.alloc _) ⟨w3.heap.size, 0, none⟩ 1 1 [[.int .i64 5]] rfl (by simp) rfl (cells_new _ _ _) (by simp [Value.oneCell']) (by simp; omega) (by decide) (by simp; omega) ?_; intro k4 w4 N1 hk4 hK4 hon4 hat4)
         obtain ⟨A5, n5, c5, rfl⟩ := hk4.row.slice
         have N1b : ∀ p ∈ N1, p.1 ≠ w1.heap.size := grown_off hat4 ne1 (by simp; omega)
         have hM1g : ∀ q ∈ M1, w.heap.size + 1 ≤ q.1 := fun q hq => T.1.base q hq
         have T3 : OwnT (w.heap.size + 1) { u with keys := u.keys ++ [5] } (.slice A5 n5 c5) (.slice A2 n2 c2) N1 M2 w4 := ⟨by simpa [intCell] using hk4, T.2.1, hK4, holds_apart (T.2.2.2.1.alloc _) T.2.2.2.2 hon4, apart_grow (T.2.2.2.1.alloc _) T.2.2.2.2 hat4⟩
         have hG4 := ((Holds.one hG).alloc (.cells #[.int .i64 5] 3)).only hon4 (fun p hp ⟨q, hq, e⟩ => ne1 q hq (by rw [e, List.mem_singleton.1 hp]))
         have Kr := (Kr.alloc (.cells #[.int .i64 5] 3)).only hon4 (fun p hp ⟨q, hq, e⟩ => by rw [List.mem_singleton.1 hp] at e; simp only at e; have := hM1g q hq; omega)
         have R := (R.below (below_alloc' (Below.refl _ w3) (.cells #[.int .i64 5] 3))).only hon4 (fun ⟨q, hq, e⟩ => by have := hM1g q hq; omega) (fun p hp ⟨q, hq, e⟩ => by have := hM1g q hq; have := hLlt p hp; omega)
         have hO : Only (fun x => x = g ∨ w.heap.size ≤ x) w w4 := ((hO.alloc (.cells #[.int .i64 5] 3)).mono (fun _ _ h => .inl h)).trans (hon4.mono (fun x _ ⟨q, hq, e⟩ => .inr (by have := hM1g q hq; omega)))
         have hO : Only (· = g) w w4 := hO.mono (fun x hx h => by rcases h with h | h; exact h; omega)
         have hb4 := hG4.lt (List.mem_singleton.2 rfl)
         obtain ⟨hth, hGV, hon⟩ := tput3 hG4.get (.slice A5 n5 c5)
         clear d0 d1 d2 d3 d4 T))
      | ((with_reducible refine gate_store (p := 26) rfl ?_); go_loud (
         refine wpList_put rfl 22 _ _ rfl w1.heap.size 3 [.slice A5 n5 c5] rfl rfl hth (by kernel_rfl) rfl ?_
         have T := T3.beside hon N1b ne2
         have R := R.only hon (show ¬ g = w1.heap.size by omega) (fun p hp (e : p.1 = w1.heap.size) => by have := hLlt p hp; omega)
         have Kr := Kr.only hon (fun p hp (e : p.1 = w1.heap.size) => by rw [List.mem_singleton.1 hp] at e; simp only at e; omega)
         have hO := only_setCells (S := (· = g)) (b := w1.heap.size) [.slice A5 n5 c5] 3 w w4 hO (.inr (by omega))
         generalize w4.setCells w1.heap.size 3 [.slice A5 n5 c5] = V at *
         clear hth hon T3 hG4
         obtain ⟨d0, d1, d2, d3, d4⟩ := tbox_cells (t := { u with keys := u.keys ++ [5] }) hGV
         obtain ⟨hth2, hfin, hon2⟩ := tput (t0 := Table.zero) Kr.get { u with keys := u.keys ++ [5] } (.slice A5 n5 c5) (.slice A2 n2 c2)))
      | ((with_reducible refine gate_store (p := 2) rfl ?_); go_loud (refine wpList_put rfl 27 _ _ rfl w.heap.size 0 [.int .i64 u.kind, .int .i64 u.size, .int .i64 u.most, (.slice A5 n5 c5), (.slice A2 n2 c2)] rfl rfl hth2 (by kernel_rfl) rfl ?_)))
    have hvl : ({ u with keys := u.keys ++ [5] } : Table).keys.length ≤ 9 ∧ ({ u with keys := u.keys ++ [5] } : Table).slots.length ≤ 9 := ⟨by simp; omega, by simp only; omega⟩
    have hTf := (T.beside hon2 (fun p hp => by have := T.1.base p hp; omega) (fun p hp => by have := T.2.1.base p hp; omega)).lower (B' := w.heap.size) (by omega)
    have Rf := R.only hon2 (show ¬ g = w.heap.size by omega) (fun p hp (e : p.1 = w.heap.size) => by have := hLlt p hp; omega)
    have hOf := only_setCells (S := (· = g)) (b := w.heap.size) [.int .i64 u.kind, .int .i64 u.size, .int .i64 u.most, (.slice A5 n5 c5), (.slice A2 n2 c2)] 0 w V hO (.inr (Nat.le_refl _))
    obtain ⟨g0, g1, g2, g3, g4⟩ := tbox_cells hfin
    refine bodyPost_ret (v := .agg #[.int .i64 u.kind, .int .i64 u.size, .int .i64 u.most, (.slice A5 n5 c5), (.slice A2 n2 c2)]) (by simp [results, Try.results50, go_sem, g0, g1, g2, g3, g4]) rfl ⟨{ u with keys := u.keys ++ [5] }, _, _, rfl, hvl.1, hvl.2, ⟨_, _, hTf⟩, ⟨k' + 1, by omega, Rf⟩, hOf⟩
  · obtain ⟨d0, d1, d2, d3, d4⟩ := tbox_cells hG
    go_wp2_with (first
      | ((with_reducible refine gate_dst (N := 32) rfl ?_); go_loud (
         ((with_reducible refine gate_dst (N := 32) rfl ?_); refine wpList_append' rfl _ _ 22 rfl (w.heap.size + 1) 3 i0 _ 1 8 Try.underlying22 HI.out hz0 hs0 hb0 rfl (by decide) _ (u.keys.map intCell) M1 rfl (T.1) (T.2.2.1.alloc _) ⟨w3.heap.size, 0, none⟩ 1 1 [[.int .i64 0]] rfl (by simp) rfl (cells_new _ _ _) (by simp [Value.oneCell']) (by simp; omega) (by decide) (by simp; omega) ?_; intro k4 w4 N1 hk4 hK4 hon4 hat4)
         obtain ⟨A5, n5, c5, rfl⟩ := hk4.row.slice
         have N1b : ∀ p ∈ N1, p.1 ≠ w1.heap.size := grown_off hat4 ne1 (by simp; omega)
         have hM1g : ∀ q ∈ M1, w.heap.size + 1 ≤ q.1 := fun q hq => T.1.base q hq
         have T3 : OwnT (w.heap.size + 1) { u with keys := u.keys ++ [0] } (.slice A5 n5 c5) (.slice A2 n2 c2) N1 M2 w4 := ⟨by simpa [intCell] using hk4, T.2.1, hK4, holds_apart (T.2.2.2.1.alloc _) T.2.2.2.2 hon4, apart_grow (T.2.2.2.1.alloc _) T.2.2.2.2 hat4⟩
         have hG4 := ((Holds.one hG).alloc (.cells #[.int .i64 0] 3)).only hon4 (fun p hp ⟨q, hq, e⟩ => ne1 q hq (by rw [e, List.mem_singleton.1 hp]))
         have Kr := (Kr.alloc (.cells #[.int .i64 0] 3)).only hon4 (fun p hp ⟨q, hq, e⟩ => by rw [List.mem_singleton.1 hp] at e; simp only at e; have := hM1g q hq; omega)
         have R := (R.below (below_alloc' (Below.refl _ w3) (.cells #[.int .i64 0] 3))).only hon4 (fun ⟨q, hq, e⟩ => by have := hM1g q hq; omega) (fun p hp ⟨q, hq, e⟩ => by have := hM1g q hq; have := hLlt p hp; omega)
         have hO : Only (fun x => x = g ∨ w.heap.size ≤ x) w w4 := ((hO.alloc (.cells #[.int .i64 0] 3)).mono (fun _ _ h => .inl h)).trans (hon4.mono (fun x _ ⟨q, hq, e⟩ => .inr (by have := hM1g q hq; omega)))
         have hO : Only (· = g) w w4 := hO.mono (fun x hx h => by rcases h with h | h; exact h; omega)
         have hb4 := hG4.lt (List.mem_singleton.2 rfl)
         obtain ⟨hth, hGV, hon⟩ := tput3 hG4.get (.slice A5 n5 c5)
         clear d0 d1 d2 d3 d4 T))
      | ((with_reducible refine gate_store (p := 33) rfl ?_); go_loud (
         refine wpList_put rfl 22 _ _ rfl w1.heap.size 3 [.slice A5 n5 c5] rfl rfl hth (by kernel_rfl) rfl ?_
         have T := T3.beside hon N1b ne2
         have R := R.only hon (show ¬ g = w1.heap.size by omega) (fun p hp (e : p.1 = w1.heap.size) => by have := hLlt p hp; omega)
         have Kr := Kr.only hon (fun p hp (e : p.1 = w1.heap.size) => by rw [List.mem_singleton.1 hp] at e; simp only at e; omega)
         have hO := only_setCells (S := (· = g)) (b := w1.heap.size) [.slice A5 n5 c5] 3 w w4 hO (.inr (by omega))
         generalize w4.setCells w1.heap.size 3 [.slice A5 n5 c5] = V at *
         clear hth hon T3 hG4
         obtain ⟨v, hv⟩ : ∃ v : Table, v = { u with keys := u.keys ++ [0] } := ⟨_, rfl⟩
         have T : OwnT (w.heap.size + 1) v (.slice A5 n5 c5) (.slice A2 n2 c2) N1 M2 V := by rw [hv]; exact T
         have hGV : V.heap[w1.heap.size]? = some (tcells v (.slice A5 n5 c5) (.slice A2 n2 c2)) := by rw [hv]; exact hGV
         have hbV := (Holds.one hGV).lt (List.mem_singleton.2 rfl)))
      | fail)
    have hvz : v.size = u.size ∧ v.kind = u.kind ∧ v.most = u.most ∧ v.keys.length ≤ 9 ∧ v.slots = u.slots := by rw [hv]; exact ⟨rfl, rfl, rfl, by simp; omega, rfl⟩
    obtain ⟨hvs, hvk, hvm, hvkl, hvsl⟩ := hvz
    have hvs0 : 0 ≤ v.size ∧ v.size ≤ 8 := by omega
    have hslen : v.slots.length ≤ 8 := by rw [hvsl]; exact hss
    have hB := Below.refl V.heap.size V
    clear hv hvs hvk hvm hvsl
    refine wp_region_plan [8] (.one 0 .pure (.one 2 .pure (.one 1 .load (.one 3 .load (.one 4 .act (.one 5 .act (.one 6 .act (.one 7 .pure (.one 8 .last .done))))))))) (fun w' => ∃ q : Kept (fun w' => w'.heap[w1.heap.size]? = some (tcells v (.slice A5 n5 c5) (.slice A2 n2 c2))), w' = q.w) (by kernel_rfl) (by kernel_rfl) (fun _ _ d _ _ h => by cases d <;> exact h) ?_
    simp only [Plan.pick, List.getElem?_cons_zero, List.getElem?_cons_succ]
    have hB : Below _ _ V.drew := below_drewN' hB 1
    have q1 : ∀ q : Kept (fun w' => w'.heap[w1.heap.size]? = some (tcells v (.slice A5 n5 c5) (.slice A2 n2 c2))), q.w.cell? ⟨w1.heap.size, 1, none⟩ = some (.int .i64 v.size) := fun q => (tbox_cells q.kept).2.1
    have q4 : ∀ q : Kept (fun w' => w'.heap[w1.heap.size]? = some (tcells v (.slice A5 n5 c5) (.slice A2 n2 c2))), q.w.cell? ⟨w1.heap.size, 4, none⟩ = some (.slice A2 n2 c2) := fun q => (tbox_cells q.kept).2.2.2.2
    have hS : V.drew.heap[w1.heap.size]? = some (tcells v (.slice A5 n5 c5) (.slice A2 n2 c2)) := hGV
    have T : OwnT (w.heap.size + 1) v (.slice A5 n5 c5) (.slice A2 n2 c2) N1 M2 V.drew := T
    have Kr : Holds V.drew [(w.heap.size, zcells)] := Kr
    have R := R.below (below_drewN' (Below.refl _ V) 1)
    have hO : Only (· = g) w V.drew := hO.drew
    have hKn : Nonempty (Kept (fun w' => w'.heap[w1.heap.size]? = some (tcells v (.slice A5 n5 c5) (.slice A2 n2 c2)))) := ⟨⟨_, hS⟩⟩
    refine plan_pure (fun K hK => ?_); go_simp; refine hK _ _ ?_; clear hK K
    refine plan_pure (fun K hK => ?_); go_simp; refine hK _ _ ?_; clear hK K
    refine plan_load (fun K hK => ?_); go_simp; refine ⟨⟨⟨_, hS⟩, rfl⟩, hK _ _ ?_⟩; clear hK K
    refine plan_load (fun K hK => ?_); go_simp; refine ⟨⟨⟨_, hS⟩, rfl⟩, hK _ _ ?_⟩; clear hK K
    refine plan_act ?_
    clear q1 q4
    go_wp2_with fail
    refine (l3Zero_calls v.size.toNat v.size (by omega) (by omega) _).mono ?_
    rintro e w5 ⟨rfl, hb⟩
    have T := T.below hb
    have Kr := Kr.below hb
    have R := R.below hb
    have hO := hO.then_below hb
    have hS := ((Holds.one hS).below hb).get
    clear hb
    go_wp2
    refine ⟨⟨⟨_, hS⟩, rfl⟩, ?_⟩
    refine plan_act ?_
    go_wp2
    obtain ⟨Rw, Kw⟩ := row_new w5 #[.string (nought v.size.toNat)] 9 1 [[.string (nought v.size.toNat)]] rfl (by omega) (by simp) rfl
    have hb := below_alloc' (Below.refl _ w5) (.cells #[.string (nought v.size.toNat)] 9)
    have T := T.below hb
    have Kr := Kr.below hb
    have R := R.below hb
    have hO := hO.then_below hb
    have hS := ((Holds.one hS).below hb).get
    clear hb
    generalize w5.alloc (.cells #[.string (nought v.size.toNat)] 9) = w6 at *
    refine ⟨⟨⟨_, hS⟩, rfl⟩, ?_⟩
    refine plan_act ?_
    go_wp2_with (
      (with_reducible refine gate_dst (N := 40) rfl ?_)
      refine wpList_append_row rfl _ _ 23 rfl (w.heap.size + 1) 9 j0 _ 1 16 Try.underlying23 HJ.out hy0 ht0 hc0 rfl (by decide) _ (v.slots.map strCell) M2 rfl T.2.1 T.2.2.2.1 _ [[.string (nought v.size.toNat)]] _ rfl Rw Kw (by simp [Value.oneCell']) (by simp; omega) (by decide) (by have := Kr.lt (List.mem_singleton.2 rfl); omega) ?_
      intro k7 w7 N2 hk7 hK7 hon7 hat7
      obtain ⟨A6, n6, c6, rfl⟩ := hk7.row.slice
      have N2b : ∀ p ∈ N2, p.1 ≠ w1.heap.size := grown_off hat7 ne2 ((Holds.one hS).lt (List.mem_singleton.2 rfl))
      have hM2g : ∀ q ∈ M2, w.heap.size + 1 ≤ q.1 := fun q hq => T.2.1.base q hq
      have T : OwnT (w.heap.size + 1) { v with slots := v.slots ++ [nought v.size.toNat] } (.slice A5 n5 c5) (.slice A6 n6 c6) N1 N2 w7 := ⟨T.1, by simpa [strCell] using hk7, holds_apart T.2.2.1 T.2.2.2.2.symm hon7, hK7, (apart_grow T.2.2.1 T.2.2.2.2.symm hat7).symm⟩
      have Kr := Kr.only hon7 (fun p hp ⟨q, hq, e⟩ => by rw [List.mem_singleton.1 hp] at e; simp only at e; have := hM2g q hq; omega)
      have R := R.only hon7 (fun ⟨q, hq, e⟩ => by have := hM2g q hq; omega) (fun p hp ⟨q, hq, e⟩ => by have := hM2g q hq; have := hLlt p hp; omega)
      have hO : Only (fun x => x = g ∨ w.heap.size ≤ x) w w7 := (hO.mono (fun _ _ h => .inl h)).trans (hon7.mono (fun x _ ⟨q, hq, e⟩ => .inr (by have := hM2g q hq; omega)))
      have hO : Only (· = g) w w7 := hO.mono (fun x hx h => by rcases h with h | h; exact h; omega)
      have hS := ((Holds.one hS).only hon7 (fun p hp ⟨q, hq, e⟩ => ne2 q hq (by rw [e, List.mem_singleton.1 hp]))).get)
    refine ⟨⟨⟨_, hS⟩, rfl⟩, ?_⟩
    refine plan_pure (fun K hK => ?_); go_simp; refine hK _ _ ?_; clear hK K
    refine plan_last_ ?_
    obtain ⟨hth, hG8, hon⟩ := tput4 hS (.slice A6 n6 c6)
    have hO := only_setCells (S := (· = g)) (b := w1.heap.size) [.slice A6 n6 c6] 4 w w7 hO (.inr (by omega))
    go_wp2_with (
      (with_reducible refine gate_store (p := 41) rfl ?_)
      refine wpList_put rfl 23 _ _ rfl w1.heap.size 4 [.slice A6 n6 c6] rfl rfl hth (by kernel_rfl) rfl ?_)
    generalize w7.setCells w1.heap.size 4 [.slice A6 n6 c6] = w8 at *
    have T := T.beside hon N1b N2b
    have R := R.only hon (show ¬ g = w1.heap.size by omega) (fun p hp (e : p.1 = w1.heap.size) => by have := hLlt p hp; omega)
    have Kr := Kr.only hon (fun p hp (e : p.1 = w1.heap.size) => by rw [List.mem_singleton.1 hp] at e; simp only at e; omega)
    refine plan_done ?_
    obtain ⟨d0, d1, d2, d3, d4⟩ := tbox_cells hG8
    obtain ⟨hth2, hfin, hon2⟩ := tput (t0 := Table.zero) Kr.get { v with slots := v.slots ++ [nought v.size.toNat] } (.slice A5 n5 c5) (.slice A6 n6 c6)
    go_wp2_with ((with_reducible refine gate_store (p := 2) rfl ?_); go_loud (refine wpList_put rfl 27 _ _ rfl w.heap.size 0 [.int .i64 v.kind, .int .i64 v.size, .int .i64 v.most, (.slice A5 n5 c5), (.slice A6 n6 c6)] rfl rfl hth2 (by kernel_rfl) rfl ?_))
    have hvl : ({ v with slots := v.slots ++ [nought v.size.toNat] } : Table).keys.length ≤ 9 ∧ ({ v with slots := v.slots ++ [nought v.size.toNat] } : Table).slots.length ≤ 9 := ⟨by simp only; omega, by simp; omega⟩
    have hTf := (T.beside hon2 (fun p hp => by have := T.1.base p hp; omega) (fun p hp => by have := T.2.1.base p hp; omega)).lower (B' := w.heap.size) (by omega)
    have Rf := R.only hon2 (show ¬ g = w.heap.size by omega) (fun p hp (e : p.1 = w.heap.size) => by have := hLlt p hp; omega)
    have hOf := only_setCells (S := (· = g)) (b := w.heap.size) [.int .i64 v.kind, .int .i64 v.size, .int .i64 v.most, (.slice A5 n5 c5), (.slice A6 n6 c6)] 0 w w8 hO (.inr (Nat.le_refl _))
    obtain ⟨g0, g1, g2, g3, g4⟩ := tbox_cells hfin
    refine bodyPost_ret (v := .agg #[.int .i64 v.kind, .int .i64 v.size, .int .i64 v.most, (.slice A5 n5 c5), (.slice A6 n6 c6)]) (by simp [results, Try.results50, go_sem, g0, g1, g2, g3, g4]) rfl ⟨{ v with slots := v.slots ++ [nought v.size.toNat] }, _, _, rfl, hvl.1, hvl.2, ⟨_, _, hTf⟩, ⟨k' + 1, by omega, Rf⟩, hOf⟩
  · have e0 : ((n : Int) == 0) = false := by simp; omega
    have e1 : ((n : Int) == 1) = false := by simp; omega
    have e2 : ((n : Int) == 2) = false := by simp; omega
    have e3 : ((n : Int) == 3) = false := by simp; omega
    have hvl : u.keys.length ≤ 9 ∧ u.slots.length ≤ 9 := by omega
    obtain ⟨d0, d1, d2, d3, d4⟩ := tbox_cells hG
    clear h0 h1 h2 h3
    obtain ⟨hth2, hfin, hon2⟩ := tput (t0 := Table.zero) Kr.get u (.slice A1 n1 c1) (.slice A2 n2 c2)
    go_wp2_with ((with_reducible refine gate_store (p := 2) rfl ?_); go_loud (refine wpList_put rfl 27 _ _ rfl w.heap.size 0 [.int .i64 u.kind, .int .i64 u.size, .int .i64 u.most, (.slice A1 n1 c1), (.slice A2 n2 c2)] rfl rfl hth2 (by kernel_rfl) rfl ?_))
    have hTf := (T.beside hon2 (fun p hp => by have := T.1.base p hp; omega) (fun p hp => by have := T.2.1.base p hp; omega)).lower (B' := w.heap.size) (by omega)
    have Rf := R.only hon2 (show ¬ g = w.heap.size by omega) (fun p hp (e : p.1 = w.heap.size) => by have := hLlt p hp; omega)
    have hOf := only_setCells (S := (· = g)) (b := w.heap.size) [.int .i64 u.kind, .int .i64 u.size, .int .i64 u.most, (.slice A1 n1 c1), (.slice A2 n2 c2)] 0 w w3 hO (.inr (Nat.le_refl _))
    obtain ⟨g0, g1, g2, g3, g4⟩ := tbox_cells hfin
    refine bodyPost_ret (v := .agg #[.int .i64 u.kind, .int .i64 u.size, .int .i64 u.most, (.slice A1 n1 c1), (.slice A2 n2 c2)]) (by simp [results, Try.results50, go_sem, g0, g1, g2, g3, g4]) rfl ⟨u, _, _, rfl, hvl.1, hvl.2, ⟨_, _, hTf⟩, ⟨k' + 1, by omega, Rf⟩, hOf⟩
end Go.Proofs.Ytoimeebildcofaa
