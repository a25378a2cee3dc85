/- The walk of the program's TableNew. -/
import Derived.Test.YtdpdclfanlbkjaaWTab9
namespace Go.Proofs.Ytdpdclfanlbkjaa
open Go.RowKit
theorem NewT.below {B g r : Nat} {t : Table} {w w' : World} (h : NewT B g r t w) (hb : Below w.heap.size w w') : NewT B g r t w' := by
  obtain ⟨kv, sv, M1, M2, T, G, ne, hr, nr⟩ := h
  exact ⟨kv, sv, M1, M2, T.below hb, ((Holds.one G).below hb).get, ne, hr.below hb, nr⟩
set_option maxRecDepth 100000 in
set_option maxHeartbeats 3200000 in
theorem tableNew_calls (k s m : Int) (w : World) :
    Calls Try.prog 46 #[.int .i64 k, .int .i64 s, .int .i64 m] w fun e w' => ∃ kv sv, e = .returned (.agg #[.int .i64 (Table.new k s m).kind, .int .i64 (Table.new k s m).size, .int .i64 (Table.new k s m).most, kv, sv]) ∧ (∃ M1 M2, OwnT w.heap.size (Table.new k s m) kv sv M1 M2 w') ∧ Below w.heap.size w w' := by
  have hstart : NewT w.heap.size (w.heap.size + 1) w.heap.size (Table.upto k s m 0) ((w.alloc zcells).alloc (tcells ⟨k, s, m, [], []⟩ (.slice none 0 0) (.slice none 0 0))) :=
    ⟨_, _, [], [], zero_own' _ _ _ _ _, (holds_new (by simp)).get, by simp, (holds_new rfl).alloc _, by simp⟩
  have hB : Below w.heap.size w ((w.alloc zcells).alloc (tcells ⟨k, s, m, [], []⟩ (.slice none 0 0) (.slice none 0 0))) := below_alloc' (below_alloc' (Below.refl _ _) _) _
  have hShp := shaped_calls ⟨k, s, m, [], []⟩ (.slice none 0 0) (.slice none 0 0) ((w.alloc zcells).alloc (tcells ⟨k, s, m, [], []⟩ (.slice none 0 0) (.slice none 0 0)))
  cases hsh : (⟨k, s, m, [], []⟩ : Table).shape with
  | false =>
    have hz : Table.new k s m = Table.zero := by simp only [Table.new, hsh, Bool.false_eq_true, if_false]
    rw [hz]
    rw [hsh] at hShp
    clear hz hsh
    obtain ⟨_, _, _, _, _, _, _, hrs, _⟩ := hstart
    go_enter Try.func46, Try.ntmps46
    go_wp2_with (first
      | (go_at_call 90; go_loud (
         refine hShp.mono ?_
         rintro e w1 ⟨rfl, hb⟩
         have hrs := hrs.below hb
         have hB := bnext hB hb
         obtain ⟨hth, hfin, hon⟩ := tput0 hrs.get))
      | ((with_reducible refine gate_store (p := 6) rfl ?_); go_loud (refine wpList_put rfl 50 _ _ rfl w.heap.size 0 [.int .i64 0, .int .i64 0, .int .i64 0, .slice none 0 0, .slice none 0 0] rfl rfl hth (by kernel_rfl) rfl ?_)))
    obtain ⟨g0, g1, g2, g3, g4⟩ := tbox_cells (t := Table.zero) hfin
    simp only [Table.zero] at g0 g1 g2 g3 g4
    exact bodyPost_ret (v := .agg #[.int .i64 0, .int .i64 0, .int .i64 0, .slice none 0 0, .slice none 0 0]) (by simp [results, Try.results46, go_sem, g0, g1, g2, g3, g4]) rfl ⟨_, _, rfl, ⟨[], [], zero_own _ _⟩, hB.trans (below_only hon (fun k hk => by omega) hB.size)⟩
  | true =>
    obtain ⟨e1, e2, e3⟩ := Table.new_shape hsh
    rw [e1, e2, e3]
    rw [hsh] at hShp
    obtain ⟨i0, hi0, hz0, hs0, hb0⟩ := info_of infoInt
    have HI := Lib.hid hi0
    obtain ⟨j0, hj0, hy0, ht0, hc0⟩ := info_of infoStr
    have HJ := Lib.hid hj0
    clear hi0 hj0
    have hb := hsh
    simp only [Table.shape, inB, Bool.and_eq_true, decide_eq_true_eq] at hb
    obtain ⟨⟨⟨hk1, hk2⟩, hs1, hs2⟩, hm1, hm2⟩ := hb
    by_cases hk : k = 1
    · have HN := Lib.hid (Table.upto_new hsh hk)
      have hkb : (k == 1) = true := by simp [hk]
      clear hsh hk e1 e2 e3
      go_enter Try.func46, Try.ntmps46
      go_wp2_with (go_at_call 90; go_loud (
         refine hShp.mono ?_
         rintro e w1 ⟨rfl, hb⟩
         have hstart := hstart.below hb
         have hB := bnext hB hb
         clear hb hShp))
      go_loopw [8, 20] (fun _ i wr => ∃ j : Nat, (j : Int) ≤ m ∧ i = .int .i64 j ∧ NewT w.heap.size (w.heap.size + 1) w.heap.size (Table.upto k s m j) wr ∧ Below w.heap.size w wr) (fun _ i _ => (m - (intOf i)).toNat)
      case atStart => exact ⟨0, by omega, rfl, hstart, hB⟩
      case round =>
        obtain ⟨j, hj, rfl, ⟨kv, sv, M1, M2, T, G, ne, hres⟩, hB⟩ := hrel
        obtain ⟨A1, n1, c1, rfl⟩ := T.1.row.slice
        obtain ⟨A2, n2, c2, rfl⟩ := T.2.1.row.slice
        obtain ⟨d0, d1, d2, d3, d4⟩ := tbox_cells G
        have hwB := hB.size
        by_cases hlt : (j : Int) < m
        · have hk8 : (rowKeys j).length ≤ 8 := by simp [rowKeys]; omega
          have hs8 : (List.replicate j (nought s.toNat)).length ≤ 8 := by simp; omega
          have ne1 : ∀ p ∈ M1, p.1 ≠ w.heap.size + 1 := fun p hp => ne p (List.mem_append_left _ hp)
          have ne2 : ∀ p ∈ M2, p.1 ≠ w.heap.size + 1 := fun p hp => ne p (List.mem_append_right _ hp)
          have Gh := Holds.one G
          have hgl := Gh.lt (List.mem_singleton.2 rfl)
          have hresb : ∀ p ∈ M1 ++ M2, p.1 ≠ w.heap.size := hres.2
          have rs1 : ∀ p ∈ M1, p.1 ≠ w.heap.size := fun p hp => hresb p (List.mem_append_left _ hp)
          have rs2 : ∀ p ∈ M2, p.1 ≠ w.heap.size := fun p hp => hresb p (List.mem_append_right _ hp)
          have hrs := hres.1
          clear hres G hresb
          go_wp2_with (first
            | ((with_reducible refine gate_dst (N := 27) rfl ?_)
               go_loud (
               ((with_reducible refine gate_dst (N := 27) rfl ?_); refine wpList_append' rfl _ _ 48 rfl w.heap.size 3 i0 _ 1 8 Try.underlying48 HI.out hz0 hs0 hb0 rfl (by decide) _ ((rowKeys j).map intCell) M1 rfl (T.1) (T.2.2.1.alloc _) ⟨wr.heap.size, 0, none⟩ 1 1 [[.int .i64 j]] rfl (by simp) rfl (cells_new _ _ _) (by simp [Value.oneCell']) (by simp; omega) (by decide) (by simp; omega) ?_; intro k3 w3 N1 hk3 hK3 hon3 hat3)
               obtain ⟨A5, n5, c5, rfl⟩ := hk3.row.slice
               have N1g : ∀ p ∈ N1, p.1 ≠ w.heap.size + 1 := grown_off hat3 ne1 (by simp; omega)
               have N1r : ∀ p ∈ N1, p.1 ≠ w.heap.size := grown_off hat3 rs1 (by simp; omega)
               have T3 : OwnT w.heap.size ⟨k, s, m, rowKeys (j + 1), List.replicate j (nought s.toNat)⟩ (.slice A5 n5 c5) (.slice A2 n2 c2) N1 M2 w3 := ⟨by rw [rowKeys_succ]; exact hk3, T.2.1, hK3, holds_apart (T.2.2.2.1.alloc _) T.2.2.2.2 hon3, apart_grow (T.2.2.2.1.alloc _) T.2.2.2.2 hat3⟩
               have Gh := (Gh.alloc (.cells #[.int .i64 j] 3)).only hon3 (fun p hp ⟨q, hq, e⟩ => ne1 q hq (by rw [e, List.mem_singleton.1 hp]))
               have hrs := (hrs.alloc (.cells #[.int .i64 j] 3)).only hon3 (fun p hp ⟨q, hq, e⟩ => rs1 q hq (by rw [e, List.mem_singleton.1 hp]))
               have hB := (below_alloc' hB (.cells #[.int .i64 j] 3)).trans (below_only hon3 (fun k ⟨p, hp, e⟩ => by have := T.1.base p hp; omega) (by simp; omega))
               obtain ⟨hth, hbx, hon⟩ := tput3 (t0 := Table.upto k s m j) Gh.get (.slice A5 n5 c5)
               have hgs := Gh.lt (List.mem_singleton.2 rfl)
               clear d0 d1 d2 d3 d4))
            | ((with_reducible refine gate_store (p := 28) rfl ?_); go_loud (
               refine wpList_put rfl 48 _ _ rfl (w.heap.size + 1) 3 [.slice A5 n5 c5] rfl rfl hth (by kernel_rfl) rfl ?_
               have T := T3.beside hon N1g ne2
               have hrs := hrs.only hon (fun p hp e => by rw [List.mem_singleton.1 hp] at e; simp only at e; omega)
               have hB := hB.trans (below_only hon (fun k hk => by omega) hB.size)
               generalize w3.setCells (w.heap.size + 1) 3 [.slice A5 n5 c5] = V at *
               have G := Holds.one hbx
               have hgv := G.lt (List.mem_singleton.2 rfl)
               have hVb := hB.size
               clear hth hon hbx hgs T3 hgl hwB)))
          have c4 : ∀ {w' : World}, Holds w' [(w.heap.size + 1, tcells (Table.upto k s m j) (.slice A5 n5 c5) (.slice A2 n2 c2))] → w'.cell? ⟨w.heap.size + 1, 4, none⟩ = some (.slice A2 n2 c2) := fun h => (tbox_cells h.get).2.2.2.2
          refine wp_region_plan [7] (.one 0 .pure (.one 2 .pure (.one 1 .load (.one 3 .act (.one 4 .act (.one 5 .act (.one 6 .pure (.one 7 .last .done)))))))) (fun w' => ∃ q : Kept (fun w' => w'.cell? ⟨w.heap.size + 1, 4, none⟩ = some (.slice A2 n2 c2)), w' = q.w) (by kernel_rfl) (by kernel_rfl) (fun _ _ d _ _ h => by cases d <;> exact h) ?_
          simp only [Plan.pick, List.getElem?_cons_zero, List.getElem?_cons_succ]
          have hB : Below _ _ V.drew := below_drewN' hB 1
          have hS : V.drew.cell? ⟨w.heap.size + 1, 4, none⟩ = some (.slice A2 n2 c2) := c4 (w' := V.drew) G
          have r4 : ∀ q : Kept (fun w' => w'.cell? ⟨w.heap.size + 1, 4, none⟩ = some (.slice A2 n2 c2)), q.w.cell? ⟨w.heap.size + 1, 4, none⟩ = some (.slice A2 n2 c2) := fun q => q.kept
          have T : OwnT w.heap.size ⟨k, s, m, rowKeys (j + 1), List.replicate j (nought s.toNat)⟩ (.slice A5 n5 c5) (.slice A2 n2 c2) N1 M2 V.drew := T
          have G : Holds V.drew [(w.heap.size + 1, tcells (Table.upto k s m j) (.slice A5 n5 c5) (.slice A2 n2 c2))] := G
          have hrs : Holds V.drew [(w.heap.size, zcells)] := hrs
          have hgw : w.heap.size + 1 < V.drew.heap.size := hgv
          have hKn : Nonempty (Kept (fun w' => w'.cell? ⟨w.heap.size + 1, 4, none⟩ = some (.slice A2 n2 c2))) := ⟨⟨_, hS⟩⟩
          refine plan_pure (fun K hK => ?_); go_simp; refine hK _ _ ?_; clear hK K
          refine plan_pure (fun K hK => ?_); go_simp; refine hK _ _ ?_; clear hK K
          refine plan_load (fun K hK => ?_); go_simp; refine ⟨⟨⟨_, hS⟩, rfl⟩, hK _ _ ?_⟩; clear hK K
          refine plan_act ?_
          clear r4
          go_wp2_with fail
          refine (noughts_calls s.toNat s (by omega) (by omega) _).mono ?_
          rintro e w5 ⟨rfl, hb⟩
          have T := T.below hb
          have G := G.below hb
          have hrs := hrs.below hb
          have hB := bnext hB hb
          have hS := c4 G
          have hgw := G.lt (List.mem_singleton.2 rfl)
          clear hb
          go_wp2
          refine ⟨⟨⟨_, hS⟩, rfl⟩, ?_⟩
          refine plan_act ?_
          go_wp2
          obtain ⟨R14, K14⟩ := row_new w5 #[.string (nought s.toNat)] 9 1 [[.string (nought s.toNat)]] rfl (by omega) (by simp) rfl
          have hb := below_alloc' (Below.refl _ w5) (.cells #[.string (nought s.toNat)] 9)
          have T := T.below hb
          have G := G.below hb
          have hrs := hrs.below hb
          have hB := bnext hB hb
          have hS := c4 G
          have hgw : w.heap.size + 1 < (w5.alloc (.cells #[.string (nought s.toNat)] 9)).heap.size := G.lt (List.mem_singleton.2 rfl)
          clear hb
          generalize w5.alloc (.cells #[.string (nought s.toNat)] 9) = w6 at *
          refine ⟨⟨⟨_, hS⟩, rfl⟩, ?_⟩
          refine plan_act ?_
          go_wp2_with (
            (with_reducible refine gate_dst (N := 34) rfl ?_)
            refine wpList_append_row rfl _ _ 31 rfl w.heap.size 9 j0 _ 1 16 Try.underlying31 HJ.out hy0 ht0 hc0 rfl (by decide) _ ((List.replicate j (nought s.toNat)).map strCell) M2 rfl T.2.1 T.2.2.2.1 _ [[.string (nought s.toNat)]] _ rfl R14 K14 (by simp [Value.oneCell']) (by simp only [List.length_map]; simp; omega) (by decide) (by omega) ?_
            intro k5 w7 N2 hk5 hK5 hon5 hat5
            obtain ⟨A6, n6, c6, rfl⟩ := hk5.row.slice
            have N2g : ∀ p ∈ N2, p.1 ≠ w.heap.size + 1 := grown_off hat5 ne2 (by omega)
            have N2r : ∀ p ∈ N2, p.1 ≠ w.heap.size := grown_off hat5 rs2 (by omega)
            have hB := hB.trans (below_only hon5 (fun k ⟨p, hp, e⟩ => by have := T.2.1.base p hp; omega) hB.size)
            have T : OwnT w.heap.size (Table.upto k s m (j + 1)) (.slice A5 n5 c5) (.slice A6 n6 c6) N1 N2 w7 := ⟨T.1, by show Own _ _ _ _ ((List.replicate (j + 1) (nought s.toNat)).map strCell) _; rw [noughts_succ]; exact hk5, holds_apart T.2.2.1 T.2.2.2.2.symm hon5, hK5, (apart_grow T.2.2.1 T.2.2.2.2.symm hat5).symm⟩
            have G := G.only hon5 (fun p hp ⟨q, hq, e⟩ => ne2 q hq (by rw [e, List.mem_singleton.1 hp]))
            have hrs := hrs.only hon5 (fun p hp ⟨q, hq, e⟩ => rs2 q hq (by rw [e, List.mem_singleton.1 hp]))
            have hS := c4 G
            obtain ⟨hth, hbx, hon⟩ := tput4 G.get (.slice A6 n6 c6))
          refine ⟨⟨⟨_, hS⟩, rfl⟩, ?_⟩
          refine plan_pure (fun K hK => ?_); go_simp; refine hK _ _ ?_; clear hK K
          refine plan_last_ ?_
          go_wp2_with (
            (with_reducible refine gate_store (p := 35) rfl ?_)
            refine wpList_put rfl 31 _ _ rfl (w.heap.size + 1) 4 [.slice A6 n6 c6] rfl rfl hth (by kernel_rfl) rfl ?_
            have T := T.beside hon N1g N2g
            have hrs := hrs.only hon (fun p hp e => by rw [List.mem_singleton.1 hp] at e; simp only at e; omega)
            have hB := hB.trans (below_only hon (fun k hk => by omega) hB.size)
            generalize w7.setCells (w.heap.size + 1) 4 [.slice A6 n6 c6] = w8 at *)
          refine plan_done ?_
          go_wp2
          go_roundw
          case rel => exact ⟨j + 1, by omega, by go_num, ⟨_, _, N1, N2, T, hbx, fun p hp => (List.mem_append.1 hp).elim (N1g p) (N2g p), hrs, fun p hp => (List.mem_append.1 hp).elim (N1r p) (N2r p)⟩, hB⟩
          case measure => simp [intOf]; omega
        · have hjm : j = m.toNat := by omega
          subst hjm
          obtain ⟨hrs, hresb⟩ := hres
          have hrl := hrs.lt (List.mem_singleton.2 rfl)
          have hlk : (Table.upto k s m m.toNat).keys.length ≤ 1048576 := by simp [Table.upto, rowKeys] <;> omega
          have hls : (Table.upto k s m m.toNat).slots.length ≤ 1048576 := by simp [Table.upto] <;> omega
          go_wp2_with (first
            | (go_at_call 83; go_loud (
               refine (copied_calls (Table.upto k s m m.toNat) _ _ M1 M2 _ T.1.row T.2.2.1 T.2.1.row T.2.2.2.1 hlk hls).mono ?_
               rintro e w3 ⟨k3, s3, rfl, N1, N2, o1, o2, hN1, hN2, hap, hb⟩
               obtain ⟨A3, n3, c3, rfl⟩ := o1.row.slice
               obtain ⟨A4, n4, c4, rfl⟩ := o2.row.slice
               have hrs := hrs.below hb
               have b1 := o1.base
               have b2 := o2.base
               obtain ⟨hth, hfin, hon⟩ := tput (t0 := Table.zero) hrs.get (Table.upto k s m m.toNat) (.slice A3 n3 c3) (.slice A4 n4 c4)))
            | ((with_reducible refine gate_store (p := 6) rfl ?_); go_loud (refine wpList_put rfl 50 _ _ rfl w.heap.size 0 [.int .i64 k, .int .i64 s, .int .i64 m, .slice A3 n3 c3, .slice A4 n4 c4] rfl rfl hth (by kernel_rfl) rfl ?_)))
          have hT3 : OwnT _ (Table.upto k s m m.toNat) _ _ N1 N2 w3 := ⟨o1, o2, hN1, hN2, hap⟩
          have hTf := (hT3.beside hon (fun p hp => by have := b1 p hp; omega) (fun p hp => by have := b2 p hp; omega)).lower hB.size
          have hBf := (bnext hB hb).trans (below_only hon (fun k hk => by omega) (bnext hB hb).size)
          obtain ⟨g0, g1, g2, g3, g4⟩ := tbox_cells hfin
          simp only [Table.upto] at g0 g1 g2 g3 g4
          refine bodyPost_ret (v := .agg #[.int .i64 k, .int .i64 s, .int .i64 m, .slice A3 n3 c3, .slice A4 n4 c4]) (by simp [results, Try.results46, go_sem, g0, g1, g2, g3, g4]) rfl ⟨_, _, rfl, ⟨N1, N2, by rw [HN.out]; exact hTf⟩, hBf⟩
    · have HN := Lib.hid (Table.upto_zero hsh hk)
      have hkb : (k == 1) = false := by simp [hk]
      clear hsh hk e1 e2 e3
      go_enter Try.func46, Try.ntmps46
      go_wp2_with fail
      refine hShp.mono ?_
      rintro e w1 ⟨rfl, hb⟩
      have hstart := hstart.below hb
      have hB := bnext hB hb
      clear hb hShp
      obtain ⟨kv, sv, M1, M2, T, G, ne, hrs, hresb⟩ := hstart
      obtain ⟨d0, d1, d2, d3, d4⟩ := tbox_cells G
      have hrl := hrs.lt (List.mem_singleton.2 rfl)
      have hlk : (Table.upto k s m 0).keys.length ≤ 1048576 := by simp [Table.upto, rowKeys] <;> omega
      have hls : (Table.upto k s m 0).slots.length ≤ 1048576 := by simp [Table.upto] <;> omega
      go_wp2_with (first
        | (go_at_call 83; go_loud (
           refine (copied_calls (Table.upto k s m 0) _ _ M1 M2 _ T.1.row T.2.2.1 T.2.1.row T.2.2.2.1 hlk hls).mono ?_
           rintro e w3 ⟨k3, s3, rfl, N1, N2, o1, o2, hN1, hN2, hap, hb⟩
           obtain ⟨A3, n3, c3, rfl⟩ := o1.row.slice
           obtain ⟨A4, n4, c4, rfl⟩ := o2.row.slice
           have hrs := hrs.below hb
           have b1 := o1.base
           have b2 := o2.base
           obtain ⟨hth, hfin, hon⟩ := tput (t0 := Table.zero) hrs.get (Table.upto k s m 0) (.slice A3 n3 c3) (.slice A4 n4 c4)))
        | ((with_reducible refine gate_store (p := 6) rfl ?_); go_loud (refine wpList_put rfl 50 _ _ rfl w.heap.size 0 [.int .i64 k, .int .i64 s, .int .i64 m, .slice A3 n3 c3, .slice A4 n4 c4] rfl rfl hth (by kernel_rfl) rfl ?_)))
      have hT3 : OwnT _ (Table.upto k s m 0) _ _ N1 N2 w3 := ⟨o1, o2, hN1, hN2, hap⟩
      have hTf := (hT3.beside hon (fun p hp => by have := b1 p hp; omega) (fun p hp => by have := b2 p hp; omega)).lower hB.size
      have hBf := (bnext hB hb).trans (below_only hon (fun k hk => by omega) (bnext hB hb).size)
      obtain ⟨g0, g1, g2, g3, g4⟩ := tbox_cells hfin
      simp only [Table.upto] at g0 g1 g2 g3 g4
      refine bodyPost_ret (v := .agg #[.int .i64 k, .int .i64 s, .int .i64 m, .slice A3 n3 c3, .slice A4 n4 c4]) (by simp [results, Try.results46, go_sem, g0, g1, g2, g3, g4]) rfl ⟨_, _, rfl, ⟨N1, N2, by rw [HN.out]; exact hTf⟩, hBf⟩
end Go.Proofs.Ytdpdclfanlbkjaa
