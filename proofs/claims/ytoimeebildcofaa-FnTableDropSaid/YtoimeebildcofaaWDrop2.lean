/- The walk of the program's TableDrop. -/
import Derived.Test.YtoimeebildcofaaWDrop1
import Derived.Test.YtoimeebildcofaaWTab9
import Derived.Test.YtoimeebildcofaaTabDrop
namespace Go.Proofs.Ytoimeebildcofaa
open Go.RowKit
set_option maxRecDepth 100000 in
set_option maxHeartbeats 3200000 in
theorem tableDrop_calls (t : Table) (kv sv : Value) (L1 L2 : Blocks) (x : Int) (w : World) (h1 : Row 1 kv (t.keys.map intCell) L1) (H1 : Holds w L1) (h2 : Row 1 sv (t.slots.map strCell) L2) (H2 : Holds w L2) :
    Calls Try.prog 10 #[.agg #[.int .i64 t.kind, .int .i64 t.size, .int .i64 t.most, kv, sv], .int .i64 x] w fun e w' => ∃ kv' sv', e = .returned (.tuple #[.agg #[.int .i64 (t.drop x).1.kind, .int .i64 (t.drop x).1.size, .int .i64 (t.drop x).1.most, kv', sv'], .bool (t.drop x).2]) ∧
      (∃ M1 M2, OwnT w.heap.size (t.drop x).1 kv' sv' M1 M2 w') ∧ Below w.heap.size w w' := by
  cases hok : t.ok with
  | false =>
    have HP : Hid (t.drop x = (Table.zero, false)) := by show _ = _; simp [Table.drop, hok]
    have HK := Lib.hid hok
    clear hok
    go_enter Try.func10, Try.ntmps10
    go_wp2_with fail
    refine (tableOk_calls t kv sv L1 L2 _ h1 ((H1.alloc _).alloc _) h2 ((H2.alloc _).alloc _)).mono ?_
    rw [HK.out]
    rintro e w1 ⟨rfl, hb1⟩
    have hres := (holds_new (w := w.alloc (tcells t kv sv)) (o := zcells) (k := w.heap.size + 1) (by simp)).below hb1
    have hB1 : Below w.heap.size w w1 := bnext (below_alloc' (below_alloc' (Below.refl _ _) _) _) hb1
    obtain ⟨hth, hfin, hon⟩ := tput0 hres.get
    go_wp2_with ((with_reducible refine gate_store (p := 4) rfl ?_); refine wpList_put rfl 27 _ _ rfl (w.heap.size + 1) 0 [.int .i64 0, .int .i64 0, .int .i64 0, .slice none 0 0, .slice none 0 0] rfl rfl hth (by kernel_rfl) rfl ?_)
    generalize w1.setCells (w.heap.size + 1) 0 [.int .i64 0, .int .i64 0, .int .i64 0, .slice none 0 0, .slice none 0 0] = V4 at *
    obtain ⟨g0, g1, g2, g3, g4⟩ := tbox_cells (t := Table.zero) hfin
    simp only [Table.zero] at g0 g1 g2 g3 g4
    refine bodyPost_ret (v := .tuple #[.agg #[.int .i64 0, .int .i64 0, .int .i64 0, .slice none 0 0, .slice none 0 0], .bool false]) (by simp [results, Try.results10, go_sem, g0, g1, g2, g3, g4]) rfl ⟨_, _, by rw [HP.out]; rfl, ⟨[], [], by rw [HP.out]; exact zero_own _ _⟩, hB1.trans (below_only hon (fun k hk => by omega) hB1.size)⟩
  | true =>
    obtain ⟨hl, _, hl8⟩ := Table.ok_lens hok
    have HK := Lib.hid hok
    have hg := Table.ok_iff.1 hok
    have gsh := hg.shape
    simp only [Table.shape, inB, Bool.and_eq_true, decide_eq_true_eq] at gsh
    obtain ⟨⟨_, hz1, hz8⟩, _⟩ := gsh
    clear hg
    by_cases hi : 0 ≤ indexOf (· == x) t.keys
    · obtain ⟨i, hi1, hi2, _⟩ := indexOf_some hi
      have HX := Lib.hid hi1
      have hkl : i < t.slots.length := by omega
      by_cases hk : t.kind = 1
      · have HP : Hid (t.drop x = ({ t with slots := t.slots.set i (nought t.size.toNat) }, true)) := by
          show _ = _
          have h0 : (0 : Int) ≤ (i : Int) := by omega
          simp only [Table.drop, hok, if_true, hi1, h0, if_pos hk, Int.toNat_natCast]
        have hkb : (t.kind == 1) = true := by simp [hk]
        clear hi hi1 hok hk
        go_enter Try.func10, Try.ntmps10
        go_wp2_with fail
        refine (tableOk_calls t kv sv L1 L2 _ h1 ((H1.alloc _).alloc _) h2 ((H2.alloc _).alloc _)).mono ?_
        rw [HK.out]
        rintro e w1 ⟨rfl, hb1⟩
        have hbox := ((holds_new (w := w) (o := tcells t kv sv) rfl).alloc zcells).below hb1
        have hres := (holds_new (w := w.alloc (tcells t kv sv)) (o := zcells) (k := w.heap.size + 1) (by simp)).below hb1
        have hB1 : Below w.heap.size w w1 := bnext (below_alloc' (below_alloc' (Below.refl _ _) _) _) hb1
        obtain ⟨d0, d1, d2, d3, d4⟩ := tbox_cells hbox.get
        have hr0 := hres.lt (List.mem_singleton.2 rfl)
        go_wp2_with fail
        refine (copied_calls t kv sv L1 L2 _ h1 (H1.below hB1) h2 (H2.below hB1) (by omega) (by omega)).mono ?_
        rintro e w2 ⟨k2, s2, rfl, M1, M2, o1, o2, hM1, hM2, hap, hb2⟩
        obtain ⟨A5, n5, c5, rfl⟩ := o1.row.slice
        obtain ⟨A6, n6, c6, rfl⟩ := o2.row.slice
        have hbox := hbox.below hb2
        have hres := hres.below hb2
        have hB := bnext hB1 hb2
        have hT : OwnT w1.heap.size t (.slice A5 n5 c5) (.slice A6 n6 c6) M1 M2 w2 := ⟨o1, o2, hM1, hM2, hap⟩
        have hs12 := hb2.size
        have hr1 := hres.lt (List.mem_singleton.2 rfl)
        have hTlt := hT.lt
        clear d0 d1 d2 d3 d4 hb1 hb2 o1 o2 hM1 hM2 hap
        obtain ⟨hth, hgb, hon⟩ := tput (V := w2.alloc zcells) (r := w2.heap.size) (t0 := Table.zero) (holds_new rfl).get t (.slice A5 n5 c5) (.slice A6 n6 c6)
        go_wp2_with (first
          | ((with_reducible refine gate_store (p := 6) rfl ?_); go_loud (
             refine wpList_put rfl 27 _ _ rfl w2.heap.size 0 [.int .i64 t.kind, .int .i64 t.size, .int .i64 t.most, (.slice A5 n5 c5), (.slice A6 n6 c6)] rfl rfl hth (by kernel_rfl) rfl ?_
             have hT := (hT.below (below_alloc' (Below.refl _ _) zcells)).only hon (fun p hp e => by have := hTlt p hp; omega)
             have hres := (hres.alloc zcells).only hon (fun p hp => by rw [List.mem_singleton.1 hp]; simp only; omega)
             have hbox := (hbox.alloc zcells).only hon (fun p hp => by rw [List.mem_singleton.1 hp]; simp only; omega)
             have hB := (below_alloc' hB zcells).trans (below_only hon (fun k hk => by have := hB1.size; omega) (by simp; have := hB1.size; omega))
             have s3 : w2.heap.size < ((w2.alloc zcells).setCells w2.heap.size 0 [.int .i64 t.kind, .int .i64 t.size, .int .i64 t.most, (.slice A5 n5 c5), (.slice A6 n6 c6)]).heap.size := (Holds.one hgb).lt (List.mem_singleton.2 rfl)
             generalize (w2.alloc zcells).setCells w2.heap.size 0 [.int .i64 t.kind, .int .i64 t.size, .int .i64 t.most, (.slice A5 n5 c5), (.slice A6 n6 c6)] = V at *
             clear hth hon
             have hgb := Holds.one hgb
             obtain ⟨e0, e1, e2, e3, e4⟩ := tbox_cells hgb.get))
          | (go_at_call 39; go_loud (
             refine (find_calls t (.slice A5 n5 c5) (.slice A6 n6 c6) M1 x _ hT.1.row hT.2.2.1).mono ?_
             rw [HX.out]
             rintro e w4 ⟨rfl, hb⟩
             have hT := hT.below hb
             have hres := hres.below hb
             have hbox := hbox.below hb
             have hgb := hgb.below hb
             have hB := bnext hB hb
             have s4 := hb.size
             obtain ⟨e0, e1, e2, e3, e4⟩ := tbox_cells hgb.get
             obtain ⟨d0, d1, d2, d3, d4⟩ := tbox_cells hbox.get
             skip)))
        obtain ⟨b, rfl, _⟩ := hT.set hkl (nought t.size.toNat)
        have q4 := cell_regrown e4
        have q1 := cell_regrown d1
        clear d0 d1 d2 d3 d4 e0 e1 e2 e3 e4
        have hin : i < n6 := by have := hT.2.1.row.len'.1; rw [List.length_map] at this; omega
        refine wp_region_plan [7] (.one 0 .pure (.one 2 .pure (.one 3 .pure (.one 1 .load (.one 4 .load (.one 5 .act (.one 6 .pure (.one 7 .last .done)))))))) (fun w' => ∃ p : Regrown, w' = Sort.grow (redrawn w4 p.d) p.os) (by kernel_rfl) (by kernel_rfl) (fun _ _ d _ _ h => by cases d <;> exact h) ?_
        simp only [Plan.pick, List.getElem?_cons_zero, List.getElem?_cons_succ]
        have hS : Below w4.heap.size w4 w4.drew := below_drewN' (Below.refl _ _) 1
        have hB : Below _ _ w4.drew := below_drewN' hB 1
        refine plan_pure (fun K hK => ?_); go_simp; refine hK _ _ ?_; clear hK K
        refine plan_pure (fun K hK => ?_); go_simp; refine hK _ _ ?_; clear hK K
        refine plan_pure (fun K hK => ?_); go_simp; refine hK _ _ ?_; clear hK K
        refine plan_load (fun K hK => ?_); go_simp; refine ⟨regrown_of_below hS, hK _ _ ?_⟩; clear hK K
        refine plan_load (fun K hK => ?_); go_simp; refine ⟨regrown_of_below hS, hK _ _ ?_⟩; clear hK K
        refine plan_act ?_
        clear q1 q4
        go_wp2_with fail
        refine (noughts_calls t.size.toNat t.size (by omega) (by omega) _).mono ?_
        rintro e w5 ⟨rfl, hb⟩
        have hS := bnext hS hb
        have hB := bnext hB hb
        clear hb
        go_wp2
        refine ⟨regrown_of_below hS, ?_⟩
        refine plan_pure (fun K hK => ?_); go_simp; refine hK _ _ ?_; clear hK K
        refine plan_last_ ?_
        have hT := hT.below hS
        have hres := hres.below hS
        have hgb := hgb.below hS
        have s5 := hS.size
        obtain ⟨b', hbb, hbB, hMb, hth, M2', hT2, hM2'⟩ := hT.set hkl (nought t.size.toNat)
        simp only [Option.some.injEq, Addr.mk.injEq, and_true] at hbb
        subst hbb
        have hbl : b < w2.heap.size := by
          have : b ∈ M2.map (·.1) := by rw [hMb]; simp
          obtain ⟨p, hp, rfl⟩ := List.mem_map.1 this
          exact hTlt p (List.mem_append_right _ hp)
        go_wp2_with ((with_reducible refine gate_store (p := 31) rfl ?_); refine wpList_put rfl 9 _ _ rfl b i [.string (nought t.size.toNat)] rfl rfl hth (by kernel_rfl) rfl ?_)
        have hon : Only (· = b) w5 (w5.setCells b i [.string (nought t.size.toNat)]) := only_setCells _ _ _ _ (Only.refl _ _) (.inl rfl)
        generalize w5.setCells b i [.string (nought t.size.toNat)] = w6 at *
        have hres := hres.only hon (fun p hp (e : p.1 = b) => by rw [List.mem_singleton.1 hp] at e; simp only at e; omega)
        have hgb := hgb.only hon (fun p hp (e : p.1 = b) => by rw [List.mem_singleton.1 hp] at e; simp only at e; omega)
        have hB := hB.trans (below_only hon (fun k hk => by have := hB1.size; omega) hB.size)
        clear hon
        refine plan_done ?_
        obtain ⟨e0, e1, e2, e3, e4⟩ := tbox_cells hgb.get
        have hBs := hB.size
        obtain ⟨hth, hfin, hon⟩ := tput (t0 := Table.zero) hres.get t (.slice A5 n5 c5) (.slice (some ⟨b, 0, none⟩) n6 c6)
        go_wp2_with (first
          | ((with_reducible refine gate_store (p := 4) rfl ?_); go_loud (refine wpList_put rfl 27 _ _ rfl (w.heap.size + 1) 0 [.int .i64 t.kind, .int .i64 t.size, .int .i64 t.most, (.slice A5 n5 c5), (.slice (some ⟨b, 0, none⟩) n6 c6)] rfl rfl hth (by kernel_rfl) rfl ?_))
          | fail)
        generalize w6.setCells (w.heap.size + 1) 0 [.int .i64 t.kind, .int .i64 t.size, .int .i64 t.most, (.slice A5 n5 c5), (.slice (some ⟨b, 0, none⟩) n6 c6)] = V9 at *
        obtain ⟨g0, g1, g2, g3, g4⟩ := tbox_cells hfin
        have hTf := hT2.beside hon (fun p hp => by have := hT2.1.base p hp; omega) (fun p hp => by have := hT2.2.1.base p hp; omega)
        refine bodyPost_ret (v := .tuple #[.agg #[.int .i64 t.kind, .int .i64 t.size, .int .i64 t.most, (.slice A5 n5 c5), (.slice (some ⟨b, 0, none⟩) n6 c6)], .bool true]) (by simp [results, Try.results10, go_sem, g0, g1, g2, g3, g4]) rfl ⟨_, _, by rw [HP.out], ⟨_, _, by rw [HP.out]; exact hTf.lower (by omega)⟩, hB.trans (below_only hon (fun k hk => by omega) (by omega))⟩
      · have HP : Hid (t.drop x = ({ t with keys := t.keys.eraseIdx i, slots := t.slots.eraseIdx i }, true)) := by
          show _ = _
          have h0 : (0 : Int) ≤ (i : Int) := by omega
          simp only [Table.drop, hok, if_true, hi1, h0, if_neg hk, Int.toNat_natCast]
        have hkb : (t.kind == 1) = false := by simp [hk]
        clear hi hi1 hok hk
        go_enter Try.func10, Try.ntmps10
        go_wp2_with fail
        refine (tableOk_calls t kv sv L1 L2 _ h1 ((H1.alloc _).alloc _) h2 ((H2.alloc _).alloc _)).mono ?_
        rw [HK.out]
        rintro e w1 ⟨rfl, hb1⟩
        have hbox := ((holds_new (w := w) (o := tcells t kv sv) rfl).alloc zcells).below hb1
        have hres := (holds_new (w := w.alloc (tcells t kv sv)) (o := zcells) (k := w.heap.size + 1) (by simp)).below hb1
        have hB1 : Below w.heap.size w w1 := bnext (below_alloc' (below_alloc' (Below.refl _ _) _) _) hb1
        obtain ⟨d0, d1, d2, d3, d4⟩ := tbox_cells hbox.get
        have hr0 := hres.lt (List.mem_singleton.2 rfl)
        go_wp2_with fail
        refine (copied_calls t kv sv L1 L2 _ h1 (H1.below hB1) h2 (H2.below hB1) (by omega) (by omega)).mono ?_
        rintro e w2 ⟨k2, s2, rfl, M1, M2, o1, o2, hM1, hM2, hap, hb2⟩
        obtain ⟨A5, n5, c5, rfl⟩ := o1.row.slice
        obtain ⟨A6, n6, c6, rfl⟩ := o2.row.slice
        have hbox := hbox.below hb2
        have hres := hres.below hb2
        have hB := bnext hB1 hb2
        have hT : OwnT w1.heap.size t (.slice A5 n5 c5) (.slice A6 n6 c6) M1 M2 w2 := ⟨o1, o2, hM1, hM2, hap⟩
        have hs12 := hb2.size
        have hr1 := hres.lt (List.mem_singleton.2 rfl)
        have hTlt := hT.lt
        clear d0 d1 d2 d3 d4 hb1 hb2 o1 o2 hM1 hM2 hap
        obtain ⟨hth, hgb, hon⟩ := tput (V := w2.alloc zcells) (r := w2.heap.size) (t0 := Table.zero) (holds_new rfl).get t (.slice A5 n5 c5) (.slice A6 n6 c6)
        go_wp2_with (first
          | ((with_reducible refine gate_store (p := 6) rfl ?_); go_loud (
             refine wpList_put rfl 27 _ _ rfl w2.heap.size 0 [.int .i64 t.kind, .int .i64 t.size, .int .i64 t.most, (.slice A5 n5 c5), (.slice A6 n6 c6)] rfl rfl hth (by kernel_rfl) rfl ?_
             have hT := (hT.below (below_alloc' (Below.refl _ _) zcells)).only hon (fun p hp e => by have := hTlt p hp; omega)
             have hres := (hres.alloc zcells).only hon (fun p hp => by rw [List.mem_singleton.1 hp]; simp only; omega)
             have hbox := (hbox.alloc zcells).only hon (fun p hp => by rw [List.mem_singleton.1 hp]; simp only; omega)
             have hB := (below_alloc' hB zcells).trans (below_only hon (fun k hk => by have := hB1.size; omega) (by simp; have := hB1.size; omega))
             have s3 : w2.heap.size < ((w2.alloc zcells).setCells w2.heap.size 0 [.int .i64 t.kind, .int .i64 t.size, .int .i64 t.most, (.slice A5 n5 c5), (.slice A6 n6 c6)]).heap.size := (Holds.one hgb).lt (List.mem_singleton.2 rfl)
             generalize (w2.alloc zcells).setCells w2.heap.size 0 [.int .i64 t.kind, .int .i64 t.size, .int .i64 t.most, (.slice A5 n5 c5), (.slice A6 n6 c6)] = V at *
             clear hth hon
             have hgb := Holds.one hgb
             obtain ⟨e0, e1, e2, e3, e4⟩ := tbox_cells hgb.get))
          | (go_at_call 39; go_loud (
             refine (find_calls t (.slice A5 n5 c5) (.slice A6 n6 c6) M1 x _ hT.1.row hT.2.2.1).mono ?_
             rw [HX.out]
             rintro e w4 ⟨rfl, hb⟩
             have hT := hT.below hb
             have hres := hres.below hb
             have hbox := hbox.below hb
             have hgb := hgb.below hb
             have hB := bnext hB hb
             have s4 := hb.size
             obtain ⟨e0, e1, e2, e3, e4⟩ := tbox_cells hgb.get
             obtain ⟨d0, d1, d2, d3, d4⟩ := tbox_cells hbox.get
             skip)))
        clear d0 d1 d2 d3 d4 e0 e1 e2 e3 e4
        have cg : ∀ {w' : World}, Holds w' [(w2.heap.size, tcells t (.slice A5 n5 c5) (.slice A6 n6 c6))] → w'.cell? ⟨w2.heap.size, 3, none⟩ = some (.slice A5 n5 c5) ∧ w'.cell? ⟨w2.heap.size, 4, none⟩ = some (.slice A6 n6 c6) := fun h => ⟨(tbox_cells h.get).2.2.2.1, (tbox_cells h.get).2.2.2.2⟩
        have hne1 : ∀ p ∈ M1, p.1 ≠ w2.heap.size ∧ p.1 ≠ w.heap.size + 1 := fun p hp => by have := hTlt p (List.mem_append_left _ hp); have := hT.1.base p hp; omega
        have hne2 : ∀ p ∈ M2, p.1 ≠ w2.heap.size ∧ p.1 ≠ w.heap.size + 1 := fun p hp => by have := hTlt p (List.mem_append_right _ hp); have := hT.2.1.base p hp; omega
        refine wp_region_plan [13, 15] (.one 0 .pure (.one 2 .pure (.one 3 .pure (.one 4 .pure (.one 6 .pure (.one 8 .pure (.one 9 .pure (.one 10 .pure (.one 1 .load (.one 7 .load (.one 5 .act (.one 12 .pure (.one 11 .act (.one 13 .last (.one 14 .pure (.one 15 .last .done)))))))))))))))) (fun w' => ∃ q : Kept (fun w' => w'.cell? ⟨w2.heap.size, 3, none⟩ = some (.slice A5 n5 c5) ∧ w'.cell? ⟨w2.heap.size, 4, none⟩ = some (.slice A6 n6 c6)), w' = q.w) (by kernel_rfl) (by kernel_rfl) (fun _ _ d _ _ h => by cases d <;> exact h) ?_
        simp only [Plan.pick, List.getElem?_cons_zero, List.getElem?_cons_succ]
        have hB : Below _ _ w4.drew := below_drewN' hB 1
        have q3 : ∀ q : Kept (fun w' => w'.cell? ⟨w2.heap.size, 3, none⟩ = some (.slice A5 n5 c5) ∧ w'.cell? ⟨w2.heap.size, 4, none⟩ = some (.slice A6 n6 c6)), q.w.cell? ⟨w2.heap.size, 3, none⟩ = some (.slice A5 n5 c5) := fun q => q.kept.1
        have q4 : ∀ q : Kept (fun w' => w'.cell? ⟨w2.heap.size, 3, none⟩ = some (.slice A5 n5 c5) ∧ w'.cell? ⟨w2.heap.size, 4, none⟩ = some (.slice A6 n6 c6)), q.w.cell? ⟨w2.heap.size, 4, none⟩ = some (.slice A6 n6 c6) := fun q => q.kept.2
        have hgb : Holds w4.drew [(w2.heap.size, tcells t (.slice A5 n5 c5) (.slice A6 n6 c6))] := hgb
        have hres : Holds w4.drew [(w.heap.size + 1, zcells)] := hres
        have hT : OwnT w1.heap.size t (.slice A5 n5 c5) (.slice A6 n6 c6) M1 M2 w4.drew := hT
        have hS := cg hgb
        have hKn : Nonempty (Kept (fun w' => w'.cell? ⟨w2.heap.size, 3, none⟩ = some (.slice A5 n5 c5) ∧ w'.cell? ⟨w2.heap.size, 4, none⟩ = some (.slice A6 n6 c6))) := ⟨⟨_, hS⟩⟩
        refine plan_pure (fun K hK => ?_); go_simp; refine hK _ _ ?_; clear hK K
        refine plan_pure (fun K hK => ?_); go_simp; refine hK _ _ ?_; clear hK K
        refine plan_pure (fun K hK => ?_); go_simp; refine hK _ _ ?_; clear hK K
        refine plan_pure (fun K hK => ?_); go_simp; refine hK _ _ ?_; clear hK K
        refine plan_pure (fun K hK => ?_); go_simp; refine hK _ _ ?_; clear hK K
        refine plan_pure (fun K hK => ?_); go_simp; refine hK _ _ ?_; clear hK K
        refine plan_pure (fun K hK => ?_); go_simp; refine hK _ _ ?_; clear hK K
        refine plan_pure (fun K hK => ?_); go_simp; refine hK _ _ ?_; clear hK K
        refine plan_load (fun K hK => ?_); go_simp; refine ⟨⟨⟨_, hS⟩, rfl⟩, hK _ _ ?_⟩; clear hK K
        refine plan_load (fun K hK => ?_); go_simp; refine ⟨⟨⟨_, hS⟩, rfl⟩, hK _ _ ?_⟩; clear hK K
        refine plan_act ?_
        clear q3 q4
        go_wp2_with fail
        refine (deleteInt_calls A5 n5 c5 t.keys M1 w1.heap.size i _ _ rfl (by omega) _ hT.1 hT.2.2.1 hi2).mono ?_
        rintro e w5 ⟨k7, rfl, ⟨N1, o7, hN1, hN1m⟩, ho⟩
        obtain ⟨A7, n7, c7, rfl⟩ := o7.row.slice
        have hgb := hgb.only ho (fun p hp ⟨q, hq, e⟩ => (hne1 q hq).1 (by rw [e, List.mem_singleton.1 hp]))
        have hres := hres.only ho (fun p hp ⟨q, hq, e⟩ => (hne1 q hq).2 (by rw [e, List.mem_singleton.1 hp]))
        have hB := hB.trans (below_only ho (fun k ⟨p, hp, e⟩ => by have := hT.1.base p hp; have := hB1.size; omega) hB.size)
        have hM2w := holds_apart hT.2.2.2.1 hT.2.2.2.2 ho
        have hS := cg hgb
        go_wp2
        refine ⟨⟨⟨_, hS⟩, rfl⟩, ?_⟩
        refine plan_pure (fun K hK => ?_); go_simp; refine hK _ _ ?_; clear hK K
        refine plan_act ?_
        go_wp2_with fail
        refine (deleteStr_calls A6 n6 c6 t.slots M2 w1.heap.size i _ _ rfl (by omega) _ hT.2.1 hM2w hkl).mono ?_
        rintro e w6 ⟨k8, rfl, ⟨N2, o8, hN2, hN2m⟩, ho⟩
        obtain ⟨A8, n8, c8, rfl⟩ := o8.row.slice
        have hgb := hgb.only ho (fun p hp ⟨q, hq, e⟩ => (hne2 q hq).1 (by rw [e, List.mem_singleton.1 hp]))
        have hres := hres.only ho (fun p hp ⟨q, hq, e⟩ => (hne2 q hq).2 (by rw [e, List.mem_singleton.1 hp]))
        have hB := hB.trans (below_only ho (fun k ⟨p, hp, e⟩ => by have := hT.2.1.base p hp; have := hB1.size; omega) hB.size)
        have hap := apart_same' hT.2.2.2.2 hN1m hN2m
        have hN1 : Holds w6 N1 := holds_apart hN1 (apart_same' hT.2.2.2.2 hN1m (rfl : M2.map (·.1) = M2.map (·.1))).symm ho
        have hT9 : OwnT w1.heap.size { t with keys := t.keys.eraseIdx i, slots := t.slots.eraseIdx i } (.slice A7 n7 c7) (.slice A8 n8 c8) N1 N2 w6 := ⟨o7, o8, hN1, hN2, hap⟩
        have hne3 : ∀ p ∈ N1 ++ N2, p.1 ≠ w2.heap.size := fun p hp => by
          rcases List.mem_append.1 hp with h | h
          · have := List.mem_map_of_mem (f := Prod.fst) h
            rw [hN1m] at this
            obtain ⟨q, hq, e⟩ := List.mem_map.1 this
            exact e ▸ (hne1 q hq).1
          · have := List.mem_map_of_mem (f := Prod.fst) h
            rw [hN2m] at this
            obtain ⟨q, hq, e⟩ := List.mem_map.1 this
            exact e ▸ (hne2 q hq).1
        have hS := cg hgb
        obtain ⟨hth, hg7, hon⟩ := tput3 hgb.get (.slice A7 n7 c7)
        go_wp2
        refine ⟨⟨⟨_, hS⟩, rfl⟩, ?_⟩
        refine plan_last_ ?_
        go_wp2_with ((with_reducible refine gate_store (p := 45) rfl ?_); refine wpList_put rfl 22 _ _ rfl w2.heap.size 3 [(.slice A7 n7 c7)] rfl rfl hth (by kernel_rfl) rfl ?_)
        have hT9 := hT9.beside hon (fun p hp => hne3 p (List.mem_append_left _ hp)) (fun p hp => hne3 p (List.mem_append_right _ hp))
        have hres := hres.only hon (fun p hp (e : p.1 = w2.heap.size) => by rw [List.mem_singleton.1 hp] at e; simp only at e; omega)
        have hB := hB.trans (below_only hon (fun k hk => by have := hB1.size; omega) hB.size)
        generalize w6.setCells w2.heap.size 3 [(.slice A7 n7 c7)] = w7 at *
        clear hth hon
        obtain ⟨hth, hg8, hon⟩ := tput4 hg7 (.slice A8 n8 c8)
        refine plan_pure (fun K hK => ?_); go_simp; refine hK _ _ ?_; clear hK K
        refine plan_last_ ?_
        go_wp2_with ((with_reducible refine gate_store (p := 46) rfl ?_); refine wpList_put rfl 23 _ _ rfl w2.heap.size 4 [(.slice A8 n8 c8)] rfl rfl hth (by kernel_rfl) rfl ?_)
        have hT9 := hT9.beside hon (fun p hp => hne3 p (List.mem_append_left _ hp)) (fun p hp => hne3 p (List.mem_append_right _ hp))
        have hres := hres.only hon (fun p hp (e : p.1 = w2.heap.size) => by rw [List.mem_singleton.1 hp] at e; simp only at e; omega)
        have hB := hB.trans (below_only hon (fun k hk => by have := hB1.size; omega) hB.size)
        generalize w7.setCells w2.heap.size 4 [(.slice A8 n8 c8)] = w8 at *
        clear hth hon
        refine plan_done ?_
        obtain ⟨e0, e1, e2, e3, e4⟩ := tbox_cells hg8
        have hll : (t.keys.eraseIdx i).length ≤ 8 ∧ (t.slots.eraseIdx i).length ≤ 8 := by
          rw [List.length_eraseIdx, List.length_eraseIdx]
          constructor <;> split <;> omega
        go_wp2_with (first
          | (go_at_call 38; go_loud (
             refine (copied_calls { t with keys := t.keys.eraseIdx i, slots := t.slots.eraseIdx i } (.slice A7 n7 c7) (.slice A8 n8 c8) N1 N2 _ hT9.1.row hT9.2.2.1 hT9.2.1.row hT9.2.2.2.1 (by simp only; omega) (by simp only; omega)).mono ?_
             rintro e w9 ⟨k9, s9, rfl, Q1, Q2, u1, u2, hQ1, hQ2, hqp, hb9⟩
             obtain ⟨A9, n9, c9, rfl⟩ := u1.row.slice
             obtain ⟨B9, m9, f9, rfl⟩ := u2.row.slice
             have hres := hres.below hb9
             have hBs := hB.size
             have hB := bnext hB hb9
             have hT0 : OwnT w8.heap.size { t with keys := t.keys.eraseIdx i, slots := t.slots.eraseIdx i } (.slice A9 n9 c9) (.slice B9 m9 f9) Q1 Q2 w9 := ⟨u1, u2, hQ1, hQ2, hqp⟩
             have hr9 := hB.size
             obtain ⟨hth, hfin, hon⟩ := tput (t0 := Table.zero) hres.get t (.slice A9 n9 c9) (.slice B9 m9 f9)))
          | ((with_reducible refine gate_store (p := 4) rfl ?_); go_loud (refine wpList_put rfl 27 _ _ rfl (w.heap.size + 1) 0 [.int .i64 t.kind, .int .i64 t.size, .int .i64 t.most, (.slice A9 n9 c9), (.slice B9 m9 f9)] rfl rfl hth (by kernel_rfl) rfl ?_))
          | fail)
        have h8l := (Holds.one hg8).lt (List.mem_singleton.2 rfl)
        generalize w9.setCells (w.heap.size + 1) 0 [.int .i64 t.kind, .int .i64 t.size, .int .i64 t.most, (.slice A9 n9 c9), (.slice B9 m9 f9)] = V9 at *
        obtain ⟨g0, g1, g2, g3, g4⟩ := tbox_cells hfin
        have hTf := hT0.beside hon (fun p hp => by have := hT0.1.base p hp; omega) (fun p hp => by have := hT0.2.1.base p hp; omega)
        refine bodyPost_ret (v := .tuple #[.agg #[.int .i64 t.kind, .int .i64 t.size, .int .i64 t.most, (.slice A9 n9 c9), (.slice B9 m9 f9)], .bool true]) (by simp [results, Try.results10, go_sem, g0, g1, g2, g3, g4]) rfl ⟨_, _, by rw [HP.out], ⟨_, _, by rw [HP.out]; exact hTf.lower (by omega)⟩, hB.trans (below_only hon (fun k hk => by omega) (by omega))⟩
    · have HP : Hid (t.drop x = (t, false)) := by show _ = _; simp only [Table.drop, hok, if_true, if_neg hi]
      obtain ⟨I, hX⟩ : ∃ I, indexOf (· == x) t.keys = I := ⟨_, rfl⟩
      have hneg : I < 0 := by omega
      have HX := Lib.hid hX
      clear hi hX hok
      go_enter Try.func10, Try.ntmps10
      go_wp2_with fail
      refine (tableOk_calls t kv sv L1 L2 _ h1 ((H1.alloc _).alloc _) h2 ((H2.alloc _).alloc _)).mono ?_
      rw [HK.out]
      rintro e w1 ⟨rfl, hb1⟩
      have hbox := ((holds_new (w := w) (o := tcells t kv sv) rfl).alloc zcells).below hb1
      have hres := (holds_new (w := w.alloc (tcells t kv sv)) (o := zcells) (k := w.heap.size + 1) (by simp)).below hb1
      have hB1 : Below w.heap.size w w1 := bnext (below_alloc' (below_alloc' (Below.refl _ _) _) _) hb1
      obtain ⟨d0, d1, d2, d3, d4⟩ := tbox_cells hbox.get
      have hr0 := hres.lt (List.mem_singleton.2 rfl)
      go_wp2_with fail
      refine (copied_calls t kv sv L1 L2 _ h1 (H1.below hB1) h2 (H2.below hB1) (by omega) (by omega)).mono ?_
      rintro e w2 ⟨k2, s2, rfl, M1, M2, o1, o2, hM1, hM2, hap, hb2⟩
      obtain ⟨A5, n5, c5, rfl⟩ := o1.row.slice
      obtain ⟨A6, n6, c6, rfl⟩ := o2.row.slice
      have hbox := hbox.below hb2
      have hres := hres.below hb2
      have hB := bnext hB1 hb2
      have hT : OwnT w1.heap.size t (.slice A5 n5 c5) (.slice A6 n6 c6) M1 M2 w2 := ⟨o1, o2, hM1, hM2, hap⟩
      have hs12 := hb2.size
      have hr1 := hres.lt (List.mem_singleton.2 rfl)
      have hTlt := hT.lt
      clear d0 d1 d2 d3 d4 hb1 hb2 o1 o2 hM1 hM2 hap
      obtain ⟨hth, hgb, hon⟩ := tput (V := w2.alloc zcells) (r := w2.heap.size) (t0 := Table.zero) (holds_new rfl).get t (.slice A5 n5 c5) (.slice A6 n6 c6)
      go_wp2_with (first
        | ((with_reducible refine gate_store (p := 6) rfl ?_); go_loud (
           refine wpList_put rfl 27 _ _ rfl w2.heap.size 0 [.int .i64 t.kind, .int .i64 t.size, .int .i64 t.most, (.slice A5 n5 c5), (.slice A6 n6 c6)] rfl rfl hth (by kernel_rfl) rfl ?_
           have hT := (hT.below (below_alloc' (Below.refl _ _) zcells)).only hon (fun p hp e => by have := hTlt p hp; omega)
           have hres := (hres.alloc zcells).only hon (fun p hp => by rw [List.mem_singleton.1 hp]; simp only; omega)
           have hbox := (hbox.alloc zcells).only hon (fun p hp => by rw [List.mem_singleton.1 hp]; simp only; omega)
           have hB := (below_alloc' hB zcells).trans (below_only hon (fun k hk => by have := hB1.size; omega) (by simp; have := hB1.size; omega))
           have s3 : w2.heap.size < ((w2.alloc zcells).setCells w2.heap.size 0 [.int .i64 t.kind, .int .i64 t.size, .int .i64 t.most, (.slice A5 n5 c5), (.slice A6 n6 c6)]).heap.size := (Holds.one hgb).lt (List.mem_singleton.2 rfl)
           generalize (w2.alloc zcells).setCells w2.heap.size 0 [.int .i64 t.kind, .int .i64 t.size, .int .i64 t.most, (.slice A5 n5 c5), (.slice A6 n6 c6)] = V at *
           clear hth hon
           have hgb := Holds.one hgb
           obtain ⟨e0, e1, e2, e3, e4⟩ := tbox_cells hgb.get))
        | (go_at_call 39; go_loud (
           refine (find_calls t (.slice A5 n5 c5) (.slice A6 n6 c6) M1 x _ hT.1.row hT.2.2.1).mono ?_
           rw [HX.out]
           rintro e w4 ⟨rfl, hb⟩
           have hT := hT.below hb
           have hres := hres.below hb
           have hbox := hbox.below hb
           have hgb := hgb.below hb
           have hB := bnext hB hb
           have s4 := hb.size
           obtain ⟨e0, e1, e2, e3, e4⟩ := tbox_cells hgb.get
           obtain ⟨d0, d1, d2, d3, d4⟩ := tbox_cells hbox.get
           obtain ⟨hth, hfin, hon⟩ := tput (t0 := Table.zero) hres.get t (.slice A5 n5 c5) (.slice A6 n6 c6)))
        | ((with_reducible refine gate_store (p := 4) rfl ?_); go_loud (refine wpList_put rfl 27 _ _ rfl (w.heap.size + 1) 0 [.int .i64 t.kind, .int .i64 t.size, .int .i64 t.most, (.slice A5 n5 c5), (.slice A6 n6 c6)] rfl rfl hth (by kernel_rfl) rfl ?_)))
      have hBs := hB.size
      generalize w4.setCells (w.heap.size + 1) 0 [.int .i64 t.kind, .int .i64 t.size, .int .i64 t.most, (.slice A5 n5 c5), (.slice A6 n6 c6)] = V9 at *
      obtain ⟨g0, g1, g2, g3, g4⟩ := tbox_cells hfin
      have hTf := hT.beside hon (fun p hp => by have := hT.1.base p hp; omega) (fun p hp => by have := hT.2.1.base p hp; omega)
      refine bodyPost_ret (v := .tuple #[.agg #[.int .i64 t.kind, .int .i64 t.size, .int .i64 t.most, (.slice A5 n5 c5), (.slice A6 n6 c6)], .bool false]) (by simp [results, Try.results10, go_sem, g0, g1, g2, g3, g4]) rfl ⟨_, _, by rw [HP.out], ⟨_, _, by rw [HP.out]; exact hTf.lower (by omega)⟩, hB.trans (below_only hon (fun k hk => by omega) (by omega))⟩
end Go.Proofs.Ytoimeebildcofaa
