/- The walks of the reference's draws of tables. -/
import Derived.Test.YtoimeebildcofaaDraws3
namespace Go.Proofs.Ytoimeebildcofaa
open Go.RowKit
/-- What a drawn table has: few keys and slots, a small size. -/
def Table.Small (t : Table) : Prop := t.keys.length ≤ 8 ∧ t.slots.length ≤ 8 ∧ 0 ≤ t.size ∧ t.size ≤ 8
theorem Table.new_small (k s m : Int) : (Table.new k s m).Small := by
  unfold Table.new
  split
  · rename_i h
    simp only [Table.shape, inB, Bool.and_eq_true, decide_eq_true_eq] at h
    split
    · refine ⟨by simp [rowKeys]; omega, by simp; omega, by simp only; omega, by simp only; omega⟩
    · exact ⟨by simp, by simp, by simp only; omega, by simp only; omega⟩
  · exact ⟨by simp [Table.zero], by simp [Table.zero], by simp [Table.zero], by simp [Table.zero]⟩
theorem Table.put_small {t : Table} (h : t.Small) (x : Int) (v : ByteArray) : (t.put x v).1.Small := by
  obtain ⟨h1, h2, h3, h4⟩ := h
  unfold Table.put
  split
  · rename_i hok
    have hg := Table.ok_iff.1 hok
    have hl := Table.lens_len hg.lens
    have hs := hg.shape
    simp only [Table.shape, inB, Bool.and_eq_true, decide_eq_true_eq] at hs
    split
    · unfold Table.put0
      split
      · exact ⟨h1, by simpa using h2, h3, h4⟩
      · split
        · exact ⟨h1, h2, h3, h4⟩
        · split
          · exact ⟨h1, h2, h3, h4⟩
          · exact ⟨by simp; omega, by simp; omega, h3, h4⟩
    · exact ⟨h1, h2, h3, h4⟩
  · exact ⟨by simp [Table.zero], by simp [Table.zero], by simp [Table.zero], by simp [Table.zero]⟩
theorem newbox' (W : World) (t : Table) (kv sv : Value) : (W.alloc zcells).there W.heap.size 0 5 ∧ Holds ((W.alloc zcells).setCells W.heap.size 0 [.int .i64 t.kind, .int .i64 t.size, .int .i64 t.most, kv, sv]) [(W.heap.size, tcells t kv sv)] ∧
    Below W.heap.size W ((W.alloc zcells).setCells W.heap.size 0 [.int .i64 t.kind, .int .i64 t.size, .int .i64 t.most, kv, sv]) ∧ W.heap.size < ((W.alloc zcells).setCells W.heap.size 0 [.int .i64 t.kind, .int .i64 t.size, .int .i64 t.most, kv, sv]).heap.size := by
  obtain ⟨h1, h2, h3⟩ := tput (t0 := Table.zero) (holds_new (w := W) (o := zcells) rfl).get t kv sv
  exact ⟨h1, Holds.one h2, (below_alloc' (Below.refl _ W) zcells).trans (below_only h3 (fun k hk => by omega) (by simp)), (Holds.one h2).lt (List.mem_singleton.2 rfl)⟩
set_option maxRecDepth 100000 in
set_option maxHeartbeats 6400000 in
theorem l20Table_calls (w : World) (g : Nat) (s : Value) (vs : List Int) (L : Blocks) (k : Nat) (R : Rd w g s vs L k) (hk : k ≤ 1099511627000) :
    Calls Try.prog 84 #[.pointer (some ⟨g, 0, none⟩)] w fun e w' => ∃ (u : Table) (kv sv : Value), e = .returned (.agg #[.int .i64 u.kind, .int .i64 u.size, .int .i64 u.most, kv, sv]) ∧ u.Small ∧ (∃ M1 M2, OwnT w.heap.size u kv sv M1 M2 w') ∧ (∃ k', k' ≤ k + 70 ∧ Rd w' g s vs L k') ∧ Only (· = g) w w' := by
  have hgw := R.lt
  have hLlt : ∀ p ∈ L, p.1 < w.heap.size := fun p hp => R.holds.lt hp
  have R := R.below (below_alloc' (Below.refl _ w) zcells)
  have Kr := holds_new (w := w) (o := zcells) rfl
  have hO : Only (· = g) w (w.alloc zcells) := (Only.refl _ w).alloc _
  go_enter Try.func84, Try.ntmps84
  go_wp2_with fail
  refine (pick_calls 2 _ g s vs L k R (by omega) (by omega)).mono ?_
  rintro e w1 ⟨⟨r, rfl, hr⟩, R, o⟩
  have hr1 : r ≤ 1 := by omega
  have Kr := Kr.only o (fun p hp e => by rw [List.mem_singleton.1 hp] at e; simp only at e; omega)
  have hO := hO.trans o
  clear o hr
  go_wp2_with fail
  refine (oneLit_calls [1, 2, 4, 8] _ g s vs L _ R (by omega) (by simp) (by simp)).mono ?_
  rintro e w2 ⟨⟨b, rfl, hb⟩, R, o⟩
  have Kr := Kr.only o (fun p hp e => by rw [List.mem_singleton.1 hp] at e; simp only at e; omega)
  have hO := hO.trans o
  clear o hb
  go_wp2_with fail
  refine (oneLit_calls [1, 2, 4, 8] _ g s vs L _ R (by omega) (by simp) (by simp)).mono ?_
  rintro e w3 ⟨⟨c, rfl, hc⟩, R, o⟩
  have Kr := Kr.only o (fun p hp e => by rw [List.mem_singleton.1 hp] at e; simp only at e; omega)
  have hO := hO.trans o
  have hw3 := Kr.lt (List.mem_singleton.2 rfl)
  clear o hc
  go_wp2_with fail
  refine (specTableNew_calls _ _ _ _).mono ?_
  have hsm := Table.new_small (1 + (r : Int)) b c
  generalize Table.new (1 + (r : Int)) b c = u at *
  rintro e w4 ⟨k4, s4, rfl, ⟨M1, M2, T⟩, hb⟩
  obtain ⟨A1, n1, c1, rfl⟩ := T.1.row.slice
  obtain ⟨A2, n2, c2, rfl⟩ := T.2.1.row.slice
  have Kr := Kr.below hb
  have R := R.below hb
  have hO := hO.then_below hb
  have T := T.lower (B' := w.heap.size + 1) (by omega)
  have hTlt := T.lt
  have hw4 := Kr.lt (List.mem_singleton.2 rfl)
  clear hb
  go_wp2_with ((with_reducible refine gate_store (p := 3) rfl ?_); go_loud (
         refine wpList_put rfl 27 _ _ rfl w4.heap.size 0 [.int .i64 u.kind, .int .i64 u.size, .int .i64 u.most, (.slice A1 n1 c1), (.slice A2 n2 c2)] rfl rfl (newbox' w4 u (.slice A1 n1 c1) (.slice A2 n2 c2)).1 (by kernel_rfl) rfl ?_
         obtain ⟨_, Kb, hb, sb⟩ := newbox' w4 u (.slice A1 n1 c1) (.slice A2 n2 c2)
         have T := T.below hb
         have Kr := Kr.below hb
         have R := R.below hb
         have hO := hO.then_below hb
         generalize (w4.alloc zcells).setCells w4.heap.size 0 [.int .i64 u.kind, .int .i64 u.size, .int .i64 u.most, (.slice A1 n1 c1), (.slice A2 n2 c2)] = w5 at *
         clear hb))
  refine (pick_calls 6 _ g s vs L _ R (by omega) (by omega)).mono ?_
  rintro e w6 ⟨⟨n, rfl, hn⟩, R, o⟩
  have hn5 : n ≤ 5 := by omega
  have T := T.only o (fun p hp e => by have := T.base' p hp; omega)
  have Kr := Kr.only o (fun p hp e => by rw [List.mem_singleton.1 hp] at e; simp only at e; omega)
  have Kb := Kb.only o (fun p hp e => by rw [List.mem_singleton.1 hp] at e; simp only at e; omega)
  have hO := hO.trans o
  have hne : ∀ p ∈ M1 ++ M2, p.1 ≠ w4.heap.size := fun p hp => by have := hTlt p hp; omega
  obtain ⟨bb, hbb⟩ : ∃ bb, bb = w4.heap.size := ⟨_, rfl⟩
  rw [← hbb] at Kb hne
  have hbw : w.heap.size < bb := by omega
  clear o hn hTlt sb
  go_wp2
  rw [← hbb]
  clear hbb hw4 hw3
  go_loopw [4, 5, 6] (fun x _ _ wr => ∃ (j k' : Nat) (u : Table) (kv sv : Value) (M1 M2 : Blocks), j ≤ 5 ∧ x = .int .i64 j ∧ k' + 12 * j ≤ k + 66 ∧ u.Small ∧ OwnT (w.heap.size + 1) u kv sv M1 M2 wr ∧ wr.heap[bb]? = some (tcells u kv sv) ∧ (∀ p ∈ M1 ++ M2, p.1 ≠ bb) ∧ Holds wr [(w.heap.size, zcells)] ∧ Rd wr g s vs L k' ∧ Only (· = g) w wr) (fun x _ _ _ => (intOf x).toNat)
  case atStart => exact ⟨n, _, u, _, _, M1, M2, hn5, rfl, by omega, hsm, T, Kb.get, hne, Kr, R, hO⟩
  case round =>
    clear Kb hsm T hne Kr R hO
    obtain ⟨j, k', u, kv, sv, M1, M2, hj, rfl, hkk, hsm, T, hS, hne, Kr, R, hO⟩ := hrel
    obtain ⟨A1, n1, c1, rfl⟩ := T.1.row.slice
    obtain ⟨A2, n2, c2, rfl⟩ := T.2.1.row.slice
    have hblt := (Holds.one hS).lt (List.mem_singleton.2 rfl)
    have hww := Kr.lt (List.mem_singleton.2 rfl)
    by_cases hj0 : j = 0
    · subst hj0
      obtain ⟨d0, d1, d2, d3, d4⟩ := tbox_cells hS
      obtain ⟨hth, hfin, hon⟩ := tput (t0 := Table.zero) Kr.get u (.slice A1 n1 c1) (.slice A2 n2 c2)
      go_wp2_with ((with_reducible refine gate_store (p := 2) rfl ?_); go_loud (refine wpList_put rfl 27 _ _ rfl w.heap.size 0 [.int .i64 u.kind, .int .i64 u.size, .int .i64 u.most, (.slice A1 n1 c1), (.slice A2 n2 c2)] rfl rfl hth (by kernel_rfl) rfl ?_))
      have hTf := (T.beside hon (fun p hp => by have := T.1.base p hp; omega) (fun p hp => by have := T.2.1.base p hp; omega)).lower (B' := w.heap.size) (by omega)
      have Rf := R.only hon (by omega) (fun p hp e => by have := hLlt p hp; omega)
      have hOf := only_setCells (S := (· = g)) [.int .i64 u.kind, .int .i64 u.size, .int .i64 u.most, (.slice A1 n1 c1), (.slice A2 n2 c2)] 0 w wr hO (.inr (Nat.le_refl _))
      obtain ⟨g0, g1, g2, g3, g4⟩ := tbox_cells hfin
      refine bodyPost_ret (v := .agg #[.int .i64 u.kind, .int .i64 u.size, .int .i64 u.most, (.slice A1 n1 c1), (.slice A2 n2 c2)]) (by simp [results, Try.results84, go_sem, g0, g1, g2, g3, g4]) rfl ⟨u, _, _, rfl, hsm, ⟨M1, M2, hTf⟩, ⟨k', by omega, Rf⟩, hOf⟩
    · have hj1 : 0 < j := by omega
      have hB := Below.refl wr.heap.size wr
      have hs0 : 0 ≤ u.size ∧ u.size ≤ 8 := ⟨hsm.2.2.1, hsm.2.2.2⟩
      go_wp2
      refine wp_region_plan [14] (.one 1 .pure (.one 4 .pure (.one 6 .pure (.one 0 .load (.one 7 .load (.both (.one 2 .act (.both (.one 3 .act (.both (.one 5 .act (.both (.one 8 .act (.both (.one 9 .act (.one 10 .pure (.one 11 .pure (.one 12 .pure (.one 13 .act (.one 14 .last (.one 15 .pure .done))))))) (.one 13 .act (.one 9 .act (.one 10 .pure (.one 11 .pure (.one 12 .pure (.one 14 .last (.one 15 .pure .done))))))))) (.one 13 .act (.one 8 .act (.one 9 .act (.one 10 .pure (.one 11 .pure (.one 12 .pure (.one 14 .last (.one 15 .pure .done)))))))))) (.one 13 .act (.one 5 .act (.one 8 .act (.one 9 .act (.one 10 .pure (.one 11 .pure (.one 12 .pure (.one 14 .last (.one 15 .pure .done))))))))))) (.one 13 .act (.one 3 .act (.one 5 .act (.one 8 .act (.one 9 .act (.one 10 .pure (.one 11 .pure (.one 12 .pure (.one 14 .last (.one 15 .pure .done)))))))))))) (.one 13 .act (.one 2 .act (.one 3 .act (.one 5 .act (.one 8 .act (.one 9 .act (.one 10 .pure (.one 11 .pure (.one 12 .pure (.one 14 .last (.one 15 .pure .done))))))))))))))))) (fun w' => ∃ q : Kept (fun w' => w'.heap[bb]? = some (tcells u (.slice A1 n1 c1) (.slice A2 n2 c2))), w' = q.w) (by kernel_rfl) (by kernel_rfl) (fun _ _ d _ _ h => by cases d <;> exact h) ?_
      simp only [Plan.pick, List.getElem?_cons_zero, List.getElem?_cons_succ]
      have hB : Below _ _ wr.drew := below_drewN' hB 1
      have q0 : ∀ q : Kept (fun w' => w'.heap[bb]? = some (tcells u (.slice A1 n1 c1) (.slice A2 n2 c2))), q.w.cell? ⟨bb, 0, none⟩ = some (.int .i64 u.kind) := fun q => (tbox_cells q.kept).1
      have q1 : ∀ q : Kept (fun w' => w'.heap[bb]? = some (tcells u (.slice A1 n1 c1) (.slice A2 n2 c2))), q.w.cell? ⟨bb, 1, none⟩ = some (.int .i64 u.size) := fun q => (tbox_cells q.kept).2.1
      have q2 : ∀ q : Kept (fun w' => w'.heap[bb]? = some (tcells u (.slice A1 n1 c1) (.slice A2 n2 c2))), q.w.cell? ⟨bb, 2, none⟩ = some (.int .i64 u.most) := fun q => (tbox_cells q.kept).2.2.1
      have q3 : ∀ q : Kept (fun w' => w'.heap[bb]? = some (tcells u (.slice A1 n1 c1) (.slice A2 n2 c2))), q.w.cell? ⟨bb, 3, none⟩ = some (.slice A1 n1 c1) := fun q => (tbox_cells q.kept).2.2.2.1
      have q4 : ∀ q : Kept (fun w' => w'.heap[bb]? = some (tcells u (.slice A1 n1 c1) (.slice A2 n2 c2))), q.w.cell? ⟨bb, 4, none⟩ = some (.slice A2 n2 c2) := fun q => (tbox_cells q.kept).2.2.2.2
      have hszc : wr.heap.size ≤ wr.drew.heap.size := Nat.le_refl _
      have hS : wr.drew.heap[bb]? = some (tcells u (.slice A1 n1 c1) (.slice A2 n2 c2)) := hS
      have T : OwnT (w.heap.size + 1) u (.slice A1 n1 c1) (.slice A2 n2 c2) M1 M2 wr.drew := T
      have Kr : Holds wr.drew [(w.heap.size, zcells)] := Kr
      have R : Rd wr.drew g s vs L k' := R.below (below_drewN' (Below.refl _ wr) 1)
      have hO : Only (· = g) w wr.drew := hO.drew
      clear hB
      generalize wr.drew = wc at *
      have hKn : Nonempty (Kept (fun w' => w'.heap[bb]? = some (tcells u (.slice A1 n1 c1) (.slice A2 n2 c2)))) := ⟨⟨_, hS⟩⟩
      refine plan_pure (fun K hK => ?_); go_simp; refine hK _ _ ?_; clear hK K
      refine plan_pure (fun K hK => ?_); go_simp; refine hK _ _ ?_; clear hK K
      refine plan_pure (fun K hK => ?_); go_simp; refine hK _ _ ?_; clear hK K
      refine plan_load (fun K hK => ?_); go_simp; refine ⟨⟨⟨_, hS⟩, rfl⟩, hK _ _ ?_⟩; clear hK K
      refine plan_load (fun K hK => ?_); go_simp; refine ⟨⟨⟨_, hS⟩, rfl⟩, hK _ _ ?_⟩; clear hK K
      refine plan_both ?_ ?_
      · refine plan_act ?_
        try clear q0 q1 q2 q3 q4
        go_wp2
        obtain ⟨Rw, Kw⟩ := row_new wc #[.int .i64 0, .int .i64 1, .int .i64 2, .int .i64 3, .int .i64 7, .int .i64 200, .int .i64 4294967295] 3 7 ([0, 1, 2, 3, 7, 200, 4294967295].map intCell) rfl (by omega) (by simp [intCell]) rfl
        have hwl : wr.heap.size ≤ wc.heap.size := hszc
        have hb := below_alloc' (Below.refl _ wc) (.cells #[.int .i64 0, .int .i64 1, .int .i64 2, .int .i64 3, .int .i64 7, .int .i64 200, .int .i64 4294967295] 3)
        have T := T.below hb
        have R := R.below hb
        have Kr := Kr.below hb
        have hO := hO.then_below hb
        have hS := ((Holds.one hS).below hb).get
        try have K13 := K13.below hb
        have hszc := Nat.le_trans hszc hb.size
        clear hb
        generalize wc.alloc (.cells #[.int .i64 0, .int .i64 1, .int .i64 2, .int .i64 3, .int .i64 7, .int .i64 200, .int .i64 4294967295] 3) = wc at *
        refine ⟨⟨⟨_, hS⟩, rfl⟩, ?_⟩
        refine plan_both ?_ ?_
        · refine plan_act ?_
          go_wp2_with fail
          refine (one_calls _ [0, 1, 2, 3, 7, 200, 4294967295] _ _ g s vs L k' R (by omega) Rw Kw (fun p hp => by rw [List.mem_singleton.1 hp]; simp only; omega) (by simp) (by simp)).mono ?_
          rintro e wc ⟨⟨z, rfl, hz⟩, R, o⟩
          clear hz Kw Rw
          (have T := T.only o (fun p hp e => by have := T.base' p hp; omega); have Kr := Kr.only o (fun p hp e => by rw [List.mem_singleton.1 hp] at e; simp only at e; omega); have hO := hO.trans o; have hS := ((Holds.one hS).only o (fun p hp e => by rw [List.mem_singleton.1 hp] at e; simp only at e; omega)).get; (try have K13 := K13.only o (fun p hp e => by rw [List.mem_singleton.1 hp] at e; simp only at e; omega)); have hszc := Nat.le_trans hszc o.size)
          clear o
          go_wp2
          refine ⟨⟨⟨_, hS⟩, rfl⟩, ?_⟩
          refine plan_both ?_ ?_
          · refine plan_act ?_
            go_wp2_with fail
            refine (l20Number_calls _ g s vs L _ R (by omega)).mono ?_
            rintro e wc ⟨⟨z2, rfl, hz2⟩, ⟨k2, hk2, R⟩, o⟩
            clear hz2
            (have T := T.only o (fun p hp e => by have := T.base' p hp; omega); have Kr := Kr.only o (fun p hp e => by rw [List.mem_singleton.1 hp] at e; simp only at e; omega); have hO := hO.trans o; have hS := ((Holds.one hS).only o (fun p hp e => by rw [List.mem_singleton.1 hp] at e; simp only at e; omega)).get; (try have K13 := K13.only o (fun p hp e => by rw [List.mem_singleton.1 hp] at e; simp only at e; omega)); have hszc := Nat.le_trans hszc o.size)
            clear o
            go_wp2
            refine ⟨⟨⟨_, hS⟩, rfl⟩, ?_⟩
            refine plan_both ?_ ?_
            · refine plan_act ?_
              go_wp2_with fail
              refine (l4Bytes_calls z2 u.size _ hs0.1 hs0.2).mono ?_
              rintro e wc ⟨⟨x, rfl, hx⟩, hb⟩
              (have T := T.below hb; have R := R.below hb; have Kr := Kr.below hb; have hO := hO.then_below hb; have hS := ((Holds.one hS).below hb).get; (try have K13 := K13.below hb); (try have Kw := Kw.below hb); (try have T9 := T9.below hb); have hszc := Nat.le_trans hszc hb.size)
              clear hb
              go_wp2
              refine ⟨⟨⟨_, hS⟩, rfl⟩, ?_⟩
              refine plan_both ?_ ?_
              · refine plan_act ?_
                go_wp2_with fail
                have hsm9 := Table.put_small hsm z x
                have hw9 : wr.heap.size ≤ wc.heap.size := hszc
                try have h13l := K13.lt (List.mem_singleton.2 rfl)
                refine (specTablePut_calls u (.slice A1 n1 c1) (.slice A2 n2 c2) M1 M2 z x wc T.1.row T.2.2.1 T.2.1.row T.2.2.2.1).mono ?_
                generalize u.put z x = pu at *
                rintro e wc ⟨k9, s9, rfl, ⟨N1, N2, T9⟩, hb⟩
                obtain ⟨A5, n5, c5, rfl⟩ := T9.1.row.slice
                obtain ⟨A6, n6, c6, rfl⟩ := T9.2.1.row.slice
                have T9b := T9.base'
                have T := T.below hb
                have R := R.below hb
                have Kr := Kr.below hb
                have hO := hO.then_below hb
                have hS := ((Holds.one hS).below hb).get
                try have K13 := K13.below hb
                try have hne13 : ∀ p ∈ N1 ++ N2, p.1 ≠ a13 := fun p hp => by have := T9b p hp; omega
                have T9 := T9.lower (B' := w.heap.size + 1) (by omega)
                have hszc := Nat.le_trans hszc hb.size
                clear hb
                go_wp2
                refine ⟨⟨⟨_, hS⟩, rfl⟩, ?_⟩
                refine plan_pure (fun K hK => ?_); go_simp; refine hK _ _ ?_; clear hK K
                refine plan_pure (fun K hK => ?_); go_simp; refine hK _ _ ?_; clear hK K
                refine plan_pure (fun K hK => ?_); go_simp; refine hK _ _ ?_; clear hK K
                refine plan_act ?_
                try clear q0 q1 q2 q3 q4
                go_wp2
                have hb := below_alloc' (Below.refl _ wc) zcells
                have K13 := holds_new (w := wc) (o := zcells) rfl
                try have hne13 : ∀ p ∈ N1 ++ N2, p.1 ≠ wc.heap.size := fun p hp => by have := T9.lt p hp; omega
                obtain ⟨a13, ha13⟩ : ∃ a, a = wc.heap.size := ⟨_, rfl⟩
                rw [← ha13] at K13 ⊢
                try rw [← ha13] at hne13
                have hw13 : wr.heap.size ≤ a13 := by omega
                clear ha13
                have T := T.below hb
                have R := R.below hb
                have Kr := Kr.below hb
                have hO := hO.then_below hb
                have hS := ((Holds.one hS).below hb).get
                try have Kw := Kw.below hb
                try have T9 := T9.below hb
                have hszc := Nat.le_trans hszc hb.size
                clear hb
                generalize wc.alloc zcells = wc at *
                refine ⟨⟨⟨_, hS⟩, rfl⟩, ?_⟩
                refine plan_last_ ?_
                obtain ⟨hth, hg5, hon⟩ := tput (t0 := Table.zero) K13.get pu.1 (.slice A5 n5 c5) (.slice A6 n6 c6)
                have hO := only_setCells (S := (· = g)) (b := a13) [.int .i64 pu.1.kind, .int .i64 pu.1.size, .int .i64 pu.1.most, (.slice A5 n5 c5), (.slice A6 n6 c6)] 0 w wc hO (.inr (by omega))
                go_wp2_with (
                  (with_reducible refine gate_store (p := 5) rfl ?_)
                  refine wpList_put rfl 27 _ _ rfl a13 0 [.int .i64 pu.1.kind, .int .i64 pu.1.size, .int .i64 pu.1.most, (.slice A5 n5 c5), (.slice A6 n6 c6)] rfl rfl hth (by kernel_rfl) rfl ?_)
                generalize wc.setCells a13 0 [.int .i64 pu.1.kind, .int .i64 pu.1.size, .int .i64 pu.1.most, (.slice A5 n5 c5), (.slice A6 n6 c6)] = wd at *
                have T9 := T9.beside hon (fun p hp => hne13 p (List.mem_append_left _ hp)) (fun p hp => hne13 p (List.mem_append_right _ hp))
                have R := R.only hon (show ¬ g = a13 by omega) (fun p hp (e : p.1 = a13) => by have := hLlt p hp; omega)
                have Kr := Kr.only hon (fun p hp (e : p.1 = a13) => by rw [List.mem_singleton.1 hp] at e; simp only at e; omega)
                have hS := ((Holds.one hS).only hon (fun p hp (e : p.1 = a13) => by rw [List.mem_singleton.1 hp] at e; simp only at e; omega)).get
                clear hon
                refine plan_pure (fun K hK => ?_); go_simp; refine hK _ _ ?_; clear hK K
                refine plan_done ?_
                obtain ⟨d0, d1, d2, d3, d4⟩ := tbox_cells hg5
                go_wp2_with (
                  (with_reducible refine gate_store (p := 3) rfl ?_)
                  go_loud (
                  refine wpList_put rfl 27 _ _ rfl bb 0 [.int .i64 pu.1.kind, .int .i64 pu.1.size, .int .i64 pu.1.most, (.slice A5 n5 c5), (.slice A6 n6 c6)] rfl rfl (tput hS pu.1 (.slice A5 n5 c5) (.slice A6 n6 c6)).1 (by kernel_rfl) rfl ?_
                  obtain ⟨_, hgb, hon⟩ := tput hS pu.1 (.slice A5 n5 c5) (.slice A6 n6 c6)
                  have hTl := T9
                  have hne9 : ∀ p ∈ N1 ++ N2, p.1 ≠ bb := fun p hp => by have := T9b p hp; omega
                  have T9 := T9.beside hon (fun p hp => hne9 p (List.mem_append_left _ hp)) (fun p hp => hne9 p (List.mem_append_right _ hp))
                  have R := R.only hon (show ¬ g = bb by omega) (fun p hp (e : p.1 = bb) => by have := hLlt p hp; omega)
                  have Kr := Kr.only hon (fun p hp (e : p.1 = bb) => by rw [List.mem_singleton.1 hp] at e; simp only at e; omega)
                  have hO := only_setCells (S := (· = g)) (b := bb) [.int .i64 pu.1.kind, .int .i64 pu.1.size, .int .i64 pu.1.most, (.slice A5 n5 c5), (.slice A6 n6 c6)] 0 w wd hO (.inr (by omega))
                  generalize wd.setCells bb 0 [.int .i64 pu.1.kind, .int .i64 pu.1.size, .int .i64 pu.1.most, (.slice A5 n5 c5), (.slice A6 n6 c6)] = wc at *
                  clear hon))
                go_roundw
                case rel => exact ⟨j - 1, _, pu.1, _, _, N1, N2, by omega, by go_num, by omega, hsm9, T9, hgb, hne9, Kr, R, hO⟩
                case measure => simp [intOf]; omega
              · refine plan_act ?_
                try clear q0 q1 q2 q3 q4
                go_wp2
                have hb := below_alloc' (Below.refl _ wc) zcells
                have K13 := holds_new (w := wc) (o := zcells) rfl
                try have hne13 : ∀ p ∈ N1 ++ N2, p.1 ≠ wc.heap.size := fun p hp => by have := T9.lt p hp; omega
                obtain ⟨a13, ha13⟩ : ∃ a, a = wc.heap.size := ⟨_, rfl⟩
                rw [← ha13] at K13 ⊢
                try rw [← ha13] at hne13
                have hw13 : wr.heap.size ≤ a13 := by omega
                clear ha13
                have T := T.below hb
                have R := R.below hb
                have Kr := Kr.below hb
                have hO := hO.then_below hb
                have hS := ((Holds.one hS).below hb).get
                try have Kw := Kw.below hb
                try have T9 := T9.below hb
                have hszc := Nat.le_trans hszc hb.size
                clear hb
                generalize wc.alloc zcells = wc at *
                refine ⟨⟨⟨_, hS⟩, rfl⟩, ?_⟩
                refine plan_act ?_
                go_wp2_with fail
                have hsm9 := Table.put_small hsm z x
                have hw9 : wr.heap.size ≤ wc.heap.size := hszc
                try have h13l := K13.lt (List.mem_singleton.2 rfl)
                refine (specTablePut_calls u (.slice A1 n1 c1) (.slice A2 n2 c2) M1 M2 z x wc T.1.row T.2.2.1 T.2.1.row T.2.2.2.1).mono ?_
                generalize u.put z x = pu at *
                rintro e wc ⟨k9, s9, rfl, ⟨N1, N2, T9⟩, hb⟩
                obtain ⟨A5, n5, c5, rfl⟩ := T9.1.row.slice
                obtain ⟨A6, n6, c6, rfl⟩ := T9.2.1.row.slice
                have T9b := T9.base'
                have T := T.below hb
                have R := R.below hb
                have Kr := Kr.below hb
                have hO := hO.then_below hb
                have hS := ((Holds.one hS).below hb).get
                try have K13 := K13.below hb
                try have hne13 : ∀ p ∈ N1 ++ N2, p.1 ≠ a13 := fun p hp => by have := T9b p hp; omega
                have T9 := T9.lower (B' := w.heap.size + 1) (by omega)
                have hszc := Nat.le_trans hszc hb.size
                clear hb
                go_wp2
                refine ⟨⟨⟨_, hS⟩, rfl⟩, ?_⟩
                refine plan_pure (fun K hK => ?_); go_simp; refine hK _ _ ?_; clear hK K
                refine plan_pure (fun K hK => ?_); go_simp; refine hK _ _ ?_; clear hK K
                refine plan_pure (fun K hK => ?_); go_simp; refine hK _ _ ?_; clear hK K
                refine plan_last_ ?_
                obtain ⟨hth, hg5, hon⟩ := tput (t0 := Table.zero) K13.get pu.1 (.slice A5 n5 c5) (.slice A6 n6 c6)
                have hO := only_setCells (S := (· = g)) (b := a13) [.int .i64 pu.1.kind, .int .i64 pu.1.size, .int .i64 pu.1.most, (.slice A5 n5 c5), (.slice A6 n6 c6)] 0 w wc hO (.inr (by omega))
                go_wp2_with (
                  (with_reducible refine gate_store (p := 5) rfl ?_)
                  refine wpList_put rfl 27 _ _ rfl a13 0 [.int .i64 pu.1.kind, .int .i64 pu.1.size, .int .i64 pu.1.most, (.slice A5 n5 c5), (.slice A6 n6 c6)] rfl rfl hth (by kernel_rfl) rfl ?_)
                generalize wc.setCells a13 0 [.int .i64 pu.1.kind, .int .i64 pu.1.size, .int .i64 pu.1.most, (.slice A5 n5 c5), (.slice A6 n6 c6)] = wd at *
                have T9 := T9.beside hon (fun p hp => hne13 p (List.mem_append_left _ hp)) (fun p hp => hne13 p (List.mem_append_right _ hp))
                have R := R.only hon (show ¬ g = a13 by omega) (fun p hp (e : p.1 = a13) => by have := hLlt p hp; omega)
                have Kr := Kr.only hon (fun p hp (e : p.1 = a13) => by rw [List.mem_singleton.1 hp] at e; simp only at e; omega)
                have hS := ((Holds.one hS).only hon (fun p hp (e : p.1 = a13) => by rw [List.mem_singleton.1 hp] at e; simp only at e; omega)).get
                clear hon
                refine plan_pure (fun K hK => ?_); go_simp; refine hK _ _ ?_; clear hK K
                refine plan_done ?_
                obtain ⟨d0, d1, d2, d3, d4⟩ := tbox_cells hg5
                go_wp2_with (
                  (with_reducible refine gate_store (p := 3) rfl ?_)
                  go_loud (
                  refine wpList_put rfl 27 _ _ rfl bb 0 [.int .i64 pu.1.kind, .int .i64 pu.1.size, .int .i64 pu.1.most, (.slice A5 n5 c5), (.slice A6 n6 c6)] rfl rfl (tput hS pu.1 (.slice A5 n5 c5) (.slice A6 n6 c6)).1 (by kernel_rfl) rfl ?_
                  obtain ⟨_, hgb, hon⟩ := tput hS pu.1 (.slice A5 n5 c5) (.slice A6 n6 c6)
                  have hTl := T9
                  have hne9 : ∀ p ∈ N1 ++ N2, p.1 ≠ bb := fun p hp => by have := T9b p hp; omega
                  have T9 := T9.beside hon (fun p hp => hne9 p (List.mem_append_left _ hp)) (fun p hp => hne9 p (List.mem_append_right _ hp))
                  have R := R.only hon (show ¬ g = bb by omega) (fun p hp (e : p.1 = bb) => by have := hLlt p hp; omega)
                  have Kr := Kr.only hon (fun p hp (e : p.1 = bb) => by rw [List.mem_singleton.1 hp] at e; simp only at e; omega)
                  have hO := only_setCells (S := (· = g)) (b := bb) [.int .i64 pu.1.kind, .int .i64 pu.1.size, .int .i64 pu.1.most, (.slice A5 n5 c5), (.slice A6 n6 c6)] 0 w wd hO (.inr (by omega))
                  generalize wd.setCells bb 0 [.int .i64 pu.1.kind, .int .i64 pu.1.size, .int .i64 pu.1.most, (.slice A5 n5 c5), (.slice A6 n6 c6)] = wc at *
                  clear hon))
                go_roundw
                case rel => exact ⟨j - 1, _, pu.1, _, _, N1, N2, by omega, by go_num, by omega, hsm9, T9, hgb, hne9, Kr, R, hO⟩
                case measure => simp [intOf]; omega
            · refine plan_act ?_
              try clear q0 q1 q2 q3 q4
              go_wp2
              have hb := below_alloc' (Below.refl _ wc) zcells
              have K13 := holds_new (w := wc) (o := zcells) rfl
              try have hne13 : ∀ p ∈ N1 ++ N2, p.1 ≠ wc.heap.size := fun p hp => by have := T9.lt p hp; omega
              obtain ⟨a13, ha13⟩ : ∃ a, a = wc.heap.size := ⟨_, rfl⟩
              rw [← ha13] at K13 ⊢
              try rw [← ha13] at hne13
              have hw13 : wr.heap.size ≤ a13 := by omega
              clear ha13
              have T := T.below hb
              have R := R.below hb
              have Kr := Kr.below hb
              have hO := hO.then_below hb
              have hS := ((Holds.one hS).below hb).get
              try have Kw := Kw.below hb
              try have T9 := T9.below hb
              have hszc := Nat.le_trans hszc hb.size
              clear hb
              generalize wc.alloc zcells = wc at *
              refine ⟨⟨⟨_, hS⟩, rfl⟩, ?_⟩
              refine plan_act ?_
              go_wp2_with fail
              refine (l4Bytes_calls z2 u.size _ hs0.1 hs0.2).mono ?_
              rintro e wc ⟨⟨x, rfl, hx⟩, hb⟩
              (have T := T.below hb; have R := R.below hb; have Kr := Kr.below hb; have hO := hO.then_below hb; have hS := ((Holds.one hS).below hb).get; (try have K13 := K13.below hb); (try have Kw := Kw.below hb); (try have T9 := T9.below hb); have hszc := Nat.le_trans hszc hb.size)
              clear hb
              go_wp2
              refine ⟨⟨⟨_, hS⟩, rfl⟩, ?_⟩
              refine plan_act ?_
              go_wp2_with fail
              have hsm9 := Table.put_small hsm z x
              have hw9 : wr.heap.size ≤ wc.heap.size := hszc
              try have h13l := K13.lt (List.mem_singleton.2 rfl)
              refine (specTablePut_calls u (.slice A1 n1 c1) (.slice A2 n2 c2) M1 M2 z x wc T.1.row T.2.2.1 T.2.1.row T.2.2.2.1).mono ?_
              generalize u.put z x = pu at *
              rintro e wc ⟨k9, s9, rfl, ⟨N1, N2, T9⟩, hb⟩
              obtain ⟨A5, n5, c5, rfl⟩ := T9.1.row.slice
              obtain ⟨A6, n6, c6, rfl⟩ := T9.2.1.row.slice
              have T9b := T9.base'
              have T := T.below hb
              have R := R.below hb
              have Kr := Kr.below hb
              have hO := hO.then_below hb
              have hS := ((Holds.one hS).below hb).get
              try have K13 := K13.below hb
              try have hne13 : ∀ p ∈ N1 ++ N2, p.1 ≠ a13 := fun p hp => by have := T9b p hp; omega
              have T9 := T9.lower (B' := w.heap.size + 1) (by omega)
              have hszc := Nat.le_trans hszc hb.size
              clear hb
              go_wp2
              refine ⟨⟨⟨_, hS⟩, rfl⟩, ?_⟩
              refine plan_pure (fun K hK => ?_); go_simp; refine hK _ _ ?_; clear hK K
              refine plan_pure (fun K hK => ?_); go_simp; refine hK _ _ ?_; clear hK K
              refine plan_pure (fun K hK => ?_); go_simp; refine hK _ _ ?_; clear hK K
              refine plan_last_ ?_
              obtain ⟨hth, hg5, hon⟩ := tput (t0 := Table.zero) K13.get pu.1 (.slice A5 n5 c5) (.slice A6 n6 c6)
              have hO := only_setCells (S := (· = g)) (b := a13) [.int .i64 pu.1.kind, .int .i64 pu.1.size, .int .i64 pu.1.most, (.slice A5 n5 c5), (.slice A6 n6 c6)] 0 w wc hO (.inr (by omega))
              go_wp2_with (
                (with_reducible refine gate_store (p := 5) rfl ?_)
                refine wpList_put rfl 27 _ _ rfl a13 0 [.int .i64 pu.1.kind, .int .i64 pu.1.size, .int .i64 pu.1.most, (.slice A5 n5 c5), (.slice A6 n6 c6)] rfl rfl hth (by kernel_rfl) rfl ?_)
              generalize wc.setCells a13 0 [.int .i64 pu.1.kind, .int .i64 pu.1.size, .int .i64 pu.1.most, (.slice A5 n5 c5), (.slice A6 n6 c6)] = wd at *
              have T9 := T9.beside hon (fun p hp => hne13 p (List.mem_append_left _ hp)) (fun p hp => hne13 p (List.mem_append_right _ hp))
              have R := R.only hon (show ¬ g = a13 by omega) (fun p hp (e : p.1 = a13) => by have := hLlt p hp; omega)
              have Kr := Kr.only hon (fun p hp (e : p.1 = a13) => by rw [List.mem_singleton.1 hp] at e; simp only at e; omega)
              have hS := ((Holds.one hS).only hon (fun p hp (e : p.1 = a13) => by rw [List.mem_singleton.1 hp] at e; simp only at e; omega)).get
              clear hon
              refine plan_pure (fun K hK => ?_); go_simp; refine hK _ _ ?_; clear hK K
              refine plan_done ?_
              obtain ⟨d0, d1, d2, d3, d4⟩ := tbox_cells hg5
              go_wp2_with (
                (with_reducible refine gate_store (p := 3) rfl ?_)
                go_loud (
                refine wpList_put rfl 27 _ _ rfl bb 0 [.int .i64 pu.1.kind, .int .i64 pu.1.size, .int .i64 pu.1.most, (.slice A5 n5 c5), (.slice A6 n6 c6)] rfl rfl (tput hS pu.1 (.slice A5 n5 c5) (.slice A6 n6 c6)).1 (by kernel_rfl) rfl ?_
                obtain ⟨_, hgb, hon⟩ := tput hS pu.1 (.slice A5 n5 c5) (.slice A6 n6 c6)
                have hTl := T9
                have hne9 : ∀ p ∈ N1 ++ N2, p.1 ≠ bb := fun p hp => by have := T9b p hp; omega
                have T9 := T9.beside hon (fun p hp => hne9 p (List.mem_append_left _ hp)) (fun p hp => hne9 p (List.mem_append_right _ hp))
                have R := R.only hon (show ¬ g = bb by omega) (fun p hp (e : p.1 = bb) => by have := hLlt p hp; omega)
                have Kr := Kr.only hon (fun p hp (e : p.1 = bb) => by rw [List.mem_singleton.1 hp] at e; simp only at e; omega)
                have hO := only_setCells (S := (· = g)) (b := bb) [.int .i64 pu.1.kind, .int .i64 pu.1.size, .int .i64 pu.1.most, (.slice A5 n5 c5), (.slice A6 n6 c6)] 0 w wd hO (.inr (by omega))
                generalize wd.setCells bb 0 [.int .i64 pu.1.kind, .int .i64 pu.1.size, .int .i64 pu.1.most, (.slice A5 n5 c5), (.slice A6 n6 c6)] = wc at *
                clear hon))
              go_roundw
              case rel => exact ⟨j - 1, _, pu.1, _, _, N1, N2, by omega, by go_num, by omega, hsm9, T9, hgb, hne9, Kr, R, hO⟩
              case measure => simp [intOf]; omega
          · refine plan_act ?_
            try clear q0 q1 q2 q3 q4
            go_wp2
            have hb := below_alloc' (Below.refl _ wc) zcells
            have K13 := holds_new (w := wc) (o := zcells) rfl
            try have hne13 : ∀ p ∈ N1 ++ N2, p.1 ≠ wc.heap.size := fun p hp => by have := T9.lt p hp; omega
            obtain ⟨a13, ha13⟩ : ∃ a, a = wc.heap.size := ⟨_, rfl⟩
            rw [← ha13] at K13 ⊢
            try rw [← ha13] at hne13
            have hw13 : wr.heap.size ≤ a13 := by omega
            clear ha13
            have T := T.below hb
            have R := R.below hb
            have Kr := Kr.below hb
            have hO := hO.then_below hb
            have hS := ((Holds.one hS).below hb).get
            try have Kw := Kw.below hb
            try have T9 := T9.below hb
            have hszc := Nat.le_trans hszc hb.size
            clear hb
            generalize wc.alloc zcells = wc at *
            refine ⟨⟨⟨_, hS⟩, rfl⟩, ?_⟩
            refine plan_act ?_
            go_wp2_with fail
            refine (l20Number_calls _ g s vs L _ R (by omega)).mono ?_
            rintro e wc ⟨⟨z2, rfl, hz2⟩, ⟨k2, hk2, R⟩, o⟩
            clear hz2
            (have T := T.only o (fun p hp e => by have := T.base' p hp; omega); have Kr := Kr.only o (fun p hp e => by rw [List.mem_singleton.1 hp] at e; simp only at e; omega); have hO := hO.trans o; have hS := ((Holds.one hS).only o (fun p hp e => by rw [List.mem_singleton.1 hp] at e; simp only at e; omega)).get; (try have K13 := K13.only o (fun p hp e => by rw [List.mem_singleton.1 hp] at e; simp only at e; omega)); have hszc := Nat.le_trans hszc o.size)
            clear o
            go_wp2
            refine ⟨⟨⟨_, hS⟩, rfl⟩, ?_⟩
            refine plan_act ?_
            go_wp2_with fail
            refine (l4Bytes_calls z2 u.size _ hs0.1 hs0.2).mono ?_
            rintro e wc ⟨⟨x, rfl, hx⟩, hb⟩
            (have T := T.below hb; have R := R.below hb; have Kr := Kr.below hb; have hO := hO.then_below hb; have hS := ((Holds.one hS).below hb).get; (try have K13 := K13.below hb); (try have Kw := Kw.below hb); (try have T9 := T9.below hb); have hszc := Nat.le_trans hszc hb.size)
            clear hb
            go_wp2
            refine ⟨⟨⟨_, hS⟩, rfl⟩, ?_⟩
            refine plan_act ?_
            go_wp2_with fail
            have hsm9 := Table.put_small hsm z x
            have hw9 : wr.heap.size ≤ wc.heap.size := hszc
            try have h13l := K13.lt (List.mem_singleton.2 rfl)
            refine (specTablePut_calls u (.slice A1 n1 c1) (.slice A2 n2 c2) M1 M2 z x wc T.1.row T.2.2.1 T.2.1.row T.2.2.2.1).mono ?_
            generalize u.put z x = pu at *
            rintro e wc ⟨k9, s9, rfl, ⟨N1, N2, T9⟩, hb⟩
            obtain ⟨A5, n5, c5, rfl⟩ := T9.1.row.slice
            obtain ⟨A6, n6, c6, rfl⟩ := T9.2.1.row.slice
            have T9b := T9.base'
            have T := T.below hb
            have R := R.below hb
            have Kr := Kr.below hb
            have hO := hO.then_below hb
            have hS := ((Holds.one hS).below hb).get
            try have K13 := K13.below hb
            try have hne13 : ∀ p ∈ N1 ++ N2, p.1 ≠ a13 := fun p hp => by have := T9b p hp; omega
            have T9 := T9.lower (B' := w.heap.size + 1) (by omega)
            have hszc := Nat.le_trans hszc hb.size
            clear hb
            go_wp2
            refine ⟨⟨⟨_, hS⟩, rfl⟩, ?_⟩
            refine plan_pure (fun K hK => ?_); go_simp; refine hK _ _ ?_; clear hK K
            refine plan_pure (fun K hK => ?_); go_simp; refine hK _ _ ?_; clear hK K
            refine plan_pure (fun K hK => ?_); go_simp; refine hK _ _ ?_; clear hK K
            refine plan_last_ ?_
            obtain ⟨hth, hg5, hon⟩ := tput (t0 := Table.zero) K13.get pu.1 (.slice A5 n5 c5) (.slice A6 n6 c6)
            have hO := only_setCells (S := (· = g)) (b := a13) [.int .i64 pu.1.kind, .int .i64 pu.1.size, .int .i64 pu.1.most, (.slice A5 n5 c5), (.slice A6 n6 c6)] 0 w wc hO (.inr (by omega))
            go_wp2_with (
              (with_reducible refine gate_store (p := 5) rfl ?_)
              refine wpList_put rfl 27 _ _ rfl a13 0 [.int .i64 pu.1.kind, .int .i64 pu.1.size, .int .i64 pu.1.most, (.slice A5 n5 c5), (.slice A6 n6 c6)] rfl rfl hth (by kernel_rfl) rfl ?_)
            generalize wc.setCells a13 0 [.int .i64 pu.1.kind, .int .i64 pu.1.size, .int .i64 pu.1.most, (.slice A5 n5 c5), (.slice A6 n6 c6)] = wd at *
            have T9 := T9.beside hon (fun p hp => hne13 p (List.mem_append_left _ hp)) (fun p hp => hne13 p (List.mem_append_right _ hp))
            have R := R.only hon (show ¬ g = a13 by omega) (fun p hp (e : p.1 = a13) => by have := hLlt p hp; omega)
            have Kr := Kr.only hon (fun p hp (e : p.1 = a13) => by rw [List.mem_singleton.1 hp] at e; simp only at e; omega)
            have hS := ((Holds.one hS).only hon (fun p hp (e : p.1 = a13) => by rw [List.mem_singleton.1 hp] at e; simp only at e; omega)).get
            clear hon
            refine plan_pure (fun K hK => ?_); go_simp; refine hK _ _ ?_; clear hK K
            refine plan_done ?_
            obtain ⟨d0, d1, d2, d3, d4⟩ := tbox_cells hg5
            go_wp2_with (
              (with_reducible refine gate_store (p := 3) rfl ?_)
              go_loud (
              refine wpList_put rfl 27 _ _ rfl bb 0 [.int .i64 pu.1.kind, .int .i64 pu.1.size, .int .i64 pu.1.most, (.slice A5 n5 c5), (.slice A6 n6 c6)] rfl rfl (tput hS pu.1 (.slice A5 n5 c5) (.slice A6 n6 c6)).1 (by kernel_rfl) rfl ?_
              obtain ⟨_, hgb, hon⟩ := tput hS pu.1 (.slice A5 n5 c5) (.slice A6 n6 c6)
              have hTl := T9
              have hne9 : ∀ p ∈ N1 ++ N2, p.1 ≠ bb := fun p hp => by have := T9b p hp; omega
              have T9 := T9.beside hon (fun p hp => hne9 p (List.mem_append_left _ hp)) (fun p hp => hne9 p (List.mem_append_right _ hp))
              have R := R.only hon (show ¬ g = bb by omega) (fun p hp (e : p.1 = bb) => by have := hLlt p hp; omega)
              have Kr := Kr.only hon (fun p hp (e : p.1 = bb) => by rw [List.mem_singleton.1 hp] at e; simp only at e; omega)
              have hO := only_setCells (S := (· = g)) (b := bb) [.int .i64 pu.1.kind, .int .i64 pu.1.size, .int .i64 pu.1.most, (.slice A5 n5 c5), (.slice A6 n6 c6)] 0 w wd hO (.inr (by omega))
              generalize wd.setCells bb 0 [.int .i64 pu.1.kind, .int .i64 pu.1.size, .int .i64 pu.1.most, (.slice A5 n5 c5), (.slice A6 n6 c6)] = wc at *
              clear hon))
            go_roundw
            case rel => exact ⟨j - 1, _, pu.1, _, _, N1, N2, by omega, by go_num, by omega, hsm9, T9, hgb, hne9, Kr, R, hO⟩
            case measure => simp [intOf]; omega
        · refine plan_act ?_
          try clear q0 q1 q2 q3 q4
          go_wp2
          have hb := below_alloc' (Below.refl _ wc) zcells
          have K13 := holds_new (w := wc) (o := zcells) rfl
          try have hne13 : ∀ p ∈ N1 ++ N2, p.1 ≠ wc.heap.size := fun p hp => by have := T9.lt p hp; omega
          obtain ⟨a13, ha13⟩ : ∃ a, a = wc.heap.size := ⟨_, rfl⟩
          rw [← ha13] at K13 ⊢
          try rw [← ha13] at hne13
          have hw13 : wr.heap.size ≤ a13 := by omega
          clear ha13
          have T := T.below hb
          have R := R.below hb
          have Kr := Kr.below hb
          have hO := hO.then_below hb
          have hS := ((Holds.one hS).below hb).get
          try have Kw := Kw.below hb
          try have T9 := T9.below hb
          have hszc := Nat.le_trans hszc hb.size
          clear hb
          generalize wc.alloc zcells = wc at *
          refine ⟨⟨⟨_, hS⟩, rfl⟩, ?_⟩
          refine plan_act ?_
          go_wp2_with fail
          refine (one_calls _ [0, 1, 2, 3, 7, 200, 4294967295] _ _ g s vs L k' R (by omega) Rw Kw (fun p hp => by rw [List.mem_singleton.1 hp]; simp only; omega) (by simp) (by simp)).mono ?_
          rintro e wc ⟨⟨z, rfl, hz⟩, R, o⟩
          clear hz Kw Rw
          (have T := T.only o (fun p hp e => by have := T.base' p hp; omega); have Kr := Kr.only o (fun p hp e => by rw [List.mem_singleton.1 hp] at e; simp only at e; omega); have hO := hO.trans o; have hS := ((Holds.one hS).only o (fun p hp e => by rw [List.mem_singleton.1 hp] at e; simp only at e; omega)).get; (try have K13 := K13.only o (fun p hp e => by rw [List.mem_singleton.1 hp] at e; simp only at e; omega)); have hszc := Nat.le_trans hszc o.size)
          clear o
          go_wp2
          refine ⟨⟨⟨_, hS⟩, rfl⟩, ?_⟩
          refine plan_act ?_
          go_wp2_with fail
          refine (l20Number_calls _ g s vs L _ R (by omega)).mono ?_
          rintro e wc ⟨⟨z2, rfl, hz2⟩, ⟨k2, hk2, R⟩, o⟩
          clear hz2
          (have T := T.only o (fun p hp e => by have := T.base' p hp; omega); have Kr := Kr.only o (fun p hp e => by rw [List.mem_singleton.1 hp] at e; simp only at e; omega); have hO := hO.trans o; have hS := ((Holds.one hS).only o (fun p hp e => by rw [List.mem_singleton.1 hp] at e; simp only at e; omega)).get; (try have K13 := K13.only o (fun p hp e => by rw [List.mem_singleton.1 hp] at e; simp only at e; omega)); have hszc := Nat.le_trans hszc o.size)
          clear o
          go_wp2
          refine ⟨⟨⟨_, hS⟩, rfl⟩, ?_⟩
          refine plan_act ?_
          go_wp2_with fail
          refine (l4Bytes_calls z2 u.size _ hs0.1 hs0.2).mono ?_
          rintro e wc ⟨⟨x, rfl, hx⟩, hb⟩
          (have T := T.below hb; have R := R.below hb; have Kr := Kr.below hb; have hO := hO.then_below hb; have hS := ((Holds.one hS).below hb).get; (try have K13 := K13.below hb); (try have Kw := Kw.below hb); (try have T9 := T9.below hb); have hszc := Nat.le_trans hszc hb.size)
          clear hb
          go_wp2
          refine ⟨⟨⟨_, hS⟩, rfl⟩, ?_⟩
          refine plan_act ?_
          go_wp2_with fail
          have hsm9 := Table.put_small hsm z x
          have hw9 : wr.heap.size ≤ wc.heap.size := hszc
          try have h13l := K13.lt (List.mem_singleton.2 rfl)
          refine (specTablePut_calls u (.slice A1 n1 c1) (.slice A2 n2 c2) M1 M2 z x wc T.1.row T.2.2.1 T.2.1.row T.2.2.2.1).mono ?_
          generalize u.put z x = pu at *
          rintro e wc ⟨k9, s9, rfl, ⟨N1, N2, T9⟩, hb⟩
          obtain ⟨A5, n5, c5, rfl⟩ := T9.1.row.slice
          obtain ⟨A6, n6, c6, rfl⟩ := T9.2.1.row.slice
          have T9b := T9.base'
          have T := T.below hb
          have R := R.below hb
          have Kr := Kr.below hb
          have hO := hO.then_below hb
          have hS := ((Holds.one hS).below hb).get
          try have K13 := K13.below hb
          try have hne13 : ∀ p ∈ N1 ++ N2, p.1 ≠ a13 := fun p hp => by have := T9b p hp; omega
          have T9 := T9.lower (B' := w.heap.size + 1) (by omega)
          have hszc := Nat.le_trans hszc hb.size
          clear hb
          go_wp2
          refine ⟨⟨⟨_, hS⟩, rfl⟩, ?_⟩
          refine plan_pure (fun K hK => ?_); go_simp; refine hK _ _ ?_; clear hK K
          refine plan_pure (fun K hK => ?_); go_simp; refine hK _ _ ?_; clear hK K
          refine plan_pure (fun K hK => ?_); go_simp; refine hK _ _ ?_; clear hK K
          refine plan_last_ ?_
          obtain ⟨hth, hg5, hon⟩ := tput (t0 := Table.zero) K13.get pu.1 (.slice A5 n5 c5) (.slice A6 n6 c6)
          have hO := only_setCells (S := (· = g)) (b := a13) [.int .i64 pu.1.kind, .int .i64 pu.1.size, .int .i64 pu.1.most, (.slice A5 n5 c5), (.slice A6 n6 c6)] 0 w wc hO (.inr (by omega))
          go_wp2_with (
            (with_reducible refine gate_store (p := 5) rfl ?_)
            refine wpList_put rfl 27 _ _ rfl a13 0 [.int .i64 pu.1.kind, .int .i64 pu.1.size, .int .i64 pu.1.most, (.slice A5 n5 c5), (.slice A6 n6 c6)] rfl rfl hth (by kernel_rfl) rfl ?_)
          generalize wc.setCells a13 0 [.int .i64 pu.1.kind, .int .i64 pu.1.size, .int .i64 pu.1.most, (.slice A5 n5 c5), (.slice A6 n6 c6)] = wd at *
          have T9 := T9.beside hon (fun p hp => hne13 p (List.mem_append_left _ hp)) (fun p hp => hne13 p (List.mem_append_right _ hp))
          have R := R.only hon (show ¬ g = a13 by omega) (fun p hp (e : p.1 = a13) => by have := hLlt p hp; omega)
          have Kr := Kr.only hon (fun p hp (e : p.1 = a13) => by rw [List.mem_singleton.1 hp] at e; simp only at e; omega)
          have hS := ((Holds.one hS).only hon (fun p hp (e : p.1 = a13) => by rw [List.mem_singleton.1 hp] at e; simp only at e; omega)).get
          clear hon
          refine plan_pure (fun K hK => ?_); go_simp; refine hK _ _ ?_; clear hK K
          refine plan_done ?_
          obtain ⟨d0, d1, d2, d3, d4⟩ := tbox_cells hg5
          go_wp2_with (
            (with_reducible refine gate_store (p := 3) rfl ?_)
            go_loud (
            refine wpList_put rfl 27 _ _ rfl bb 0 [.int .i64 pu.1.kind, .int .i64 pu.1.size, .int .i64 pu.1.most, (.slice A5 n5 c5), (.slice A6 n6 c6)] rfl rfl (tput hS pu.1 (.slice A5 n5 c5) (.slice A6 n6 c6)).1 (by kernel_rfl) rfl ?_
            obtain ⟨_, hgb, hon⟩ := tput hS pu.1 (.slice A5 n5 c5) (.slice A6 n6 c6)
            have hTl := T9
            have hne9 : ∀ p ∈ N1 ++ N2, p.1 ≠ bb := fun p hp => by have := T9b p hp; omega
            have T9 := T9.beside hon (fun p hp => hne9 p (List.mem_append_left _ hp)) (fun p hp => hne9 p (List.mem_append_right _ hp))
            have R := R.only hon (show ¬ g = bb by omega) (fun p hp (e : p.1 = bb) => by have := hLlt p hp; omega)
            have Kr := Kr.only hon (fun p hp (e : p.1 = bb) => by rw [List.mem_singleton.1 hp] at e; simp only at e; omega)
            have hO := only_setCells (S := (· = g)) (b := bb) [.int .i64 pu.1.kind, .int .i64 pu.1.size, .int .i64 pu.1.most, (.slice A5 n5 c5), (.slice A6 n6 c6)] 0 w wd hO (.inr (by omega))
            generalize wd.setCells bb 0 [.int .i64 pu.1.kind, .int .i64 pu.1.size, .int .i64 pu.1.most, (.slice A5 n5 c5), (.slice A6 n6 c6)] = wc at *
            clear hon))
          go_roundw
          case rel => exact ⟨j - 1, _, pu.1, _, _, N1, N2, by omega, by go_num, by omega, hsm9, T9, hgb, hne9, Kr, R, hO⟩
          case measure => simp [intOf]; omega
      · refine plan_act ?_
        try clear q0 q1 q2 q3 q4
        go_wp2
        have hb := below_alloc' (Below.refl _ wc) zcells
        have K13 := holds_new (w := wc) (o := zcells) rfl
        try have hne13 : ∀ p ∈ N1 ++ N2, p.1 ≠ wc.heap.size := fun p hp => by have := T9.lt p hp; omega
        obtain ⟨a13, ha13⟩ : ∃ a, a = wc.heap.size := ⟨_, rfl⟩
        rw [← ha13] at K13 ⊢
        try rw [← ha13] at hne13
        have hw13 : wr.heap.size ≤ a13 := by omega
        clear ha13
        have T := T.below hb
        have R := R.below hb
        have Kr := Kr.below hb
        have hO := hO.then_below hb
        have hS := ((Holds.one hS).below hb).get
        try have Kw := Kw.below hb
        try have T9 := T9.below hb
        have hszc := Nat.le_trans hszc hb.size
        clear hb
        generalize wc.alloc zcells = wc at *
        refine ⟨⟨⟨_, hS⟩, rfl⟩, ?_⟩
        refine plan_act ?_
        try clear q0 q1 q2 q3 q4
        go_wp2
        obtain ⟨Rw, Kw⟩ := row_new wc #[.int .i64 0, .int .i64 1, .int .i64 2, .int .i64 3, .int .i64 7, .int .i64 200, .int .i64 4294967295] 3 7 ([0, 1, 2, 3, 7, 200, 4294967295].map intCell) rfl (by omega) (by simp [intCell]) rfl
        have hwl : wr.heap.size ≤ wc.heap.size := hszc
        have hb := below_alloc' (Below.refl _ wc) (.cells #[.int .i64 0, .int .i64 1, .int .i64 2, .int .i64 3, .int .i64 7, .int .i64 200, .int .i64 4294967295] 3)
        have T := T.below hb
        have R := R.below hb
        have Kr := Kr.below hb
        have hO := hO.then_below hb
        have hS := ((Holds.one hS).below hb).get
        try have K13 := K13.below hb
        have hszc := Nat.le_trans hszc hb.size
        clear hb
        generalize wc.alloc (.cells #[.int .i64 0, .int .i64 1, .int .i64 2, .int .i64 3, .int .i64 7, .int .i64 200, .int .i64 4294967295] 3) = wc at *
        refine ⟨⟨⟨_, hS⟩, rfl⟩, ?_⟩
        refine plan_act ?_
        go_wp2_with fail
        refine (one_calls _ [0, 1, 2, 3, 7, 200, 4294967295] _ _ g s vs L k' R (by omega) Rw Kw (fun p hp => by rw [List.mem_singleton.1 hp]; simp only; omega) (by simp) (by simp)).mono ?_
        rintro e wc ⟨⟨z, rfl, hz⟩, R, o⟩
        clear hz Kw Rw
        (have T := T.only o (fun p hp e => by have := T.base' p hp; omega); have Kr := Kr.only o (fun p hp e => by rw [List.mem_singleton.1 hp] at e; simp only at e; omega); have hO := hO.trans o; have hS := ((Holds.one hS).only o (fun p hp e => by rw [List.mem_singleton.1 hp] at e; simp only at e; omega)).get; (try have K13 := K13.only o (fun p hp e => by rw [List.mem_singleton.1 hp] at e; simp only at e; omega)); have hszc := Nat.le_trans hszc o.size)
        clear o
        go_wp2
        refine ⟨⟨⟨_, hS⟩, rfl⟩, ?_⟩
        refine plan_act ?_
        go_wp2_with fail
        refine (l20Number_calls _ g s vs L _ R (by omega)).mono ?_
        rintro e wc ⟨⟨z2, rfl, hz2⟩, ⟨k2, hk2, R⟩, o⟩
        clear hz2
        (have T := T.only o (fun p hp e => by have := T.base' p hp; omega); have Kr := Kr.only o (fun p hp e => by rw [List.mem_singleton.1 hp] at e; simp only at e; omega); have hO := hO.trans o; have hS := ((Holds.one hS).only o (fun p hp e => by rw [List.mem_singleton.1 hp] at e; simp only at e; omega)).get; (try have K13 := K13.only o (fun p hp e => by rw [List.mem_singleton.1 hp] at e; simp only at e; omega)); have hszc := Nat.le_trans hszc o.size)
        clear o
        go_wp2
        refine ⟨⟨⟨_, hS⟩, rfl⟩, ?_⟩
        refine plan_act ?_
        go_wp2_with fail
        refine (l4Bytes_calls z2 u.size _ hs0.1 hs0.2).mono ?_
        rintro e wc ⟨⟨x, rfl, hx⟩, hb⟩
        (have T := T.below hb; have R := R.below hb; have Kr := Kr.below hb; have hO := hO.then_below hb; have hS := ((Holds.one hS).below hb).get; (try have K13 := K13.below hb); (try have Kw := Kw.below hb); (try have T9 := T9.below hb); have hszc := Nat.le_trans hszc hb.size)
        clear hb
        go_wp2
        refine ⟨⟨⟨_, hS⟩, rfl⟩, ?_⟩
        refine plan_act ?_
        go_wp2_with fail
        have hsm9 := Table.put_small hsm z x
        have hw9 : wr.heap.size ≤ wc.heap.size := hszc
        try have h13l := K13.lt (List.mem_singleton.2 rfl)
        refine (specTablePut_calls u (.slice A1 n1 c1) (.slice A2 n2 c2) M1 M2 z x wc T.1.row T.2.2.1 T.2.1.row T.2.2.2.1).mono ?_
        generalize u.put z x = pu at *
        rintro e wc ⟨k9, s9, rfl, ⟨N1, N2, T9⟩, hb⟩
        obtain ⟨A5, n5, c5, rfl⟩ := T9.1.row.slice
        obtain ⟨A6, n6, c6, rfl⟩ := T9.2.1.row.slice
        have T9b := T9.base'
        have T := T.below hb
        have R := R.below hb
        have Kr := Kr.below hb
        have hO := hO.then_below hb
        have hS := ((Holds.one hS).below hb).get
        try have K13 := K13.below hb
        try have hne13 : ∀ p ∈ N1 ++ N2, p.1 ≠ a13 := fun p hp => by have := T9b p hp; omega
        have T9 := T9.lower (B' := w.heap.size + 1) (by omega)
        have hszc := Nat.le_trans hszc hb.size
        clear hb
        go_wp2
        refine ⟨⟨⟨_, hS⟩, rfl⟩, ?_⟩
        refine plan_pure (fun K hK => ?_); go_simp; refine hK _ _ ?_; clear hK K
        refine plan_pure (fun K hK => ?_); go_simp; refine hK _ _ ?_; clear hK K
        refine plan_pure (fun K hK => ?_); go_simp; refine hK _ _ ?_; clear hK K
        refine plan_last_ ?_
        obtain ⟨hth, hg5, hon⟩ := tput (t0 := Table.zero) K13.get pu.1 (.slice A5 n5 c5) (.slice A6 n6 c6)
        have hO := only_setCells (S := (· = g)) (b := a13) [.int .i64 pu.1.kind, .int .i64 pu.1.size, .int .i64 pu.1.most, (.slice A5 n5 c5), (.slice A6 n6 c6)] 0 w wc hO (.inr (by omega))
        go_wp2_with (
          (with_reducible refine gate_store (p := 5) rfl ?_)
          refine wpList_put rfl 27 _ _ rfl a13 0 [.int .i64 pu.1.kind, .int .i64 pu.1.size, .int .i64 pu.1.most, (.slice A5 n5 c5), (.slice A6 n6 c6)] rfl rfl hth (by kernel_rfl) rfl ?_)
        generalize wc.setCells a13 0 [.int .i64 pu.1.kind, .int .i64 pu.1.size, .int .i64 pu.1.most, (.slice A5 n5 c5), (.slice A6 n6 c6)] = wd at *
        have T9 := T9.beside hon (fun p hp => hne13 p (List.mem_append_left _ hp)) (fun p hp => hne13 p (List.mem_append_right _ hp))
        have R := R.only hon (show ¬ g = a13 by omega) (fun p hp (e : p.1 = a13) => by have := hLlt p hp; omega)
        have Kr := Kr.only hon (fun p hp (e : p.1 = a13) => by rw [List.mem_singleton.1 hp] at e; simp only at e; omega)
        have hS := ((Holds.one hS).only hon (fun p hp (e : p.1 = a13) => by rw [List.mem_singleton.1 hp] at e; simp only at e; omega)).get
        clear hon
        refine plan_pure (fun K hK => ?_); go_simp; refine hK _ _ ?_; clear hK K
        refine plan_done ?_
        obtain ⟨d0, d1, d2, d3, d4⟩ := tbox_cells hg5
        go_wp2_with (
          (with_reducible refine gate_store (p := 3) rfl ?_)
          go_loud (
          refine wpList_put rfl 27 _ _ rfl bb 0 [.int .i64 pu.1.kind, .int .i64 pu.1.size, .int .i64 pu.1.most, (.slice A5 n5 c5), (.slice A6 n6 c6)] rfl rfl (tput hS pu.1 (.slice A5 n5 c5) (.slice A6 n6 c6)).1 (by kernel_rfl) rfl ?_
          obtain ⟨_, hgb, hon⟩ := tput hS pu.1 (.slice A5 n5 c5) (.slice A6 n6 c6)
          have hTl := T9
          have hne9 : ∀ p ∈ N1 ++ N2, p.1 ≠ bb := fun p hp => by have := T9b p hp; omega
          have T9 := T9.beside hon (fun p hp => hne9 p (List.mem_append_left _ hp)) (fun p hp => hne9 p (List.mem_append_right _ hp))
          have R := R.only hon (show ¬ g = bb by omega) (fun p hp (e : p.1 = bb) => by have := hLlt p hp; omega)
          have Kr := Kr.only hon (fun p hp (e : p.1 = bb) => by rw [List.mem_singleton.1 hp] at e; simp only at e; omega)
          have hO := only_setCells (S := (· = g)) (b := bb) [.int .i64 pu.1.kind, .int .i64 pu.1.size, .int .i64 pu.1.most, (.slice A5 n5 c5), (.slice A6 n6 c6)] 0 w wd hO (.inr (by omega))
          generalize wd.setCells bb 0 [.int .i64 pu.1.kind, .int .i64 pu.1.size, .int .i64 pu.1.most, (.slice A5 n5 c5), (.slice A6 n6 c6)] = wc at *
          clear hon))
        go_roundw
        case rel => exact ⟨j - 1, _, pu.1, _, _, N1, N2, by omega, by go_num, by omega, hsm9, T9, hgb, hne9, Kr, R, hO⟩
        case measure => simp [intOf]; omega
end Go.Proofs.Ytoimeebildcofaa
