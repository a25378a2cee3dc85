/- The walk of the program's put into a table, in place. -/
import Derived.Test.YtoimeebildcofaaWTab6
namespace Go.Proofs.Ytoimeebildcofaa
open Go.RowKit
/-- What a put leaves, whatever is put. -/
def Table.put1 (t : Table) (x : Int) (v : ByteArray) : Table × Int := if t.puts x v then t.put0 x v else (t, 1)
/-- A table of the call's own, its cells in block g. -/
def InT (B g : Nat) (t : Table) (w : World) : Prop := ∃ kv sv M1 M2, OwnT B t kv sv M1 M2 w ∧ w.heap[g]? = some (tcells t kv sv) ∧ ∀ p ∈ M1 ++ M2, p.1 ≠ g
theorem OwnT.only {B : Nat} {S : Nat → Prop} {t : Table} {kv sv : Value} {M1 M2 : Blocks} {w w' : World} (h : OwnT B t kv sv M1 M2 w) (ho : Only S w w') (hS : ∀ p ∈ M1 ++ M2, ¬ S p.1) : OwnT B t kv sv M1 M2 w' :=
  ⟨h.1, h.2.1, h.2.2.1.only ho (fun p hp => hS p (List.mem_append_left _ hp)), h.2.2.2.1.only ho (fun p hp => hS p (List.mem_append_right _ hp)), h.2.2.2.2⟩
theorem grown_off {w : World} {L L' : Blocks} {g : Nat} (hat : L'.map (·.1) = L.map (·.1) ∨ ∃ o, L' = [(w.heap.size, o)]) (h : ∀ p ∈ L, p.1 ≠ g) (hg : g < w.heap.size) : ∀ p ∈ L', p.1 ≠ g := fun p hp => by
  rcases hat with h1 | ⟨o, h1⟩
  · have h2 := List.mem_map_of_mem (f := Prod.fst) hp
    rw [h1] at h2
    obtain ⟨p', hp', e⟩ := List.mem_map.1 h2
    exact fun h3 => h p' hp' (e.trans h3)
  · rw [h1] at hp
    rw [List.mem_singleton.1 hp]
    simp only
    omega
set_option maxRecDepth 100000 in
set_option maxHeartbeats 3200000 in
theorem tput_calls (t : Table) (x : Int) (v : ByteArray) (B g : Nat) (w : World) (hIn : InT B g t w) (hBg : B ≤ g) (hBw : B ≤ w.heap.size) (hl : t.slots.length = t.keys.length) (hl8 : t.keys.length ≤ 8) :
    Calls Try.prog 56 #[.pointer (some ⟨g, 0, none⟩), .int .i64 x, .string v] w fun e w' => e = .returned (.int .i64 (t.put1 x v).2) ∧ InT B g (t.put1 x v).1 w' ∧ Below B w w' := by
  obtain ⟨kv, sv, M1, M2, hT, hG, hne⟩ := hIn
  obtain ⟨i0, hi0, hz0, hs0, hb0⟩ := info_of infoInt
  have HI := Lib.hid hi0
  obtain ⟨j0, hj0, hy0, ht0, hc0⟩ := info_of infoStr
  have HJ := Lib.hid hj0
  clear hi0 hj0
  obtain ⟨A2, n2, c2, rfl⟩ := hT.2.1.row.slice
  obtain ⟨A1, n1, c1, rfl⟩ := hT.1.row.slice
  have hn2 := hT.2.1.row.len'.1
  have hn1 := hT.1.row.len'.1
  rw [List.length_map] at hn2 hn1
  have hlt := indexOf_lt (· == x) t.keys
  have hTlt := hT.lt
  have hGlt := (Holds.one hG).lt (List.mem_singleton.2 rfl)
  obtain ⟨b0, b1, b2, b3, b4⟩ := tbox_cells hG
  cases hnum : inB x 0 4294967295 with
  | false =>
    obtain ⟨I, hX⟩ : ∃ I, indexOf (· == x) t.keys = I := ⟨_, rfl⟩
    have HX := Lib.hid hX
    have HN := Lib.hid hnum
    have HP : Hid (t.put1 x v = (t, 1)) := by show _ = _; simp [Table.put1, Table.puts, hnum]
    clear hX hlt hnum
    go_enter Try.func56, Try.ntmps56; go_wp2_with fail; (refine (find_calls t _ _ M1 x _ hT.1.row hT.2.2.1).mono ?_); (rw [HX.out]); rintro e w1 ⟨rfl, hb1⟩; clear b0 b1 b2 b3 b4; obtain ⟨d0, d1, d2, d3, d4⟩ := tbox_cells ((Holds.one hG).below hb1).get; have hB1 : Below B w w1 := hb1.mono hBw; have hT1 := hT.below hb1; have hG1 := ((Holds.one hG).below hb1).get; go_wp2_with (go_at_call 55; refine (numOk_calls _ _).mono ?_; rintro e w' ⟨rfl, hw'⟩; subst w'; (try rw [HN.out]))
    go_ret
    exact ⟨by rw [HP.out]; rfl, by rw [HP.out]; refine ⟨_, _, M1, M2, hT1, hG1, hne⟩, hB1⟩
  | true =>
    have HN := Lib.hid hnum
    cases hsz : ((v.size : Int) == t.size) with
    | false =>
      obtain ⟨I, hX⟩ : ∃ I, indexOf (· == x) t.keys = I := ⟨_, rfl⟩
      have HX := Lib.hid hX
      have HP : Hid (t.put1 x v = (t, 1)) := by show _ = _; simp [Table.put1, Table.puts, hsz]
      have hs2 : ((v.size : Int) != t.size) = true := by simp [bne, hsz]
      clear hX hlt hnum hsz
      go_enter Try.func56, Try.ntmps56; go_wp2_with fail; (refine (find_calls t _ _ M1 x _ hT.1.row hT.2.2.1).mono ?_); (rw [HX.out]); rintro e w1 ⟨rfl, hb1⟩; clear b0 b1 b2 b3 b4; obtain ⟨d0, d1, d2, d3, d4⟩ := tbox_cells ((Holds.one hG).below hb1).get; have hB1 : Below B w w1 := hb1.mono hBw; have hT1 := hT.below hb1; have hG1 := ((Holds.one hG).below hb1).get; go_wp2_with (go_at_call 55; refine (numOk_calls _ _).mono ?_; rintro e w' ⟨rfl, hw'⟩; subst w'; (try rw [HN.out]))
      go_ret
      exact ⟨by rw [HP.out]; rfl, by rw [HP.out]; refine ⟨_, _, M1, M2, hT1, hG1, hne⟩, hB1⟩
    | true =>
      have hs2 : ((v.size : Int) != t.size) = false := by simp [bne, hsz]
      have hput : t.put1 x v = t.put0 x v := by simp [Table.put1, Table.puts, hsz, hnum]
      by_cases hi : 0 ≤ indexOf (· == x) t.keys
      · obtain ⟨i, hi1, hi2, _⟩ := indexOf_some hi
        have HP : Hid (t.put1 x v = ({ t with slots := t.slots.set i v }, 0)) := by
          show _ = _
          have h0 : (0 : Int) ≤ (i : Int) := by omega
          rw [hput]
          simp only [Table.put0, hi1, h0, if_true, Int.toNat_natCast]
        have HX := Lib.hid hi1
        have hin : i < n2 := by omega
        have hkl : i < t.slots.length := by omega
        clear hi hlt hi1 hn2 hnum hsz hput
        obtain ⟨b, rfl, _⟩ := hT.set hkl v
        go_enter Try.func56, Try.ntmps56; go_wp2_with fail; (refine (find_calls t _ _ M1 x _ hT.1.row hT.2.2.1).mono ?_); (rw [HX.out]); rintro e w1 ⟨rfl, hb1⟩; clear b0 b1 b2 b3 b4; obtain ⟨d0, d1, d2, d3, d4⟩ := tbox_cells ((Holds.one hG).below hb1).get; have hB1 : Below B w w1 := hb1.mono hBw; have hT1 := hT.below hb1; have hG1 := ((Holds.one hG).below hb1).get
        obtain ⟨b, hbb, hbB, hMb, hth, M2', hT2, hM2'⟩ := hT1.set hkl v
        simp only [Option.some.injEq, Addr.mk.injEq, and_true] at hbb
        subst hbb
        have hbg : b ≠ g := by
          have : b ∈ M2.map (·.1) := by rw [hMb]; simp
          obtain ⟨p, hp, rfl⟩ := List.mem_map.1 this
          exact hne p (List.mem_append_right _ hp)
        go_wp2_with (first | (go_at_call 55; refine (numOk_calls _ _).mono ?_; rintro e w' ⟨rfl, hw'⟩; subst w'; (try rw [HN.out])) | ((with_reducible refine gate_store (p := 35) rfl ?_); refine wpList_put rfl 9 _ _ rfl b i [.string v] rfl rfl hth (by kernel_rfl) rfl ?_))
        have hon : Only (· = b) w1 (w1.setCells b i [.string v]) := only_setCells _ _ _ _ (Only.refl _ _) (.inl rfl)
        generalize w1.setCells b i [.string v] = V at *
        have hne2 : ∀ p ∈ M1 ++ M2', p.1 ≠ g := fun p hp => by
          rcases List.mem_append.1 hp with h | h
          · exact hne p (List.mem_append_left _ h)
          · have := List.mem_map_of_mem (f := Prod.fst) h
            rw [hM2'] at this
            simp at this
            omega
        go_ret
        exact ⟨by rw [HP.out]; rfl, by rw [HP.out]; exact ⟨_, _, M1, M2', hT2, ((Holds.one hG1).only hon (fun p hp => by rw [List.mem_singleton.1 hp]; exact fun e => hbg e.symm)).get, hne2⟩, hB1.trans (below_only hon (fun k hk => by omega) (by have := hB1.size; omega))⟩
      · have hneg := hi
        obtain ⟨I, hX⟩ : ∃ I, indexOf (· == x) t.keys = I := ⟨_, rfl⟩
        rw [hX] at hneg
        have HX := Lib.hid hX
        by_cases hk : t.kind = 1
        · have HP : Hid (t.put1 x v = (t, 2)) := by show _ = _; rw [hput]; simp only [Table.put0, if_neg hi, if_pos hk]
          have hk2 : (t.kind == 1) = true := by simp [hk]
          clear hi hlt hn2 hX hk hnum hsz hput
          go_enter Try.func56, Try.ntmps56; go_wp2_with fail; (refine (find_calls t _ _ M1 x _ hT.1.row hT.2.2.1).mono ?_); (rw [HX.out]); rintro e w1 ⟨rfl, hb1⟩; clear b0 b1 b2 b3 b4; obtain ⟨d0, d1, d2, d3, d4⟩ := tbox_cells ((Holds.one hG).below hb1).get; have hB1 : Below B w w1 := hb1.mono hBw; have hT1 := hT.below hb1; have hG1 := ((Holds.one hG).below hb1).get; go_wp2_with (go_at_call 55; refine (numOk_calls _ _).mono ?_; rintro e w' ⟨rfl, hw'⟩; subst w'; (try rw [HN.out]))
          go_ret
          exact ⟨by rw [HP.out]; rfl, by rw [HP.out]; refine ⟨_, _, M1, M2, hT1, hG1, hne⟩, hB1⟩
        · have hk2 : (t.kind == 1) = false := by simp [hk]
          by_cases hm : t.most ≤ (n1 : Int)
          · have HP : Hid (t.put1 x v = (t, 3)) := by show _ = _; rw [hput]; rw [← hn1] at hm; simp only [Table.put0, if_neg hi, if_neg hk, if_pos hm]
            clear hi hlt hn2 hX hk hnum hsz hput
            go_enter Try.func56, Try.ntmps56; go_wp2_with fail; (refine (find_calls t _ _ M1 x _ hT.1.row hT.2.2.1).mono ?_); (rw [HX.out]); rintro e w1 ⟨rfl, hb1⟩; clear b0 b1 b2 b3 b4; obtain ⟨d0, d1, d2, d3, d4⟩ := tbox_cells ((Holds.one hG).below hb1).get; have hB1 : Below B w w1 := hb1.mono hBw; have hT1 := hT.below hb1; have hG1 := ((Holds.one hG).below hb1).get; go_wp2_with (go_at_call 55; refine (numOk_calls _ _).mono ?_; rintro e w' ⟨rfl, hw'⟩; subst w'; (try rw [HN.out]))
            refine wp_region_quiet_lit (by kernel_rfl) (by kernel_rfl) ?_
            repeat (any_goals (first | go_big_quiet_step (fail) | quiet_step (fail) | (refine wpQuiet_step (fun K hK => ?_); go_simp; split <;> (refine hK _ ?_; clear hK K))))
            all_goals (refine wpQuiet_nil ?_; intro _ hw'; obtain ⟨nq, hw''⟩ := hw'; subst hw'')
            go_wp2
            go_ret
            exact ⟨by rw [HP.out]; rfl, by rw [HP.out]; refine ⟨_, _, M1, M2, hT1, hG1, hne⟩, below_drewN' hB1 _⟩
          · have HP : Hid (t.put1 x v = ({ t with keys := t.keys ++ [x], slots := t.slots ++ [v] }, 0)) := by show _ = _; rw [hput]; rw [← hn1] at hm; simp only [Table.put0, if_neg hi, if_neg hk, if_neg hm]
            clear hi hlt hX hk hnum hsz hput
            go_enter Try.func56, Try.ntmps56; go_wp2_with fail; (refine (find_calls t _ _ M1 x _ hT.1.row hT.2.2.1).mono ?_); (rw [HX.out]); rintro e w1 ⟨rfl, hb1⟩; clear b0 b1 b2 b3 b4; obtain ⟨d0, d1, d2, d3, d4⟩ := tbox_cells ((Holds.one hG).below hb1).get; have hB1 : Below B w w1 := hb1.mono hBw; have hT1 := hT.below hb1; have hG1 := ((Holds.one hG).below hb1).get; go_wp2_with (go_at_call 55; refine (numOk_calls _ _).mono ?_; rintro e w' ⟨rfl, hw'⟩; subst w'; (try rw [HN.out]))
            refine wp_region_quiet_lit (by kernel_rfl) (by kernel_rfl) ?_
            repeat (any_goals (first | go_big_quiet_step (fail) | quiet_step (fail) | (refine wpQuiet_step (fun K hK => ?_); go_simp; split <;> (refine hK _ ?_; clear hK K))))
            all_goals (refine wpQuiet_nil ?_; intro _ hw'; obtain ⟨nq, hw''⟩ := hw'; subst hw'')
            go_wp2
            have T : OwnT B t (.slice A1 n1 c1) (.slice A2 n2 c2) M1 M2 (w1.drewN nq) := hT1
            have G : Holds (w1.drewN nq) [(g, tcells t (.slice A1 n1 c1) (.slice A2 n2 c2))] := Holds.one hG1
            have hB := below_drewN' hB1 nq
            have M1lt : ∀ p ∈ M1, p.1 < (w1.drewN nq).heap.size := fun p hp => T.lt p (List.mem_append_left _ hp)
            have M2lt : ∀ p ∈ M2, p.1 < (w1.drewN nq).heap.size := fun p hp => T.lt p (List.mem_append_right _ hp)
            have gV := G.lt (List.mem_singleton.2 rfl)
            have hl2 : t.slots.length ≤ 8 := by omega
            clear d0 d1 d2 d3 d4 hT1 hG1
            generalize w1.drewN nq = V at *
            have BV : B ≤ V.heap.size := by have := hB.size; omega
            refine wp_region_plan [18, 21] (.one 0 .pure (.one 1 .pure (.one 2 .pure (.one 3 .pure (.one 4 .pure (.one 6 .pure (.one 9 .pure (.one 10 .pure (.one 11 .pure (.one 13 .pure (.one 5 .load (.one 12 .load (.both (.one 7 .act (.both (.one 8 .act (.one 14 .act (.one 15 .act (.one 16 .pure (.one 17 .pure (.one 18 .last (.one 19 .pure (.one 20 .pure (.one 21 .last .done))))))))) (.one 14 .act (.one 8 .act (.one 15 .act (.one 16 .pure (.one 17 .pure (.one 18 .last (.one 19 .pure (.one 20 .pure (.one 21 .last .done))))))))))) (.one 14 .act (.one 7 .act (.one 8 .act (.one 15 .act (.one 16 .pure (.one 17 .pure (.one 18 .last (.one 19 .pure (.one 20 .pure (.one 21 .last .done))))))))))))))))))))))) (fun w' => ∃ q : Kept (fun w' => w'.cell? ⟨g, 3, none⟩ = some (.slice A1 n1 c1) ∧ w'.cell? ⟨g, 4, none⟩ = some (.slice A2 n2 c2)), w' = q.w) (by kernel_rfl) (by kernel_rfl) (fun _ _ d _ _ h => by cases d <;> exact h) ?_
            simp only [Plan.pick, List.getElem?_cons_zero, List.getElem?_cons_succ]
            have hB : Below _ _ V.drew := below_drewN' hB 1
            have T : OwnT B t (.slice A1 n1 c1) (.slice A2 n2 c2) M1 M2 V.drew := T
            have G : Holds V.drew [(g, tcells t (.slice A1 n1 c1) (.slice A2 n2 c2))] := G
            have hS : V.drew.cell? ⟨g, 3, none⟩ = some (.slice A1 n1 c1) ∧ V.drew.cell? ⟨g, 4, none⟩ = some (.slice A2 n2 c2) := by (have c := tbox_cells G.get; exact ⟨c.2.2.2.1, c.2.2.2.2⟩)
            have hszc : V.heap.size ≤ V.drew.heap.size := Nat.le_refl _
            have r3 : ∀ q : Kept (fun w' => w'.cell? ⟨g, 3, none⟩ = some (.slice A1 n1 c1) ∧ w'.cell? ⟨g, 4, none⟩ = some (.slice A2 n2 c2)), q.w.cell? ⟨g, 3, none⟩ = some (.slice A1 n1 c1) := fun q => q.kept.1
            have r4 : ∀ q : Kept (fun w' => w'.cell? ⟨g, 3, none⟩ = some (.slice A1 n1 c1) ∧ w'.cell? ⟨g, 4, none⟩ = some (.slice A2 n2 c2)), q.w.cell? ⟨g, 4, none⟩ = some (.slice A2 n2 c2) := fun q => q.kept.2
            generalize V.drew = wc at *
            have hKn : Nonempty (Kept (fun w' => w'.cell? ⟨g, 3, none⟩ = some (.slice A1 n1 c1) ∧ w'.cell? ⟨g, 4, none⟩ = some (.slice A2 n2 c2))) := ⟨⟨_, hS⟩⟩
            refine plan_pure (fun K hK => ?_); go_simp; refine hK _ _ ?_; clear hK K
            refine plan_pure (fun K hK => ?_); go_simp; refine hK _ _ ?_; clear hK K
            refine plan_pure (fun K hK => ?_); go_simp; refine hK _ _ ?_; clear hK K
            refine plan_pure (fun K hK => ?_); go_simp; refine hK _ _ ?_; clear hK K
            refine plan_pure (fun K hK => ?_); go_simp; refine hK _ _ ?_; clear hK K
            refine plan_pure (fun K hK => ?_); go_simp; refine hK _ _ ?_; clear hK K
            refine plan_pure (fun K hK => ?_); go_simp; refine hK _ _ ?_; clear hK K
            refine plan_pure (fun K hK => ?_); go_simp; refine hK _ _ ?_; clear hK K
            refine plan_pure (fun K hK => ?_); go_simp; refine hK _ _ ?_; clear hK K
            refine plan_pure (fun K hK => ?_); go_simp; refine hK _ _ ?_; clear hK K
            refine plan_load (fun K hK => ?_); go_simp; refine ⟨⟨⟨_, hS⟩, rfl⟩, hK _ _ ?_⟩; clear hK K
            refine plan_load (fun K hK => ?_); go_simp; refine ⟨⟨⟨_, hS⟩, rfl⟩, hK _ _ ?_⟩; clear hK K
            refine plan_both ?_ ?_
            · refine plan_act ?_
              try clear r3 r4
              go_wp2
              obtain ⟨R7, K7⟩ := row_new wc #[.int .i64 x] 3 1 [[.int .i64 x]] rfl (by omega) (by simp) rfl
              have s7 : V.heap.size ≤ wc.heap.size := hszc
              have T := T.below (below_alloc' (Below.refl _ _) (.cells #[.int .i64 x] 3))
              have G := G.alloc (.cells #[.int .i64 x] 3)
              have hB := hB.alloc (by omega) (.cells #[.int .i64 x] 3)
              have hS : (wc.alloc (.cells #[.int .i64 x] 3)).cell? ⟨g, 3, none⟩ = some (.slice A1 n1 c1) ∧ (wc.alloc (.cells #[.int .i64 x] 3)).cell? ⟨g, 4, none⟩ = some (.slice A2 n2 c2) := by (have c := tbox_cells G.get; exact ⟨c.2.2.2.1, c.2.2.2.2⟩)
              have hszc : V.heap.size ≤ (wc.alloc (.cells #[.int .i64 x] 3)).heap.size := by simp; omega
              try have K14 := K14.alloc (.cells #[.int .i64 x] 3)
              generalize wc.alloc (.cells #[.int .i64 x] 3) = wc at *
              refine ⟨⟨⟨_, hS⟩, rfl⟩, ?_⟩
              refine plan_both ?_ ?_
              · refine plan_act ?_
                go_wp2_with (
                  (with_reducible refine gate_dst (N := 61) rfl ?_)
                  refine wpList_append_row rfl _ _ 22 rfl B 3 i0 _ 1 8 Try.underlying22 HI.out hz0 hs0 hb0 rfl (by decide) _ (t.keys.map intCell) M1 rfl T.1 T.2.2.1 _ [[.int .i64 x]] _ rfl R7 K7 (by simp [Value.oneCell']) (by simp; omega) (by decide) (by omega) ?_
                  intro k3 wc M1' hk3 hK3 hon3 hat3
                  obtain ⟨A5, n5, c5, rfl⟩ := hk3.row.slice
                  have M1g : ∀ p ∈ M1', p.1 ≠ g := grown_off hat3 (fun p hp => hne p (List.mem_append_left _ hp)) (by omega)
                  have hB := hB.trans (below_only hon3 (fun k ⟨p, hp, e⟩ => by have := T.1.base p hp; omega) (by omega))
                  have T : OwnT B { t with keys := t.keys ++ [x] } (.slice A5 n5 c5) (.slice A2 n2 c2) M1' M2 wc := ⟨by simpa [intCell] using hk3, T.2.1, hK3, holds_apart T.2.2.2.1 T.2.2.2.2 hon3, apart_grow T.2.2.2.1 T.2.2.2.2 hat3⟩
                  have G := G.only hon3 (fun p hp ⟨q, hq, e⟩ => hne q (List.mem_append_left _ hq) (by rw [e, List.mem_singleton.1 hp]))
                  have hS : wc.cell? ⟨g, 3, none⟩ = some (.slice A1 n1 c1) ∧ wc.cell? ⟨g, 4, none⟩ = some (.slice A2 n2 c2) := by (have c := tbox_cells G.get; exact ⟨c.2.2.2.1, c.2.2.2.2⟩)
                  have hszc := Nat.le_trans hszc hon3.size
                  try have K14 := K14.only hon3 (fun p hp ⟨q, hq, e⟩ => by rw [List.mem_singleton.1 hp] at e; have := M1lt q hq; simp only at e; omega))
                refine ⟨⟨⟨_, hS⟩, rfl⟩, ?_⟩
                refine plan_act ?_
                try clear r3 r4
                go_wp2
                obtain ⟨R14, K14⟩ := row_new wc #[.string v] 9 1 [[.string v]] rfl (by omega) (by simp) rfl
                have s14 : V.heap.size ≤ wc.heap.size := hszc
                have T := T.below (below_alloc' (Below.refl _ _) (.cells #[.string v] 9))
                have G := G.alloc (.cells #[.string v] 9)
                have hB := hB.alloc (by omega) (.cells #[.string v] 9)
                have hS : (wc.alloc (.cells #[.string v] 9)).cell? ⟨g, 3, none⟩ = some (.slice A1 n1 c1) ∧ (wc.alloc (.cells #[.string v] 9)).cell? ⟨g, 4, none⟩ = some (.slice A2 n2 c2) := by (have c := tbox_cells G.get; exact ⟨c.2.2.2.1, c.2.2.2.2⟩)
                have hszc : V.heap.size ≤ (wc.alloc (.cells #[.string v] 9)).heap.size := by simp; omega
                try have K7 := K7.alloc (.cells #[.string v] 9)
                generalize wc.alloc (.cells #[.string v] 9) = wc at *
                refine ⟨⟨⟨_, hS⟩, rfl⟩, ?_⟩
                refine plan_act ?_
                go_wp2_with (
                  (with_reducible refine gate_dst (N := 68) rfl ?_)
                  refine wpList_append_row rfl _ _ 23 rfl B 9 j0 _ 1 16 Try.underlying23 HJ.out hy0 ht0 hc0 rfl (by decide) _ (t.slots.map strCell) M2 rfl T.2.1 T.2.2.2.1 _ [[.string v]] _ rfl R14 K14 (by simp [Value.oneCell']) (by simp; omega) (by decide) (by omega) ?_
                  intro k5 wc M2' hk5 hK5 hon5 hat5
                  obtain ⟨A6, n6, c6, rfl⟩ := hk5.row.slice
                  have M2g : ∀ p ∈ M2', p.1 ≠ g := grown_off hat5 (fun p hp => hne p (List.mem_append_right _ hp)) (by omega)
                  have hB := hB.trans (below_only hon5 (fun k ⟨p, hp, e⟩ => by have := T.2.1.base p hp; omega) (by omega))
                  have T : OwnT B { t with keys := t.keys ++ [x], slots := t.slots ++ [v] } (.slice A5 n5 c5) (.slice A6 n6 c6) M1' M2' wc := ⟨T.1, by simpa [strCell] using hk5, holds_apart T.2.2.1 T.2.2.2.2.symm hon5, hK5, (apart_grow T.2.2.1 T.2.2.2.2.symm hat5).symm⟩
                  have G := G.only hon5 (fun p hp ⟨q, hq, e⟩ => hne q (List.mem_append_right _ hq) (by rw [e, List.mem_singleton.1 hp]))
                  have hS : wc.cell? ⟨g, 3, none⟩ = some (.slice A1 n1 c1) ∧ wc.cell? ⟨g, 4, none⟩ = some (.slice A2 n2 c2) := by (have c := tbox_cells G.get; exact ⟨c.2.2.2.1, c.2.2.2.2⟩)
                  have hszc := Nat.le_trans hszc hon5.size
                  obtain ⟨hth, hbx, hon⟩ := tput3 G.get (.slice A5 n5 c5))
                refine ⟨⟨⟨_, hS⟩, rfl⟩, ?_⟩
                refine plan_pure (fun K hK => ?_); go_simp; refine hK _ _ ?_; clear hK K
                refine plan_pure (fun K hK => ?_); go_simp; refine hK _ _ ?_; clear hK K
                refine plan_last_ ?_
                go_wp2_with (
                  (with_reducible refine gate_store (p := 70) rfl ?_)
                  refine wpList_put rfl 22 _ _ rfl g 3 [.slice A5 n5 c5] rfl rfl hth (by kernel_rfl) rfl ?_
                  have T := T.beside hon M1g M2g
                  have hB := hB.trans (below_only hon (fun k hk => by omega) (by omega))
                  have hszc := Nat.le_trans hszc hon.size
                  generalize wc.setCells g 3 [.slice A5 n5 c5] = wc at *
                  clear hth hon
                  obtain ⟨hth, hbx, hon⟩ := tput4 hbx (.slice A6 n6 c6))
                refine plan_pure (fun K hK => ?_); go_simp; refine hK _ _ ?_; clear hK K
                refine plan_pure (fun K hK => ?_); go_simp; refine hK _ _ ?_; clear hK K
                refine plan_last_ ?_
                go_wp2_with (
                  (with_reducible refine gate_store (p := 72) rfl ?_)
                  refine wpList_put rfl 23 _ _ rfl g 4 [.slice A6 n6 c6] rfl rfl hth (by kernel_rfl) rfl ?_
                  have T := T.beside hon M1g M2g
                  have hB := hB.trans (below_only hon (fun k hk => by omega) (by omega))
                  generalize wc.setCells g 4 [.slice A6 n6 c6] = wc at *)
                refine plan_done ?_
                go_wp2
                go_ret
                exact ⟨by rw [HP.out]; rfl, by rw [HP.out]; exact ⟨_, _, M1', M2', T, hbx, fun p hp => (List.mem_append.1 hp).elim (M1g p) (M2g p)⟩, hB⟩
              · refine plan_act ?_
                try clear r3 r4
                go_wp2
                obtain ⟨R14, K14⟩ := row_new wc #[.string v] 9 1 [[.string v]] rfl (by omega) (by simp) rfl
                have s14 : V.heap.size ≤ wc.heap.size := hszc
                have T := T.below (below_alloc' (Below.refl _ _) (.cells #[.string v] 9))
                have G := G.alloc (.cells #[.string v] 9)
                have hB := hB.alloc (by omega) (.cells #[.string v] 9)
                have hS : (wc.alloc (.cells #[.string v] 9)).cell? ⟨g, 3, none⟩ = some (.slice A1 n1 c1) ∧ (wc.alloc (.cells #[.string v] 9)).cell? ⟨g, 4, none⟩ = some (.slice A2 n2 c2) := by (have c := tbox_cells G.get; exact ⟨c.2.2.2.1, c.2.2.2.2⟩)
                have hszc : V.heap.size ≤ (wc.alloc (.cells #[.string v] 9)).heap.size := by simp; omega
                try have K7 := K7.alloc (.cells #[.string v] 9)
                generalize wc.alloc (.cells #[.string v] 9) = wc at *
                refine ⟨⟨⟨_, hS⟩, rfl⟩, ?_⟩
                refine plan_act ?_
                go_wp2_with (
                  (with_reducible refine gate_dst (N := 61) rfl ?_)
                  refine wpList_append_row rfl _ _ 22 rfl B 3 i0 _ 1 8 Try.underlying22 HI.out hz0 hs0 hb0 rfl (by decide) _ (t.keys.map intCell) M1 rfl T.1 T.2.2.1 _ [[.int .i64 x]] _ rfl R7 K7 (by simp [Value.oneCell']) (by simp; omega) (by decide) (by omega) ?_
                  intro k3 wc M1' hk3 hK3 hon3 hat3
                  obtain ⟨A5, n5, c5, rfl⟩ := hk3.row.slice
                  have M1g : ∀ p ∈ M1', p.1 ≠ g := grown_off hat3 (fun p hp => hne p (List.mem_append_left _ hp)) (by omega)
                  have hB := hB.trans (below_only hon3 (fun k ⟨p, hp, e⟩ => by have := T.1.base p hp; omega) (by omega))
                  have T : OwnT B { t with keys := t.keys ++ [x] } (.slice A5 n5 c5) (.slice A2 n2 c2) M1' M2 wc := ⟨by simpa [intCell] using hk3, T.2.1, hK3, holds_apart T.2.2.2.1 T.2.2.2.2 hon3, apart_grow T.2.2.2.1 T.2.2.2.2 hat3⟩
                  have G := G.only hon3 (fun p hp ⟨q, hq, e⟩ => hne q (List.mem_append_left _ hq) (by rw [e, List.mem_singleton.1 hp]))
                  have hS : wc.cell? ⟨g, 3, none⟩ = some (.slice A1 n1 c1) ∧ wc.cell? ⟨g, 4, none⟩ = some (.slice A2 n2 c2) := by (have c := tbox_cells G.get; exact ⟨c.2.2.2.1, c.2.2.2.2⟩)
                  have hszc := Nat.le_trans hszc hon3.size
                  try have K14 := K14.only hon3 (fun p hp ⟨q, hq, e⟩ => by rw [List.mem_singleton.1 hp] at e; have := M1lt q hq; simp only at e; omega))
                refine ⟨⟨⟨_, hS⟩, rfl⟩, ?_⟩
                refine plan_act ?_
                go_wp2_with (
                  (with_reducible refine gate_dst (N := 68) rfl ?_)
                  refine wpList_append_row rfl _ _ 23 rfl B 9 j0 _ 1 16 Try.underlying23 HJ.out hy0 ht0 hc0 rfl (by decide) _ (t.slots.map strCell) M2 rfl T.2.1 T.2.2.2.1 _ [[.string v]] _ rfl R14 K14 (by simp [Value.oneCell']) (by simp; omega) (by decide) (by omega) ?_
                  intro k5 wc M2' hk5 hK5 hon5 hat5
                  obtain ⟨A6, n6, c6, rfl⟩ := hk5.row.slice
                  have M2g : ∀ p ∈ M2', p.1 ≠ g := grown_off hat5 (fun p hp => hne p (List.mem_append_right _ hp)) (by omega)
                  have hB := hB.trans (below_only hon5 (fun k ⟨p, hp, e⟩ => by have := T.2.1.base p hp; omega) (by omega))
                  have T : OwnT B { t with keys := t.keys ++ [x], slots := t.slots ++ [v] } (.slice A5 n5 c5) (.slice A6 n6 c6) M1' M2' wc := ⟨T.1, by simpa [strCell] using hk5, holds_apart T.2.2.1 T.2.2.2.2.symm hon5, hK5, (apart_grow T.2.2.1 T.2.2.2.2.symm hat5).symm⟩
                  have G := G.only hon5 (fun p hp ⟨q, hq, e⟩ => hne q (List.mem_append_right _ hq) (by rw [e, List.mem_singleton.1 hp]))
                  have hS : wc.cell? ⟨g, 3, none⟩ = some (.slice A1 n1 c1) ∧ wc.cell? ⟨g, 4, none⟩ = some (.slice A2 n2 c2) := by (have c := tbox_cells G.get; exact ⟨c.2.2.2.1, c.2.2.2.2⟩)
                  have hszc := Nat.le_trans hszc hon5.size
                  obtain ⟨hth, hbx, hon⟩ := tput3 G.get (.slice A5 n5 c5))
                refine ⟨⟨⟨_, hS⟩, rfl⟩, ?_⟩
                refine plan_pure (fun K hK => ?_); go_simp; refine hK _ _ ?_; clear hK K
                refine plan_pure (fun K hK => ?_); go_simp; refine hK _ _ ?_; clear hK K
                refine plan_last_ ?_
                go_wp2_with (
                  (with_reducible refine gate_store (p := 70) rfl ?_)
                  refine wpList_put rfl 22 _ _ rfl g 3 [.slice A5 n5 c5] rfl rfl hth (by kernel_rfl) rfl ?_
                  have T := T.beside hon M1g M2g
                  have hB := hB.trans (below_only hon (fun k hk => by omega) (by omega))
                  have hszc := Nat.le_trans hszc hon.size
                  generalize wc.setCells g 3 [.slice A5 n5 c5] = wc at *
                  clear hth hon
                  obtain ⟨hth, hbx, hon⟩ := tput4 hbx (.slice A6 n6 c6))
                refine plan_pure (fun K hK => ?_); go_simp; refine hK _ _ ?_; clear hK K
                refine plan_pure (fun K hK => ?_); go_simp; refine hK _ _ ?_; clear hK K
                refine plan_last_ ?_
                go_wp2_with (
                  (with_reducible refine gate_store (p := 72) rfl ?_)
                  refine wpList_put rfl 23 _ _ rfl g 4 [.slice A6 n6 c6] rfl rfl hth (by kernel_rfl) rfl ?_
                  have T := T.beside hon M1g M2g
                  have hB := hB.trans (below_only hon (fun k hk => by omega) (by omega))
                  generalize wc.setCells g 4 [.slice A6 n6 c6] = wc at *)
                refine plan_done ?_
                go_wp2
                go_ret
                exact ⟨by rw [HP.out]; rfl, by rw [HP.out]; exact ⟨_, _, M1', M2', T, hbx, fun p hp => (List.mem_append.1 hp).elim (M1g p) (M2g p)⟩, hB⟩
            · refine plan_act ?_
              try clear r3 r4
              go_wp2
              obtain ⟨R14, K14⟩ := row_new wc #[.string v] 9 1 [[.string v]] rfl (by omega) (by simp) rfl
              have s14 : V.heap.size ≤ wc.heap.size := hszc
              have T := T.below (below_alloc' (Below.refl _ _) (.cells #[.string v] 9))
              have G := G.alloc (.cells #[.string v] 9)
              have hB := hB.alloc (by omega) (.cells #[.string v] 9)
              have hS : (wc.alloc (.cells #[.string v] 9)).cell? ⟨g, 3, none⟩ = some (.slice A1 n1 c1) ∧ (wc.alloc (.cells #[.string v] 9)).cell? ⟨g, 4, none⟩ = some (.slice A2 n2 c2) := by (have c := tbox_cells G.get; exact ⟨c.2.2.2.1, c.2.2.2.2⟩)
              have hszc : V.heap.size ≤ (wc.alloc (.cells #[.string v] 9)).heap.size := by simp; omega
              try have K7 := K7.alloc (.cells #[.string v] 9)
              generalize wc.alloc (.cells #[.string v] 9) = wc at *
              refine ⟨⟨⟨_, hS⟩, rfl⟩, ?_⟩
              refine plan_act ?_
              try clear r3 r4
              go_wp2
              obtain ⟨R7, K7⟩ := row_new wc #[.int .i64 x] 3 1 [[.int .i64 x]] rfl (by omega) (by simp) rfl
              have s7 : V.heap.size ≤ wc.heap.size := hszc
              have T := T.below (below_alloc' (Below.refl _ _) (.cells #[.int .i64 x] 3))
              have G := G.alloc (.cells #[.int .i64 x] 3)
              have hB := hB.alloc (by omega) (.cells #[.int .i64 x] 3)
              have hS : (wc.alloc (.cells #[.int .i64 x] 3)).cell? ⟨g, 3, none⟩ = some (.slice A1 n1 c1) ∧ (wc.alloc (.cells #[.int .i64 x] 3)).cell? ⟨g, 4, none⟩ = some (.slice A2 n2 c2) := by (have c := tbox_cells G.get; exact ⟨c.2.2.2.1, c.2.2.2.2⟩)
              have hszc : V.heap.size ≤ (wc.alloc (.cells #[.int .i64 x] 3)).heap.size := by simp; omega
              try have K14 := K14.alloc (.cells #[.int .i64 x] 3)
              generalize wc.alloc (.cells #[.int .i64 x] 3) = wc at *
              refine ⟨⟨⟨_, hS⟩, rfl⟩, ?_⟩
              refine plan_act ?_
              go_wp2_with (
                (with_reducible refine gate_dst (N := 61) rfl ?_)
                refine wpList_append_row rfl _ _ 22 rfl B 3 i0 _ 1 8 Try.underlying22 HI.out hz0 hs0 hb0 rfl (by decide) _ (t.keys.map intCell) M1 rfl T.1 T.2.2.1 _ [[.int .i64 x]] _ rfl R7 K7 (by simp [Value.oneCell']) (by simp; omega) (by decide) (by omega) ?_
                intro k3 wc M1' hk3 hK3 hon3 hat3
                obtain ⟨A5, n5, c5, rfl⟩ := hk3.row.slice
                have M1g : ∀ p ∈ M1', p.1 ≠ g := grown_off hat3 (fun p hp => hne p (List.mem_append_left _ hp)) (by omega)
                have hB := hB.trans (below_only hon3 (fun k ⟨p, hp, e⟩ => by have := T.1.base p hp; omega) (by omega))
                have T : OwnT B { t with keys := t.keys ++ [x] } (.slice A5 n5 c5) (.slice A2 n2 c2) M1' M2 wc := ⟨by simpa [intCell] using hk3, T.2.1, hK3, holds_apart T.2.2.2.1 T.2.2.2.2 hon3, apart_grow T.2.2.2.1 T.2.2.2.2 hat3⟩
                have G := G.only hon3 (fun p hp ⟨q, hq, e⟩ => hne q (List.mem_append_left _ hq) (by rw [e, List.mem_singleton.1 hp]))
                have hS : wc.cell? ⟨g, 3, none⟩ = some (.slice A1 n1 c1) ∧ wc.cell? ⟨g, 4, none⟩ = some (.slice A2 n2 c2) := by (have c := tbox_cells G.get; exact ⟨c.2.2.2.1, c.2.2.2.2⟩)
                have hszc := Nat.le_trans hszc hon3.size
                try have K14 := K14.only hon3 (fun p hp ⟨q, hq, e⟩ => by rw [List.mem_singleton.1 hp] at e; have := M1lt q hq; simp only at e; omega))
              refine ⟨⟨⟨_, hS⟩, rfl⟩, ?_⟩
              refine plan_act ?_
              go_wp2_with (
                (with_reducible refine gate_dst (N := 68) rfl ?_)
                refine wpList_append_row rfl _ _ 23 rfl B 9 j0 _ 1 16 Try.underlying23 HJ.out hy0 ht0 hc0 rfl (by decide) _ (t.slots.map strCell) M2 rfl T.2.1 T.2.2.2.1 _ [[.string v]] _ rfl R14 K14 (by simp [Value.oneCell']) (by simp; omega) (by decide) (by omega) ?_
                intro k5 wc M2' hk5 hK5 hon5 hat5
                obtain ⟨A6, n6, c6, rfl⟩ := hk5.row.slice
                have M2g : ∀ p ∈ M2', p.1 ≠ g := grown_off hat5 (fun p hp => hne p (List.mem_append_right _ hp)) (by omega)
                have hB := hB.trans (below_only hon5 (fun k ⟨p, hp, e⟩ => by have := T.2.1.base p hp; omega) (by omega))
                have T : OwnT B { t with keys := t.keys ++ [x], slots := t.slots ++ [v] } (.slice A5 n5 c5) (.slice A6 n6 c6) M1' M2' wc := ⟨T.1, by simpa [strCell] using hk5, holds_apart T.2.2.1 T.2.2.2.2.symm hon5, hK5, (apart_grow T.2.2.1 T.2.2.2.2.symm hat5).symm⟩
                have G := G.only hon5 (fun p hp ⟨q, hq, e⟩ => hne q (List.mem_append_right _ hq) (by rw [e, List.mem_singleton.1 hp]))
                have hS : wc.cell? ⟨g, 3, none⟩ = some (.slice A1 n1 c1) ∧ wc.cell? ⟨g, 4, none⟩ = some (.slice A2 n2 c2) := by (have c := tbox_cells G.get; exact ⟨c.2.2.2.1, c.2.2.2.2⟩)
                have hszc := Nat.le_trans hszc hon5.size
                obtain ⟨hth, hbx, hon⟩ := tput3 G.get (.slice A5 n5 c5))
              refine ⟨⟨⟨_, hS⟩, rfl⟩, ?_⟩
              refine plan_pure (fun K hK => ?_); go_simp; refine hK _ _ ?_; clear hK K
              refine plan_pure (fun K hK => ?_); go_simp; refine hK _ _ ?_; clear hK K
              refine plan_last_ ?_
              go_wp2_with (
                (with_reducible refine gate_store (p := 70) rfl ?_)
                refine wpList_put rfl 22 _ _ rfl g 3 [.slice A5 n5 c5] rfl rfl hth (by kernel_rfl) rfl ?_
                have T := T.beside hon M1g M2g
                have hB := hB.trans (below_only hon (fun k hk => by omega) (by omega))
                have hszc := Nat.le_trans hszc hon.size
                generalize wc.setCells g 3 [.slice A5 n5 c5] = wc at *
                clear hth hon
                obtain ⟨hth, hbx, hon⟩ := tput4 hbx (.slice A6 n6 c6))
              refine plan_pure (fun K hK => ?_); go_simp; refine hK _ _ ?_; clear hK K
              refine plan_pure (fun K hK => ?_); go_simp; refine hK _ _ ?_; clear hK K
              refine plan_last_ ?_
              go_wp2_with (
                (with_reducible refine gate_store (p := 72) rfl ?_)
                refine wpList_put rfl 23 _ _ rfl g 4 [.slice A6 n6 c6] rfl rfl hth (by kernel_rfl) rfl ?_
                have T := T.beside hon M1g M2g
                have hB := hB.trans (below_only hon (fun k hk => by omega) (by omega))
                generalize wc.setCells g 4 [.slice A6 n6 c6] = wc at *)
              refine plan_done ?_
              go_wp2
              go_ret
              exact ⟨by rw [HP.out]; rfl, by rw [HP.out]; exact ⟨_, _, M1', M2', T, hbx, fun p hp => (List.mem_append.1 hp).elim (M1g p) (M2g p)⟩, hB⟩
end Go.Proofs.Ytoimeebildcofaa
