/- The walk of the reference's RulesTidy. -/
import Derived.Test.YtoimeebildcofaaWTidy1
import Derived.Test.YtoimeebildcofaaWTab6
namespace Go.Proofs.Ytoimeebildcofaa
open Go.RowKit
def Rg.cells (k : Rg) : List Value := [.int .i64 k.lo, .int .i64 k.hi, .int .i64 k.bits, .int .i64 k.opn]
theorem infoRg : (Try.prog.info? 80).map (fun i => (i.zero, i.size, i.bytes)) = some (some (.agg #[.int .i64 0, .int .i64 0, .int .i64 0, .int .i64 0]), 4, 32) := by kernel_rfl
def tidied (rs : List Rule) : List Rule := if rulesOk rs then tidyRules rs else []
set_option maxRecDepth 100000 in
set_option maxHeartbeats 6400000 in
theorem specRulesTidy_calls (v : Value) (rs : List Rule) (L : Blocks) (w : World) (h : Row 5 v (rs.map Rule.cells) L) (H : Holds w L) :
    Calls Try.prog 20 #[v] w fun e w' => ∃ v' M, e = .returned v' ∧ Own w.heap.size 56 5 v' ((tidied rs).map Rule.cells) M ∧ Holds w' M ∧ Below w.heap.size w w' := by
  obtain ⟨i0, hi0, hz0, hs0, hb0⟩ := info_of infoRg
  have HI := Lib.hid hi0
  obtain ⟨j0, hj0, hy0, ht0, hc0⟩ := info_of infoRule
  have HJ := Lib.hid hj0
  clear hi0 hj0
  have h0 := below_alloc' (Below.refl w.heap.size w) (.cells #[] 56)
  have e0 := holds_new (w := w) (o := .cells #[] 56) rfl
  obtain ⟨A, n, cc, rfl⟩ := h.slice
  obtain ⟨hnl, hn'⟩ := h.len'
  rw [List.length_map] at hnl
  cases hok : rulesOk rs with
  | false =>
    have HK := Lib.hid hok
    have HT : Hid (tidied rs = []) := by show _ = _; simp [tidied, hok]
    clear hok
    go_enter Try.func20, Try.ntmps20
    go_wp2_with (go_at_call 58; refine (l9Ok_calls _ rs L _ h (H.alloc _)).mono ?_; rw [HK.out]; rintro e w1 ⟨rfl, hb⟩; have e0 := e0.below hb; have hB := bnext h0 hb)
    go_ret
    exact ⟨_, _, rfl, by rw [HT.out]; exact own_empty _ _ _ _ (Nat.le_refl _), e0, hB⟩
  | true =>
    have HK := Lib.hid hok
    have HT : Hid (tidied rs = tidyRules rs) := by show _ = _; simp [tidied, hok]
    have hn6 : n ≤ 6 := by
      simp only [rulesOk, Bool.and_eq_true, decide_eq_true_eq] at hok
      omega
    have hall : ∀ (i : Nat) (r : Rule), rs[i]? = some r → r.ok = true := fun i r hr => by
      simp only [rulesOk, Bool.and_eq_true] at hok
      exact List.all_eq_true.1 hok.2 r (List.mem_of_getElem? hr)
    have HN := Lib.hid hnl
    clear hok hnl hn'
    go_enter Try.func20, Try.ntmps20
    go_wp2_with fail
    refine (l9Ok_calls _ rs L _ h (H.alloc _)).mono ?_
    rw [HK.out]
    rintro e w1 ⟨rfl, hb⟩
    have e0 := e0.below hb
    have hB := bnext h0 hb
    have z1 : w.heap.size + 1 ≤ w1.heap.size := by have := hb.size; rw [alloc_size] at this; exact this
    clear hb h0
    go_wp2_with fail
    go_loopw [4, 5] (fun u i wr => ∃ (j : Nat) (K : Blocks), j ≤ 12 ∧ i = .int .i64 j ∧ Own w1.heap.size 80 4 u ((List.replicate j byteRg).map Rg.cells) K ∧ Holds wr K ∧ Holds wr [(w.heap.size, .cells #[] 56)] ∧ Below w.heap.size w wr ∧ w1.heap.size ≤ wr.heap.size) (fun _ i _ => 12 - (intOf i).toNat)
    case atStart => exact ⟨0, _, by omega, rfl, own_empty _ _ _ _ (Nat.le_refl _), holds_new rfl, e0.alloc _, below_alloc' hB _, by simp⟩
    case round =>
      obtain ⟨j, K, hj, rfl, ho, hK, e1, hb, hz⟩ := hrel
      clear e0 hB
      by_cases hlt : j < 12
      · have hl : ((List.replicate j byteRg).map Rg.cells).length = j := by simp
        have HL := Lib.hid hl
        have hjj : (j : Int) < 12 := by omega
        clear hl
        go_wp2_with fail
        refine (l2Ends_calls _).mono ?_
        rintro e w2 ⟨rfl, hb2⟩
        have hK := hK.below hb2
        have e1 := e1.below hb2
        have z2 := hb2.size
        have hb := bnext hb hb2
        clear hb2
        go_wp2_with ((with_reducible refine gate_dst (N := 25) rfl ?_); refine wpList_append' rfl _ _ 78 rfl w1.heap.size 80 i0 _ 4 32 Try.underlying78 HI.out hz0 hs0 hb0 rfl (by decide) _ ((List.replicate j byteRg).map Rg.cells) K rfl ho (hK.alloc _) ⟨w2.heap.size, 0, none⟩ 1 1 [[.int .i64 0, .int .i64 255, .int .i64 0, .int .i64 255]] rfl (by simp) rfl (cells_new _ _ _) (by simp [Value.oneCell']) (by simp; omega) (by decide) (by simp; omega) ?_; intro v2 w4 K2 ho2 hK2 hon2 hat)
        have hbase := ho.base
        go_roundw
        case rel => exact ⟨j + 1, K2, by omega, by go_num, by rw [List.replicate_succ', List.map_append]; exact ho2, hK2, (e1.alloc _).only hon2 (fun p hp ⟨q, hq, e⟩ => by have := hbase q hq; rw [List.mem_singleton.1 hp] at e; simp only at e; omega), Only.below (below_alloc' hb _) (by simp; omega) hon2 (fun k ⟨p, hp, e⟩ => by have := hbase p hp; omega), by have := hon2.size; rw [alloc_size] at this; omega⟩
        case measure => simp [intOf]; omega
      · have h12 : j = 12 := by omega
        subst h12
        obtain ⟨Au, nu, cu, rfl⟩ := ho.row.slice
        have hlu := ho.row.len'.1
        simp only [List.length_map, List.length_replicate] at hlu
        subst hlu
        have ho : Own w1.heap.size 80 4 (.slice Au 12 cu) ((List.replicate 12 byteRg).map Rg.cells) K := ho
        obtain ⟨bu, rfl, hbu, hKm, -⟩ := ho.at_ (k := 0) (by simp)
        have HU := Lib.hid hKm
        go_wp2_with fail
        go_loopw [3, 6] (fun o i wx => ∃ (k : Nat) (out : List Rule) (ks : List Rg) (Mo K : Blocks), k ≤ n ∧ i = .int .i64 k ∧ Own w.heap.size 56 5 o (out.map Rule.cells) Mo ∧ Holds wx Mo ∧ Own w1.heap.size 80 4 (.slice (some ⟨bu, 0, none⟩) 12 cu) (ks.map Rg.cells) K ∧ Holds wx K ∧ Apart Mo K ∧ Bytes ks ∧ Hid (out ++ tidyGo (rs.drop k) ks = tidyRules rs) ∧ out.length ≤ k ∧ Below w.heap.size w wx ∧ w1.heap.size ≤ wx.heap.size) (fun _ i _ => n - (intOf i).toNat)
        case atStart => exact ⟨0, [], List.replicate 12 byteRg, _, K, by omega, rfl, own_empty _ _ _ _ (Nat.le_refl _), e1, ho, hK, (fun p hp q hq e => by have := ho.base q hq; rw [List.mem_singleton.1 hp] at e; simp only at e; omega), Bytes.init, rfl, by simp, hb, hz⟩
        case round =>
          rename_i wr0 _
          clear hK e1 hb hz ho
          obtain ⟨k, out, ks, Mo, K, hk, rfl, hoM, hMo, ho, hK, hap, hby, hinv, hout, hB, hz⟩ := hrel
          by_cases hlt : k < n
          · obtain ⟨r, hr⟩ : ∃ r, rs[k]? = some r := ⟨_, List.getElem?_eq_getElem (by rw [HN.out]; exact hlt)⟩
            have hrok := hall k r hr
            have hdr : rs.drop k = r :: rs.drop (k + 1) := by
              have hkl : k < rs.length := by rw [HN.out]; exact hlt
              rw [List.getElem?_eq_getElem hkl] at hr
              injection hr with hr
              rw [← hr]
              exact List.drop_eq_getElem_cons hkl
            simp only [Rule.ok, inB, Bool.and_eq_true, decide_eq_true_eq] at hrok
            obtain ⟨⟨⟨⟨⟨⟨hat0, hat1⟩, ⟨hop0, hop1⟩⟩, ⟨hnu0, hnu1⟩⟩, -⟩, -⟩, -⟩ := hrok
            obtain ⟨a, ha⟩ : ∃ a : Nat, r.at_ = (a : Int) := ⟨r.at_.toNat, by omega⟩
            have ha12 : a < 12 := by omega
            obtain ⟨klo, khi, hkr, hkl1, hkl2⟩ := hby.at_ ha12
            have hkOk := (hby.ok ha12 hkr).2.1
            have HR := Lib.hid hr
            have HKR := Lib.hid hkr
            have HA := Lib.hid ha
            have HDR := Lib.hid hdr
            have hknown : knownAt ks r = ival klo khi := by
              unfold knownAt
              rw [ha, Int.toNat_natCast, List.getD_eq_getElem?_getD, hkr]
              rfl
            have HKN := Lib.hid hknown
            obtain ⟨kr, hkE⟩ : ∃ kr, ival klo khi = kr := ⟨_, rfl⟩
            rw [hkE] at HKR HKN hkOk
            have HKE := Lib.hid hkE
            clear hr hkr hdr hknown hkE
            obtain ⟨lb, loff, hlA, hlq⟩ := h.at_ (H.below hB) (k := k) (cs := r.cells) (by simp [HR.out])
            subst hlA
            have d0 : wr.cell? ⟨lb, loff + k * 5, none⟩ = some (.int .i64 r.at_) := hlq 0 _ rfl
            have d1 := hlq 1 _ rfl
            have d2 := hlq 2 _ rfl
            have d3 := hlq 3 _ rfl
            have d4 := hlq 4 _ rfl
            obtain ⟨kb, koff, hkA, hkq⟩ := ho.row.at_ hK (k := a) (cs := kr.cells) (by rw [List.getElem?_map, HKR.out]; rfl)
            simp only [Option.some.injEq, Addr.mk.injEq, and_true] at hkA
            obtain ⟨rfl, rfl⟩ := hkA
            have f0 : wr.cell? ⟨bu, 0 + a * 4, none⟩ = some (.int .i64 kr.lo) := hkq 0 _ rfl
            have f1 : wr.cell? ⟨bu, 0 + a * 4 + 1, none⟩ = some (.int .i64 kr.hi) := hkq 1 _ rfl
            have f2 : wr.cell? ⟨bu, 0 + a * 4 + 2, none⟩ = some (.int .i64 kr.bits) := hkq 2 _ rfl
            have f3 : wr.cell? ⟨bu, 0 + a * 4 + 3, none⟩ = some (.int .i64 kr.opn) := hkq 3 _ rfl
            rw [Nat.zero_add] at f0 f1 f2 f3
            clear hlq hkq
            have haI : (a : Int) < 12 := by omega
            have ha0 : (0 : Int) ≤ a := by omega
            rw [ha] at d0
            clear hat0 hat1 ha
            go_wp2
            have q0 := cell_regrown d0
            have q1 := cell_regrown d1
            have q2 := cell_regrown d2
            have q3 := cell_regrown d3
            have q4 := cell_regrown d4
            have p0 := cell_regrown f0
            have p1 := cell_regrown f1
            have p2 := cell_regrown f2
            have p3 := cell_regrown f3
            have hne0 : w.heap.size + 1 ≤ wr.heap.size := by omega
            refine wp_region_plan [13] (.one 0 .pure (.one 1 .pure (.one 2 .pure (.one 4 .pure (.one 5 .pure (.one 6 .pure (.one 3 .load (.one 7 .load (.both (.one 8 .act (.one 9 .pure (.one 10 .pure (.one 11 .pure (.one 12 .act (.one 13 .last (.one 14 .pure .done))))))) (.one 12 .act (.one 8 .act (.one 9 .pure (.one 10 .pure (.one 11 .pure (.one 13 .last (.one 14 .pure .done)))))))))))))))) (fun w' => ∃ p : Regrown, w' = Sort.grow (redrawn wr p.d) p.os) (by kernel_rfl) (by kernel_rfl) (fun _ _ d _ _ h => by cases d <;> exact h) ?_
            simp only [Plan.pick, List.getElem?_cons_zero, List.getElem?_cons_succ]
            have hS : Below wr.heap.size wr wr.drew := below_drewN' (Below.refl _ _) 1
            have hB : Below _ _ wr.drew := below_drewN' hB 1
            clear d0 d1 d2 d3 d4 f0 f1 f2 f3
            generalize wr.drew = wc at *
            refine plan_pure (fun K hK => ?_); go_simp; refine hK _ _ ?_; clear hK K
            refine plan_pure (fun K hK => ?_); go_simp; refine hK _ _ ?_; clear hK K
            refine plan_pure (fun K hK => ?_); go_simp; refine hK _ _ ?_; clear hK K
            refine plan_pure (fun K hK => ?_); go_simp; refine hK _ _ ?_; clear hK K
            refine plan_pure (fun K hK => ?_); go_simp; refine hK _ _ ?_; clear hK K
            refine plan_pure (fun K hK => ?_); go_simp; refine hK _ _ ?_; clear hK K
            refine plan_load (fun K hK => ?_); go_simp; refine ⟨regrown_of_below hS, hK _ _ ?_⟩; clear hK K
            refine plan_load (fun K hK => ?_); go_simp; refine ⟨regrown_of_below hS, hK _ _ ?_⟩; clear hK K
            refine plan_both ?_ ?_
            · refine plan_act ?_
              go_wp2_with fail
              refine (l9Range_calls (a : Int) r.op r.num r.verdict r.key kr true hop0 hop1 hnu0 hnu1 hkOk _).mono ?_
              rintro e wc ⟨x, yx, can, rfl, hr, hb'⟩
              have hS := bnext hS hb'
              have hB := bnext hB hb'
              first | have m8 := Below.keep hb' m8 | skip
              clear hb'
              have HX := Lib.hid hr
              clear hr
              go_wp2
              refine ⟨regrown_of_below hS, ?_⟩
              refine plan_pure (fun K hK => ?_); go_simp; refine hK _ _ ?_; clear hK K
              refine plan_pure (fun K hK => ?_); go_simp; refine hK _ _ ?_; clear hK K
              refine plan_pure (fun K hK => ?_); go_simp; refine hK _ _ ?_; clear hK K
              refine plan_act ?_
              go_wp2
              have hb' := below_alloc' (Below.refl wc.heap.size wc) (.cells #[.int .i64 0, .int .i64 0, .int .i64 0, .int .i64 0] 80)
              have m8 := alloc_at' wc (.cells #[.int .i64 0, .int .i64 0, .int .i64 0, .int .i64 0] 80)
              obtain ⟨g8, hg'⟩ : ∃ g, wc.heap.size = g := ⟨_, rfl⟩
              have hg8 : wr.heap.size ≤ g8 := by have := hS.size; omega
              have hS := bnext hS hb'
              have hB := bnext hB hb'
              rw [hg'] at m8 ⊢
              generalize wc.alloc (.cells #[.int .i64 0, .int .i64 0, .int .i64 0, .int .i64 0] 80) = wc at *
              clear hb' hg'
              refine ⟨regrown_of_below hS, ?_⟩
              refine plan_last_ ?_
              have HS := hS
              obtain ⟨th1, V1, hw1, m8, o1⟩ := rput4 m8 x.lo x.hi x.bits x.opn
              have o1 := o1
              have hB := hB.trans (below_upon o1 (fun k hk => by omega) hB.size)
              have hWV : Below wr.heap.size wr V1 := HS.trans (below_upon o1 (fun k hk => by omega) HS.size)
              go_wp2_with ((with_reducible refine gate_store (p := 8) rfl ?_); go_loud (refine wpList_put rfl 80 _ _ rfl (g8) 0 [.int .i64 x.lo, .int .i64 x.hi, .int .i64 x.bits, .int .i64 x.opn] rfl rfl th1.out (by kernel_rfl) rfl ?_; rw [hw1.out]))
              refine plan_pure (fun K hK => ?_); go_simp; refine hK _ _ ?_; clear hK K
              refine plan_done ?_
              have hMo := hMo.below hWV
              have hK := hK.below hWV
              have z3 := hWV.size
              clear hS HS q0 q1 q2 q3 q4 p0 p1 p2 p3 th1 hw1 o1 hWV
              have hMlt : ∀ p ∈ Mo, p.1 < V1.heap.size := fun p hp => hMo.lt hp
              obtain ⟨lb, loff, hlA, hlq⟩ := h.at_ (H.below hB) (k := k) (cs := r.cells) (by simp [HR.out])
              simp only [Option.some.injEq, Addr.mk.injEq, and_true] at hlA
              obtain ⟨rfl, rfl⟩ := hlA
              have d0 : V1.cell? ⟨lb, loff + k * 5, none⟩ = some (.int .i64 r.at_) := hlq 0 _ rfl
              have d1 := hlq 1 _ rfl
              have d2 := hlq 2 _ rfl
              have d3 := hlq 3 _ rfl
              have d4 := hlq 4 _ rfl
              obtain ⟨kb, koff, hkA, hkq⟩ := ho.row.at_ hK (k := a) (cs := kr.cells) (by rw [List.getElem?_map, HKR.out]; rfl)
              simp only [Option.some.injEq, Addr.mk.injEq, and_true] at hkA
              obtain ⟨rfl, rfl⟩ := hkA
              have f0 : V1.cell? ⟨bu, 0 + a * 4, none⟩ = some (.int .i64 kr.lo) := hkq 0 _ rfl
              have f1 : V1.cell? ⟨bu, 0 + a * 4 + 1, none⟩ = some (.int .i64 kr.hi) := hkq 1 _ rfl
              have f2 : V1.cell? ⟨bu, 0 + a * 4 + 2, none⟩ = some (.int .i64 kr.bits) := hkq 2 _ rfl
              have f3 : V1.cell? ⟨bu, 0 + a * 4 + 3, none⟩ = some (.int .i64 kr.opn) := hkq 3 _ rfl
              rw [Nat.zero_add] at f0 f1 f2 f3
              clear hlq hkq
              rw [HA.out] at d0
              go_wp2
              have q0 := cell_regrown d0
              have q1 := cell_regrown d1
              have q2 := cell_regrown d2
              have q3 := cell_regrown d3
              have q4 := cell_regrown d4
              have p0 := cell_regrown f0
              have p1 := cell_regrown f1
              have p2 := cell_regrown f2
              have p3 := cell_regrown f3
              refine wp_region_plan [13] (.one 0 .pure (.one 1 .pure (.one 2 .pure (.one 4 .pure (.one 5 .pure (.one 6 .pure (.one 3 .load (.one 7 .load (.both (.one 8 .act (.one 9 .pure (.one 10 .pure (.one 11 .pure (.one 12 .act (.one 13 .last (.one 14 .pure .done))))))) (.one 12 .act (.one 8 .act (.one 9 .pure (.one 10 .pure (.one 11 .pure (.one 13 .last (.one 14 .pure .done)))))))))))))))) (fun w' => ∃ p : Regrown, w' = Sort.grow (redrawn V1 p.d) p.os) (by kernel_rfl) (by kernel_rfl) (fun _ _ d _ _ h => by cases d <;> exact h) ?_
              simp only [Plan.pick, List.getElem?_cons_zero, List.getElem?_cons_succ]
              have hS : Below V1.heap.size V1 V1.drew := below_drewN' (Below.refl _ _) 1
              have hB : Below _ _ V1.drew := below_drewN' hB 1
              clear d0 d1 d2 d3 d4 f0 f1 f2 f3
              generalize V1.drew = wc at *
              refine plan_pure (fun K hK => ?_); go_simp; refine hK _ _ ?_; clear hK K
              refine plan_pure (fun K hK => ?_); go_simp; refine hK _ _ ?_; clear hK K
              refine plan_pure (fun K hK => ?_); go_simp; refine hK _ _ ?_; clear hK K
              refine plan_pure (fun K hK => ?_); go_simp; refine hK _ _ ?_; clear hK K
              refine plan_pure (fun K hK => ?_); go_simp; refine hK _ _ ?_; clear hK K
              refine plan_pure (fun K hK => ?_); go_simp; refine hK _ _ ?_; clear hK K
              refine plan_load (fun K hK => ?_); go_simp; refine ⟨regrown_of_below hS, hK _ _ ?_⟩; clear hK K
              refine plan_load (fun K hK => ?_); go_simp; refine ⟨regrown_of_below hS, hK _ _ ?_⟩; clear hK K
              refine plan_both ?_ ?_
              · refine plan_act ?_
                go_wp2_with fail
                refine (l9Range_calls (a : Int) r.op r.num r.verdict r.key kr false hop0 hop1 hnu0 hnu1 hkOk _).mono ?_
                rintro e wc ⟨x2, yx2, more, rfl, hr, hb'⟩
                have hS := bnext hS hb'
                have hB := bnext hB hb'
                first | have m10 := Below.keep hb' m10 | skip
                clear hb'
                have HY := Lib.hid hr
                clear hr
                go_wp2
                refine ⟨regrown_of_below hS, ?_⟩
                refine plan_pure (fun K hK => ?_); go_simp; refine hK _ _ ?_; clear hK K
                refine plan_pure (fun K hK => ?_); go_simp; refine hK _ _ ?_; clear hK K
                refine plan_pure (fun K hK => ?_); go_simp; refine hK _ _ ?_; clear hK K
                refine plan_act ?_
                go_wp2
                have hb' := below_alloc' (Below.refl wc.heap.size wc) (.cells #[.int .i64 0, .int .i64 0, .int .i64 0, .int .i64 0] 80)
                have m10 := alloc_at' wc (.cells #[.int .i64 0, .int .i64 0, .int .i64 0, .int .i64 0] 80)
                obtain ⟨g10, hg'⟩ : ∃ g, wc.heap.size = g := ⟨_, rfl⟩
                have hg10 : V1.heap.size ≤ g10 := by have := hS.size; omega
                have hS := bnext hS hb'
                have hB := bnext hB hb'
                rw [hg'] at m10 ⊢
                generalize wc.alloc (.cells #[.int .i64 0, .int .i64 0, .int .i64 0, .int .i64 0] 80) = wc at *
                clear hb' hg'
                refine ⟨regrown_of_below hS, ?_⟩
                refine plan_last_ ?_
                have HS := hS
                obtain ⟨th1, V2, hw1, m10, o1⟩ := rput4 m10 x2.lo x2.hi x2.bits x2.opn
                have o1 := o1
                have hB := hB.trans (below_upon o1 (fun k hk => by omega) hB.size)
                have hWV : Below V1.heap.size V1 V2 := HS.trans (below_upon o1 (fun k hk => by omega) HS.size)
                go_wp2_with ((with_reducible refine gate_store (p := 10) rfl ?_); go_loud (refine wpList_put rfl 80 _ _ rfl (g10) 0 [.int .i64 x2.lo, .int .i64 x2.hi, .int .i64 x2.bits, .int .i64 x2.opn] rfl rfl th1.out (by kernel_rfl) rfl ?_; rw [hw1.out]))
                refine plan_pure (fun K hK => ?_); go_simp; refine hK _ _ ?_; clear hK K
                refine plan_done ?_
                have hMo := hMo.below hWV
                have hK := hK.below hWV
                have z4 := hWV.size
                clear hS HS q0 q1 q2 q3 q4 p0 p1 p2 p3 th1 hw1 o1 hWV
                cases can with
                | false =>
                  have hin2 : out ++ tidyGo (rs.drop (k + 1)) ks = tidyRules rs := by
                    rw [← hinv.out, HDR.out, tidyGo_skip (by rw [HKN.out]; exact HX.out)]
                  have HIN := Lib.hid hin2
                  clear hin2
                  go_wp2
                  refine ⟨?_, ?measure⟩
                  · repeat apply Exists.intro
                    refine ⟨?rel, ?eq⟩
                    case eq => rfl
                    case rel => exact ⟨k + 1, out, ks, Mo, K, by omega, by go_num, hoM, hMo, ho, hK, hap, hby, HIN, by omega, hB, by omega⟩
                  case measure => simp [intOf]; omega
                | true =>
                  have hol : (out.map Rule.cells).length = out.length := by simp
                  have HOL := Lib.hid hol
                  clear hol
                  obtain ⟨lb, loff, hlA, hlq⟩ := h.at_ (H.below hB) (k := k) (cs := r.cells) (by simp [HR.out])
                  simp only [Option.some.injEq, Addr.mk.injEq, and_true] at hlA
                  obtain ⟨rfl, rfl⟩ := hlA
                  have d0 : V2.cell? ⟨lb, loff + k * 5, none⟩ = some (.int .i64 r.at_) := hlq 0 _ rfl
                  have d1 := hlq 1 _ rfl
                  have d2 := hlq 2 _ rfl
                  have d3 := hlq 3 _ rfl
                  have d4 := hlq 4 _ rfl
                  obtain ⟨kb, koff, hkA, hkq⟩ := ho.row.at_ hK (k := a) (cs := kr.cells) (by rw [List.getElem?_map, HKR.out]; rfl)
                  simp only [Option.some.injEq, Addr.mk.injEq, and_true] at hkA
                  obtain ⟨rfl, rfl⟩ := hkA
                  have f0 : V2.cell? ⟨bu, 0 + a * 4, none⟩ = some (.int .i64 kr.lo) := hkq 0 _ rfl
                  have f1 : V2.cell? ⟨bu, 0 + a * 4 + 1, none⟩ = some (.int .i64 kr.hi) := hkq 1 _ rfl
                  have f2 : V2.cell? ⟨bu, 0 + a * 4 + 2, none⟩ = some (.int .i64 kr.bits) := hkq 2 _ rfl
                  have f3 : V2.cell? ⟨bu, 0 + a * 4 + 3, none⟩ = some (.int .i64 kr.opn) := hkq 3 _ rfl
                  rw [Nat.zero_add] at f0 f1 f2 f3
                  clear hlq hkq
                  rw [HA.out] at d0
                  have hbM := hoM.base
                  have hcells : [Value.int .i64 (a : Int), .int .i64 r.op, .int .i64 r.num, .int .i64 r.verdict, .int .i64 r.key] = r.cells := by unfold Rule.cells; rw [HA.out]
                  have HC := Lib.hid hcells
                  clear hcells
                  cases more with
                  | false =>
                    have hin2 : tidyRules rs = out ++ [r] := by
                      rw [← hinv.out, HDR.out, tidyGo_last (by rw [HKN.out]; exact HX.out) (by rw [HKN.out]; exact HY.out)]
                    have he : (tidied rs).map Rule.cells = out.map Rule.cells ++ [[Value.int .i64 (a : Int), .int .i64 r.op, .int .i64 r.num, .int .i64 r.verdict, .int .i64 r.key]] := by
                      rw [HT.out, hin2, List.map_append, HC.out]
                      rfl
                    have HE := Lib.hid he
                    clear hin2 he
                    go_wp2_with (((with_reducible refine gate_dst (N := 69) rfl ?_); refine wpList_append' rfl _ _ 44 rfl w.heap.size 56 j0 _ 5 40 Try.underlying44 HJ.out hy0 ht0 hc0 rfl (by decide) _ (out.map Rule.cells) Mo rfl hoM (hMo.alloc _) ⟨V2.heap.size, 0, none⟩ 1 1 [[.int .i64 a, .int .i64 r.op, .int .i64 r.num, .int .i64 r.verdict, .int .i64 r.key]] rfl (by simp) rfl (cells_new _ _ _) (by simp [Value.oneCell']) (by simp; omega) (by decide) (by simp; omega) ?_; intro v2 w4 Mo2 hoM2 hMo2 hon2 hat); have hB4 : Below w.heap.size w w4 := Only.below (below_alloc' hB _) (by rw [alloc_size]; omega) hon2 (fun k ⟨p, hp, e⟩ => by have := hbM p hp; omega))
                    go_ret
                    have hfin : Own w.heap.size 56 5 v2 ((tidied rs).map Rule.cells) Mo2 := HE.out ▸ hoM2
                    first | exact ⟨_, Mo2, rfl, hfin, hMo2, hB4⟩ | exact ⟨_, rfl, Mo2, hfin, hMo2, hB4⟩
                  | true =>
                    have hin2 : (out ++ [r]) ++ tidyGo (rs.drop (k + 1)) (ks.set a x2) = tidyRules rs := by
                      rw [← hinv.out, HDR.out, tidyGo_more (by rw [HKN.out]; exact HX.out) (by rw [HKN.out]; exact HY.out), HA.out, Int.toNat_natCast]
                      simp
                    have HIN := Lib.hid hin2
                    have hby2 : Bytes (ks.set a x2) := hby.next ha12 HKR.out HY.out
                    have hkl : ks.length = 12 := hby.1
                    obtain ⟨bu', hbe, -, hKm2, hat2⟩ := ho.at_ (k := a) (by rw [List.length_map, hkl]; exact ha12)
                    simp only [Option.some.injEq, Addr.mk.injEq, and_true] at hbe
                    subst hbe
                    have he2 : (out ++ [r]).map Rule.cells = out.map Rule.cells ++ [[Value.int .i64 (a : Int), .int .i64 r.op, .int .i64 r.num, .int .i64 r.verdict, .int .i64 r.key]] := by
                      rw [List.map_append, HC.out]
                      rfl
                    have HE2 := Lib.hid he2
                    have he3 : (ks.set a x2).map Rg.cells = (ks.map Rg.cells).set a x2.cells := List.map_set
                    have HE3 := Lib.hid he3
                    have HKM := Lib.hid hKm2
                    clear hin2 hkl he2 he3 hKm2
                    go_wp2_with (first | (((with_reducible refine gate_dst (N := 69) rfl ?_); refine wpList_append' rfl _ _ 44 rfl w.heap.size 56 j0 _ 5 40 Try.underlying44 HJ.out hy0 ht0 hc0 rfl (by decide) _ (out.map Rule.cells) Mo rfl hoM (hMo.alloc _) ⟨V2.heap.size, 0, none⟩ 1 1 [[.int .i64 a, .int .i64 r.op, .int .i64 r.num, .int .i64 r.verdict, .int .i64 r.key]] rfl (by simp) rfl (cells_new _ _ _) (by simp [Value.oneCell']) (by simp; omega) (by decide) (by simp; omega) ?_; intro v2 w4 Mo2 hoM2 hMo2 hon2 hat); have hB4 : Below w.heap.size w w4 := Only.below (below_alloc' hB _) (by rw [alloc_size]; omega) hon2 (fun k ⟨p, hp, e⟩ => by have := hbM p hp; omega); have m10 := Only.keep hon2 (alloc_keep _ m10) (fun ⟨p, hp, e⟩ => by have := hMlt p hp; omega); have hK4 := holds_apart (hK.alloc _) hap hon2; have hap4 := apart_grow (hK.alloc _) hap hat; obtain ⟨g0, g1, g2, g3⟩ := rat m10; obtain ⟨hst1, hst2⟩ := hat2 w4 hK4; obtain ⟨K', hK'o, hK'h, hK'm⟩ := hst2 x2.cells rfl) | ((with_reducible refine gate_store (p := 76) rfl ?_); go_loud (refine wpList_put rfl 80 _ _ rfl bu (a * 4) [.int .i64 x2.lo, .int .i64 x2.hi, .int .i64 x2.bits, .int .i64 x2.opn] rfl rfl hst1 (by kernel_rfl) rfl ?_)))
                    have hon3 : Only (· = bu) w4 (w4.setCells bu (a * 4) [.int .i64 x2.lo, .int .i64 x2.hi, .int .i64 x2.bits, .int .i64 x2.opn]) := only_setCells _ _ _ _ (Only.refl _ _) (.inl rfl)
                    have hnot : ∀ p ∈ Mo2, p.1 ≠ bu := fun p hp e => by
                      have hm : bu ∈ K.map (·.1) := by rw [HKM.out]; simp
                      obtain ⟨q, hq, e2⟩ := List.mem_map.1 hm
                      exact hap4 p hp q hq (e.trans e2.symm)
                    have z5 := hon2.size
                    rw [alloc_size] at z5
                    exact ⟨⟨_, v2, _, ⟨k + 1, by omega, by go_num, out ++ [r], ks.set a x2, Mo2, HE2.out ▸ hoM2, hMo2.only hon3 hnot, K', HE3.out ▸ hK'o, hK'h, (fun p hp q hq e => hnot p hp (e.trans (by have hm := List.mem_map_of_mem (f := Prod.fst) hq; rw [hK'm] at hm; simpa using hm))), hby2, HIN, by simp; omega, hB4.trans (below_upon hon3 (fun k hk => by omega) hB4.size), by have := hon3.size; omega⟩, rfl, rfl, by go_num⟩, by simp [intOf]; omega⟩
              · refine plan_act ?_
                go_wp2
                have hb' := below_alloc' (Below.refl wc.heap.size wc) (.cells #[.int .i64 0, .int .i64 0, .int .i64 0, .int .i64 0] 80)
                have m10 := alloc_at' wc (.cells #[.int .i64 0, .int .i64 0, .int .i64 0, .int .i64 0] 80)
                obtain ⟨g10, hg'⟩ : ∃ g, wc.heap.size = g := ⟨_, rfl⟩
                have hg10 : V1.heap.size ≤ g10 := by have := hS.size; omega
                have hS := bnext hS hb'
                have hB := bnext hB hb'
                rw [hg'] at m10 ⊢
                generalize wc.alloc (.cells #[.int .i64 0, .int .i64 0, .int .i64 0, .int .i64 0] 80) = wc at *
                clear hb' hg'
                refine ⟨regrown_of_below hS, ?_⟩
                refine plan_act ?_
                go_wp2_with fail
                refine (l9Range_calls (a : Int) r.op r.num r.verdict r.key kr false hop0 hop1 hnu0 hnu1 hkOk _).mono ?_
                rintro e wc ⟨x2, yx2, more, rfl, hr, hb'⟩
                have hS := bnext hS hb'
                have hB := bnext hB hb'
                first | have m10 := Below.keep hb' m10 | skip
                clear hb'
                have HY := Lib.hid hr
                clear hr
                go_wp2
                refine ⟨regrown_of_below hS, ?_⟩
                refine plan_pure (fun K hK => ?_); go_simp; refine hK _ _ ?_; clear hK K
                refine plan_pure (fun K hK => ?_); go_simp; refine hK _ _ ?_; clear hK K
                refine plan_pure (fun K hK => ?_); go_simp; refine hK _ _ ?_; clear hK K
                refine plan_last_ ?_
                have HS := hS
                obtain ⟨th1, V2, hw1, m10, o1⟩ := rput4 m10 x2.lo x2.hi x2.bits x2.opn
                have o1 := o1
                have hB := hB.trans (below_upon o1 (fun k hk => by omega) hB.size)
                have hWV : Below V1.heap.size V1 V2 := HS.trans (below_upon o1 (fun k hk => by omega) HS.size)
                go_wp2_with ((with_reducible refine gate_store (p := 10) rfl ?_); go_loud (refine wpList_put rfl 80 _ _ rfl (g10) 0 [.int .i64 x2.lo, .int .i64 x2.hi, .int .i64 x2.bits, .int .i64 x2.opn] rfl rfl th1.out (by kernel_rfl) rfl ?_; rw [hw1.out]))
                refine plan_pure (fun K hK => ?_); go_simp; refine hK _ _ ?_; clear hK K
                refine plan_done ?_
                have hMo := hMo.below hWV
                have hK := hK.below hWV
                have z4 := hWV.size
                clear hS HS q0 q1 q2 q3 q4 p0 p1 p2 p3 th1 hw1 o1 hWV
                cases can with
                | false =>
                  have hin2 : out ++ tidyGo (rs.drop (k + 1)) ks = tidyRules rs := by
                    rw [← hinv.out, HDR.out, tidyGo_skip (by rw [HKN.out]; exact HX.out)]
                  have HIN := Lib.hid hin2
                  clear hin2
                  go_wp2
                  refine ⟨?_, ?measure⟩
                  · repeat apply Exists.intro
                    refine ⟨?rel, ?eq⟩
                    case eq => rfl
                    case rel => exact ⟨k + 1, out, ks, Mo, K, by omega, by go_num, hoM, hMo, ho, hK, hap, hby, HIN, by omega, hB, by omega⟩
                  case measure => simp [intOf]; omega
                | true =>
                  have hol : (out.map Rule.cells).length = out.length := by simp
                  have HOL := Lib.hid hol
                  clear hol
                  obtain ⟨lb, loff, hlA, hlq⟩ := h.at_ (H.below hB) (k := k) (cs := r.cells) (by simp [HR.out])
                  simp only [Option.some.injEq, Addr.mk.injEq, and_true] at hlA
                  obtain ⟨rfl, rfl⟩ := hlA
                  have d0 : V2.cell? ⟨lb, loff + k * 5, none⟩ = some (.int .i64 r.at_) := hlq 0 _ rfl
                  have d1 := hlq 1 _ rfl
                  have d2 := hlq 2 _ rfl
                  have d3 := hlq 3 _ rfl
                  have d4 := hlq 4 _ rfl
                  obtain ⟨kb, koff, hkA, hkq⟩ := ho.row.at_ hK (k := a) (cs := kr.cells) (by rw [List.getElem?_map, HKR.out]; rfl)
                  simp only [Option.some.injEq, Addr.mk.injEq, and_true] at hkA
                  obtain ⟨rfl, rfl⟩ := hkA
                  have f0 : V2.cell? ⟨bu, 0 + a * 4, none⟩ = some (.int .i64 kr.lo) := hkq 0 _ rfl
                  have f1 : V2.cell? ⟨bu, 0 + a * 4 + 1, none⟩ = some (.int .i64 kr.hi) := hkq 1 _ rfl
                  have f2 : V2.cell? ⟨bu, 0 + a * 4 + 2, none⟩ = some (.int .i64 kr.bits) := hkq 2 _ rfl
                  have f3 : V2.cell? ⟨bu, 0 + a * 4 + 3, none⟩ = some (.int .i64 kr.opn) := hkq 3 _ rfl
                  rw [Nat.zero_add] at f0 f1 f2 f3
                  clear hlq hkq
                  rw [HA.out] at d0
                  have hbM := hoM.base
                  have hcells : [Value.int .i64 (a : Int), .int .i64 r.op, .int .i64 r.num, .int .i64 r.verdict, .int .i64 r.key] = r.cells := by unfold Rule.cells; rw [HA.out]
                  have HC := Lib.hid hcells
                  clear hcells
                  cases more with
                  | false =>
                    have hin2 : tidyRules rs = out ++ [r] := by
                      rw [← hinv.out, HDR.out, tidyGo_last (by rw [HKN.out]; exact HX.out) (by rw [HKN.out]; exact HY.out)]
                    have he : (tidied rs).map Rule.cells = out.map Rule.cells ++ [[Value.int .i64 (a : Int), .int .i64 r.op, .int .i64 r.num, .int .i64 r.verdict, .int .i64 r.key]] := by
                      rw [HT.out, hin2, List.map_append, HC.out]
                      rfl
                    have HE := Lib.hid he
                    clear hin2 he
                    go_wp2_with (((with_reducible refine gate_dst (N := 69) rfl ?_); refine wpList_append' rfl _ _ 44 rfl w.heap.size 56 j0 _ 5 40 Try.underlying44 HJ.out hy0 ht0 hc0 rfl (by decide) _ (out.map Rule.cells) Mo rfl hoM (hMo.alloc _) ⟨V2.heap.size, 0, none⟩ 1 1 [[.int .i64 a, .int .i64 r.op, .int .i64 r.num, .int .i64 r.verdict, .int .i64 r.key]] rfl (by simp) rfl (cells_new _ _ _) (by simp [Value.oneCell']) (by simp; omega) (by decide) (by simp; omega) ?_; intro v2 w4 Mo2 hoM2 hMo2 hon2 hat); have hB4 : Below w.heap.size w w4 := Only.below (below_alloc' hB _) (by rw [alloc_size]; omega) hon2 (fun k ⟨p, hp, e⟩ => by have := hbM p hp; omega))
                    go_ret
                    have hfin : Own w.heap.size 56 5 v2 ((tidied rs).map Rule.cells) Mo2 := HE.out ▸ hoM2
                    first | exact ⟨_, Mo2, rfl, hfin, hMo2, hB4⟩ | exact ⟨_, rfl, Mo2, hfin, hMo2, hB4⟩
                  | true =>
                    have hin2 : (out ++ [r]) ++ tidyGo (rs.drop (k + 1)) (ks.set a x2) = tidyRules rs := by
                      rw [← hinv.out, HDR.out, tidyGo_more (by rw [HKN.out]; exact HX.out) (by rw [HKN.out]; exact HY.out), HA.out, Int.toNat_natCast]
                      simp
                    have HIN := Lib.hid hin2
                    have hby2 : Bytes (ks.set a x2) := hby.next ha12 HKR.out HY.out
                    have hkl : ks.length = 12 := hby.1
                    obtain ⟨bu', hbe, -, hKm2, hat2⟩ := ho.at_ (k := a) (by rw [List.length_map, hkl]; exact ha12)
                    simp only [Option.some.injEq, Addr.mk.injEq, and_true] at hbe
                    subst hbe
                    have he2 : (out ++ [r]).map Rule.cells = out.map Rule.cells ++ [[Value.int .i64 (a : Int), .int .i64 r.op, .int .i64 r.num, .int .i64 r.verdict, .int .i64 r.key]] := by
                      rw [List.map_append, HC.out]
                      rfl
                    have HE2 := Lib.hid he2
                    have he3 : (ks.set a x2).map Rg.cells = (ks.map Rg.cells).set a x2.cells := List.map_set
                    have HE3 := Lib.hid he3
                    have HKM := Lib.hid hKm2
                    clear hin2 hkl he2 he3 hKm2
                    go_wp2_with (first | (((with_reducible refine gate_dst (N := 69) rfl ?_); refine wpList_append' rfl _ _ 44 rfl w.heap.size 56 j0 _ 5 40 Try.underlying44 HJ.out hy0 ht0 hc0 rfl (by decide) _ (out.map Rule.cells) Mo rfl hoM (hMo.alloc _) ⟨V2.heap.size, 0, none⟩ 1 1 [[.int .i64 a, .int .i64 r.op, .int .i64 r.num, .int .i64 r.verdict, .int .i64 r.key]] rfl (by simp) rfl (cells_new _ _ _) (by simp [Value.oneCell']) (by simp; omega) (by decide) (by simp; omega) ?_; intro v2 w4 Mo2 hoM2 hMo2 hon2 hat); have hB4 : Below w.heap.size w w4 := Only.below (below_alloc' hB _) (by rw [alloc_size]; omega) hon2 (fun k ⟨p, hp, e⟩ => by have := hbM p hp; omega); have m10 := Only.keep hon2 (alloc_keep _ m10) (fun ⟨p, hp, e⟩ => by have := hMlt p hp; omega); have hK4 := holds_apart (hK.alloc _) hap hon2; have hap4 := apart_grow (hK.alloc _) hap hat; obtain ⟨g0, g1, g2, g3⟩ := rat m10; obtain ⟨hst1, hst2⟩ := hat2 w4 hK4; obtain ⟨K', hK'o, hK'h, hK'm⟩ := hst2 x2.cells rfl) | ((with_reducible refine gate_store (p := 76) rfl ?_); go_loud (refine wpList_put rfl 80 _ _ rfl bu (a * 4) [.int .i64 x2.lo, .int .i64 x2.hi, .int .i64 x2.bits, .int .i64 x2.opn] rfl rfl hst1 (by kernel_rfl) rfl ?_)))
                    have hon3 : Only (· = bu) w4 (w4.setCells bu (a * 4) [.int .i64 x2.lo, .int .i64 x2.hi, .int .i64 x2.bits, .int .i64 x2.opn]) := only_setCells _ _ _ _ (Only.refl _ _) (.inl rfl)
                    have hnot : ∀ p ∈ Mo2, p.1 ≠ bu := fun p hp e => by
                      have hm : bu ∈ K.map (·.1) := by rw [HKM.out]; simp
                      obtain ⟨q, hq, e2⟩ := List.mem_map.1 hm
                      exact hap4 p hp q hq (e.trans e2.symm)
                    have z5 := hon2.size
                    rw [alloc_size] at z5
                    exact ⟨⟨_, v2, _, ⟨k + 1, by omega, by go_num, out ++ [r], ks.set a x2, Mo2, HE2.out ▸ hoM2, hMo2.only hon3 hnot, K', HE3.out ▸ hK'o, hK'h, (fun p hp q hq e => hnot p hp (e.trans (by have hm := List.mem_map_of_mem (f := Prod.fst) hq; rw [hK'm] at hm; simpa using hm))), hby2, HIN, by simp; omega, hB4.trans (below_upon hon3 (fun k hk => by omega) hB4.size), by have := hon3.size; omega⟩, rfl, rfl, by go_num⟩, by simp [intOf]; omega⟩
            · refine plan_act ?_
              go_wp2
              have hb' := below_alloc' (Below.refl wc.heap.size wc) (.cells #[.int .i64 0, .int .i64 0, .int .i64 0, .int .i64 0] 80)
              have m8 := alloc_at' wc (.cells #[.int .i64 0, .int .i64 0, .int .i64 0, .int .i64 0] 80)
              obtain ⟨g8, hg'⟩ : ∃ g, wc.heap.size = g := ⟨_, rfl⟩
              have hg8 : wr.heap.size ≤ g8 := by have := hS.size; omega
              have hS := bnext hS hb'
              have hB := bnext hB hb'
              rw [hg'] at m8 ⊢
              generalize wc.alloc (.cells #[.int .i64 0, .int .i64 0, .int .i64 0, .int .i64 0] 80) = wc at *
              clear hb' hg'
              refine ⟨regrown_of_below hS, ?_⟩
              refine plan_act ?_
              go_wp2_with fail
              refine (l9Range_calls (a : Int) r.op r.num r.verdict r.key kr true hop0 hop1 hnu0 hnu1 hkOk _).mono ?_
              rintro e wc ⟨x, yx, can, rfl, hr, hb'⟩
              have hS := bnext hS hb'
              have hB := bnext hB hb'
              first | have m8 := Below.keep hb' m8 | skip
              clear hb'
              have HX := Lib.hid hr
              clear hr
              go_wp2
              refine ⟨regrown_of_below hS, ?_⟩
              refine plan_pure (fun K hK => ?_); go_simp; refine hK _ _ ?_; clear hK K
              refine plan_pure (fun K hK => ?_); go_simp; refine hK _ _ ?_; clear hK K
              refine plan_pure (fun K hK => ?_); go_simp; refine hK _ _ ?_; clear hK K
              refine plan_last_ ?_
              have HS := hS
              obtain ⟨th1, V1, hw1, m8, o1⟩ := rput4 m8 x.lo x.hi x.bits x.opn
              have o1 := o1
              have hB := hB.trans (below_upon o1 (fun k hk => by omega) hB.size)
              have hWV : Below wr.heap.size wr V1 := HS.trans (below_upon o1 (fun k hk => by omega) HS.size)
              go_wp2_with ((with_reducible refine gate_store (p := 8) rfl ?_); go_loud (refine wpList_put rfl 80 _ _ rfl (g8) 0 [.int .i64 x.lo, .int .i64 x.hi, .int .i64 x.bits, .int .i64 x.opn] rfl rfl th1.out (by kernel_rfl) rfl ?_; rw [hw1.out]))
              refine plan_pure (fun K hK => ?_); go_simp; refine hK _ _ ?_; clear hK K
              refine plan_done ?_
              have hMo := hMo.below hWV
              have hK := hK.below hWV
              have z3 := hWV.size
              clear hS HS q0 q1 q2 q3 q4 p0 p1 p2 p3 th1 hw1 o1 hWV
              have hMlt : ∀ p ∈ Mo, p.1 < V1.heap.size := fun p hp => hMo.lt hp
              obtain ⟨lb, loff, hlA, hlq⟩ := h.at_ (H.below hB) (k := k) (cs := r.cells) (by simp [HR.out])
              simp only [Option.some.injEq, Addr.mk.injEq, and_true] at hlA
              obtain ⟨rfl, rfl⟩ := hlA
              have d0 : V1.cell? ⟨lb, loff + k * 5, none⟩ = some (.int .i64 r.at_) := hlq 0 _ rfl
              have d1 := hlq 1 _ rfl
              have d2 := hlq 2 _ rfl
              have d3 := hlq 3 _ rfl
              have d4 := hlq 4 _ rfl
              obtain ⟨kb, koff, hkA, hkq⟩ := ho.row.at_ hK (k := a) (cs := kr.cells) (by rw [List.getElem?_map, HKR.out]; rfl)
              simp only [Option.some.injEq, Addr.mk.injEq, and_true] at hkA
              obtain ⟨rfl, rfl⟩ := hkA
              have f0 : V1.cell? ⟨bu, 0 + a * 4, none⟩ = some (.int .i64 kr.lo) := hkq 0 _ rfl
              have f1 : V1.cell? ⟨bu, 0 + a * 4 + 1, none⟩ = some (.int .i64 kr.hi) := hkq 1 _ rfl
              have f2 : V1.cell? ⟨bu, 0 + a * 4 + 2, none⟩ = some (.int .i64 kr.bits) := hkq 2 _ rfl
              have f3 : V1.cell? ⟨bu, 0 + a * 4 + 3, none⟩ = some (.int .i64 kr.opn) := hkq 3 _ rfl
              rw [Nat.zero_add] at f0 f1 f2 f3
              clear hlq hkq
              rw [HA.out] at d0
              go_wp2
              have q0 := cell_regrown d0
              have q1 := cell_regrown d1
              have q2 := cell_regrown d2
              have q3 := cell_regrown d3
              have q4 := cell_regrown d4
              have p0 := cell_regrown f0
              have p1 := cell_regrown f1
              have p2 := cell_regrown f2
              have p3 := cell_regrown f3
              refine wp_region_plan [13] (.one 0 .pure (.one 1 .pure (.one 2 .pure (.one 4 .pure (.one 5 .pure (.one 6 .pure (.one 3 .load (.one 7 .load (.both (.one 8 .act (.one 9 .pure (.one 10 .pure (.one 11 .pure (.one 12 .act (.one 13 .last (.one 14 .pure .done))))))) (.one 12 .act (.one 8 .act (.one 9 .pure (.one 10 .pure (.one 11 .pure (.one 13 .last (.one 14 .pure .done)))))))))))))))) (fun w' => ∃ p : Regrown, w' = Sort.grow (redrawn V1 p.d) p.os) (by kernel_rfl) (by kernel_rfl) (fun _ _ d _ _ h => by cases d <;> exact h) ?_
              simp only [Plan.pick, List.getElem?_cons_zero, List.getElem?_cons_succ]
              have hS : Below V1.heap.size V1 V1.drew := below_drewN' (Below.refl _ _) 1
              have hB : Below _ _ V1.drew := below_drewN' hB 1
              clear d0 d1 d2 d3 d4 f0 f1 f2 f3
              generalize V1.drew = wc at *
              refine plan_pure (fun K hK => ?_); go_simp; refine hK _ _ ?_; clear hK K
              refine plan_pure (fun K hK => ?_); go_simp; refine hK _ _ ?_; clear hK K
              refine plan_pure (fun K hK => ?_); go_simp; refine hK _ _ ?_; clear hK K
              refine plan_pure (fun K hK => ?_); go_simp; refine hK _ _ ?_; clear hK K
              refine plan_pure (fun K hK => ?_); go_simp; refine hK _ _ ?_; clear hK K
              refine plan_pure (fun K hK => ?_); go_simp; refine hK _ _ ?_; clear hK K
              refine plan_load (fun K hK => ?_); go_simp; refine ⟨regrown_of_below hS, hK _ _ ?_⟩; clear hK K
              refine plan_load (fun K hK => ?_); go_simp; refine ⟨regrown_of_below hS, hK _ _ ?_⟩; clear hK K
              refine plan_both ?_ ?_
              · refine plan_act ?_
                go_wp2_with fail
                refine (l9Range_calls (a : Int) r.op r.num r.verdict r.key kr false hop0 hop1 hnu0 hnu1 hkOk _).mono ?_
                rintro e wc ⟨x2, yx2, more, rfl, hr, hb'⟩
                have hS := bnext hS hb'
                have hB := bnext hB hb'
                first | have m10 := Below.keep hb' m10 | skip
                clear hb'
                have HY := Lib.hid hr
                clear hr
                go_wp2
                refine ⟨regrown_of_below hS, ?_⟩
                refine plan_pure (fun K hK => ?_); go_simp; refine hK _ _ ?_; clear hK K
                refine plan_pure (fun K hK => ?_); go_simp; refine hK _ _ ?_; clear hK K
                refine plan_pure (fun K hK => ?_); go_simp; refine hK _ _ ?_; clear hK K
                refine plan_act ?_
                go_wp2
                have hb' := below_alloc' (Below.refl wc.heap.size wc) (.cells #[.int .i64 0, .int .i64 0, .int .i64 0, .int .i64 0] 80)
                have m10 := alloc_at' wc (.cells #[.int .i64 0, .int .i64 0, .int .i64 0, .int .i64 0] 80)
                obtain ⟨g10, hg'⟩ : ∃ g, wc.heap.size = g := ⟨_, rfl⟩
                have hg10 : V1.heap.size ≤ g10 := by have := hS.size; omega
                have hS := bnext hS hb'
                have hB := bnext hB hb'
                rw [hg'] at m10 ⊢
                generalize wc.alloc (.cells #[.int .i64 0, .int .i64 0, .int .i64 0, .int .i64 0] 80) = wc at *
                clear hb' hg'
                refine ⟨regrown_of_below hS, ?_⟩
                refine plan_last_ ?_
                have HS := hS
                obtain ⟨th1, V2, hw1, m10, o1⟩ := rput4 m10 x2.lo x2.hi x2.bits x2.opn
                have o1 := o1
                have hB := hB.trans (below_upon o1 (fun k hk => by omega) hB.size)
                have hWV : Below V1.heap.size V1 V2 := HS.trans (below_upon o1 (fun k hk => by omega) HS.size)
                go_wp2_with ((with_reducible refine gate_store (p := 10) rfl ?_); go_loud (refine wpList_put rfl 80 _ _ rfl (g10) 0 [.int .i64 x2.lo, .int .i64 x2.hi, .int .i64 x2.bits, .int .i64 x2.opn] rfl rfl th1.out (by kernel_rfl) rfl ?_; rw [hw1.out]))
                refine plan_pure (fun K hK => ?_); go_simp; refine hK _ _ ?_; clear hK K
                refine plan_done ?_
                have hMo := hMo.below hWV
                have hK := hK.below hWV
                have z4 := hWV.size
                clear hS HS q0 q1 q2 q3 q4 p0 p1 p2 p3 th1 hw1 o1 hWV
                cases can with
                | false =>
                  have hin2 : out ++ tidyGo (rs.drop (k + 1)) ks = tidyRules rs := by
                    rw [← hinv.out, HDR.out, tidyGo_skip (by rw [HKN.out]; exact HX.out)]
                  have HIN := Lib.hid hin2
                  clear hin2
                  go_wp2
                  refine ⟨?_, ?measure⟩
                  · repeat apply Exists.intro
                    refine ⟨?rel, ?eq⟩
                    case eq => rfl
                    case rel => exact ⟨k + 1, out, ks, Mo, K, by omega, by go_num, hoM, hMo, ho, hK, hap, hby, HIN, by omega, hB, by omega⟩
                  case measure => simp [intOf]; omega
                | true =>
                  have hol : (out.map Rule.cells).length = out.length := by simp
                  have HOL := Lib.hid hol
                  clear hol
                  obtain ⟨lb, loff, hlA, hlq⟩ := h.at_ (H.below hB) (k := k) (cs := r.cells) (by simp [HR.out])
                  simp only [Option.some.injEq, Addr.mk.injEq, and_true] at hlA
                  obtain ⟨rfl, rfl⟩ := hlA
                  have d0 : V2.cell? ⟨lb, loff + k * 5, none⟩ = some (.int .i64 r.at_) := hlq 0 _ rfl
                  have d1 := hlq 1 _ rfl
                  have d2 := hlq 2 _ rfl
                  have d3 := hlq 3 _ rfl
                  have d4 := hlq 4 _ rfl
                  obtain ⟨kb, koff, hkA, hkq⟩ := ho.row.at_ hK (k := a) (cs := kr.cells) (by rw [List.getElem?_map, HKR.out]; rfl)
                  simp only [Option.some.injEq, Addr.mk.injEq, and_true] at hkA
                  obtain ⟨rfl, rfl⟩ := hkA
                  have f0 : V2.cell? ⟨bu, 0 + a * 4, none⟩ = some (.int .i64 kr.lo) := hkq 0 _ rfl
                  have f1 : V2.cell? ⟨bu, 0 + a * 4 + 1, none⟩ = some (.int .i64 kr.hi) := hkq 1 _ rfl
                  have f2 : V2.cell? ⟨bu, 0 + a * 4 + 2, none⟩ = some (.int .i64 kr.bits) := hkq 2 _ rfl
                  have f3 : V2.cell? ⟨bu, 0 + a * 4 + 3, none⟩ = some (.int .i64 kr.opn) := hkq 3 _ rfl
                  rw [Nat.zero_add] at f0 f1 f2 f3
                  clear hlq hkq
                  rw [HA.out] at d0
                  have hbM := hoM.base
                  have hcells : [Value.int .i64 (a : Int), .int .i64 r.op, .int .i64 r.num, .int .i64 r.verdict, .int .i64 r.key] = r.cells := by unfold Rule.cells; rw [HA.out]
                  have HC := Lib.hid hcells
                  clear hcells
                  cases more with
                  | false =>
                    have hin2 : tidyRules rs = out ++ [r] := by
                      rw [← hinv.out, HDR.out, tidyGo_last (by rw [HKN.out]; exact HX.out) (by rw [HKN.out]; exact HY.out)]
                    have he : (tidied rs).map Rule.cells = out.map Rule.cells ++ [[Value.int .i64 (a : Int), .int .i64 r.op, .int .i64 r.num, .int .i64 r.verdict, .int .i64 r.key]] := by
                      rw [HT.out, hin2, List.map_append, HC.out]
                      rfl
                    have HE := Lib.hid he
                    clear hin2 he
                    go_wp2_with (((with_reducible refine gate_dst (N := 69) rfl ?_); refine wpList_append' rfl _ _ 44 rfl w.heap.size 56 j0 _ 5 40 Try.underlying44 HJ.out hy0 ht0 hc0 rfl (by decide) _ (out.map Rule.cells) Mo rfl hoM (hMo.alloc _) ⟨V2.heap.size, 0, none⟩ 1 1 [[.int .i64 a, .int .i64 r.op, .int .i64 r.num, .int .i64 r.verdict, .int .i64 r.key]] rfl (by simp) rfl (cells_new _ _ _) (by simp [Value.oneCell']) (by simp; omega) (by decide) (by simp; omega) ?_; intro v2 w4 Mo2 hoM2 hMo2 hon2 hat); have hB4 : Below w.heap.size w w4 := Only.below (below_alloc' hB _) (by rw [alloc_size]; omega) hon2 (fun k ⟨p, hp, e⟩ => by have := hbM p hp; omega))
                    go_ret
                    have hfin : Own w.heap.size 56 5 v2 ((tidied rs).map Rule.cells) Mo2 := HE.out ▸ hoM2
                    first | exact ⟨_, Mo2, rfl, hfin, hMo2, hB4⟩ | exact ⟨_, rfl, Mo2, hfin, hMo2, hB4⟩
                  | true =>
                    have hin2 : (out ++ [r]) ++ tidyGo (rs.drop (k + 1)) (ks.set a x2) = tidyRules rs := by
                      rw [← hinv.out, HDR.out, tidyGo_more (by rw [HKN.out]; exact HX.out) (by rw [HKN.out]; exact HY.out), HA.out, Int.toNat_natCast]
                      simp
                    have HIN := Lib.hid hin2
                    have hby2 : Bytes (ks.set a x2) := hby.next ha12 HKR.out HY.out
                    have hkl : ks.length = 12 := hby.1
                    obtain ⟨bu', hbe, -, hKm2, hat2⟩ := ho.at_ (k := a) (by rw [List.length_map, hkl]; exact ha12)
                    simp only [Option.some.injEq, Addr.mk.injEq, and_true] at hbe
                    subst hbe
                    have he2 : (out ++ [r]).map Rule.cells = out.map Rule.cells ++ [[Value.int .i64 (a : Int), .int .i64 r.op, .int .i64 r.num, .int .i64 r.verdict, .int .i64 r.key]] := by
                      rw [List.map_append, HC.out]
                      rfl
                    have HE2 := Lib.hid he2
                    have he3 : (ks.set a x2).map Rg.cells = (ks.map Rg.cells).set a x2.cells := List.map_set
                    have HE3 := Lib.hid he3
                    have HKM := Lib.hid hKm2
                    clear hin2 hkl he2 he3 hKm2
                    go_wp2_with (first | (((with_reducible refine gate_dst (N := 69) rfl ?_); refine wpList_append' rfl _ _ 44 rfl w.heap.size 56 j0 _ 5 40 Try.underlying44 HJ.out hy0 ht0 hc0 rfl (by decide) _ (out.map Rule.cells) Mo rfl hoM (hMo.alloc _) ⟨V2.heap.size, 0, none⟩ 1 1 [[.int .i64 a, .int .i64 r.op, .int .i64 r.num, .int .i64 r.verdict, .int .i64 r.key]] rfl (by simp) rfl (cells_new _ _ _) (by simp [Value.oneCell']) (by simp; omega) (by decide) (by simp; omega) ?_; intro v2 w4 Mo2 hoM2 hMo2 hon2 hat); have hB4 : Below w.heap.size w w4 := Only.below (below_alloc' hB _) (by rw [alloc_size]; omega) hon2 (fun k ⟨p, hp, e⟩ => by have := hbM p hp; omega); have m10 := Only.keep hon2 (alloc_keep _ m10) (fun ⟨p, hp, e⟩ => by have := hMlt p hp; omega); have hK4 := holds_apart (hK.alloc _) hap hon2; have hap4 := apart_grow (hK.alloc _) hap hat; obtain ⟨g0, g1, g2, g3⟩ := rat m10; obtain ⟨hst1, hst2⟩ := hat2 w4 hK4; obtain ⟨K', hK'o, hK'h, hK'm⟩ := hst2 x2.cells rfl) | ((with_reducible refine gate_store (p := 76) rfl ?_); go_loud (refine wpList_put rfl 80 _ _ rfl bu (a * 4) [.int .i64 x2.lo, .int .i64 x2.hi, .int .i64 x2.bits, .int .i64 x2.opn] rfl rfl hst1 (by kernel_rfl) rfl ?_)))
                    have hon3 : Only (· = bu) w4 (w4.setCells bu (a * 4) [.int .i64 x2.lo, .int .i64 x2.hi, .int .i64 x2.bits, .int .i64 x2.opn]) := only_setCells _ _ _ _ (Only.refl _ _) (.inl rfl)
                    have hnot : ∀ p ∈ Mo2, p.1 ≠ bu := fun p hp e => by
                      have hm : bu ∈ K.map (·.1) := by rw [HKM.out]; simp
                      obtain ⟨q, hq, e2⟩ := List.mem_map.1 hm
                      exact hap4 p hp q hq (e.trans e2.symm)
                    have z5 := hon2.size
                    rw [alloc_size] at z5
                    exact ⟨⟨_, v2, _, ⟨k + 1, by omega, by go_num, out ++ [r], ks.set a x2, Mo2, HE2.out ▸ hoM2, hMo2.only hon3 hnot, K', HE3.out ▸ hK'o, hK'h, (fun p hp q hq e => hnot p hp (e.trans (by have hm := List.mem_map_of_mem (f := Prod.fst) hq; rw [hK'm] at hm; simpa using hm))), hby2, HIN, by simp; omega, hB4.trans (below_upon hon3 (fun k hk => by omega) hB4.size), by have := hon3.size; omega⟩, rfl, rfl, by go_num⟩, by simp [intOf]; omega⟩
              · refine plan_act ?_
                go_wp2
                have hb' := below_alloc' (Below.refl wc.heap.size wc) (.cells #[.int .i64 0, .int .i64 0, .int .i64 0, .int .i64 0] 80)
                have m10 := alloc_at' wc (.cells #[.int .i64 0, .int .i64 0, .int .i64 0, .int .i64 0] 80)
                obtain ⟨g10, hg'⟩ : ∃ g, wc.heap.size = g := ⟨_, rfl⟩
                have hg10 : V1.heap.size ≤ g10 := by have := hS.size; omega
                have hS := bnext hS hb'
                have hB := bnext hB hb'
                rw [hg'] at m10 ⊢
                generalize wc.alloc (.cells #[.int .i64 0, .int .i64 0, .int .i64 0, .int .i64 0] 80) = wc at *
                clear hb' hg'
                refine ⟨regrown_of_below hS, ?_⟩
                refine plan_act ?_
                go_wp2_with fail
                refine (l9Range_calls (a : Int) r.op r.num r.verdict r.key kr false hop0 hop1 hnu0 hnu1 hkOk _).mono ?_
                rintro e wc ⟨x2, yx2, more, rfl, hr, hb'⟩
                have hS := bnext hS hb'
                have hB := bnext hB hb'
                first | have m10 := Below.keep hb' m10 | skip
                clear hb'
                have HY := Lib.hid hr
                clear hr
                go_wp2
                refine ⟨regrown_of_below hS, ?_⟩
                refine plan_pure (fun K hK => ?_); go_simp; refine hK _ _ ?_; clear hK K
                refine plan_pure (fun K hK => ?_); go_simp; refine hK _ _ ?_; clear hK K
                refine plan_pure (fun K hK => ?_); go_simp; refine hK _ _ ?_; clear hK K
                refine plan_last_ ?_
                have HS := hS
                obtain ⟨th1, V2, hw1, m10, o1⟩ := rput4 m10 x2.lo x2.hi x2.bits x2.opn
                have o1 := o1
                have hB := hB.trans (below_upon o1 (fun k hk => by omega) hB.size)
                have hWV : Below V1.heap.size V1 V2 := HS.trans (below_upon o1 (fun k hk => by omega) HS.size)
                go_wp2_with ((with_reducible refine gate_store (p := 10) rfl ?_); go_loud (refine wpList_put rfl 80 _ _ rfl (g10) 0 [.int .i64 x2.lo, .int .i64 x2.hi, .int .i64 x2.bits, .int .i64 x2.opn] rfl rfl th1.out (by kernel_rfl) rfl ?_; rw [hw1.out]))
                refine plan_pure (fun K hK => ?_); go_simp; refine hK _ _ ?_; clear hK K
                refine plan_done ?_
                have hMo := hMo.below hWV
                have hK := hK.below hWV
                have z4 := hWV.size
                clear hS HS q0 q1 q2 q3 q4 p0 p1 p2 p3 th1 hw1 o1 hWV
                cases can with
                | false =>
                  have hin2 : out ++ tidyGo (rs.drop (k + 1)) ks = tidyRules rs := by
                    rw [← hinv.out, HDR.out, tidyGo_skip (by rw [HKN.out]; exact HX.out)]
                  have HIN := Lib.hid hin2
                  clear hin2
                  go_wp2
                  refine ⟨?_, ?measure⟩
                  · repeat apply Exists.intro
                    refine ⟨?rel, ?eq⟩
                    case eq => rfl
                    case rel => exact ⟨k + 1, out, ks, Mo, K, by omega, by go_num, hoM, hMo, ho, hK, hap, hby, HIN, by omega, hB, by omega⟩
                  case measure => simp [intOf]; omega
                | true =>
                  have hol : (out.map Rule.cells).length = out.length := by simp
                  have HOL := Lib.hid hol
                  clear hol
                  obtain ⟨lb, loff, hlA, hlq⟩ := h.at_ (H.below hB) (k := k) (cs := r.cells) (by simp [HR.out])
                  simp only [Option.some.injEq, Addr.mk.injEq, and_true] at hlA
                  obtain ⟨rfl, rfl⟩ := hlA
                  have d0 : V2.cell? ⟨lb, loff + k * 5, none⟩ = some (.int .i64 r.at_) := hlq 0 _ rfl
                  have d1 := hlq 1 _ rfl
                  have d2 := hlq 2 _ rfl
                  have d3 := hlq 3 _ rfl
                  have d4 := hlq 4 _ rfl
                  obtain ⟨kb, koff, hkA, hkq⟩ := ho.row.at_ hK (k := a) (cs := kr.cells) (by rw [List.getElem?_map, HKR.out]; rfl)
                  simp only [Option.some.injEq, Addr.mk.injEq, and_true] at hkA
                  obtain ⟨rfl, rfl⟩ := hkA
                  have f0 : V2.cell? ⟨bu, 0 + a * 4, none⟩ = some (.int .i64 kr.lo) := hkq 0 _ rfl
                  have f1 : V2.cell? ⟨bu, 0 + a * 4 + 1, none⟩ = some (.int .i64 kr.hi) := hkq 1 _ rfl
                  have f2 : V2.cell? ⟨bu, 0 + a * 4 + 2, none⟩ = some (.int .i64 kr.bits) := hkq 2 _ rfl
                  have f3 : V2.cell? ⟨bu, 0 + a * 4 + 3, none⟩ = some (.int .i64 kr.opn) := hkq 3 _ rfl
                  rw [Nat.zero_add] at f0 f1 f2 f3
                  clear hlq hkq
                  rw [HA.out] at d0
                  have hbM := hoM.base
                  have hcells : [Value.int .i64 (a : Int), .int .i64 r.op, .int .i64 r.num, .int .i64 r.verdict, .int .i64 r.key] = r.cells := by unfold Rule.cells; rw [HA.out]
                  have HC := Lib.hid hcells
                  clear hcells
                  cases more with
                  | false =>
                    have hin2 : tidyRules rs = out ++ [r] := by
                      rw [← hinv.out, HDR.out, tidyGo_last (by rw [HKN.out]; exact HX.out) (by rw [HKN.out]; exact HY.out)]
                    have he : (tidied rs).map Rule.cells = out.map Rule.cells ++ [[Value.int .i64 (a : Int), .int .i64 r.op, .int .i64 r.num, .int .i64 r.verdict, .int .i64 r.key]] := by
                      rw [HT.out, hin2, List.map_append, HC.out]
                      rfl
                    have HE := Lib.hid he
                    clear hin2 he
                    go_wp2_with (((with_reducible refine gate_dst (N := 69) rfl ?_); refine wpList_append' rfl _ _ 44 rfl w.heap.size 56 j0 _ 5 40 Try.underlying44 HJ.out hy0 ht0 hc0 rfl (by decide) _ (out.map Rule.cells) Mo rfl hoM (hMo.alloc _) ⟨V2.heap.size, 0, none⟩ 1 1 [[.int .i64 a, .int .i64 r.op, .int .i64 r.num, .int .i64 r.verdict, .int .i64 r.key]] rfl (by simp) rfl (cells_new _ _ _) (by simp [Value.oneCell']) (by simp; omega) (by decide) (by simp; omega) ?_; intro v2 w4 Mo2 hoM2 hMo2 hon2 hat); have hB4 : Below w.heap.size w w4 := Only.below (below_alloc' hB _) (by rw [alloc_size]; omega) hon2 (fun k ⟨p, hp, e⟩ => by have := hbM p hp; omega))
                    go_ret
                    have hfin : Own w.heap.size 56 5 v2 ((tidied rs).map Rule.cells) Mo2 := HE.out ▸ hoM2
                    first | exact ⟨_, Mo2, rfl, hfin, hMo2, hB4⟩ | exact ⟨_, rfl, Mo2, hfin, hMo2, hB4⟩
                  | true =>
                    have hin2 : (out ++ [r]) ++ tidyGo (rs.drop (k + 1)) (ks.set a x2) = tidyRules rs := by
                      rw [← hinv.out, HDR.out, tidyGo_more (by rw [HKN.out]; exact HX.out) (by rw [HKN.out]; exact HY.out), HA.out, Int.toNat_natCast]
                      simp
                    have HIN := Lib.hid hin2
                    have hby2 : Bytes (ks.set a x2) := hby.next ha12 HKR.out HY.out
                    have hkl : ks.length = 12 := hby.1
                    obtain ⟨bu', hbe, -, hKm2, hat2⟩ := ho.at_ (k := a) (by rw [List.length_map, hkl]; exact ha12)
                    simp only [Option.some.injEq, Addr.mk.injEq, and_true] at hbe
                    subst hbe
                    have he2 : (out ++ [r]).map Rule.cells = out.map Rule.cells ++ [[Value.int .i64 (a : Int), .int .i64 r.op, .int .i64 r.num, .int .i64 r.verdict, .int .i64 r.key]] := by
                      rw [List.map_append, HC.out]
                      rfl
                    have HE2 := Lib.hid he2
                    have he3 : (ks.set a x2).map Rg.cells = (ks.map Rg.cells).set a x2.cells := List.map_set
                    have HE3 := Lib.hid he3
                    have HKM := Lib.hid hKm2
                    clear hin2 hkl he2 he3 hKm2
                    go_wp2_with (first | (((with_reducible refine gate_dst (N := 69) rfl ?_); refine wpList_append' rfl _ _ 44 rfl w.heap.size 56 j0 _ 5 40 Try.underlying44 HJ.out hy0 ht0 hc0 rfl (by decide) _ (out.map Rule.cells) Mo rfl hoM (hMo.alloc _) ⟨V2.heap.size, 0, none⟩ 1 1 [[.int .i64 a, .int .i64 r.op, .int .i64 r.num, .int .i64 r.verdict, .int .i64 r.key]] rfl (by simp) rfl (cells_new _ _ _) (by simp [Value.oneCell']) (by simp; omega) (by decide) (by simp; omega) ?_; intro v2 w4 Mo2 hoM2 hMo2 hon2 hat); have hB4 : Below w.heap.size w w4 := Only.below (below_alloc' hB _) (by rw [alloc_size]; omega) hon2 (fun k ⟨p, hp, e⟩ => by have := hbM p hp; omega); have m10 := Only.keep hon2 (alloc_keep _ m10) (fun ⟨p, hp, e⟩ => by have := hMlt p hp; omega); have hK4 := holds_apart (hK.alloc _) hap hon2; have hap4 := apart_grow (hK.alloc _) hap hat; obtain ⟨g0, g1, g2, g3⟩ := rat m10; obtain ⟨hst1, hst2⟩ := hat2 w4 hK4; obtain ⟨K', hK'o, hK'h, hK'm⟩ := hst2 x2.cells rfl) | ((with_reducible refine gate_store (p := 76) rfl ?_); go_loud (refine wpList_put rfl 80 _ _ rfl bu (a * 4) [.int .i64 x2.lo, .int .i64 x2.hi, .int .i64 x2.bits, .int .i64 x2.opn] rfl rfl hst1 (by kernel_rfl) rfl ?_)))
                    have hon3 : Only (· = bu) w4 (w4.setCells bu (a * 4) [.int .i64 x2.lo, .int .i64 x2.hi, .int .i64 x2.bits, .int .i64 x2.opn]) := only_setCells _ _ _ _ (Only.refl _ _) (.inl rfl)
                    have hnot : ∀ p ∈ Mo2, p.1 ≠ bu := fun p hp e => by
                      have hm : bu ∈ K.map (·.1) := by rw [HKM.out]; simp
                      obtain ⟨q, hq, e2⟩ := List.mem_map.1 hm
                      exact hap4 p hp q hq (e.trans e2.symm)
                    have z5 := hon2.size
                    rw [alloc_size] at z5
                    exact ⟨⟨_, v2, _, ⟨k + 1, by omega, by go_num, out ++ [r], ks.set a x2, Mo2, HE2.out ▸ hoM2, hMo2.only hon3 hnot, K', HE3.out ▸ hK'o, hK'h, (fun p hp q hq e => hnot p hp (e.trans (by have hm := List.mem_map_of_mem (f := Prod.fst) hq; rw [hK'm] at hm; simpa using hm))), hby2, HIN, by simp; omega, hB4.trans (below_upon hon3 (fun k hk => by omega) hB4.size), by have := hon3.size; omega⟩, rfl, rfl, by go_num⟩, by simp [intOf]; omega⟩
          · have hdrop : rs.drop k = [] := List.drop_eq_nil_of_le (by rw [HN.out]; omega)
            have hfin : tidyRules rs = out := by
              rw [← hinv.out, hdrop]
              simp [tidyGo]
            have he : (tidied rs).map Rule.cells = out.map Rule.cells := by rw [HT.out, hfin]
            have HE := Lib.hid he
            clear hdrop hfin he
            go_wp2
            go_ret
            have hres : Own w.heap.size 56 5 _ ((tidied rs).map Rule.cells) Mo := HE.out ▸ hoM
            first | exact ⟨_, Mo, rfl, hres, hMo, hB⟩ | exact ⟨_, rfl, Mo, hres, hMo, hB⟩
end Go.Proofs.Ytoimeebildcofaa
