/- The walk of the reference's TableDrop. -/
import Derived.Test.YtoimeebildcofaaWDrop2
namespace Go.Proofs.Ytoimeebildcofaa
open Go.RowKit
/-- A part of a row that is read. -/
theorem Row.part {b off n c m k c' : Nat} {css : List (List Value)} {L : Blocks} (h : Row 1 (.slice (some ⟨b, off, none⟩) n c) css L) (hmk : m + k ≤ n) (hk : k ≤ c') (hc' : c' ≤ 9223372036854775807) :
    ∃ L', Row 1 (.slice (some ⟨b, off + m, none⟩) k c') ((css.drop m).take k) L' ∧ ∀ p ∈ L', p ∈ L := by
  obtain ⟨h1, ⟨rfl, rfl, A', c'', hv⟩ | ⟨b', off', cap, cur, e, fr, hv, hl, rfl, hx, hc⟩⟩ := h
  · injection hv with h2 h3 h4
    have : k = 0 := by omega
    subst this
    exact ⟨[], ⟨by simp, .inl ⟨by simp, rfl, _, _, rfl⟩⟩, by simp⟩
  · injection hv with h2 h3 h4
    injection h2 with h2
    injection h2 with h5 h6
    subst h5 h6 h3
    by_cases h0 : k = 0
    · subst h0
      exact ⟨[], ⟨by simp, .inl ⟨by simp, rfl, _, _, rfl⟩⟩, by simp⟩
    · have hlen : ((css.drop m).take k).length = k := by simp; omega
      refine ⟨[(b, .cells cur e fr)], ⟨fun x hx => h1 x (List.mem_of_mem_drop (List.mem_of_mem_take hx)), .inr ⟨b, off + m, c', cur, e, fr, by rw [hlen], by omega, rfl, hc', fun i j u hu => ?_⟩⟩, fun p hp => hp⟩
      rw [List.getElem?_take] at hu
      split at hu
      · rw [List.getElem?_drop] at hu
        have := hc (m + i) j u hu
        rw [show off + m + i * 1 + j = off + (m + i) * 1 + j by omega]
        exact this
      · simp at hu

theorem Row.cap {n c : Nat} {A : Option Addr} {css : List (List Value)} {L : Blocks} (h : Row 1 (.slice A n c) css L) (h0 : 0 < css.length) : n ≤ c ∧ c ≤ 9223372036854775807 := by
  obtain ⟨_, ⟨rfl, _⟩ | ⟨b, off, cap, cur, e, fr, hv, hl, _, hm, _⟩⟩ := h
  · cases h0
  · injection hv with h1 h2 h3
    subst h2 h3
    exact ⟨hl, hm⟩
theorem Row.tail {b off n c m : Nat} {css : List (List Value)} {L : Blocks} (h : Row 1 (.slice (some ⟨b, off, none⟩) n c) css L) (hm : m ≤ n) :
    ∃ L', Row 1 (.slice (if c = m then some ⟨b, off, none⟩ else some ⟨b, off + m, none⟩) (n - m) (c - m)) (css.drop m) L' ∧ ∀ p ∈ L', p ∈ L := by
  have hl := h.len'.1
  by_cases h0 : css.length = 0
  · have : css = [] := List.eq_nil_of_length_eq_zero h0
    subst this
    exact ⟨[], ⟨by simp, .inl ⟨by simp, rfl, _, _, by have hn : n = 0 := hl.symm; rw [show n - m = 0 by omega]⟩⟩, by simp⟩
  · have hc := Row.cap h (by omega)
    by_cases he : c = m
    · exact ⟨[], ⟨fun x hx => h.1 x (List.mem_of_mem_drop hx), .inl ⟨List.drop_eq_nil_of_le (by omega), rfl, _, _, by rw [show n - m = 0 by omega]⟩⟩, by simp⟩
    · rw [if_neg he]
      obtain ⟨L', h1, h2⟩ := h.part (m := m) (k := n - m) (c' := c - m) (by omega) (by omega) (by omega)
      rw [List.take_of_length_le (by simp; omega)] at h1
      exact ⟨L', h1, h2⟩
set_option maxRecDepth 100000 in
set_option maxHeartbeats 3200000 in
theorem specTableDrop_calls (t : Table) (kv sv : Value) (L1 L2 : Blocks) (x : Int) (w : World) (h1 : Row 1 kv (t.keys.map intCell) L1) (H1 : Holds w L1) (h2 : Row 1 sv (t.slots.map strCell) L2) (H2 : Holds w L2) :
    Calls Try.prog 8 #[.agg #[.int .i64 t.kind, .int .i64 t.size, .int .i64 t.most, kv, sv], .int .i64 x] w fun e w' => ∃ kv' sv', e = .returned (.tuple #[.agg #[.int .i64 (t.drop x).1.kind, .int .i64 (t.drop x).1.size, .int .i64 (t.drop x).1.most, kv', sv'], .bool (t.drop x).2]) ∧
      (∃ M1 M2, OwnT w.heap.size (t.drop x).1 kv' sv' M1 M2 w') ∧ Below w.heap.size w w' := by
  cases hok : t.ok with
  | false =>
    have HP : Hid (t.drop x = (Table.zero, false)) := by show _ = _; simp [Table.drop, hok]
    have HK := Lib.hid hok
    clear hok
    go_enter Try.func8, Try.ntmps8
    go_wp2_with fail
    refine (l3Ok_calls t kv sv L1 L2 _ h1 ((H1.alloc _).alloc _) h2 ((H2.alloc _).alloc _)).mono ?_
    rw [HK.out]
    rintro e w1 ⟨rfl, hb1⟩
    have hres := (holds_new (w := w.alloc (tcells t kv sv)) (o := zcells) (k := w.heap.size + 1) (by simp)).below hb1
    have hB1 : Below w.heap.size w w1 := bnext (below_alloc' (below_alloc' (Below.refl _ _) _) _) hb1
    obtain ⟨hth, hfin, hon⟩ := tput0 hres.get
    go_wp2_with ((with_reducible refine gate_store (p := 4) rfl ?_); refine wpList_put rfl 27 _ _ rfl (w.heap.size + 1) 0 [.int .i64 0, .int .i64 0, .int .i64 0, .slice none 0 0, .slice none 0 0] rfl rfl hth (by kernel_rfl) rfl ?_)
    generalize w1.setCells (w.heap.size + 1) 0 [.int .i64 0, .int .i64 0, .int .i64 0, .slice none 0 0, .slice none 0 0] = V4 at *
    obtain ⟨g0, g1, g2, g3, g4⟩ := tbox_cells (t := Table.zero) hfin
    simp only [Table.zero] at g0 g1 g2 g3 g4
    refine bodyPost_ret (v := .tuple #[.agg #[.int .i64 0, .int .i64 0, .int .i64 0, .slice none 0 0, .slice none 0 0], .bool false]) (by simp [results, Try.results8, go_sem, g0, g1, g2, g3, g4]) rfl ⟨_, _, by rw [HP.out]; rfl, ⟨[], [], by rw [HP.out]; exact zero_own _ _⟩, hB1.trans (below_only hon (fun k hk => by omega) hB1.size)⟩
  | true =>
    obtain ⟨hl, _, hl8⟩ := Table.ok_lens hok
    have HK := Lib.hid hok
    have hg := Table.ok_iff.1 hok
    have gsh := hg.shape
    simp only [Table.shape, inB, Bool.and_eq_true, decide_eq_true_eq] at gsh
    obtain ⟨⟨_, hz1, hz8⟩, _⟩ := gsh
    clear hg
    by_cases hi : 0 ≤ indexOf (· == x) t.keys
    · obtain ⟨i, hi1, hi2, _⟩ := indexOf_some hi
      have HX := Lib.hid hi1
      have hkl : i < t.slots.length := by omega
      by_cases hk : t.kind = 1
      · have HP : Hid (t.drop x = ({ t with slots := t.slots.set i (nought t.size.toNat) }, true)) := by
          show _ = _
          have h0 : (0 : Int) ≤ (i : Int) := by omega
          simp only [Table.drop, hok, if_true, hi1, h0, if_pos hk, Int.toNat_natCast]
        have hkb : (t.kind == 1) = true := by simp [hk]
        clear hi hi1 hok hk
        go_enter Try.func8, Try.ntmps8
        go_wp2_with fail
        refine (l3Ok_calls t kv sv L1 L2 _ h1 ((H1.alloc _).alloc _) h2 ((H2.alloc _).alloc _)).mono ?_
        rw [HK.out]
        rintro e w1 ⟨rfl, hb1⟩
        have hbox := ((holds_new (w := w) (o := tcells t kv sv) rfl).alloc zcells).below hb1
        have hres := (holds_new (w := w.alloc (tcells t kv sv)) (o := zcells) (k := w.heap.size + 1) (by simp)).below hb1
        have hB1 : Below w.heap.size w w1 := bnext (below_alloc' (below_alloc' (Below.refl _ _) _) _) hb1
        obtain ⟨d0, d1, d2, d3, d4⟩ := tbox_cells hbox.get
        have hr0 := hres.lt (List.mem_singleton.2 rfl)
        go_wp2_with fail
        refine (l3Copy_calls t kv sv L1 L2 _ h1 (H1.below hB1) h2 (H2.below hB1) (by omega) (by omega)).mono ?_
        rintro e w2 ⟨k2, s2, rfl, M1, M2, o1, o2, hM1, hM2, hap, hb2⟩
        obtain ⟨A5, n5, c5, rfl⟩ := o1.row.slice
        obtain ⟨A6, n6, c6, rfl⟩ := o2.row.slice
        have hbox := hbox.below hb2
        have hres := hres.below hb2
        have hB := bnext hB1 hb2
        have hT : OwnT w1.heap.size t (.slice A5 n5 c5) (.slice A6 n6 c6) M1 M2 w2 := ⟨o1, o2, hM1, hM2, hap⟩
        have hs12 := hb2.size
        have hr1 := hres.lt (List.mem_singleton.2 rfl)
        have hTlt := hT.lt
        clear d0 d1 d2 d3 d4 hb1 hb2 o1 o2 hM1 hM2 hap
        obtain ⟨hth, hgb, hon⟩ := tput (V := w2.alloc zcells) (r := w2.heap.size) (t0 := Table.zero) (holds_new rfl).get t (.slice A5 n5 c5) (.slice A6 n6 c6)
        go_wp2_with (first
          | ((with_reducible refine gate_store (p := 6) rfl ?_); go_loud (
             refine wpList_put rfl 27 _ _ rfl w2.heap.size 0 [.int .i64 t.kind, .int .i64 t.size, .int .i64 t.most, (.slice A5 n5 c5), (.slice A6 n6 c6)] rfl rfl hth (by kernel_rfl) rfl ?_
             have hT := (hT.below (below_alloc' (Below.refl _ _) zcells)).only hon (fun p hp e => by have := hTlt p hp; omega)
             have hres := (hres.alloc zcells).only hon (fun p hp => by rw [List.mem_singleton.1 hp]; simp only; omega)
             have hbox := (hbox.alloc zcells).only hon (fun p hp => by rw [List.mem_singleton.1 hp]; simp only; omega)
             have hB := (below_alloc' hB zcells).trans (below_only hon (fun k hk => by have := hB1.size; omega) (by simp; have := hB1.size; omega))
             have s3 : w2.heap.size < ((w2.alloc zcells).setCells w2.heap.size 0 [.int .i64 t.kind, .int .i64 t.size, .int .i64 t.most, (.slice A5 n5 c5), (.slice A6 n6 c6)]).heap.size := (Holds.one hgb).lt (List.mem_singleton.2 rfl)
             generalize (w2.alloc zcells).setCells w2.heap.size 0 [.int .i64 t.kind, .int .i64 t.size, .int .i64 t.most, (.slice A5 n5 c5), (.slice A6 n6 c6)] = V at *
             clear hth hon
             have hgb := Holds.one hgb
             obtain ⟨d0, d1, d2, d3, d4⟩ := tbox_cells hbox.get))
          | (go_at_call 34; go_loud (
             refine (l3At_calls t kv sv L1 x _ h1 (H1.below hB)).mono ?_
             rw [HX.out]
             rintro e w4 ⟨rfl, hb⟩
             have hT := hT.below hb
             have hres := hres.below hb
             have hbox := hbox.below hb
             have hgb := hgb.below hb
             have hB := bnext hB hb
             have s4 := hb.size
             obtain ⟨e0, e1, e2, e3, e4⟩ := tbox_cells hgb.get
             obtain ⟨d0, d1, d2, d3, d4⟩ := tbox_cells hbox.get
             skip)))
        obtain ⟨b, rfl, _⟩ := hT.set hkl (nought t.size.toNat)
        have q4 := cell_regrown e4
        have q1 := cell_regrown d1
        clear d0 d1 d2 d3 d4 e0 e1 e2 e3 e4
        have hin : i < n6 := by have := hT.2.1.row.len'.1; rw [List.length_map] at this; omega
        refine wp_region_plan [7] (.one 0 .pure (.one 2 .pure (.one 3 .pure (.one 1 .load (.one 4 .load (.one 5 .act (.one 6 .pure (.one 7 .last .done)))))))) (fun w' => ∃ p : Regrown, w' = Sort.grow (redrawn w4 p.d) p.os) (by kernel_rfl) (by kernel_rfl) (fun _ _ d _ _ h => by cases d <;> exact h) ?_
        simp only [Plan.pick, List.getElem?_cons_zero, List.getElem?_cons_succ]
        have hS : Below w4.heap.size w4 w4.drew := below_drewN' (Below.refl _ _) 1
        have hB : Below _ _ w4.drew := below_drewN' hB 1
        refine plan_pure (fun K hK => ?_); go_simp; refine hK _ _ ?_; clear hK K
        refine plan_pure (fun K hK => ?_); go_simp; refine hK _ _ ?_; clear hK K
        refine plan_pure (fun K hK => ?_); go_simp; refine hK _ _ ?_; clear hK K
        refine plan_load (fun K hK => ?_); go_simp; refine ⟨regrown_of_below hS, hK _ _ ?_⟩; clear hK K
        refine plan_load (fun K hK => ?_); go_simp; refine ⟨regrown_of_below hS, hK _ _ ?_⟩; clear hK K
        refine plan_act ?_
        clear q1 q4
        go_wp2_with fail
        refine (l3Zero_calls t.size.toNat t.size (by omega) (by omega) _).mono ?_
        rintro e w5 ⟨rfl, hb⟩
        have hS := bnext hS hb
        have hB := bnext hB hb
        clear hb
        go_wp2
        refine ⟨regrown_of_below hS, ?_⟩
        refine plan_pure (fun K hK => ?_); go_simp; refine hK _ _ ?_; clear hK K
        refine plan_last_ ?_
        have hT := hT.below hS
        have hres := hres.below hS
        have hgb := hgb.below hS
        have s5 := hS.size
        obtain ⟨b', hbb, hbB, hMb, hth, M2', hT2, hM2'⟩ := hT.set hkl (nought t.size.toNat)
        simp only [Option.some.injEq, Addr.mk.injEq, and_true] at hbb
        subst hbb
        have hbl : b < w2.heap.size := by
          have : b ∈ M2.map (·.1) := by rw [hMb]; simp
          obtain ⟨p, hp, rfl⟩ := List.mem_map.1 this
          exact hTlt p (List.mem_append_right _ hp)
        go_wp2_with ((with_reducible refine gate_store (p := 29) rfl ?_); refine wpList_put rfl 9 _ _ rfl b i [.string (nought t.size.toNat)] rfl rfl hth (by kernel_rfl) rfl ?_)
        have hon : Only (· = b) w5 (w5.setCells b i [.string (nought t.size.toNat)]) := only_setCells _ _ _ _ (Only.refl _ _) (.inl rfl)
        generalize w5.setCells b i [.string (nought t.size.toNat)] = w6 at *
        have hres := hres.only hon (fun p hp (e : p.1 = b) => by rw [List.mem_singleton.1 hp] at e; simp only at e; omega)
        have hgb := hgb.only hon (fun p hp (e : p.1 = b) => by rw [List.mem_singleton.1 hp] at e; simp only at e; omega)
        have hB := hB.trans (below_only hon (fun k hk => by have := hB1.size; omega) hB.size)
        clear hon
        refine plan_done ?_
        obtain ⟨e0, e1, e2, e3, e4⟩ := tbox_cells hgb.get
        have hBs := hB.size
        obtain ⟨hth, hfin, hon⟩ := tput (t0 := Table.zero) hres.get t (.slice A5 n5 c5) (.slice (some ⟨b, 0, none⟩) n6 c6)
        go_wp2_with (first
          | ((with_reducible refine gate_store (p := 4) rfl ?_); go_loud (refine wpList_put rfl 27 _ _ rfl (w.heap.size + 1) 0 [.int .i64 t.kind, .int .i64 t.size, .int .i64 t.most, (.slice A5 n5 c5), (.slice (some ⟨b, 0, none⟩) n6 c6)] rfl rfl hth (by kernel_rfl) rfl ?_))
          | fail)
        generalize w6.setCells (w.heap.size + 1) 0 [.int .i64 t.kind, .int .i64 t.size, .int .i64 t.most, (.slice A5 n5 c5), (.slice (some ⟨b, 0, none⟩) n6 c6)] = V9 at *
        obtain ⟨g0, g1, g2, g3, g4⟩ := tbox_cells hfin
        have hTf := hT2.beside hon (fun p hp => by have := hT2.1.base p hp; omega) (fun p hp => by have := hT2.2.1.base p hp; omega)
        refine bodyPost_ret (v := .tuple #[.agg #[.int .i64 t.kind, .int .i64 t.size, .int .i64 t.most, (.slice A5 n5 c5), (.slice (some ⟨b, 0, none⟩) n6 c6)], .bool true]) (by simp [results, Try.results8, go_sem, g0, g1, g2, g3, g4]) rfl ⟨_, _, by rw [HP.out], ⟨_, _, by rw [HP.out]; exact hTf.lower (by omega)⟩, hB.trans (below_only hon (fun k hk => by omega) (by omega))⟩
      · have HP : Hid (t.drop x = ({ t with keys := t.keys.eraseIdx i, slots := t.slots.eraseIdx i }, true)) := by
          show _ = _
          have h0 : (0 : Int) ≤ (i : Int) := by omega
          simp only [Table.drop, hok, if_true, hi1, h0, if_neg hk, Int.toNat_natCast]
        have hkb : (t.kind == 1) = false := by simp [hk]
        obtain ⟨A1, n1, c1, rfl⟩ := h1.slice
        obtain ⟨A2, n2, c2, rfl⟩ := h2.slice
        have hx : t.keys[i]? = some x := find_key hi1
        obtain ⟨s, hs⟩ : ∃ s, t.slots[i]? = some s := ⟨_, List.getElem?_eq_getElem hkl⟩
        obtain ⟨b1, f1, rfl, _⟩ := h1.at_ H1 (k := i) (cs := intCell x) (by simp [hx])
        obtain ⟨b2, f2, rfl, _⟩ := h2.at_ H2 (k := i) (cs := strCell s) (by simp [hs])
        have hn1 := h1.len'.1
        have hn2 := h2.len'.1
        rw [List.length_map] at hn1 hn2
        have hc1 := h1.cap (by simp; omega)
        have hc2 := h2.cap (by simp; omega)
        have hi1' : i + 1 ≤ n1 := by omega
        have hi2' : i + 1 ≤ n2 := by omega
        have hc1' : n1 ≤ c1 := hc1.1
        have hc2' : n2 ≤ c2 := hc2.1
        have hi8 : (i : Int) ≤ 8 := by omega
        have hi0 : (0 : Int) ≤ (i : Int) := by omega
        have hwr : IntKind.i64.wrap ((i : Int) + 1) = (i : Int) + 1 := by rw [IntKind.wrap_i64]; omega
        have htn : ((i : Int) + 1).toNat = i + 1 := by omega
        have hp1 : (0 : Int) ≤ (i : Int) + 1 := by omega
        have hin1 : (i : Int) + 1 ≤ (n1 : Int) := by omega
        have hin2 : (i : Int) + 1 ≤ (n2 : Int) := by omega
        have hic1 : i ≤ c1 := by omega
        have hic2 : i ≤ c2 := by omega
        obtain ⟨ad1, hif1⟩ : ∃ ad, (if c1 = i + 1 then (some ⟨b1, f1, none⟩ : Option Addr) else some ⟨b1, f1 + (i + 1), none⟩) = ad := ⟨_, rfl⟩
        obtain ⟨ad2, hif2⟩ : ∃ ad, (if c2 = i + 1 then (some ⟨b2, f2, none⟩ : Option Addr) else some ⟨b2, f2 + (i + 1), none⟩) = ad := ⟨_, rfl⟩
        clear hi hi1 hok hk hx hs
        obtain ⟨i0, hi0, hz0, hs0, hb0⟩ := info_of infoInt
        have HI := Lib.hid hi0
        obtain ⟨j0, hj0, hy0, ht0, hc0⟩ := info_of infoStr
        have HJ := Lib.hid hj0
        clear hi0 hj0

        go_enter Try.func8, Try.ntmps8
        go_wp2_with fail
        refine (l3Ok_calls t _ _ L1 L2 _ h1 ((H1.alloc _).alloc _) h2 ((H2.alloc _).alloc _)).mono ?_
        rw [HK.out]
        rintro e w1 ⟨rfl, hb1⟩
        have hbox := ((holds_new (w := w) (o := tcells t (.slice (some ⟨b1, f1, none⟩) n1 c1) (.slice (some ⟨b2, f2, none⟩) n2 c2)) rfl).alloc zcells).below hb1
        have hres := (holds_new (w := w.alloc (tcells t (.slice (some ⟨b1, f1, none⟩) n1 c1) (.slice (some ⟨b2, f2, none⟩) n2 c2))) (o := zcells) (k := w.heap.size + 1) (by simp)).below hb1
        have hB1 : Below w.heap.size w w1 := bnext (below_alloc' (below_alloc' (Below.refl _ _) _) _) hb1
        obtain ⟨d0, d1, d2, d3, d4⟩ := tbox_cells hbox.get
        have hr0 := hres.lt (List.mem_singleton.2 rfl)
        go_wp2_with fail
        refine (l3Copy_calls t _ _ L1 L2 _ h1 (H1.below hB1) h2 (H2.below hB1) (by omega) (by omega)).mono ?_
        rintro e w2 ⟨k2, s2, rfl, M1, M2, o1, o2, hM1, hM2, hap, hb2⟩
        obtain ⟨A5, n5, c5, rfl⟩ := o1.row.slice
        obtain ⟨A6, n6, c6, rfl⟩ := o2.row.slice
        have hbox := hbox.below hb2
        have hres := hres.below hb2
        have hB := bnext hB1 hb2
        have hT : OwnT w1.heap.size t (.slice A5 n5 c5) (.slice A6 n6 c6) M1 M2 w2 := ⟨o1, o2, hM1, hM2, hap⟩
        have hs12 := hb2.size
        have hr1 := hres.lt (List.mem_singleton.2 rfl)
        have hTlt := hT.lt
        clear d0 d1 d2 d3 d4 hb1 hb2 o1 o2 hM1 hM2 hap
        obtain ⟨hth, hgb, hon⟩ := tput (V := w2.alloc zcells) (r := w2.heap.size) (t0 := Table.zero) (holds_new rfl).get t (.slice A5 n5 c5) (.slice A6 n6 c6)
        go_wp2_with (first
          | ((with_reducible refine gate_store (p := 6) rfl ?_); go_loud (
             refine wpList_put rfl 27 _ _ rfl w2.heap.size 0 [.int .i64 t.kind, .int .i64 t.size, .int .i64 t.most, (.slice A5 n5 c5), (.slice A6 n6 c6)] rfl rfl hth (by kernel_rfl) rfl ?_
             have hT := (hT.below (below_alloc' (Below.refl _ _) zcells)).only hon (fun p hp e => by have := hTlt p hp; omega)
             have hres := (hres.alloc zcells).only hon (fun p hp => by rw [List.mem_singleton.1 hp]; simp only; omega)
             have hbox := (hbox.alloc zcells).only hon (fun p hp => by rw [List.mem_singleton.1 hp]; simp only; omega)
             have hB := (below_alloc' hB zcells).trans (below_only hon (fun k hk => by have := hB1.size; omega) (by simp; have := hB1.size; omega))
             have s3 : w2.heap.size < ((w2.alloc zcells).setCells w2.heap.size 0 [.int .i64 t.kind, .int .i64 t.size, .int .i64 t.most, (.slice A5 n5 c5), (.slice A6 n6 c6)]).heap.size := (Holds.one hgb).lt (List.mem_singleton.2 rfl)
             generalize (w2.alloc zcells).setCells w2.heap.size 0 [.int .i64 t.kind, .int .i64 t.size, .int .i64 t.most, (.slice A5 n5 c5), (.slice A6 n6 c6)] = V at *
             clear hth hon
             have hgb := Holds.one hgb
             obtain ⟨d0, d1, d2, d3, d4⟩ := tbox_cells hbox.get))
          | (go_at_call 34; go_loud (
             refine (l3At_calls t _ _ L1 x _ h1 (H1.below hB)).mono ?_
             rw [HX.out]
             rintro e w4 ⟨rfl, hb⟩
             have hT := hT.below hb
             have hres := hres.below hb
             have hbox := hbox.below hb
             have hgb := hgb.below hb
             have hB := bnext hB hb
             have s4 := hb.size
             obtain ⟨e0, e1, e2, e3, e4⟩ := tbox_cells hgb.get
             obtain ⟨d0, d1, d2, d3, d4⟩ := tbox_cells hbox.get
             skip)))
        have q3 := cell_regrown d3
        refine wp_region_plan [13] (.one 1 .pure (.one 3 .pure (.one 6 .pure (.one 8 .pure (.one 9 .pure (.one 2 .load (.one 4 .pure (.one 7 .load (.one 10 .pure (.one 0 .act (.one 5 .act (.one 11 .act (.one 12 .pure (.one 13 .last .done)))))))))))))) (fun w' => ∃ p : Regrown, w' = Sort.grow (redrawn w4 p.d) p.os) (by kernel_rfl) (by kernel_rfl) (fun _ _ d _ _ h => by cases d <;> exact h) ?_
        simp only [Plan.pick, List.getElem?_cons_zero, List.getElem?_cons_succ]
        have hS : Below w4.heap.size w4 w4.drew := below_drewN' (Below.refl _ _) 1
        have hB : Below _ _ w4.drew := below_drewN' hB 1
        have hVd : w4.heap.size ≤ w4.drew.heap.size := Nat.le_refl _
        generalize w4.drew = w5d at *
        refine plan_pure (fun K hK => ?_); go_simp; refine hK _ _ ?_; clear hK K
        refine plan_pure (fun K hK => ?_); go_simp; refine hK _ _ ?_; clear hK K
        refine plan_pure (fun K hK => ?_); go_simp; refine hK _ _ ?_; clear hK K
        refine plan_pure (fun K hK => ?_); go_simp; refine hK _ _ ?_; clear hK K
        refine plan_pure (fun K hK => ?_); go_simp; refine hK _ _ ?_; clear hK K
        refine plan_load (fun K hK => ?_); go_simp; refine ⟨regrown_of_below hS, hK _ _ ?_⟩; clear hK K
        refine plan_pure (fun K hK => ?_); go_simp; refine hK _ _ ?_; clear hK K
        refine plan_load (fun K hK => ?_); go_simp; refine ⟨regrown_of_below hS, hK _ _ ?_⟩; clear hK K
        refine plan_pure (fun K hK => ?_); go_simp; refine hK _ _ ?_; clear hK K
        refine plan_act ?_
        clear q3
        go_wp2
        have hEo := own_empty w5d.heap.size w1.heap.size 3 1 (by have := hS.size; omega)
        have hEh := holds_new (w := w5d) (o := .cells #[] 3) (k := w5d.heap.size) rfl
        have hb := below_alloc' (Below.refl _ w5d) (.cells #[] 3)
        have hS := bnext hS hb
        have hB := bnext hB hb
        have hwa : w5d.heap.size < (w5d.alloc (.cells #[] 3)).heap.size := by simp
        obtain ⟨ea, hea⟩ : ∃ ea, ea = w5d.heap.size := ⟨_, rfl⟩
        rw [← hea] at hEo hEh hwa hVd ⊢
        clear hb hea
        generalize w5d.alloc (.cells #[] 3) = w5a at *
        refine ⟨regrown_of_below hS, ?_⟩
        refine plan_act ?_
        obtain ⟨LR, hR, hRs⟩ := h1.part (m := 0) (k := i) (c' := c1) (by omega) (by omega) (by omega)
        rw [Nat.add_zero, List.drop_zero] at hR
        go_wp2_with (
          (with_reducible refine gate_dst (N := 36) rfl ?_)
          go_loud (refine wpList_append_row rfl _ _ 22 rfl w1.heap.size 3 i0 _ 1 8 Try.underlying22 HI.out hz0 hs0 hb0 rfl (by decide) _ [] _ rfl hEo hEh _ ((t.keys.map intCell).take i) LR rfl hR ((H1.below hB).mem hRs) (fun u hu => oneCell_ints _ u (by rw [← List.map_take] at hu; exact hu)) (by simp; omega) (by decide) (by have := hB.size; have := hS.size; omega) ?_)
          intro k6 w5b P10 ho6 hH6 hon6 hat6
          have hB6 := hon6.size
          have hS := hS.trans (below_only hon6 (fun k ⟨p, hp, e⟩ => by rw [List.mem_singleton.1 hp] at e; simp only at e; omega) hS.size)
          have hB := hB.trans (below_only hon6 (fun k ⟨p, hp, e⟩ => by rw [List.mem_singleton.1 hp] at e; simp only at e; have := hB1.size; omega) hB.size)
          have hP10x : ∀ p ∈ P10, w4.heap.size ≤ p.1 := fun p hp => by
            rcases hat6 with h | ⟨o, h⟩
            · have := List.mem_map_of_mem (f := Prod.fst) hp
              rw [h] at this
              simp at this
              omega
            · rw [h] at hp
              rw [List.mem_singleton.1 hp]
              simp only
              omega)
        refine ⟨regrown_of_below hS, ?_⟩
        refine plan_act ?_
        obtain ⟨LT, hT7, hTs⟩ := Row.tail h1 (m := i + 1) (by omega)
        rw [hif1] at hT7
        go_wp2_with (
          (with_reducible refine gate_dst (N := 42) rfl ?_)
          refine wpList_append_row rfl _ _ 22 rfl w1.heap.size 3 i0 _ 1 8 Try.underlying22 HI.out hz0 hs0 hb0 rfl (by decide) _ _ _ rfl ho6 hH6 _ ((t.keys.map intCell).drop (i + 1)) LT rfl hT7 ((H1.below hB).mem hTs) (fun u hu => oneCell_ints _ u (by rw [← List.map_drop] at hu; exact hu)) (by simp; omega) (by decide) (by have := hB.size; have := hS.size; omega) ?_
          intro k7 w5c N10 ho7 hH7 hon7 hat7
          have hS := hS.trans (below_only hon7 (fun k ⟨p, hp, e⟩ => by have := hP10x p hp; omega) hS.size)
          have hB := hB.trans (below_only hon7 (fun k ⟨p, hp, e⟩ => by have := hP10x p hp; have := hB1.size; omega) hB.size))
        refine ⟨regrown_of_below hS, ?_⟩
        refine plan_pure (fun K hK => ?_); go_simp; refine hK _ _ ?_; clear hK K
        refine plan_last_ ?_
        have hgb := hgb.below hS
        have hres := hres.below hS
        have hbox := hbox.below hS
        have hN10x : ∀ p ∈ N10, w4.heap.size ≤ p.1 := fun p hp => by
          rcases hat7 with h | ⟨o, h⟩
          · have := List.mem_map_of_mem (f := Prod.fst) hp
            rw [h] at this
            obtain ⟨q, hq, e⟩ := List.mem_map.1 this
            have := hP10x q hq
            omega
          · rw [h] at hp
            rw [List.mem_singleton.1 hp]
            have := hB6
            simp only
            omega
        obtain ⟨X10, x10, y10, rfl⟩ := ho7.row.slice
        obtain ⟨hth, hgn, hon⟩ := tput3 hgb.get (.slice X10 x10 y10)
        go_wp2_with ((with_reducible refine gate_store (p := 43) rfl ?_); refine wpList_put rfl 22 _ _ rfl w2.heap.size 3 [.slice X10 x10 y10] rfl rfl hth (by kernel_rfl) rfl ?_)
        have hR10 := hH7.only hon (fun p hp (e : p.1 = w2.heap.size) => by have := hN10x p hp; omega)
        have hO10 := ho7
        have hL10 := hN10x
        have hres := hres.only hon (fun p hp (e : p.1 = w2.heap.size) => by rw [List.mem_singleton.1 hp] at e; simp only at e; omega)
        have hB := hB.trans (below_only hon (fun k hk => by have := hB1.size; omega) hB.size)
        have hbox := hbox.only hon (fun p hp (e : p.1 = w2.heap.size) => by rw [List.mem_singleton.1 hp] at e; simp only at e; omega)
        have hsz5 := hon.size
        generalize w5c.setCells w2.heap.size 3 [.slice X10 x10 y10] = w5e at *
        have hgb := Holds.one hgn
        clear hth hon
        refine plan_done ?_

        have hge : w4.heap.size ≤ w5e.heap.size := by have := hgb.lt (List.mem_singleton.2 rfl); have := hS.size; have := hsz5; omega
        have hlt10 : ∀ p ∈ N10, p.1 < w5e.heap.size := fun p hp => hR10.lt hp
        clear hS
        obtain ⟨d0, d1, d2, d3, d4⟩ := tbox_cells hbox.get
        clear d0 d1 d2 d3
        go_wp2
        have q4 := cell_regrown d4
        refine wp_region_plan [13] (.one 1 .pure (.one 3 .pure (.one 6 .pure (.one 8 .pure (.one 9 .pure (.one 2 .load (.one 4 .pure (.one 7 .load (.one 10 .pure (.one 0 .act (.one 5 .act (.one 11 .act (.one 12 .pure (.one 13 .last .done)))))))))))))) (fun w' => ∃ p : Regrown, w' = Sort.grow (redrawn w5e p.d) p.os) (by kernel_rfl) (by kernel_rfl) (fun _ _ d _ _ h => by cases d <;> exact h) ?_
        simp only [Plan.pick, List.getElem?_cons_zero, List.getElem?_cons_succ]
        have hS : Below w5e.heap.size w5e w5e.drew := below_drewN' (Below.refl _ _) 1
        have hB : Below _ _ w5e.drew := below_drewN' hB 1
        have hVd : w5e.heap.size ≤ w5e.drew.heap.size := Nat.le_refl _
        generalize w5e.drew = w6d at *
        refine plan_pure (fun K hK => ?_); go_simp; refine hK _ _ ?_; clear hK K
        refine plan_pure (fun K hK => ?_); go_simp; refine hK _ _ ?_; clear hK K
        refine plan_pure (fun K hK => ?_); go_simp; refine hK _ _ ?_; clear hK K
        refine plan_pure (fun K hK => ?_); go_simp; refine hK _ _ ?_; clear hK K
        refine plan_pure (fun K hK => ?_); go_simp; refine hK _ _ ?_; clear hK K
        refine plan_load (fun K hK => ?_); go_simp; refine ⟨regrown_of_below hS, hK _ _ ?_⟩; clear hK K
        refine plan_pure (fun K hK => ?_); go_simp; refine hK _ _ ?_; clear hK K
        refine plan_load (fun K hK => ?_); go_simp; refine ⟨regrown_of_below hS, hK _ _ ?_⟩; clear hK K
        refine plan_pure (fun K hK => ?_); go_simp; refine hK _ _ ?_; clear hK K
        refine plan_act ?_
        clear q4
        go_wp2
        have hEo := own_empty w6d.heap.size w1.heap.size 9 1 (by have := hS.size; omega)
        have hEh := holds_new (w := w6d) (o := .cells #[] 9) (k := w6d.heap.size) rfl
        have hb := below_alloc' (Below.refl _ w6d) (.cells #[] 9)
        have hS := bnext hS hb
        have hB := bnext hB hb
        have hwa : w6d.heap.size < (w6d.alloc (.cells #[] 9)).heap.size := by simp
        obtain ⟨ea, hea⟩ : ∃ ea, ea = w6d.heap.size := ⟨_, rfl⟩
        rw [← hea] at hEo hEh hwa hVd ⊢
        clear hb hea
        generalize w6d.alloc (.cells #[] 9) = w6a at *
        refine ⟨regrown_of_below hS, ?_⟩
        refine plan_act ?_
        obtain ⟨LR, hR, hRs⟩ := h2.part (m := 0) (k := i) (c' := c2) (by omega) (by omega) (by omega)
        rw [Nat.add_zero, List.drop_zero] at hR
        go_wp2_with (
          (with_reducible refine gate_dst (N := 49) rfl ?_)
          go_loud (refine wpList_append_row rfl _ _ 23 rfl w1.heap.size 9 j0 _ 1 16 Try.underlying23 HJ.out hy0 ht0 hc0 rfl (by decide) _ [] _ rfl hEo hEh _ ((t.slots.map strCell).take i) LR rfl hR ((H2.below hB).mem hRs) (fun u hu => oneCell_strs _ u (by rw [← List.map_take] at hu; exact hu)) (by simp; omega) (by decide) (by have := hB.size; have := hS.size; omega) ?_)
          intro k6 w6b P11 ho6 hH6 hon6 hat6
          have hB6 := hon6.size
          have hS := hS.trans (below_only hon6 (fun k ⟨p, hp, e⟩ => by rw [List.mem_singleton.1 hp] at e; simp only at e; omega) hS.size)
          have hB := hB.trans (below_only hon6 (fun k ⟨p, hp, e⟩ => by rw [List.mem_singleton.1 hp] at e; simp only at e; have := hB1.size; omega) hB.size)
          have hP11x : ∀ p ∈ P11, w5e.heap.size ≤ p.1 := fun p hp => by
            rcases hat6 with h | ⟨o, h⟩
            · have := List.mem_map_of_mem (f := Prod.fst) hp
              rw [h] at this
              simp at this
              omega
            · rw [h] at hp
              rw [List.mem_singleton.1 hp]
              simp only
              omega)
        refine ⟨regrown_of_below hS, ?_⟩
        refine plan_act ?_
        obtain ⟨LT, hT7, hTs⟩ := Row.tail h2 (m := i + 1) (by omega)
        rw [hif2] at hT7
        go_wp2_with (
          (with_reducible refine gate_dst (N := 55) rfl ?_)
          refine wpList_append_row rfl _ _ 23 rfl w1.heap.size 9 j0 _ 1 16 Try.underlying23 HJ.out hy0 ht0 hc0 rfl (by decide) _ _ _ rfl ho6 hH6 _ ((t.slots.map strCell).drop (i + 1)) LT rfl hT7 ((H2.below hB).mem hTs) (fun u hu => oneCell_strs _ u (by rw [← List.map_drop] at hu; exact hu)) (by simp; omega) (by decide) (by have := hB.size; have := hS.size; omega) ?_
          intro k7 w6c N11 ho7 hH7 hon7 hat7
          have hS := hS.trans (below_only hon7 (fun k ⟨p, hp, e⟩ => by have := hP11x p hp; omega) hS.size)
          have hB := hB.trans (below_only hon7 (fun k ⟨p, hp, e⟩ => by have := hP11x p hp; have := hB1.size; omega) hB.size))
        refine ⟨regrown_of_below hS, ?_⟩
        refine plan_pure (fun K hK => ?_); go_simp; refine hK _ _ ?_; clear hK K
        refine plan_last_ ?_
        have hgb := hgb.below hS
        have hres := hres.below hS
        have hR10 := hR10.below hS
        have hN11x : ∀ p ∈ N11, w5e.heap.size ≤ p.1 := fun p hp => by
          rcases hat7 with h | ⟨o, h⟩
          · have := List.mem_map_of_mem (f := Prod.fst) hp
            rw [h] at this
            obtain ⟨q, hq, e⟩ := List.mem_map.1 this
            have := hP11x q hq
            omega
          · rw [h] at hp
            rw [List.mem_singleton.1 hp]
            have := hB6
            simp only
            omega
        obtain ⟨X11, x11, y11, rfl⟩ := ho7.row.slice
        obtain ⟨hth, hgn, hon⟩ := tput4 hgb.get (.slice X11 x11 y11)
        go_wp2_with ((with_reducible refine gate_store (p := 56) rfl ?_); refine wpList_put rfl 23 _ _ rfl w2.heap.size 4 [.slice X11 x11 y11] rfl rfl hth (by kernel_rfl) rfl ?_)
        have hR11 := hH7.only hon (fun p hp (e : p.1 = w2.heap.size) => by have := hN11x p hp; omega)
        have hO11 := ho7
        have hL11 := hN11x
        have hres := hres.only hon (fun p hp (e : p.1 = w2.heap.size) => by rw [List.mem_singleton.1 hp] at e; simp only at e; omega)
        have hB := hB.trans (below_only hon (fun k hk => by have := hB1.size; omega) hB.size)
        have hR10 := hR10.only hon (fun p hp (e : p.1 = w2.heap.size) => by have := hL10 p hp; omega)
        have hsz5 := hon.size
        generalize w6c.setCells w2.heap.size 4 [.slice X11 x11 y11] = w6e at *
        have hgb := Holds.one hgn
        clear hth hon
        refine plan_done ?_

        obtain ⟨e0, e1, e2, e3, e4⟩ := tbox_cells hgn
        have hek : t.keys.take i ++ t.keys.drop (i + 1) = t.keys.eraseIdx i := (List.eraseIdx_eq_take_drop_succ ..).symm
        have hes : t.slots.take i ++ t.slots.drop (i + 1) = t.slots.eraseIdx i := (List.eraseIdx_eq_take_drop_succ ..).symm
        have hT9 : OwnT w1.heap.size { t with keys := t.keys.eraseIdx i, slots := t.slots.eraseIdx i } (.slice X10 x10 y10) (.slice X11 x11 y11) N10 N11 w6e :=
          ⟨by show Own _ _ _ _ ((t.keys.eraseIdx i).map intCell) _; rw [← hek]; simpa using hO10, by show Own _ _ _ _ ((t.slots.eraseIdx i).map strCell) _; rw [← hes]; simpa using hO11, hR10, hR11, fun p hp q hq e => by have := hlt10 p hp; have := hL11 q hq; omega⟩
        have hBs := hB.size
        obtain ⟨hth, hfin, hon⟩ := tput (t0 := Table.zero) hres.get t (.slice X10 x10 y10) (.slice X11 x11 y11)
        go_wp2_with (first
          | ((with_reducible refine gate_store (p := 4) rfl ?_); go_loud (refine wpList_put rfl 27 _ _ rfl (w.heap.size + 1) 0 [.int .i64 t.kind, .int .i64 t.size, .int .i64 t.most, (.slice X10 x10 y10), (.slice X11 x11 y11)] rfl rfl hth (by kernel_rfl) rfl ?_))
          | fail)
        generalize w6e.setCells (w.heap.size + 1) 0 [.int .i64 t.kind, .int .i64 t.size, .int .i64 t.most, (.slice X10 x10 y10), (.slice X11 x11 y11)] = V9 at *
        obtain ⟨g0, g1, g2, g3, g4⟩ := tbox_cells hfin
        have hTf := hT9.beside hon (fun p hp => by have := hT9.1.base p hp; omega) (fun p hp => by have := hT9.2.1.base p hp; omega)
        refine bodyPost_ret (v := .tuple #[.agg #[.int .i64 t.kind, .int .i64 t.size, .int .i64 t.most, (.slice X10 x10 y10), (.slice X11 x11 y11)], .bool true]) (by simp [results, Try.results8, go_sem, g0, g1, g2, g3, g4]) rfl ⟨_, _, by rw [HP.out], ⟨_, _, by rw [HP.out]; exact hTf.lower (by omega)⟩, hB.trans (below_only hon (fun k hk => by omega) (by omega))⟩

    · have HP : Hid (t.drop x = (t, false)) := by show _ = _; simp only [Table.drop, hok, if_true, if_neg hi]
      obtain ⟨I, hX⟩ : ∃ I, indexOf (· == x) t.keys = I := ⟨_, rfl⟩
      have hneg : I < 0 := by omega
      have HX := Lib.hid hX
      clear hi hX hok
      go_enter Try.func8, Try.ntmps8
      go_wp2_with fail
      refine (l3Ok_calls t kv sv L1 L2 _ h1 ((H1.alloc _).alloc _) h2 ((H2.alloc _).alloc _)).mono ?_
      rw [HK.out]
      rintro e w1 ⟨rfl, hb1⟩
      have hbox := ((holds_new (w := w) (o := tcells t kv sv) rfl).alloc zcells).below hb1
      have hres := (holds_new (w := w.alloc (tcells t kv sv)) (o := zcells) (k := w.heap.size + 1) (by simp)).below hb1
      have hB1 : Below w.heap.size w w1 := bnext (below_alloc' (below_alloc' (Below.refl _ _) _) _) hb1
      obtain ⟨d0, d1, d2, d3, d4⟩ := tbox_cells hbox.get
      have hr0 := hres.lt (List.mem_singleton.2 rfl)
      go_wp2_with fail
      refine (l3Copy_calls t kv sv L1 L2 _ h1 (H1.below hB1) h2 (H2.below hB1) (by omega) (by omega)).mono ?_
      rintro e w2 ⟨k2, s2, rfl, M1, M2, o1, o2, hM1, hM2, hap, hb2⟩
      obtain ⟨A5, n5, c5, rfl⟩ := o1.row.slice
      obtain ⟨A6, n6, c6, rfl⟩ := o2.row.slice
      have hbox := hbox.below hb2
      have hres := hres.below hb2
      have hB := bnext hB1 hb2
      have hT : OwnT w1.heap.size t (.slice A5 n5 c5) (.slice A6 n6 c6) M1 M2 w2 := ⟨o1, o2, hM1, hM2, hap⟩
      have hs12 := hb2.size
      have hr1 := hres.lt (List.mem_singleton.2 rfl)
      have hTlt := hT.lt
      clear d0 d1 d2 d3 d4 hb1 hb2 o1 o2 hM1 hM2 hap
      obtain ⟨hth, hgb, hon⟩ := tput (V := w2.alloc zcells) (r := w2.heap.size) (t0 := Table.zero) (holds_new rfl).get t (.slice A5 n5 c5) (.slice A6 n6 c6)
      go_wp2_with (first
        | ((with_reducible refine gate_store (p := 6) rfl ?_); go_loud (
           refine wpList_put rfl 27 _ _ rfl w2.heap.size 0 [.int .i64 t.kind, .int .i64 t.size, .int .i64 t.most, (.slice A5 n5 c5), (.slice A6 n6 c6)] rfl rfl hth (by kernel_rfl) rfl ?_
           have hT := (hT.below (below_alloc' (Below.refl _ _) zcells)).only hon (fun p hp e => by have := hTlt p hp; omega)
           have hres := (hres.alloc zcells).only hon (fun p hp => by rw [List.mem_singleton.1 hp]; simp only; omega)
           have hbox := (hbox.alloc zcells).only hon (fun p hp => by rw [List.mem_singleton.1 hp]; simp only; omega)
           have hB := (below_alloc' hB zcells).trans (below_only hon (fun k hk => by have := hB1.size; omega) (by simp; have := hB1.size; omega))
           have s3 : w2.heap.size < ((w2.alloc zcells).setCells w2.heap.size 0 [.int .i64 t.kind, .int .i64 t.size, .int .i64 t.most, (.slice A5 n5 c5), (.slice A6 n6 c6)]).heap.size := (Holds.one hgb).lt (List.mem_singleton.2 rfl)
           generalize (w2.alloc zcells).setCells w2.heap.size 0 [.int .i64 t.kind, .int .i64 t.size, .int .i64 t.most, (.slice A5 n5 c5), (.slice A6 n6 c6)] = V at *
           clear hth hon
           have hgb := Holds.one hgb
           obtain ⟨d0, d1, d2, d3, d4⟩ := tbox_cells hbox.get))
        | (go_at_call 34; go_loud (
           refine (l3At_calls t kv sv L1 x _ h1 (H1.below hB)).mono ?_
           rw [HX.out]
           rintro e w4 ⟨rfl, hb⟩
           have hT := hT.below hb
           have hres := hres.below hb
           have hbox := hbox.below hb
           have hgb := hgb.below hb
           have hB := bnext hB hb
           have s4 := hb.size
           obtain ⟨e0, e1, e2, e3, e4⟩ := tbox_cells hgb.get
           obtain ⟨d0, d1, d2, d3, d4⟩ := tbox_cells hbox.get
           obtain ⟨hth, hfin, hon⟩ := tput (t0 := Table.zero) hres.get t (.slice A5 n5 c5) (.slice A6 n6 c6)))
        | ((with_reducible refine gate_store (p := 4) rfl ?_); go_loud (refine wpList_put rfl 27 _ _ rfl (w.heap.size + 1) 0 [.int .i64 t.kind, .int .i64 t.size, .int .i64 t.most, (.slice A5 n5 c5), (.slice A6 n6 c6)] rfl rfl hth (by kernel_rfl) rfl ?_)))
      have hBs := hB.size
      generalize w4.setCells (w.heap.size + 1) 0 [.int .i64 t.kind, .int .i64 t.size, .int .i64 t.most, (.slice A5 n5 c5), (.slice A6 n6 c6)] = V9 at *
      obtain ⟨g0, g1, g2, g3, g4⟩ := tbox_cells hfin
      have hTf := hT.beside hon (fun p hp => by have := hT.1.base p hp; omega) (fun p hp => by have := hT.2.1.base p hp; omega)
      refine bodyPost_ret (v := .tuple #[.agg #[.int .i64 t.kind, .int .i64 t.size, .int .i64 t.most, (.slice A5 n5 c5), (.slice A6 n6 c6)], .bool false]) (by simp [results, Try.results8, go_sem, g0, g1, g2, g3, g4]) rfl ⟨_, _, by rw [HP.out], ⟨_, _, by rw [HP.out]; exact hTf.lower (by omega)⟩, hB.trans (below_only hon (fun k hk => by omega) (by omega))⟩
end Go.Proofs.Ytoimeebildcofaa
