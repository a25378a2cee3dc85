/- The walks of TablePut, of the program and of the reference. -/
import Derived.Test.YtoimeebildcofaaWTab7
namespace Go.Proofs.Ytoimeebildcofaa
open Go.RowKit
theorem Table.put0_lens (t : Table) (x : Int) (v : ByteArray) : (t.put0 x v).1.keys.length ≤ t.keys.length + 1 ∧ (t.put0 x v).1.slots.length ≤ t.slots.length + 1 := by
  unfold Table.put0
  split
  · simp
  · split
    · simp
    · split <;> simp
theorem Table.put0_kind (t : Table) (x : Int) (v : ByteArray) : (t.put0 x v).1.kind = t.kind ∧ (t.put0 x v).1.size = t.size ∧ (t.put0 x v).1.most = t.most := by
  unfold Table.put0
  split
  · exact ⟨rfl, rfl, rfl⟩
  · split
    · exact ⟨rfl, rfl, rfl⟩
    · split <;> exact ⟨rfl, rfl, rfl⟩
theorem Table.put1_lens (t : Table) (x : Int) (v : ByteArray) : (t.put1 x v).1.keys.length ≤ t.keys.length + 1 ∧ (t.put1 x v).1.slots.length ≤ t.slots.length + 1 := by
  unfold Table.put1
  split
  · exact Table.put0_lens t x v
  · simp
theorem Table.put_eq (t : Table) (x : Int) (v : ByteArray) : t.put x v = if t.ok then t.put1 x v else (Table.zero, 1) := rfl
theorem tput0 {V : World} {r : Nat} (h : V.heap[r]? = some zcells) : V.there r 0 5 ∧ (V.setCells r 0 [.int .i64 0, .int .i64 0, .int .i64 0, .slice none 0 0, .slice none 0 0]).heap[r]? = some zcells ∧ Only (· = r) V (V.setCells r 0 [.int .i64 0, .int .i64 0, .int .i64 0, .slice none 0 0, .slice none 0 0]) :=
  tput (t0 := Table.zero) h Table.zero (.slice none 0 0) (.slice none 0 0)
theorem zero_own (B : Nat) (w : World) : OwnT B Table.zero (.slice none 0 0) (.slice none 0 0) [] [] w := ⟨Own.nil _ _ _, Own.nil _ _ _, Holds.nil _, Holds.nil _, fun _ h => by cases h⟩
theorem Apart.ne {L : Blocks} {n : Nat} (h : ∀ p ∈ L, n ≤ p.1) {m : Nat} (hm : m < n) : ∀ p ∈ L, p.1 ≠ m := fun p hp e => by have := h p hp; omega
set_option maxRecDepth 100000 in
set_option maxHeartbeats 3200000 in
theorem tablePut_calls (t : Table) (kv sv : Value) (L1 L2 : Blocks) (x : Int) (v : ByteArray) (w : World) (h1 : Row 1 kv (t.keys.map intCell) L1) (H1 : Holds w L1) (h2 : Row 1 sv (t.slots.map strCell) L2) (H2 : Holds w L2) (hv : v.size ≤ 281474976710656) :
    Calls Try.prog 18 #[.agg #[.int .i64 t.kind, .int .i64 t.size, .int .i64 t.most, kv, sv], .int .i64 x, .string v] w fun e w' => ∃ kv' sv', e = .returned (.tuple #[.agg #[.int .i64 (t.put x v).1.kind, .int .i64 (t.put x v).1.size, .int .i64 (t.put x v).1.most, kv', sv'], .int .i64 (t.put x v).2]) ∧
      (∃ M1 M2, OwnT w.heap.size (t.put x v).1 kv' sv' M1 M2 w') ∧ Below w.heap.size w w' := by
  cases hok : t.ok with
  | false =>
    have HP : Hid (t.put x v = (Table.zero, 1)) := by show _ = _; simp [Table.put, hok]
    have HK := Lib.hid hok
    clear hok
    go_enter Try.func18, Try.ntmps18
    go_wp2_with fail
    refine (tableOk_calls t kv sv L1 L2 _ h1 ((H1.alloc _).alloc _) h2 ((H2.alloc _).alloc _)).mono ?_
    rw [HK.out]
    rintro e w1 ⟨rfl, hb1⟩
    have hres := (holds_new (w := w.alloc (tcells t kv sv)) (o := zcells) (k := w.heap.size + 1) (by simp)).below hb1
    have hB1 : Below w.heap.size w w1 := bnext (below_alloc' (below_alloc' (Below.refl _ _) _) _) hb1
    obtain ⟨hth, hfin, hon⟩ := tput0 hres.get
    go_wp2_with ((with_reducible refine gate_store (p := 6) rfl ?_); refine wpList_put rfl 27 _ _ rfl (w.heap.size + 1) 0 [.int .i64 0, .int .i64 0, .int .i64 0, .slice none 0 0, .slice none 0 0] rfl rfl hth (by kernel_rfl) rfl ?_)
    generalize w1.setCells (w.heap.size + 1) 0 [.int .i64 0, .int .i64 0, .int .i64 0, .slice none 0 0, .slice none 0 0] = V4 at *
    obtain ⟨g0, g1, g2, g3, g4⟩ := tbox_cells (t := Table.zero) hfin
    simp only [Table.zero] at g0 g1 g2 g3 g4
    refine bodyPost_ret (v := .tuple #[.agg #[.int .i64 0, .int .i64 0, .int .i64 0, .slice none 0 0, .slice none 0 0], .int .i64 1]) (by simp [results, Try.results18, go_sem, g0, g1, g2, g3, g4]) rfl ⟨_, _, by rw [HP.out]; rfl, ⟨[], [], by rw [HP.out]; exact zero_own _ _⟩, hB1.trans (below_only hon (fun k hk => by omega) hB1.size)⟩
  | true =>
    obtain ⟨hl, _, hl8⟩ := Table.ok_lens hok
    have HP : Hid (t.put x v = t.put1 x v) := by show _ = _; simp [Table.put_eq, hok]
    have HK := Lib.hid hok
    have hp1 := Table.put1_lens t x v
    clear hok
    go_enter Try.func18, Try.ntmps18
    go_wp2_with fail
    refine (tableOk_calls t kv sv L1 L2 _ h1 ((H1.alloc _).alloc _) h2 ((H2.alloc _).alloc _)).mono ?_
    rw [HK.out]
    rintro e w1 ⟨rfl, hb1⟩
    have hbox := ((holds_new (w := w) (o := tcells t kv sv) rfl).alloc zcells).below hb1
    have hres := (holds_new (w := w.alloc (tcells t kv sv)) (o := zcells) (k := w.heap.size + 1) (by simp)).below hb1
    have hB1 : Below w.heap.size w w1 := bnext (below_alloc' (below_alloc' (Below.refl _ _) _) _) hb1
    obtain ⟨d0, d1, d2, d3, d4⟩ := tbox_cells hbox.get
    have hr0 := hres.lt (List.mem_singleton.2 rfl)
    go_wp2_with fail
    refine (copied_calls t kv sv L1 L2 _ h1 (H1.below hB1) h2 (H2.below hB1) (by omega) (by omega)).mono ?_
    rintro e w2 ⟨k2, s2, rfl, M1, M2, o1, o2, hM1, hM2, hap, hb2⟩
    obtain ⟨A5, n5, c5, rfl⟩ := o1.row.slice
    obtain ⟨A6, n6, c6, rfl⟩ := o2.row.slice
    have hres := hres.below hb2
    have hB2 := bnext hB1 hb2
    have hT : OwnT w1.heap.size t (.slice A5 n5 c5) (.slice A6 n6 c6) M1 M2 w2 := ⟨o1, o2, hM1, hM2, hap⟩
    obtain ⟨hth, hg, hon⟩ := tput (V := w2.alloc zcells) (r := w2.heap.size) (t0 := Table.zero) (holds_new rfl).get t (.slice A5 n5 c5) (.slice A6 n6 c6)
    have hs12 := hb2.size
    have hr1 := hres.lt (List.mem_singleton.2 rfl)
    have hTlt := hT.lt
    go_wp2_with (first
      | ((with_reducible refine gate_store (p := 8) rfl ?_); go_loud (
         refine wpList_put rfl 27 _ _ rfl w2.heap.size 0 [.int .i64 t.kind, .int .i64 t.size, .int .i64 t.most, (.slice A5 n5 c5), (.slice A6 n6 c6)] rfl rfl hth (by kernel_rfl) rfl ?_
         have hT := (hT.below (below_alloc' (Below.refl _ _) zcells)).only hon (fun p hp e => by have := hTlt p hp; omega)
         have hres := (hres.alloc zcells).only hon (fun p hp => by rw [List.mem_singleton.1 hp]; simp only; omega)
         have hB2 := (below_alloc' hB2 zcells).trans (below_only hon (fun k hk => by have := hB1.size; omega) (by simp; have := hB1.size; omega))
         have s3 : w2.heap.size < ((w2.alloc zcells).setCells w2.heap.size 0 [.int .i64 t.kind, .int .i64 t.size, .int .i64 t.most, (.slice A5 n5 c5), (.slice A6 n6 c6)]).heap.size := (Holds.one hg).lt (List.mem_singleton.2 rfl)
         generalize (w2.alloc zcells).setCells w2.heap.size 0 [.int .i64 t.kind, .int .i64 t.size, .int .i64 t.most, (.slice A5 n5 c5), (.slice A6 n6 c6)] = V at *))
      | (go_at_call 57; go_loud (
         refine (cloneStr_calls v _ hv).mono ?_; rintro e w3 ⟨rfl, hb3⟩
         have hT := hT.below hb3
         have hres := hres.below hb3
         have hg := (Holds.one hg).below hb3
         have hB2 := bnext hB2 hb3
         have s4 := hb3.size))
      | (go_at_call 56; go_loud (
         refine (tput_calls t x v w1.heap.size w2.heap.size _ ⟨_, _, M1, M2, hT, hg.get, fun p hp e => by have := hTlt p hp; omega⟩ (by omega) (by omega) hl hl8).mono ?_
         rintro e w4 ⟨rfl, ⟨k4, s4, N1, N2, o4, hg4, hne4⟩, hb4⟩
         have hres := hres.below' hb4 (fun p hp => by rw [List.mem_singleton.1 hp]; simp only; omega)
         have hB4 := hB2.trans (hb4.mono hB1.size)
         have s5 := hb4.size
         obtain ⟨e0, e1, e2, e3, e4⟩ := tbox_cells hg4))
      | (go_at_call 38; go_loud (
         refine (copied_calls (t.put1 x v).1 k4 s4 N1 N2 _ o4.1.row o4.2.2.1 o4.2.1.row o4.2.2.2.1 (by omega) (by omega)).mono ?_
         rintro e w5 ⟨k5, s5, rfl, P1, P2, q1, q2, hP1, hP2, hap5, hb5⟩
         obtain ⟨A7, n7, c7, rfl⟩ := q1.row.slice
         obtain ⟨A8, n8, c8, rfl⟩ := q2.row.slice
         have hres := hres.below hb5
         have hB5 := bnext hB4 hb5
         have hT5 : OwnT w.heap.size (t.put1 x v).1 (.slice A7 n7 c7) (.slice A8 n8 c8) P1 P2 w5 := OwnT.lower ⟨q1, q2, hP1, hP2, hap5⟩ hB4.size
         have hP1b := q1.base
         have hP2b := q2.base
         obtain ⟨hth, hfin, hon⟩ := tput (t0 := Table.zero) hres.get (t.put1 x v).1 (.slice A7 n7 c7) (.slice A8 n8 c8)))
      | ((with_reducible refine gate_store (p := 6) rfl ?_); refine wpList_put rfl 27 _ _ rfl (w.heap.size + 1) 0 [.int .i64 (t.put1 x v).1.kind, .int .i64 (t.put1 x v).1.size, .int .i64 (t.put1 x v).1.most, (.slice A7 n7 c7), (.slice A8 n8 c8)] rfl rfl hth (by kernel_rfl) rfl ?_))
    generalize w5.setCells (w.heap.size + 1) 0 [.int .i64 (t.put1 x v).1.kind, .int .i64 (t.put1 x v).1.size, .int .i64 (t.put1 x v).1.most, (.slice A7 n7 c7), (.slice A8 n8 c8)] = V4 at *
    obtain ⟨g0, g1, g2, g3, g4⟩ := tbox_cells hfin
    have hTf := hT5.beside hon (fun p hp => by have := hP1b p hp; omega) (fun p hp => by have := hP2b p hp; omega)
    refine bodyPost_ret (v := .tuple #[.agg #[.int .i64 (t.put1 x v).1.kind, .int .i64 (t.put1 x v).1.size, .int .i64 (t.put1 x v).1.most, (.slice A7 n7 c7), (.slice A8 n8 c8)], .int .i64 (t.put1 x v).2]) (by simp [results, Try.results18, go_sem, g0, g1, g2, g3, g4]) rfl ⟨_, _, by rw [HP.out], ⟨P1, P2, by rw [HP.out]; exact hTf⟩, hB5.trans (below_only hon (fun k hk => by omega) hB5.size)⟩
set_option maxRecDepth 100000 in
set_option maxHeartbeats 3200000 in
theorem specTablePut_calls (t : Table) (kv sv : Value) (L1 L2 : Blocks) (x : Int) (v : ByteArray) (w : World) (h1 : Row 1 kv (t.keys.map intCell) L1) (H1 : Holds w L1) (h2 : Row 1 sv (t.slots.map strCell) L2) (H2 : Holds w L2) :
    Calls Try.prog 112 #[.agg #[.int .i64 t.kind, .int .i64 t.size, .int .i64 t.most, kv, sv], .int .i64 x, .string v] w fun e w' => ∃ kv' sv', e = .returned (.tuple #[.agg #[.int .i64 (t.put x v).1.kind, .int .i64 (t.put x v).1.size, .int .i64 (t.put x v).1.most, kv', sv'], .int .i64 (t.put x v).2]) ∧
      (∃ M1 M2, OwnT w.heap.size (t.put x v).1 kv' sv' M1 M2 w') ∧ Below w.heap.size w w' := by
  cases hok : t.ok with
  | false =>
    have HP : Hid (t.put x v = (Table.zero, 1)) := by show _ = _; simp [Table.put, hok]
    have HK := Lib.hid hok
    clear hok
    go_enter Try.func112, Try.ntmps112; go_wp2_with fail; (refine (l3Ok_calls t kv sv L1 L2 _ h1 ((H1.alloc _).alloc _) h2 ((H2.alloc _).alloc _)).mono ?_); (rw [HK.out]); rintro e w1 ⟨rfl, hb1⟩; have hbox := ((holds_new (w := w) (o := tcells t kv sv) rfl).alloc zcells).below hb1; have hres := (holds_new (w := w.alloc (tcells t kv sv)) (o := zcells) (k := w.heap.size + 1) (by simp)).below hb1; have hB1 : Below w.heap.size w w1 := bnext (below_alloc' (below_alloc' (Below.refl _ _) _) _) hb1; have hr0 := hres.lt (List.mem_singleton.2 rfl)
    obtain ⟨hth, hfin, hon⟩ := tput0 hres.get
    go_wp2_with ((with_reducible refine gate_store (p := 6) rfl ?_); refine wpList_put rfl 27 _ _ rfl (w.heap.size + 1) 0 [.int .i64 0, .int .i64 0, .int .i64 0, .slice none 0 0, .slice none 0 0] rfl rfl hth (by kernel_rfl) rfl ?_)
    generalize w1.setCells (w.heap.size + 1) 0 [.int .i64 0, .int .i64 0, .int .i64 0, .slice none 0 0, .slice none 0 0] = V4 at *
    obtain ⟨g0, g1, g2, g3, g4⟩ := tbox_cells (t := Table.zero) hfin
    simp only [Table.zero] at g0 g1 g2 g3 g4
    refine bodyPost_ret (v := .tuple #[.agg #[.int .i64 0, .int .i64 0, .int .i64 0, .slice none 0 0, .slice none 0 0], .int .i64 1]) (by simp [results, Try.results112, go_sem, g0, g1, g2, g3, g4]) rfl ⟨_, _, by rw [HP.out]; rfl, ⟨[], [], by rw [HP.out]; exact zero_own _ _⟩, hB1.trans (below_only hon (fun k hk => by omega) hB1.size)⟩
  | true =>
    obtain ⟨hl, _, hl8⟩ := Table.ok_lens hok
    have HK := Lib.hid hok
    cases hp : t.puts x v with
    | false =>
      have HP : Hid (t.put x v = (t, 1)) := by show _ = _; simp [Table.put, hok, hp]
      have HC : Hid (inB x 0 4294967295 = true → ((v.size : Int) != t.size) = true) := fun h => by simp only [Table.puts, h, Bool.true_and] at hp; simp [bne, hp]
      cases hnum : inB x 0 4294967295
      · skip
        have HN := Lib.hid hnum
        clear hok hp hnum
        go_enter Try.func112, Try.ntmps112; go_wp2_with fail; (refine (l3Ok_calls t kv sv L1 L2 _ h1 ((H1.alloc _).alloc _) h2 ((H2.alloc _).alloc _)).mono ?_); (rw [HK.out]); rintro e w1 ⟨rfl, hb1⟩; have hbox := ((holds_new (w := w) (o := tcells t kv sv) rfl).alloc zcells).below hb1; have hres := (holds_new (w := w.alloc (tcells t kv sv)) (o := zcells) (k := w.heap.size + 1) (by simp)).below hb1; have hB1 : Below w.heap.size w w1 := bnext (below_alloc' (below_alloc' (Below.refl _ _) _) _) hb1; have hr0 := hres.lt (List.mem_singleton.2 rfl)
        obtain ⟨d0, d1, d2, d3, d4⟩ := tbox_cells hbox.get
        go_wp2_with (first | (first | (go_at_call 76; refine (l2Top_calls _).mono ?_; rintro e w' ⟨rfl, hw'⟩; subst w') | (go_at_call 75; refine (l1In_calls _ _ _ _).mono ?_; rintro e w' ⟨rfl, hw'⟩; subst w'; (try rw [HN.out]))) | (go_at_call 33; refine (l3Copy_calls t kv sv L1 L2 _ h1 (H1.below hB1) h2 (H2.below hB1) (by omega) (by omega)).mono ?_; rintro e w2 ⟨k2, s2, rfl, M1, M2, o1, o2, hM1, hM2, hap, hb2⟩; obtain ⟨A5, n5, c5, rfl⟩ := o1.row.slice; obtain ⟨A6, n6, c6, rfl⟩ := o2.row.slice; have hres := hres.below hb2; have hB2 := bnext hB1 hb2; have hT : OwnT w1.heap.size t (.slice A5 n5 c5) (.slice A6 n6 c6) M1 M2 w2 := ⟨o1, o2, hM1, hM2, hap⟩; have hs12 := hb2.size; obtain ⟨hth, hfin, hon⟩ := tput (t0 := Table.zero) hres.get t (.slice A5 n5 c5) (.slice A6 n6 c6)) | ((with_reducible refine gate_store (p := 6) rfl ?_); refine wpList_put rfl 27 _ _ rfl (w.heap.size + 1) 0 [.int .i64 t.kind, .int .i64 t.size, .int .i64 t.most, .slice A5 n5 c5, .slice A6 n6 c6] rfl rfl hth (by kernel_rfl) rfl ?_))
        generalize w2.setCells (w.heap.size + 1) 0 [.int .i64 t.kind, .int .i64 t.size, .int .i64 t.most, .slice A5 n5 c5, .slice A6 n6 c6] = V4 at *
        obtain ⟨g0, g1, g2, g3, g4⟩ := tbox_cells hfin
        have hTf := (hT.beside hon (fun p hp => by have := o1.base p hp; omega) (fun p hp => by have := o2.base p hp; omega)).lower hB1.size
        refine bodyPost_ret (v := .tuple #[.agg #[.int .i64 t.kind, .int .i64 t.size, .int .i64 t.most, .slice A5 n5 c5, .slice A6 n6 c6], .int .i64 1]) (by simp [results, Try.results112, go_sem, g0, g1, g2, g3, g4]) rfl ⟨_, _, by rw [HP.out], ⟨M1, M2, by rw [HP.out]; exact hTf⟩, hB2.trans (below_only hon (fun k hk => by omega) hB2.size)⟩
      · have hs2 := HC.out hnum
        have HN := Lib.hid hnum
        clear hok hp hnum
        go_enter Try.func112, Try.ntmps112; go_wp2_with fail; (refine (l3Ok_calls t kv sv L1 L2 _ h1 ((H1.alloc _).alloc _) h2 ((H2.alloc _).alloc _)).mono ?_); (rw [HK.out]); rintro e w1 ⟨rfl, hb1⟩; have hbox := ((holds_new (w := w) (o := tcells t kv sv) rfl).alloc zcells).below hb1; have hres := (holds_new (w := w.alloc (tcells t kv sv)) (o := zcells) (k := w.heap.size + 1) (by simp)).below hb1; have hB1 : Below w.heap.size w w1 := bnext (below_alloc' (below_alloc' (Below.refl _ _) _) _) hb1; have hr0 := hres.lt (List.mem_singleton.2 rfl)
        obtain ⟨d0, d1, d2, d3, d4⟩ := tbox_cells hbox.get
        go_wp2_with (first | (first | (go_at_call 76; refine (l2Top_calls _).mono ?_; rintro e w' ⟨rfl, hw'⟩; subst w') | (go_at_call 75; refine (l1In_calls _ _ _ _).mono ?_; rintro e w' ⟨rfl, hw'⟩; subst w'; (try rw [HN.out]))) | (go_at_call 33; refine (l3Copy_calls t kv sv L1 L2 _ h1 (H1.below hB1) h2 (H2.below hB1) (by omega) (by omega)).mono ?_; rintro e w2 ⟨k2, s2, rfl, M1, M2, o1, o2, hM1, hM2, hap, hb2⟩; obtain ⟨A5, n5, c5, rfl⟩ := o1.row.slice; obtain ⟨A6, n6, c6, rfl⟩ := o2.row.slice; have hres := hres.below hb2; have hB2 := bnext hB1 hb2; have hT : OwnT w1.heap.size t (.slice A5 n5 c5) (.slice A6 n6 c6) M1 M2 w2 := ⟨o1, o2, hM1, hM2, hap⟩; have hs12 := hb2.size; obtain ⟨hth, hfin, hon⟩ := tput (t0 := Table.zero) hres.get t (.slice A5 n5 c5) (.slice A6 n6 c6)) | ((with_reducible refine gate_store (p := 6) rfl ?_); refine wpList_put rfl 27 _ _ rfl (w.heap.size + 1) 0 [.int .i64 t.kind, .int .i64 t.size, .int .i64 t.most, .slice A5 n5 c5, .slice A6 n6 c6] rfl rfl hth (by kernel_rfl) rfl ?_))
        generalize w2.setCells (w.heap.size + 1) 0 [.int .i64 t.kind, .int .i64 t.size, .int .i64 t.most, .slice A5 n5 c5, .slice A6 n6 c6] = V4 at *
        obtain ⟨g0, g1, g2, g3, g4⟩ := tbox_cells hfin
        have hTf := (hT.beside hon (fun p hp => by have := o1.base p hp; omega) (fun p hp => by have := o2.base p hp; omega)).lower hB1.size
        refine bodyPost_ret (v := .tuple #[.agg #[.int .i64 t.kind, .int .i64 t.size, .int .i64 t.most, .slice A5 n5 c5, .slice A6 n6 c6], .int .i64 1]) (by simp [results, Try.results112, go_sem, g0, g1, g2, g3, g4]) rfl ⟨_, _, by rw [HP.out], ⟨M1, M2, by rw [HP.out]; exact hTf⟩, hB2.trans (below_only hon (fun k hk => by omega) hB2.size)⟩
    | true =>
      have HP : Hid (t.put x v = t.put0 x v) := by show _ = _; simp [Table.put, hok, hp]
      have hnum : inB x 0 4294967295 = true := by simp only [Table.puts, Bool.and_eq_true] at hp; exact hp.1
      have hs2 : ((v.size : Int) != t.size) = false := by simp only [Table.puts, Bool.and_eq_true] at hp; simp [bne, hp.2]
      have HN := Lib.hid hnum
      have hkind : (t.put0 x v).1.kind = t.kind ∧ (t.put0 x v).1.size = t.size ∧ (t.put0 x v).1.most = t.most := Table.put0_kind t x v
      clear hok hp hnum
      go_enter Try.func112, Try.ntmps112; go_wp2_with fail; (refine (l3Ok_calls t kv sv L1 L2 _ h1 ((H1.alloc _).alloc _) h2 ((H2.alloc _).alloc _)).mono ?_); (rw [HK.out]); rintro e w1 ⟨rfl, hb1⟩; have hbox := ((holds_new (w := w) (o := tcells t kv sv) rfl).alloc zcells).below hb1; have hres := (holds_new (w := w.alloc (tcells t kv sv)) (o := zcells) (k := w.heap.size + 1) (by simp)).below hb1; have hB1 : Below w.heap.size w w1 := bnext (below_alloc' (below_alloc' (Below.refl _ _) _) _) hb1; have hr0 := hres.lt (List.mem_singleton.2 rfl)
      obtain ⟨d0, d1, d2, d3, d4⟩ := tbox_cells hbox.get
      go_wp2_with (first
        | (first | (go_at_call 76; refine (l2Top_calls _).mono ?_; rintro e w' ⟨rfl, hw'⟩; subst w') | (go_at_call 75; refine (l1In_calls _ _ _ _).mono ?_; rintro e w' ⟨rfl, hw'⟩; subst w'; (try rw [HN.out])))
        | (go_at_call 33; refine (l3Copy_calls t kv sv L1 L2 _ h1 (H1.below hB1) h2 (H2.below hB1) (by omega) (by omega)).mono ?_; rintro e w2 ⟨k2, s2, rfl, M1, M2, o1, o2, hM1, hM2, hap, hb2⟩; obtain ⟨A5, n5, c5, rfl⟩ := o1.row.slice; obtain ⟨A6, n6, c6, rfl⟩ := o2.row.slice; have hres := hres.below hb2; have hB2 := bnext hB1 hb2; have hT : OwnT w1.heap.size t (.slice A5 n5 c5) (.slice A6 n6 c6) M1 M2 w2 := ⟨o1, o2, hM1, hM2, hap⟩; have hs12 := hb2.size; obtain ⟨hth, hfin, hon⟩ := tput (t0 := Table.zero) hres.get t (.slice A5 n5 c5) (.slice A6 n6 c6))
        | (go_at_call 132; go_loud (
           refine (l3Put_calls t _ _ M1 M2 x v w1.heap.size w2 hT (by omega) hl hl8).mono ?_
           rintro e w3 ⟨k3, s3, rfl, ⟨N1, N2, o4⟩, hb3⟩
           obtain ⟨A7, n7, c7, rfl⟩ := o4.1.row.slice
           obtain ⟨A8, n8, c8, rfl⟩ := o4.2.1.row.slice
           have hres := hres.below' hb3 (fun p hp => by rw [List.mem_singleton.1 hp]; simp only; omega)
           have hB4 := hB2.trans (hb3.mono hB1.size)
           clear hth hfin hon
           obtain ⟨hth, hfin, hon⟩ := tput (t0 := Table.zero) hres.get t (.slice A7 n7 c7) (.slice A8 n8 c8)))
        | ((with_reducible refine gate_store (p := 6) rfl ?_); refine wpList_put rfl 27 _ _ rfl (w.heap.size + 1) 0 [.int .i64 t.kind, .int .i64 t.size, .int .i64 t.most, .slice A7 n7 c7, .slice A8 n8 c8] rfl rfl hth (by kernel_rfl) rfl ?_))
      generalize w3.setCells (w.heap.size + 1) 0 [.int .i64 t.kind, .int .i64 t.size, .int .i64 t.most, .slice A7 n7 c7, .slice A8 n8 c8] = V4 at *
      obtain ⟨g0, g1, g2, g3, g4⟩ := tbox_cells hfin
      have hTf := (o4.beside hon (fun p hp => by have := o4.1.base p hp; omega) (fun p hp => by have := o4.2.1.base p hp; omega)).lower hB1.size
      refine bodyPost_ret (v := .tuple #[.agg #[.int .i64 t.kind, .int .i64 t.size, .int .i64 t.most, .slice A7 n7 c7, .slice A8 n8 c8], .int .i64 (t.put0 x v).2]) (by simp [results, Try.results112, go_sem, g0, g1, g2, g3, g4]) rfl ⟨_, _, by rw [HP.out, hkind.1, hkind.2.1, hkind.2.2], ⟨N1, N2, by rw [HP.out]; exact hTf⟩, hB4.trans (below_only hon (fun k hk => by omega) hB4.size)⟩
end Go.Proofs.Ytoimeebildcofaa
