/- The walks of TableNew, of the program and of the reference. -/
import Derived.Test.YtoimeebildcofaaWTab8
namespace Go.Proofs.Ytoimeebildcofaa
open Go.RowKit
theorem repeat_nought (n : Nat) : (⟨(Lib.repeatL (⟨#[0]⟩ : ByteArray).data.toList n).toArray⟩ : ByteArray) = nought n := by
  have : ∀ n, Lib.repeatL [0] n = List.replicate n 0 := fun n => by
    induction n with
    | zero => rfl
    | succ n ih => rw [Lib.repeatL, ih, List.replicate_succ]; rfl
  simp only [nought]
  rw [this, List.toArray_replicate]
theorem noughts_calls (n : Nat) (q : Int) (hq : (n : Int) = q) (hn : n ≤ 8) (w : World) : Calls Try.prog 40 #[.int .i64 q] w fun e w' => e = .returned (.string (nought n)) ∧ Below w.heap.size w w' := by
  subst hq
  go_enter Try.func40, Try.ntmps40
  go_wp2_with (go_at_call 82; refine (Try.strings_Repeat ⟨#[0]⟩ n _ (by omega) (by show 1 * n ≤ _; omega)).mono ?_; rintro e w' ⟨rfl, hb⟩)
  go_ret
  exact ⟨by rw [← repeat_nought]; rfl, hb⟩
theorem infoU8 : (Try.prog.info? 5).map (fun i => (i.zero, i.size, i.bytes)) = some (some (.int .u8 0), 1, 1) := by kernel_rfl
theorem nought_nums (n : Nat) : strOfNums (List.replicate n 0) = nought n := by
  simp [strOfNums, nought]
set_option maxRecDepth 100000 in
theorem l3Zero_calls (n : Nat) (q : Int) (hq : (n : Int) = q) (hn : n ≤ 8) (w : World) : Calls Try.prog 35 #[.int .i64 q] w fun e w' => e = .returned (.string (nought n)) ∧ Below w.heap.size w w' := by
  subst hq
  obtain ⟨i0, hi0, hz0, hs0, hb0⟩ := info_of infoU8
  have HI := Lib.hid hi0
  clear hi0
  go_enter Try.func35, Try.ntmps35
  go_wp2_with (first
    | (refine wpList_make_full _ rfl (.tmp 3) (.tmp 3) 34 rfl w.heap.size 5 i0 _ 1 Try.underlying34 HI.out hz0 hs0 .i64 .i64 _ _ n rfl rfl rfl rfl (by rw [hb0]; omega) (by simp only [maxLen]; omega) (Nat.le_refl _) ?_; intro w1 ho hg
       go_loud (
       have hcv : (convert 34 9 (.slice (some ⟨w.heap.size, 0, none⟩) n n)).run Try.prog w1 = .ok (.string (nought n)) w1 := by
         obtain ⟨h1, ⟨h2, _⟩ | ⟨g, cap, cur, h2, _, hh, _, _, hs, ht⟩⟩ := ho
         · cases h2
         · injection h2 with h3 h4 h5
           injection h3 with h3
           injection h3 with h3
           subst h3
           subst h5
           rw [← nought_nums]
           refine run_convert_bytes_arg _ 34 5 Try.underlying34 Try.underlying5 _ 0 n n (List.replicate n 0) (by simp) (fun i hi => ?_) 9 Try.underlying9
           have h6 : (madeCells (Value.int .u8 0).cells (n * 1)).toList = List.replicate n (.int .u8 0) := by rw [Nat.mul_one]; exact toList_madeCells_one _ _
           rw [h6, Nat.mul_one] at ht
           have h7 : cur.toList[i]? = some (.int .u8 0) := by
             have h8 : (cur.toList.take n)[i]? = some (.int .u8 0) := by rw [ht, List.getElem?_replicate, if_pos hi]
             rw [List.getElem?_take, if_pos hi] at h8
             exact h8
           have h9 : cur[i]? = some (.int .u8 0) := by rw [← Array.getElem?_toList]; exact h7
           have h10 : (List.replicate n (0 : Int)).getD i 0 = 0 := by rw [List.getD, List.getElem?_replicate, if_pos hi]; rfl
           rw [h10]
           simp [World.cell?, hh, h9]))
    | ((with_reducible refine gate_dst (N := 5) rfl ?_); refine wpList_conv rfl 34 9 _ rfl _ _ rfl hcv ?_))
  go_ret
  exact ⟨rfl, below_of_grown hg⟩
theorem zero_own' (B : Nat) (w : World) (k s m : Int) : OwnT B ⟨k, s, m, [], []⟩ (.slice none 0 0) (.slice none 0 0) [] [] w := ⟨Own.nil _ _ _, Own.nil _ _ _, Holds.nil _, Holds.nil _, fun _ h => by cases h⟩
/-- The i-th step of a new row. -/
def Table.upto (k s m : Int) (i : Nat) : Table := ⟨k, s, m, rowKeys i, List.replicate i (nought s.toNat)⟩
theorem Table.upto_new {k s m : Int} (h : (⟨k, s, m, [], []⟩ : Table).shape = true) (hk : k = 1) : Table.new k s m = Table.upto k s m m.toNat := by
  simp only [Table.new, Table.upto]
  rw [if_pos h, if_pos hk]
theorem Table.upto_zero {k s m : Int} (h : (⟨k, s, m, [], []⟩ : Table).shape = true) (hk : k ≠ 1) : Table.new k s m = Table.upto k s m 0 := by
  simp only [Table.new, Table.upto]
  rw [if_pos h, if_neg hk]
  rfl
theorem rowKeys_succ (i : Nat) : (rowKeys (i + 1)).map intCell = (rowKeys i).map intCell ++ [intCell (i : Int)] := by
  simp [rowKeys, List.range_succ]
theorem noughts_succ (i : Nat) (s : ByteArray) : (List.replicate (i + 1) s).map strCell = (List.replicate i s).map strCell ++ [strCell s] := by
  rw [List.replicate_succ', List.map_append]
  rfl
theorem OwnT.base' {B : Nat} {t : Table} {kv sv : Value} {M1 M2 : Blocks} {w : World} (h : OwnT B t kv sv M1 M2 w) : ∀ p ∈ M1 ++ M2, B ≤ p.1 := fun p hp => (List.mem_append.1 hp).elim (h.1.base p) (h.2.1.base p)
/-- A table that is being laid in block g, beside the result's block r. -/
def NewT (B g r : Nat) (t : Table) (w : World) : Prop := ∃ kv sv M1 M2, OwnT B t kv sv M1 M2 w ∧ w.heap[g]? = some (tcells t kv sv) ∧ (∀ p ∈ M1 ++ M2, p.1 ≠ g) ∧ Holds w [(r, zcells)] ∧ ∀ p ∈ M1 ++ M2, p.1 ≠ r
set_option maxRecDepth 100000 in
set_option maxHeartbeats 3200000 in
theorem l3New_calls (k s m : Int) (w : World) (hsh : (⟨k, s, m, [], []⟩ : Table).shape = true) :
    Calls Try.prog 131 #[.int .i64 k, .int .i64 s, .int .i64 m] w fun e w' => ∃ kv sv, e = .returned (.agg #[.int .i64 k, .int .i64 s, .int .i64 m, kv, sv]) ∧ (∃ M1 M2, OwnT w.heap.size (Table.new k s m) kv sv M1 M2 w') ∧ Below w.heap.size w w' := by
  obtain ⟨i0, hi0, hz0, hs0, hb0⟩ := info_of infoInt
  have HI := Lib.hid hi0
  obtain ⟨j0, hj0, hy0, ht0, hc0⟩ := info_of infoStr
  have HJ := Lib.hid hj0
  clear hi0 hj0
  have hb := hsh
  simp only [Table.shape, inB, Bool.and_eq_true, decide_eq_true_eq] at hb
  obtain ⟨⟨⟨hk1, hk2⟩, hs1, hs2⟩, hm1, hm2⟩ := hb
  have hstart : NewT w.heap.size (w.heap.size + 1) w.heap.size (Table.upto k s m 0) ((w.alloc zcells).alloc (tcells ⟨k, s, m, [], []⟩ (.slice none 0 0) (.slice none 0 0))) :=
    ⟨_, _, [], [], zero_own' _ _ _ _ _, (holds_new (by simp)).get, by simp, (holds_new rfl).alloc _, by simp⟩
  by_cases hk : k = 1
  · have HN := Lib.hid (Table.upto_new hsh hk)
    have hkb : (k == 1) = true := by simp [hk]
    clear hsh hk
    go_enter Try.func131, Try.ntmps131
    go_wp2
    go_loopw [8] (fun i wr => ∃ j : Nat, (j : Int) ≤ m ∧ i = .int .i64 j ∧ NewT w.heap.size (w.heap.size + 1) w.heap.size (Table.upto k s m j) wr ∧ Below w.heap.size w wr) (fun i _ => (m - (intOf i)).toNat)
    case atStart => exact ⟨0, by omega, rfl, hstart, below_alloc' (below_alloc' (Below.refl _ _) _) _⟩
    case round =>
      obtain ⟨j, hj, rfl, ⟨kv, sv, M1, M2, T, G, ne, hres⟩, hB⟩ := hrel
      obtain ⟨A1, n1, c1, rfl⟩ := T.1.row.slice
      obtain ⟨A2, n2, c2, rfl⟩ := T.2.1.row.slice
      obtain ⟨d0, d1, d2, d3, d4⟩ := tbox_cells G
      have hwB := hB.size
      by_cases hlt : (j : Int) < m
      · have hk8 : (rowKeys j).length ≤ 8 := by simp [rowKeys]; omega
        have hs8 : (List.replicate j (nought s.toNat)).length ≤ 8 := by simp; omega
        have ne1 : ∀ p ∈ M1, p.1 ≠ w.heap.size + 1 := fun p hp => ne p (List.mem_append_left _ hp)
        have ne2 : ∀ p ∈ M2, p.1 ≠ w.heap.size + 1 := fun p hp => ne p (List.mem_append_right _ hp)
        have Gh := Holds.one G
        have hgl := Gh.lt (List.mem_singleton.2 rfl)
        have hresb : ∀ p ∈ M1 ++ M2, p.1 ≠ w.heap.size := hres.2
        have rs1 : ∀ p ∈ M1, p.1 ≠ w.heap.size := fun p hp => hresb p (List.mem_append_left _ hp)
        have rs2 : ∀ p ∈ M2, p.1 ≠ w.heap.size := fun p hp => hresb p (List.mem_append_right _ hp)
        have hrs := hres.1
        clear hres G hresb
        go_wp2_with (first
          | ((with_reducible refine gate_dst (N := 24) rfl ?_)
             go_loud (
             ((with_reducible refine gate_dst (N := 24) rfl ?_); refine wpList_append' rfl _ _ 22 rfl w.heap.size 3 i0 _ 1 8 Try.underlying22 HI.out hz0 hs0 hb0 rfl (by decide) _ ((rowKeys j).map intCell) M1 rfl (T.1) (T.2.2.1.alloc _) ⟨wr.heap.size, 0, none⟩ 1 1 [[.int .i64 j]] rfl (by simp) rfl (cells_new _ _ _) (by simp [Value.oneCell']) (by simp; omega) (by decide) (by simp; omega) ?_; intro k3 w3 N1 hk3 hK3 hon3 hat3)
             obtain ⟨A5, n5, c5, rfl⟩ := hk3.row.slice
             have N1g : ∀ p ∈ N1, p.1 ≠ w.heap.size + 1 := grown_off hat3 ne1 (by simp; omega)
             have N1r : ∀ p ∈ N1, p.1 ≠ w.heap.size := grown_off hat3 rs1 (by simp; omega)
             have T3 : OwnT w.heap.size ⟨k, s, m, rowKeys (j + 1), List.replicate j (nought s.toNat)⟩ (.slice A5 n5 c5) (.slice A2 n2 c2) N1 M2 w3 := ⟨by rw [rowKeys_succ]; exact hk3, T.2.1, hK3, holds_apart (T.2.2.2.1.alloc _) T.2.2.2.2 hon3, apart_grow (T.2.2.2.1.alloc _) T.2.2.2.2 hat3⟩
             have Gh := (Gh.alloc (.cells #[.int .i64 j] 3)).only hon3 (fun p hp ⟨q, hq, e⟩ => ne1 q hq (by rw [e, List.mem_singleton.1 hp]))
             have hrs := (hrs.alloc (.cells #[.int .i64 j] 3)).only hon3 (fun p hp ⟨q, hq, e⟩ => rs1 q hq (by rw [e, List.mem_singleton.1 hp]))
             have hB := (below_alloc' hB (.cells #[.int .i64 j] 3)).trans (below_only hon3 (fun k ⟨p, hp, e⟩ => by have := T.1.base p hp; omega) (by simp; omega))
             obtain ⟨hth, hbx, hon⟩ := tput3 (t0 := Table.upto k s m j) Gh.get (.slice A5 n5 c5)
             have hgs := Gh.lt (List.mem_singleton.2 rfl)
             clear d0 d1 d2 d3 d4))
          | ((with_reducible refine gate_store (p := 25) rfl ?_); go_loud (
             refine wpList_put rfl 22 _ _ rfl (w.heap.size + 1) 3 [.slice A5 n5 c5] rfl rfl hth (by kernel_rfl) rfl ?_
             have T := T3.beside hon N1g ne2
             have hrs := hrs.only hon (fun p hp e => by rw [List.mem_singleton.1 hp] at e; simp only at e; omega)
             have hB := hB.trans (below_only hon (fun k hk => by omega) hB.size)
             generalize w3.setCells (w.heap.size + 1) 3 [.slice A5 n5 c5] = V at *
             have G := Holds.one hbx
             have hgv := G.lt (List.mem_singleton.2 rfl)
             have hVb := hB.size
             clear hth hon hbx hgs T3 hgl hwB)))
        have c4 : ∀ {w' : World}, Holds w' [(w.heap.size + 1, tcells (Table.upto k s m j) (.slice A5 n5 c5) (.slice A2 n2 c2))] → w'.cell? ⟨w.heap.size + 1, 4, none⟩ = some (.slice A2 n2 c2) := fun h => (tbox_cells h.get).2.2.2.2
        refine wp_region_plan [7] (.one 0 .pure (.one 2 .pure (.one 1 .load (.one 3 .act (.one 4 .act (.one 5 .act (.one 6 .pure (.one 7 .last .done)))))))) (fun w' => ∃ q : Kept (fun w' => w'.cell? ⟨w.heap.size + 1, 4, none⟩ = some (.slice A2 n2 c2)), w' = q.w) (by kernel_rfl) (by kernel_rfl) (fun _ _ d _ _ h => by cases d <;> exact h) ?_
        simp only [Plan.pick, List.getElem?_cons_zero, List.getElem?_cons_succ]
        have hB : Below _ _ V.drew := below_drewN' hB 1
        have hS : V.drew.cell? ⟨w.heap.size + 1, 4, none⟩ = some (.slice A2 n2 c2) := c4 (w' := V.drew) G
        have r4 : ∀ q : Kept (fun w' => w'.cell? ⟨w.heap.size + 1, 4, none⟩ = some (.slice A2 n2 c2)), q.w.cell? ⟨w.heap.size + 1, 4, none⟩ = some (.slice A2 n2 c2) := fun q => q.kept
        have T : OwnT w.heap.size ⟨k, s, m, rowKeys (j + 1), List.replicate j (nought s.toNat)⟩ (.slice A5 n5 c5) (.slice A2 n2 c2) N1 M2 V.drew := T
        have G : Holds V.drew [(w.heap.size + 1, tcells (Table.upto k s m j) (.slice A5 n5 c5) (.slice A2 n2 c2))] := G
        have hrs : Holds V.drew [(w.heap.size, zcells)] := hrs
        have hgw : w.heap.size + 1 < V.drew.heap.size := hgv
        have hKn : Nonempty (Kept (fun w' => w'.cell? ⟨w.heap.size + 1, 4, none⟩ = some (.slice A2 n2 c2))) := ⟨⟨_, hS⟩⟩
        refine plan_pure (fun K hK => ?_); go_simp; refine hK _ _ ?_; clear hK K
        refine plan_pure (fun K hK => ?_); go_simp; refine hK _ _ ?_; clear hK K
        refine plan_load (fun K hK => ?_); go_simp; refine ⟨⟨⟨_, hS⟩, rfl⟩, hK _ _ ?_⟩; clear hK K
        refine plan_act ?_
        clear r4
        go_wp2_with fail
        refine (l3Zero_calls s.toNat s (by omega) (by omega) _).mono ?_
        rintro e w5 ⟨rfl, hb⟩
        have T := T.below hb
        have G := G.below hb
        have hrs := hrs.below hb
        have hB := bnext hB hb
        have hS := c4 G
        have hgw := G.lt (List.mem_singleton.2 rfl)
        clear hb
        go_wp2
        refine ⟨⟨⟨_, hS⟩, rfl⟩, ?_⟩
        refine plan_act ?_
        go_wp2
        obtain ⟨R14, K14⟩ := row_new w5 #[.string (nought s.toNat)] 9 1 [[.string (nought s.toNat)]] rfl (by omega) (by simp) rfl
        have hb := below_alloc' (Below.refl _ w5) (.cells #[.string (nought s.toNat)] 9)
        have T := T.below hb
        have G := G.below hb
        have hrs := hrs.below hb
        have hB := bnext hB hb
        have hS := c4 G
        have hgw : w.heap.size + 1 < (w5.alloc (.cells #[.string (nought s.toNat)] 9)).heap.size := G.lt (List.mem_singleton.2 rfl)
        clear hb
        generalize w5.alloc (.cells #[.string (nought s.toNat)] 9) = w6 at *
        refine ⟨⟨⟨_, hS⟩, rfl⟩, ?_⟩
        refine plan_act ?_
        go_wp2_with (
          (with_reducible refine gate_dst (N := 31) rfl ?_)
          refine wpList_append_row rfl _ _ 23 rfl w.heap.size 9 j0 _ 1 16 Try.underlying23 HJ.out hy0 ht0 hc0 rfl (by decide) _ ((List.replicate j (nought s.toNat)).map strCell) M2 rfl T.2.1 T.2.2.2.1 _ [[.string (nought s.toNat)]] _ rfl R14 K14 (by simp [Value.oneCell']) (by simp only [List.length_map]; simp; omega) (by decide) (by omega) ?_
          intro k5 w7 N2 hk5 hK5 hon5 hat5
          obtain ⟨A6, n6, c6, rfl⟩ := hk5.row.slice
          have N2g : ∀ p ∈ N2, p.1 ≠ w.heap.size + 1 := grown_off hat5 ne2 (by omega)
          have N2r : ∀ p ∈ N2, p.1 ≠ w.heap.size := grown_off hat5 rs2 (by omega)
          have hB := hB.trans (below_only hon5 (fun k ⟨p, hp, e⟩ => by have := T.2.1.base p hp; omega) hB.size)
          have T : OwnT w.heap.size (Table.upto k s m (j + 1)) (.slice A5 n5 c5) (.slice A6 n6 c6) N1 N2 w7 := ⟨T.1, by show Own _ _ _ _ ((List.replicate (j + 1) (nought s.toNat)).map strCell) _; rw [noughts_succ]; exact hk5, holds_apart T.2.2.1 T.2.2.2.2.symm hon5, hK5, (apart_grow T.2.2.1 T.2.2.2.2.symm hat5).symm⟩
          have G := G.only hon5 (fun p hp ⟨q, hq, e⟩ => ne2 q hq (by rw [e, List.mem_singleton.1 hp]))
          have hrs := hrs.only hon5 (fun p hp ⟨q, hq, e⟩ => rs2 q hq (by rw [e, List.mem_singleton.1 hp]))
          have hS := c4 G
          obtain ⟨hth, hbx, hon⟩ := tput4 G.get (.slice A6 n6 c6))
        refine ⟨⟨⟨_, hS⟩, rfl⟩, ?_⟩
        refine plan_pure (fun K hK => ?_); go_simp; refine hK _ _ ?_; clear hK K
        refine plan_last_ ?_
        go_wp2_with (
          (with_reducible refine gate_store (p := 32) rfl ?_)
          refine wpList_put rfl 23 _ _ rfl (w.heap.size + 1) 4 [.slice A6 n6 c6] rfl rfl hth (by kernel_rfl) rfl ?_
          have T := T.beside hon N1g N2g
          have hrs := hrs.only hon (fun p hp e => by rw [List.mem_singleton.1 hp] at e; simp only at e; omega)
          have hB := hB.trans (below_only hon (fun k hk => by omega) hB.size)
          generalize w7.setCells (w.heap.size + 1) 4 [.slice A6 n6 c6] = w8 at *)
        refine plan_done ?_
        go_wp2
        go_roundw
        case rel => exact ⟨j + 1, by omega, by go_num, ⟨_, _, N1, N2, T, hbx, fun p hp => (List.mem_append.1 hp).elim (N1g p) (N2g p), hrs, fun p hp => (List.mem_append.1 hp).elim (N1r p) (N2r p)⟩, hB⟩
        case measure => simp [intOf]; omega
      · have hjm : j = m.toNat := by omega
        subst hjm
        obtain ⟨hrs, hresb⟩ := hres
        obtain ⟨hth, hfin, hon⟩ := tput (t0 := Table.zero) hrs.get (Table.upto k s m m.toNat) (.slice A1 n1 c1) (.slice A2 n2 c2)
        go_wp2_with ((with_reducible refine gate_store (p := 6) rfl ?_); go_loud (refine wpList_put rfl 27 _ _ rfl w.heap.size 0 [.int .i64 k, .int .i64 s, .int .i64 m, .slice A1 n1 c1, .slice A2 n2 c2] rfl rfl hth (by kernel_rfl) rfl ?_))
        have hTf := T.beside hon (fun p hp => hresb p (List.mem_append_left _ hp)) (fun p hp => hresb p (List.mem_append_right _ hp))
        have hBf := hB.trans (below_only hon (fun k hk => by omega) hB.size)
        obtain ⟨g0, g1, g2, g3, g4⟩ := tbox_cells hfin
        simp only [Table.upto] at g0 g1 g2 g3 g4
        refine bodyPost_ret (v := .agg #[.int .i64 k, .int .i64 s, .int .i64 m, .slice A1 n1 c1, .slice A2 n2 c2]) (by simp [results, Try.results131, go_sem, g0, g1, g2, g3, g4]) rfl ⟨_, _, rfl, ⟨M1, M2, by rw [HN.out]; exact hTf⟩, hBf⟩
  · have HN := Lib.hid (Table.upto_zero hsh hk)
    have hkb : (k == 1) = false := by simp [hk]
    have hB : Below w.heap.size w ((w.alloc zcells).alloc (tcells ⟨k, s, m, [], []⟩ (.slice none 0 0) (.slice none 0 0))) := below_alloc' (below_alloc' (Below.refl _ _) _) _
    have T := zero_own' w.heap.size ((w.alloc zcells).alloc (tcells ⟨k, s, m, [], []⟩ (.slice none 0 0) (.slice none 0 0))) k s m
    have hrs := (holds_new (w := w) (o := zcells) rfl).alloc (tcells ⟨k, s, m, [], []⟩ (.slice none 0 0) (.slice none 0 0))
    clear hsh hk hstart
    obtain ⟨hth, hfin, hon⟩ := tput (t0 := Table.zero) hrs.get (Table.upto k s m 0) (.slice none 0 0) (.slice none 0 0)
    go_enter Try.func131, Try.ntmps131
    go_wp2_with ((with_reducible refine gate_store (p := 6) rfl ?_); go_loud (refine wpList_put rfl 27 _ _ rfl w.heap.size 0 [.int .i64 k, .int .i64 s, .int .i64 m, .slice none 0 0, .slice none 0 0] rfl rfl hth (by kernel_rfl) rfl ?_))
    have hTf := T.beside hon (fun p hp => by cases hp) (fun p hp => by cases hp)
    have hBf := hB.trans (below_only hon (fun k hk => by omega) hB.size)
    obtain ⟨g0, g1, g2, g3, g4⟩ := tbox_cells hfin
    simp only [Table.upto] at g0 g1 g2 g3 g4
    refine bodyPost_ret (v := .agg #[.int .i64 k, .int .i64 s, .int .i64 m, .slice none 0 0, .slice none 0 0]) (by simp [results, Try.results131, go_sem, g0, g1, g2, g3, g4]) rfl ⟨_, _, rfl, ⟨[], [], by rw [HN.out]; exact hTf⟩, hBf⟩
set_option maxRecDepth 100000 in
set_option maxHeartbeats 3200000 in
theorem specTableNew_calls (k s m : Int) (w : World) :
    Calls Try.prog 111 #[.int .i64 k, .int .i64 s, .int .i64 m] w fun e w' => ∃ kv sv, e = .returned (.agg #[.int .i64 (Table.new k s m).kind, .int .i64 (Table.new k s m).size, .int .i64 (Table.new k s m).most, kv, sv]) ∧ (∃ M1 M2, OwnT w.heap.size (Table.new k s m) kv sv M1 M2 w') ∧ Below w.heap.size w w' := by
  have hrs := holds_new (w := w) (o := zcells) rfl
  cases hsh : (⟨k, s, m, [], []⟩ : Table).shape with
  | true =>
    obtain ⟨n1, n2, n3⟩ := Table.new_shape hsh
    rw [n1, n2, n3]
    have hN := l3New_calls k s m (w.alloc zcells) hsh
    simp only [Table.shape, Bool.and_eq_true] at hsh
    obtain ⟨⟨b1, b2⟩, b3⟩ := hsh
    go_enter Try.func111, Try.ntmps111
    go_wp2_with (first
      | (go_at_call 75; refine (l1In_calls _ _ _ _).mono ?_; rintro e w' ⟨rfl, hw'⟩; subst w')
      | (go_at_call 131; go_loud (
         refine hN.mono ?_
         rintro e w1 ⟨kv, sv, rfl, ⟨M1, M2, T⟩, hb⟩
         have hrs := hrs.below hb
         obtain ⟨A1, n1, c1, rfl⟩ := T.1.row.slice
         obtain ⟨A2, n2, c2, rfl⟩ := T.2.1.row.slice
         have hs := T.base'
         obtain ⟨hth, hfin, hon⟩ := tput (t0 := Table.zero) hrs.get ⟨k, s, m, [], []⟩ (.slice A1 n1 c1) (.slice A2 n2 c2)))
      | ((with_reducible refine gate_store (p := 6) rfl ?_); go_loud (refine wpList_put rfl 27 _ _ rfl w.heap.size 0 [.int .i64 k, .int .i64 s, .int .i64 m, .slice A1 n1 c1, .slice A2 n2 c2] rfl rfl hth (by kernel_rfl) rfl ?_)))
    simp only [heap_size_alloc'] at hs
    have hTf := (T.beside hon (fun p hp => by have := hs p (List.mem_append_left _ hp); omega) (fun p hp => by have := hs p (List.mem_append_right _ hp); omega)).lower (B' := w.heap.size) (by simp)
    have hB := bnext (below_alloc' (Below.refl _ w) zcells) hb
    have hBf := hB.trans (below_only hon (fun k hk => by omega) hB.size)
    obtain ⟨g0, g1, g2, g3, g4⟩ := tbox_cells hfin
    simp only at g0 g1 g2 g3 g4
    refine bodyPost_ret (v := .agg #[.int .i64 k, .int .i64 s, .int .i64 m, .slice A1 n1 c1, .slice A2 n2 c2]) (by simp [results, Try.results111, go_sem, g0, g1, g2, g3, g4]) rfl ⟨_, _, rfl, ⟨M1, M2, hTf⟩, hBf⟩
  | false =>
    have hz : Table.new k s m = Table.zero := by simp only [Table.new, hsh, Bool.false_eq_true, if_false]
    have HZ := Lib.hid hz
    rw [hz]
    have h3 : inB k 1 2 = false ∨ (inB k 1 2 = true ∧ inB s 1 8 = false) ∨ (inB k 1 2 = true ∧ inB s 1 8 = true ∧ inB m 1 8 = false) := by
      simp only [Table.shape] at hsh
      cases b1 : inB k 1 2
      · exact .inl rfl
      · cases b2 : inB s 1 8
        · exact .inr (.inl ⟨rfl, rfl⟩)
        · rw [b1, b2] at hsh
          exact .inr (.inr ⟨rfl, rfl, by simpa using hsh⟩)
    obtain ⟨hth, hfin, hon⟩ := tput0 hrs.get
    have hB := (below_alloc' (Below.refl _ w) zcells).trans (below_only hon (fun k hk => by omega) (by simp))
    obtain ⟨g0, g1, g2, g3, g4⟩ := tbox_cells (t := Table.zero) hfin
    simp only [Table.zero] at g0 g1 g2 g3 g4
    clear hz hsh
    rcases h3 with b1 | ⟨b1, b2⟩ | ⟨b1, b2, b3⟩
    all_goals
      go_enter Try.func111, Try.ntmps111
      go_wp2_with (first
        | (go_at_call 75; refine (l1In_calls _ _ _ _).mono ?_; rintro e w' ⟨rfl, hw'⟩; subst w')
        | ((with_reducible refine gate_store (p := 6) rfl ?_); go_loud (refine wpList_put rfl 27 _ _ rfl w.heap.size 0 [.int .i64 0, .int .i64 0, .int .i64 0, .slice none 0 0, .slice none 0 0] rfl rfl hth (by kernel_rfl) rfl ?_)))
      exact bodyPost_ret (v := .agg #[.int .i64 0, .int .i64 0, .int .i64 0, .slice none 0 0, .slice none 0 0]) (by simp [results, Try.results111, go_sem, g0, g1, g2, g3, g4]) rfl ⟨_, _, rfl, ⟨[], [], zero_own _ _⟩, hB⟩
end Go.Proofs.Ytoimeebildcofaa
