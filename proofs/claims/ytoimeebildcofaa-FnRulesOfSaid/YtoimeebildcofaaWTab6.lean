/- The walks of the puts of a table. -/
import Derived.Test.YtoimeebildcofaaWTab5
import Derived.Test.YtoimeebildcofaaPlan
import Derived.Test.YtoimeebildcofaaTabData
namespace Go.Proofs.Ytoimeebildcofaa
open Go.RowKit
/-- A table's rows are the call's own, apart from each other. -/
def OwnT (B : Nat) (t : Table) (kv sv : Value) (M1 M2 : Blocks) (w : World) : Prop :=
  Own B 3 1 kv (t.keys.map intCell) M1 ∧ Own B 9 1 sv (t.slots.map strCell) M2 ∧ Holds w M1 ∧ Holds w M2 ∧ Apart M1 M2
theorem OwnT.below {B : Nat} {t : Table} {kv sv : Value} {M1 M2 : Blocks} {w w' : World} (h : OwnT B t kv sv M1 M2 w) (hb : Below w.heap.size w w') : OwnT B t kv sv M1 M2 w' :=
  ⟨h.1, h.2.1, h.2.2.1.below hb, h.2.2.2.1.below hb, h.2.2.2.2⟩
theorem OwnT.lower {B B' : Nat} {t : Table} {kv sv : Value} {M1 M2 : Blocks} {w : World} (h : OwnT B t kv sv M1 M2 w) (hB : B' ≤ B) : OwnT B' t kv sv M1 M2 w :=
  ⟨h.1.lower hB, h.2.1.lower hB, h.2.2.1, h.2.2.2.1, h.2.2.2.2⟩
theorem apart_grow {w : World} {L L' M : Blocks} (hM : Holds w M) (ha : Apart L M) (hat : L'.map (·.1) = L.map (·.1) ∨ ∃ o, L' = [(w.heap.size, o)]) : Apart L' M := fun p hp q hq h => by
  rcases hat with h1 | ⟨o, h1⟩
  · have h2 := List.mem_map_of_mem (f := Prod.fst) hp
    rw [h1] at h2
    obtain ⟨p', hp', h3⟩ := List.mem_map.1 h2
    exact ha p' hp' q hq (h3.trans h)
  · rw [h1] at hp
    have := hM.lt hq
    rw [List.mem_singleton.1 hp] at h
    simp only at h
    omega
theorem heap_size_alloc' (w : World) (o : Obj) : (w.alloc o).heap.size = w.heap.size + 1 := by simp
theorem grown_ne {w : World} {L L' : Blocks} {n : Nat} (hat : L'.map (·.1) = L.map (·.1) ∨ ∃ o, L' = [(w.heap.size, o)]) (h : ∀ p ∈ L, p.1 < n) : ∀ p ∈ L', p.1 < n ∨ w.heap.size ≤ p.1 := fun p hp => by
  rcases hat with h1 | ⟨o, h1⟩
  · have h2 := List.mem_map_of_mem (f := Prod.fst) hp
    rw [h1] at h2
    obtain ⟨p', hp', e⟩ := List.mem_map.1 h2
    have := h p' hp'
    omega
  · rw [h1] at hp
    rw [List.mem_singleton.1 hp]
    exact .inr (Nat.le_refl _)
theorem Apart.symm {M N : Blocks} (h : Apart M N) : Apart N M := fun p hp q hq e => h q hq p hp e.symm
theorem holds_apart {w w' : World} {L M : Blocks} (hM : Holds w M) (ha : Apart L M) (ho : Only (Blk L) w w') : Holds w' M := hM.only ho (fun q hq ⟨p, hp, h⟩ => ha p hp q hq h)
theorem below_only {B : Nat} {S : Nat → Prop} {w w' : World} (ho : Only S w w') (hS : ∀ k, S k → B ≤ k) (hB : B ≤ w.heap.size) : Below B w w' :=
  ⟨ho.os, ho.tape, ho.output, ho.size, fun k hk => ho.block k (by omega) (fun h => by have := hS k h; omega)⟩
/-- A slot's value is set. -/
theorem OwnT.set {B : Nat} {t : Table} {kv : Value} {A : Option Addr} {n c : Nat} {M1 M2 : Blocks} {w : World} (h : OwnT B t kv (.slice A n c) M1 M2 w) {k : Nat} (hk : k < t.slots.length) (v : ByteArray) :
    ∃ b, A = some ⟨b, 0, none⟩ ∧ B ≤ b ∧ M2.map (·.1) = [b] ∧ w.there b k 1 ∧ ∃ M2', OwnT B { t with slots := t.slots.set k v } kv (.slice A n c) M1 M2' (w.setCells b k [.string v]) ∧ M2'.map (·.1) = [b] := by
  obtain ⟨h1, h2, h3, h4, h5⟩ := h
  obtain ⟨b, rfl, hb, hM, h6⟩ := h2.at_ (k := k) (by simpa using hk)
  obtain ⟨h7, h8⟩ := h6 w h4
  obtain ⟨M2', g1, g2, g3⟩ := h8 [.string v] rfl
  rw [Nat.mul_one] at h7 g2
  have hap : Apart M2' M1 := fun p hp q hq e => by
    have e1 : p.1 = b := by have := List.mem_map_of_mem (f := Prod.fst) hp; rw [g3] at this; simpa using this
    obtain ⟨p', hp', e2⟩ : ∃ p' ∈ M2, p'.1 = b := by have : b ∈ M2.map (·.1) := by rw [hM]; simp
                                                     obtain ⟨p', h, h'⟩ := List.mem_map.1 this; exact ⟨p', h, h'⟩
    exact h5 q hq p' hp' (by rw [e2, ← e1, e])
  refine ⟨b, rfl, hb, hM, h7, M2', ⟨h1, ?_, ?_, g2, hap.symm⟩, g3⟩
  · rw [List.map_set]
    exact g1
  · refine h3.only (only_setCells (S := (· = b)) _ _ _ _ (Only.refl _ _) (.inl rfl)) (fun p hp e => ?_)
    obtain ⟨p', hp', e2⟩ : ∃ p' ∈ M2, p'.1 = b := by have : b ∈ M2.map (·.1) := by rw [hM]; simp
                                                     obtain ⟨p', h, h'⟩ := List.mem_map.1 this; exact ⟨p', h, h'⟩
    exact h5 p hp p' hp' (by rw [e2, e])
set_option maxRecDepth 100000 in
set_option maxHeartbeats 1600000 in
theorem l3At_calls (t : Table) (kv sv : Value) (L1 : Blocks) (x : Int) (w : World) (h1 : Row 1 kv (t.keys.map intCell) L1) (H1 : Holds w L1) :
    Calls Try.prog 34 #[.agg #[.int .i64 t.kind, .int .i64 t.size, .int .i64 t.most, kv, sv], .int .i64 x] w fun e w' => e = .returned (.int .i64 (indexOf (· == x) t.keys)) ∧ Below w.heap.size w w' := by
  obtain ⟨A1, n1, c1, rfl⟩ := h1.slice
  obtain ⟨hnl, hn⟩ := h1.len'
  rw [List.length_map] at hnl
  have HN := Lib.hid hnl
  clear hnl
  have hBX := holds_new (w := w) (o := .cells #[.int .i64 t.kind, .int .i64 t.size, .int .i64 t.most, .slice A1 n1 c1, sv] 27) rfl
  have hB0 : Below w.heap.size w _ := below_alloc' (Below.refl _ w) (.cells #[.int .i64 t.kind, .int .i64 t.size, .int .i64 t.most, .slice A1 n1 c1, sv] 27)
  go_enter Try.func34, Try.ntmps34
  go_wp2
  go_loopw [5] (fun i wr => ∃ k : Nat, k ≤ n1 ∧ i = .int .i64 k ∧ Hid ((t.keys.take k).any (· == x) = false) ∧ wr = w.alloc (.cells #[.int .i64 t.kind, .int .i64 t.size, .int .i64 t.most, .slice A1 n1 c1, sv] 27)) (fun i _ => n1 - (intOf i).toNat)
  case atStart => exact ⟨0, Nat.zero_le _, rfl, rfl, rfl⟩
  case round =>
    obtain ⟨k, hk, rfl, hf, hwr⟩ := hrel
    rw [← hwr] at hBX hB0
    obtain ⟨c0, c1', c2', c3, c4⟩ := tbox_cells hBX.get
    have HW := Lib.hid hwr
    clear hwr
    by_cases hlt : k < n1
    · obtain ⟨y, hy⟩ : ∃ y, t.keys[k]? = some y := ⟨_, List.getElem?_eq_getElem (by rw [HN.out]; exact hlt)⟩
      obtain ⟨b, off, rfl, hq⟩ := h1.at_ (w := wr) (H1.below hB0) (k := k) (cs := intCell y) (by simp [hy])
      have q0 : wr.cell? ⟨b, off + k * 1, none⟩ = some (.int .i64 y) := hq 0 _ rfl
      rw [Nat.mul_one] at q0
      have HY := Lib.hid hy
      clear hq hy
      by_cases hxy : y = x
      · have HX : Hid (t.keys.findIdx? (· == x) = some k) := findIdx_take HY.out hf.out (by simp [hxy])
        have hb : (y == x) = true := by simp [hxy]
        clear hxy
        go_wp2
        go_ret
        exact ⟨int_of (by simp only [indexOf, HX.out]), hB0⟩
      · have HX : Hid ((t.keys.take (k + 1)).any (· == x) = false) := by
          show _ = _
          rw [any_take_succ HY.out, hf.out]
          simp [hxy]
        have hb : (y == x) = false := by simp [hxy]
        clear hxy
        go_wp2
        go_roundw
        case rel => exact ⟨k + 1, by omega, by go_num, HX, HW.out⟩
        case measure => simp [intOf]; omega
    · go_wp2
      go_ret
      have h3 := hf.out
      rw [List.take_of_length_le (by rw [HN.out]; omega)] at h3
      exact ⟨int_of (by simp only [indexOf, findIdx_none h3]), hB0⟩
/-- A table's cells in a block; a store of a whole table there. -/
abbrev tcells (t : Table) (kv sv : Value) : Obj := .cells #[.int .i64 t.kind, .int .i64 t.size, .int .i64 t.most, kv, sv] 27 (0, 0)
abbrev zcells : Obj := .cells #[.int .i64 0, .int .i64 0, .int .i64 0, .slice none 0 0, .slice none 0 0] 27 (0, 0)
theorem tput {V : World} {r : Nat} {t0 : Table} {k0 s0 : Value} (h : V.heap[r]? = some (tcells t0 k0 s0)) (t : Table) (kv sv : Value) :
    V.there r 0 5 ∧ (V.setCells r 0 [.int .i64 t.kind, .int .i64 t.size, .int .i64 t.most, kv, sv]).heap[r]? = some (tcells t kv sv) ∧ Only (· = r) V (V.setCells r 0 [.int .i64 t.kind, .int .i64 t.size, .int .i64 t.most, kv, sv]) :=
  ⟨fun j hj => ⟨by simp [World.cell?, h]; omega, frozen_of_row V _ _ _ _ h⟩, heap_setCells [.int .i64 t.kind, .int .i64 t.size, .int .i64 t.most, kv, sv] 0 _ V h (by simp), only_setCells _ _ _ _ (Only.refl _ _) (.inl rfl)⟩
theorem tput3 {V : World} {r : Nat} {t0 : Table} {k0 s0 : Value} (h : V.heap[r]? = some (tcells t0 k0 s0)) (kv : Value) :
    V.there r 3 1 ∧ (V.setCells r 3 [kv]).heap[r]? = some (tcells t0 kv s0) ∧ Only (· = r) V (V.setCells r 3 [kv]) :=
  ⟨fun j hj => ⟨by simp [World.cell?, h]; omega, frozen_of_row V _ _ _ _ h⟩, heap_setCells [kv] 3 _ V h (by simp), only_setCells _ _ _ _ (Only.refl _ _) (.inl rfl)⟩
theorem tput4 {V : World} {r : Nat} {t0 : Table} {k0 s0 : Value} (h : V.heap[r]? = some (tcells t0 k0 s0)) (sv : Value) :
    V.there r 4 1 ∧ (V.setCells r 4 [sv]).heap[r]? = some (tcells t0 k0 sv) ∧ Only (· = r) V (V.setCells r 4 [sv]) :=
  ⟨fun j hj => ⟨by simp [World.cell?, h]; omega, frozen_of_row V _ _ _ _ h⟩, heap_setCells [sv] 4 _ V h (by simp), only_setCells _ _ _ _ (Only.refl _ _) (.inl rfl)⟩
theorem OwnT.keep {B : Nat} {t : Table} {kv sv : Value} {M1 M2 : Blocks} {w w' : World} {r b : Nat} (h : OwnT B t kv sv M1 M2 w) (ho : Only (· = r) w w') (hlt : ∀ p ∈ M1 ++ M2, p.1 < b) (hr : b ≤ r) : OwnT B t kv sv M1 M2 w' :=
  ⟨h.1, h.2.1, h.2.2.1.only ho (fun p hp e => by have := hlt p (List.mem_append_left _ hp); omega), h.2.2.2.1.only ho (fun p hp e => by have := hlt p (List.mem_append_right _ hp); omega), h.2.2.2.2⟩
theorem OwnT.lt {B : Nat} {t : Table} {kv sv : Value} {M1 M2 : Blocks} {w : World} (h : OwnT B t kv sv M1 M2 w) : ∀ p ∈ M1 ++ M2, p.1 < w.heap.size := fun p hp => (List.mem_append.1 hp).elim (h.2.2.1.lt) (h.2.2.2.1.lt)
/-- A store beside a table that is the call's own. -/
theorem OwnT.beside {B : Nat} {t : Table} {kv sv : Value} {M1 M2 : Blocks} {w w' : World} {b : Nat} (h : OwnT B t kv sv M1 M2 w) (ho : Only (· = b) w w') (h1 : ∀ p ∈ M1, p.1 ≠ b) (h2 : ∀ p ∈ M2, p.1 ≠ b) : OwnT B t kv sv M1 M2 w' :=
  ⟨h.1, h.2.1, h.2.2.1.only ho (fun p hp e => h1 p hp e), h.2.2.2.1.only ho (fun p hp e => h2 p hp e), h.2.2.2.2⟩
set_option maxRecDepth 100000 in
set_option maxHeartbeats 1600000 in
theorem l3Put_calls (t : Table) (kv sv : Value) (M1 M2 : Blocks) (x : Int) (v : ByteArray) (B : Nat) (w : World) (hT : OwnT B t kv sv M1 M2 w) (hBw : B ≤ w.heap.size) (hl : t.slots.length = t.keys.length) (hl8 : t.keys.length ≤ 8) :
    Calls Try.prog 132 #[.agg #[.int .i64 t.kind, .int .i64 t.size, .int .i64 t.most, kv, sv], .int .i64 x, .string v] w fun e w' => ∃ kv' sv', e = .returned (.tuple #[.agg #[.int .i64 t.kind, .int .i64 t.size, .int .i64 t.most, kv', sv'], .int .i64 (t.put0 x v).2]) ∧
      (∃ M1' M2', OwnT B (t.put0 x v).1 kv' sv' M1' M2' w') ∧ Below B w w' := by
  obtain ⟨i0, hi0, hz0, hs0, hb0⟩ := info_of infoInt
  have HI := Lib.hid hi0
  obtain ⟨j0, hj0, hy0, ht0, hc0⟩ := info_of infoStr
  have HJ := Lib.hid hj0
  clear hi0 hj0
  obtain ⟨A2, n2, c2, rfl⟩ := hT.2.1.row.slice
  obtain ⟨A1, n1, c1, rfl⟩ := hT.1.row.slice
  have hn2 := hT.2.1.row.len'.1
  have hn1 := hT.1.row.len'.1
  rw [List.length_map] at hn2 hn1
  have hlt := indexOf_lt (· == x) t.keys
  have hTlt := hT.lt
  have hz := hBw
  by_cases hi : 0 ≤ indexOf (· == x) t.keys
  · obtain ⟨i, hi1, hi2, _⟩ := indexOf_some hi
    have HP : Hid (t.put0 x v = ({ t with slots := t.slots.set i v }, 0)) := by
      show _ = _
      have h0 : (0 : Int) ≤ (i : Int) := by omega
      simp only [Table.put0, hi1, h0, if_true, Int.toNat_natCast]
    have HX := Lib.hid hi1
    have hin : i < n2 := by omega
    have hkl : i < t.slots.length := by omega
    clear hi hlt hi1 hn2
    go_enter Try.func132, Try.ntmps132
    go_wp2_with fail
    refine (l3At_calls t _ _ M1 x _ hT.1.row ((hT.2.2.1.alloc _).alloc _)).mono ?_
    rw [HX.out]
    rintro e w1 ⟨rfl, hb1⟩
    have hbox := ((holds_new (w := w) (o := tcells t (.slice A1 n1 c1) (.slice A2 n2 c2)) rfl).alloc zcells).below hb1
    have hres := (holds_new (w := w.alloc (tcells t (.slice A1 n1 c1) (.slice A2 n2 c2))) (o := zcells) (k := w.heap.size + 1) (by simp)).below hb1
    have hB1 : Below w.heap.size w w1 := bnext (below_alloc' (below_alloc' (Below.refl _ _) _) _) hb1
    obtain ⟨b, rfl, hbB, hMb, hth, M2', hT2, hM2'⟩ := (hT.below hB1).set hkl v
    have hbl : b < w.heap.size := by
      have : b ∈ M2.map (·.1) := by rw [hMb]; simp
      obtain ⟨p, hp, rfl⟩ := List.mem_map.1 this
      exact hTlt p (List.mem_append_right _ hp)
    obtain ⟨d0, d1, d2, d3, d4⟩ := tbox_cells hbox.get
    go_wp2_with (first
      | ((with_reducible refine gate_store (p := 18) rfl ?_); refine wpList_put rfl 9 _ _ rfl b i [.string v] rfl rfl hth (by kernel_rfl) rfl ?_
         have hon : Only (· = b) w1 (w1.setCells b i [.string v]) := only_setCells _ _ _ _ (Only.refl _ _) (.inl rfl)
         generalize w1.setCells b i [.string v] = V at *
         have hbox := hbox.only hon (fun p hp => by rw [List.mem_singleton.1 hp]; simp only; omega)
         have hres := hres.only hon (fun p hp => by rw [List.mem_singleton.1 hp]; simp only; omega)
         have hBV : Below B w V := (hB1.mono hBw).trans (below_only hon (fun k hk => by omega) (by have := hB1.size; omega))
         clear d0 d1 d2 d3 d4
         obtain ⟨d0, d1, d2, d3, d4⟩ := tbox_cells hbox.get
         obtain ⟨hth, hfin, hon⟩ := tput (t0 := Table.zero) hres.get t (.slice A1 n1 c1) (.slice (some ⟨b, 0, none⟩) n2 c2))
      | ((with_reducible refine gate_store (p := 6) rfl ?_); refine wpList_put rfl 27 _ _ rfl (w.heap.size + 1) 0 _ rfl rfl hth (by kernel_rfl) rfl ?_))
    generalize V.setCells (w.heap.size + 1) 0 [.int .i64 t.kind, .int .i64 t.size, .int .i64 t.most, .slice A1 n1 c1, .slice (some ⟨b, 0, none⟩) n2 c2] = V4 at *
    obtain ⟨g0, g1, g2, g3, g4⟩ := tbox_cells hfin
    have hTf := hT2.beside hon (fun p hp => by have := hTlt p (List.mem_append_left _ hp); omega) (fun p hp => by have := List.mem_map_of_mem (f := Prod.fst) hp; rw [hM2'] at this; simp at this; omega)
    refine bodyPost_ret (v := .tuple #[.agg #[.int .i64 t.kind, .int .i64 t.size, .int .i64 t.most, .slice A1 n1 c1, .slice (some ⟨b, 0, none⟩) n2 c2], .int .i64 0]) (by simp [results, Try.results132, go_sem, g0, g1, g2, g3, g4]) rfl ⟨_, _, by rw [HP.out], ⟨_, _, by rw [HP.out]; exact hTf⟩, hBV.trans (below_only hon (fun k hk => by omega) (by have := hBV.size; omega))⟩
  · have hneg := hi
    obtain ⟨I, hX⟩ : ∃ I, indexOf (· == x) t.keys = I := ⟨_, rfl⟩
    rw [hX] at hneg
    have HX := Lib.hid hX
    by_cases hk : t.kind = 1
    · have HP : Hid (t.put0 x v = (t, 2)) := by show _ = _; simp only [Table.put0, if_neg hi, if_pos hk]
      have hk2 : (t.kind == 1) = true := by simp [hk]
      clear hi hlt hn2 hX hk
      go_enter Try.func132, Try.ntmps132
      go_wp2_with fail
      refine (l3At_calls t _ _ M1 x _ hT.1.row ((hT.2.2.1.alloc _).alloc _)).mono ?_
      rw [HX.out]
      rintro e w1 ⟨rfl, hb1⟩
      have hbox := ((holds_new (w := w) (o := tcells t (.slice A1 n1 c1) (.slice A2 n2 c2)) rfl).alloc zcells).below hb1
      have hres := (holds_new (w := w.alloc (tcells t (.slice A1 n1 c1) (.slice A2 n2 c2))) (o := zcells) (k := w.heap.size + 1) (by simp)).below hb1
      have hB1 : Below w.heap.size w w1 := bnext (below_alloc' (below_alloc' (Below.refl _ _) _) _) hb1
      have hBV : Below B w w1 := hB1.mono hBw
      have hT1 := hT.below hB1
      obtain ⟨d0, d1, d2, d3, d4⟩ := tbox_cells hbox.get
      obtain ⟨hth, hfin, hon⟩ := tput (t0 := Table.zero) hres.get t (.slice A1 n1 c1) (.slice A2 n2 c2)
      go_wp2_with ((with_reducible refine gate_store (p := 6) rfl ?_); refine wpList_put rfl 27 _ _ rfl (w.heap.size + 1) 0 _ rfl rfl hth (by kernel_rfl) rfl ?_)
      generalize w1.setCells (w.heap.size + 1) 0 [.int .i64 t.kind, .int .i64 t.size, .int .i64 t.most, .slice A1 n1 c1, .slice A2 n2 c2] = V4 at *
      obtain ⟨g0, g1, g2, g3, g4⟩ := tbox_cells hfin
      have hTf := hT1.beside hon (fun p hp => by have := hTlt p (List.mem_append_left _ hp); omega) (fun p hp => by have := hTlt p (List.mem_append_right _ hp); omega)
      refine bodyPost_ret (v := .tuple #[.agg #[.int .i64 t.kind, .int .i64 t.size, .int .i64 t.most, .slice A1 n1 c1, .slice A2 n2 c2], .int .i64 2]) (by simp [results, Try.results132, go_sem, g0, g1, g2, g3, g4]) rfl ⟨_, _, by rw [HP.out], ⟨_, _, by rw [HP.out]; exact hTf⟩, hBV.trans (below_only hon (fun k hk => by omega) (by have := hBV.size; omega))⟩
    · have hk2 : (t.kind == 1) = false := by simp [hk]
      by_cases hm : t.most ≤ (n1 : Int)
      · have HP : Hid (t.put0 x v = (t, 3)) := by show _ = _; rw [← hn1] at hm; simp only [Table.put0, if_neg hi, if_neg hk, if_pos hm]
        clear hi hlt hn2 hX hk
        go_enter Try.func132, Try.ntmps132
        go_wp2_with fail
        refine (l3At_calls t _ _ M1 x _ hT.1.row ((hT.2.2.1.alloc _).alloc _)).mono ?_
        rw [HX.out]
        rintro e w1 ⟨rfl, hb1⟩
        have hbox := ((holds_new (w := w) (o := tcells t (.slice A1 n1 c1) (.slice A2 n2 c2)) rfl).alloc zcells).below hb1
        have hres := (holds_new (w := w.alloc (tcells t (.slice A1 n1 c1) (.slice A2 n2 c2))) (o := zcells) (k := w.heap.size + 1) (by simp)).below hb1
        have hB1 : Below w.heap.size w w1 := bnext (below_alloc' (below_alloc' (Below.refl _ _) _) _) hb1
        have hBV : Below B w w1 := hB1.mono hBw
        have hT1 := hT.below hB1
        obtain ⟨d0, d1, d2, d3, d4⟩ := tbox_cells hbox.get
        obtain ⟨hth, hfin, hon⟩ := tput (t0 := Table.zero) hres.get t (.slice A1 n1 c1) (.slice A2 n2 c2)
        go_wp2_with ((with_reducible refine gate_store (p := 6) rfl ?_); refine wpList_put rfl 27 _ _ rfl (w.heap.size + 1) 0 _ rfl rfl hth (by kernel_rfl) rfl ?_)
        generalize w1.setCells (w.heap.size + 1) 0 [.int .i64 t.kind, .int .i64 t.size, .int .i64 t.most, .slice A1 n1 c1, .slice A2 n2 c2] = V4 at *
        obtain ⟨g0, g1, g2, g3, g4⟩ := tbox_cells hfin
        have hTf := hT1.beside hon (fun p hp => by have := hTlt p (List.mem_append_left _ hp); omega) (fun p hp => by have := hTlt p (List.mem_append_right _ hp); omega)
        refine bodyPost_ret (v := .tuple #[.agg #[.int .i64 t.kind, .int .i64 t.size, .int .i64 t.most, .slice A1 n1 c1, .slice A2 n2 c2], .int .i64 3]) (by simp [results, Try.results132, go_sem, g0, g1, g2, g3, g4]) rfl ⟨_, _, by rw [HP.out], ⟨_, _, by rw [HP.out]; exact hTf⟩, hBV.trans (below_only hon (fun k hk => by omega) (by have := hBV.size; omega))⟩
      · have HP : Hid (t.put0 x v = ({ t with keys := t.keys ++ [x], slots := t.slots ++ [v] }, 0)) := by show _ = _; rw [← hn1] at hm; simp only [Table.put0, if_neg hi, if_neg hk, if_neg hm]
        clear hi hlt hX hk
        go_enter Try.func132, Try.ntmps132
        go_wp2_with fail
        refine (l3At_calls t _ _ M1 x _ hT.1.row ((hT.2.2.1.alloc _).alloc _)).mono ?_
        rw [HX.out]
        rintro e w1 ⟨rfl, hb1⟩
        have hbox := ((holds_new (w := w) (o := tcells t (.slice A1 n1 c1) (.slice A2 n2 c2)) rfl).alloc zcells).below hb1
        have hres := (holds_new (w := w.alloc (tcells t (.slice A1 n1 c1) (.slice A2 n2 c2))) (o := zcells) (k := w.heap.size + 1) (by simp)).below hb1
        have hB1 : Below w.heap.size w w1 := bnext (below_alloc' (below_alloc' (Below.refl _ _) _) _) hb1
        have hBV : Below B w w1 := hB1.mono hBw
        have hT1 := hT.below hB1
        obtain ⟨d0, d1, d2, d3, d4⟩ := tbox_cells hbox.get
        have hM1ne : ∀ p ∈ M1, p.1 < w.heap.size := fun p hp => hTlt p (List.mem_append_left _ hp)
        have hM2ne : ∀ p ∈ M2, p.1 < w.heap.size := fun p hp => hTlt p (List.mem_append_right _ hp)
        have sw1 : w.heap.size + 2 ≤ w1.heap.size := by have := hres.lt (List.mem_singleton.2 rfl); simp only at this; omega
        have hl2 : t.slots.length ≤ 8 := by omega
        go_wp2_with (first
          | ((with_reducible refine gate_dst (N := 35) rfl ?_); ((with_reducible refine gate_dst (N := 35) rfl ?_); refine wpList_append' rfl _ _ 22 rfl B 3 i0 _ 1 8 Try.underlying22 HI.out hz0 hs0 hb0 rfl (by decide) _ (t.keys.map intCell) M1 rfl (hT1.1) (hT1.2.2.1.alloc _) ⟨w1.heap.size, 0, none⟩ 1 1 [[.int .i64 x]] rfl (by simp) rfl (cells_new _ _ _) (by simp [Value.oneCell']) (by simp; omega) (by decide) (by simp; omega) ?_; intro k3 w3 M1' hk3 hK3 hon3 hat3)
             go_loud (
             obtain ⟨A5, n5, c5, rfl⟩ := hk3.row.slice
             have hne1 : ∀ p ∈ M1', p.1 < w.heap.size ∨ w1.heap.size ≤ p.1 := fun p hp => by have := grown_ne hat3 hM1ne p hp; simp only [heap_size_alloc'] at this; omega
             have T3 : OwnT B { t with keys := t.keys ++ [x] } (.slice A5 n5 c5) (.slice A2 n2 c2) M1' M2 w3 := ⟨by simpa [intCell] using hk3, hT1.2.1, hK3, holds_apart (hT1.2.2.2.1.alloc _) hT1.2.2.2.2 hon3, apart_grow (hT1.2.2.2.1.alloc _) hT1.2.2.2.2 hat3⟩
             have hbox := (hbox.alloc (.cells #[.int .i64 x] 3)).only hon3 (fun p hp ⟨q, hq, e⟩ => by rw [List.mem_singleton.1 hp] at e; have := hM1ne q hq; simp only at e; omega)
             have hres := (hres.alloc (.cells #[.int .i64 x] 3)).only hon3 (fun p hp ⟨q, hq, e⟩ => by rw [List.mem_singleton.1 hp] at e; have := hM1ne q hq; simp only at e; omega)
             have hb3 : Below B w1 w3 := ((Below.refl B w1).alloc (by omega) (.cells #[.int .i64 x] 3)).trans (below_only hon3 (fun k ⟨p, hp, e⟩ => by have := hT1.1.base p hp; omega) (by simp; omega))
             have hB3 := hBV.trans hb3
             have s3 : w1.heap.size < w3.heap.size := by have := hon3.size; simp at this; omega
             obtain ⟨hth, hbx, hon⟩ := tput3 hbox.get (.slice A5 n5 c5)
             clear d0 d1 d2 d3 d4))
          | ((with_reducible refine gate_store (p := 36) rfl ?_); go_loud (refine wpList_put rfl 22 _ _ rfl w.heap.size 3 [.slice A5 n5 c5] rfl rfl hth (by kernel_rfl) rfl ?_)
             go_loud (
             generalize w3.setCells w.heap.size 3 [.slice A5 n5 c5] = V at *
             have T4 := T3.beside hon (fun p hp => by have := hne1 p hp; omega) (fun p hp => by have := hM2ne p hp; omega)
             have hres := hres.only hon (fun p hp => by rw [List.mem_singleton.1 hp]; simp only; omega)
             have hB4 := hB3.trans (below_only hon (fun k hk => by omega) (by omega))
             have s4 := hon.size
             obtain ⟨d0, d1, d2, d3, d4⟩ := tbox_cells hbx
             clear hth hon))
          | (((with_reducible refine gate_dst (N := 41) rfl ?_); refine wpList_append' rfl _ _ 23 rfl B 9 j0 _ 1 16 Try.underlying23 HJ.out hy0 ht0 hc0 rfl (by decide) _ (t.slots.map strCell) M2 rfl (T4.2.1) (T4.2.2.2.1.alloc _) ⟨V.heap.size, 0, none⟩ 1 1 [[.string v]] rfl (by simp) rfl (cells_new _ _ _) (by simp [Value.oneCell']) (by simp; omega) (by decide) (by simp; omega) ?_; intro s3' w5 M2' hk5 hK5 hon5 hat5)
             go_loud (
             obtain ⟨A6, n6, c6, rfl⟩ := hk5.row.slice
             have hne2 : ∀ p ∈ M2', p.1 < w.heap.size ∨ V.heap.size ≤ p.1 := fun p hp => by have := grown_ne hat5 hM2ne p hp; simp only [heap_size_alloc'] at this; omega
             have T5 : OwnT B { t with keys := t.keys ++ [x], slots := t.slots ++ [v] } (.slice A5 n5 c5) (.slice A6 n6 c6) M1' M2' w5 := ⟨T4.1, by simpa [strCell] using hk5, holds_apart (T4.2.2.1.alloc _) T4.2.2.2.2.symm hon5, hK5, (apart_grow (T4.2.2.1.alloc _) T4.2.2.2.2.symm hat5).symm⟩
             have hbox := ((Holds.one hbx).alloc (.cells #[.string v] 9)).only hon5 (fun p hp ⟨q, hq, e⟩ => by rw [List.mem_singleton.1 hp] at e; have := hM2ne q hq; simp only at e; omega)
             have hres := (hres.alloc (.cells #[.string v] 9)).only hon5 (fun p hp ⟨q, hq, e⟩ => by rw [List.mem_singleton.1 hp] at e; have := hM2ne q hq; simp only at e; omega)
             have hb5 : Below B V w5 := ((Below.refl B V).alloc (by omega) (.cells #[.string v] 9)).trans (below_only hon5 (fun k ⟨p, hp, e⟩ => by have := T4.2.1.base p hp; omega) (by simp; omega))
             have hB5 := hB4.trans hb5
             have s5 : V.heap.size < w5.heap.size := by have := hon5.size; simp at this; omega
             obtain ⟨hth, hbx, hon⟩ := tput4 hbox.get (.slice A6 n6 c6)
             clear d0 d1 d2 d3 d4))
          | ((with_reducible refine gate_store (p := 42) rfl ?_); refine wpList_put rfl 23 _ _ rfl w.heap.size 4 [.slice A6 n6 c6] rfl rfl hth (by kernel_rfl) rfl ?_
             generalize w5.setCells w.heap.size 4 [.slice A6 n6 c6] = V3 at *
             have T6 := T5.beside hon (fun p hp => by have := hne1 p hp; omega) (fun p hp => by have := hne2 p hp; omega)
             have hres := hres.only hon (fun p hp => by rw [List.mem_singleton.1 hp]; simp only; omega)
             have hB6 := hB5.trans (below_only hon (fun k hk => by omega) (by omega))
             have s6 := hon.size
             obtain ⟨d0, d1, d2, d3, d4⟩ := tbox_cells hbx
             clear hth hon
             obtain ⟨hth, hfin, hon⟩ := tput (t0 := Table.zero) hres.get t (.slice A5 n5 c5) (.slice A6 n6 c6))
          | ((with_reducible refine gate_store (p := 6) rfl ?_); refine wpList_put rfl 27 _ _ rfl (w.heap.size + 1) 0 _ rfl rfl hth (by kernel_rfl) rfl ?_))
        generalize V3.setCells (w.heap.size + 1) 0 [.int .i64 t.kind, .int .i64 t.size, .int .i64 t.most, .slice A5 n5 c5, .slice A6 n6 c6] = V4 at *
        obtain ⟨g0, g1, g2, g3, g4⟩ := tbox_cells hfin
        have hTf := T6.beside hon (fun p hp => by have := hne1 p hp; omega) (fun p hp => by have := hne2 p hp; omega)
        refine bodyPost_ret (v := .tuple #[.agg #[.int .i64 t.kind, .int .i64 t.size, .int .i64 t.most, .slice A5 n5 c5, .slice A6 n6 c6], .int .i64 0]) (by simp [results, Try.results132, go_sem, g0, g1, g2, g3, g4]) rfl ⟨_, _, by rw [HP.out], ⟨_, _, by rw [HP.out]; exact hTf⟩, hB6.trans (below_only hon (fun k hk => by omega) (by have := hB6.size; omega))⟩
end Go.Proofs.Ytoimeebildcofaa
