/- What the reference says of a table's put, drop and new, and the laws of these. Plain data; no Go, no memory. -/
import Derived.Test.YtoimeebildcofaaData
namespace Go.Proofs.Ytoimeebildcofaa
def Table.zero : Table := ⟨0, 0, 0, [], []⟩
/-- Put, once the table is ok, and the key and the value have their form. -/
def Table.put0 (t : Table) (x : Int) (v : ByteArray) : Table × Int :=
  if 0 ≤ indexOf (· == x) t.keys then ({ t with slots := t.slots.set (indexOf (· == x) t.keys).toNat v }, 0)
  else if t.kind = 1 then (t, 2) else if t.most ≤ (t.keys.length : Int) then (t, 3) else ({ t with keys := t.keys ++ [x], slots := t.slots ++ [v] }, 0)
def Table.puts (t : Table) (x : Int) (v : ByteArray) : Bool := inB x 0 4294967295 && (v.size : Int) == t.size
def Table.put (t : Table) (x : Int) (v : ByteArray) : Table × Int :=
  if t.ok then (if t.puts x v then t.put0 x v else (t, 1)) else (Table.zero, 1)
theorem indexOf_some {α : Type} {p : α → Bool} {xs : List α} (h : 0 ≤ indexOf p xs) : ∃ i : Nat, indexOf p xs = i ∧ i < xs.length ∧ xs.findIdx? p = some i := by
  unfold indexOf at h ⊢
  cases hf : xs.findIdx? p with
  | none => rw [hf] at h; simp at h
  | some i => exact ⟨i, rfl, (List.findIdx?_eq_some_iff_getElem.1 hf).1, rfl⟩
theorem indexOf_no {α : Type} {p : α → Bool} {xs : List α} (h : ¬ 0 ≤ indexOf p xs) : xs.findIdx? p = none := by
  unfold indexOf at h
  cases hf : xs.findIdx? p with
  | none => rfl
  | some i => rw [hf] at h; exact absurd (Int.natCast_nonneg i) h
structure Table.Good (t : Table) : Prop where
  shape : t.shape = true
  lens : t.lens = true
  at_ : ∀ (i : Nat) (k : Int) (s : ByteArray), t.keys[i]? = some k → t.slots[i]? = some s → (s.size : Int) = t.size ∧ 0 ≤ k ∧ k ≤ 4294967295 ∧ (t.kind = 1 → k = (i : Int))
  once : ∀ (i j : Nat) (k : Int), t.keys[i]? = some k → t.keys[j]? = some k → i = j
theorem Table.lens_len {t : Table} (h : t.lens = true) : t.slots.length = t.keys.length := by
  simp only [Table.lens, Bool.and_eq_true, beq_iff_eq] at h
  exact h.1.1
theorem Table.ok_iff {t : Table} : t.ok = true ↔ t.Good := by
  constructor
  · intro h
    simp only [Table.ok, Bool.and_eq_true, List.all_eq_true, List.mem_range] at h
    obtain ⟨⟨h1, h2⟩, h3⟩ := h
    have h4 := Table.lens_len h2
    have key : ∀ (i : Nat) (k : Int), t.keys[i]? = some k → ∃ s, t.slots[i]? = some s ∧ ((s.size : Int) == t.size && inB k 0 4294967295 && (t.kind != 1 || k == (i : Int)) && (t.keys.take i).all (· != k)) = true := by
      intro i k hk
      have hi := (List.getElem?_eq_some_iff.1 hk).1
      have h5 := h3 i hi
      have hs : t.slots[i]? = some t.slots[i] := List.getElem?_eq_getElem (by omega)
      refine ⟨_, hs, ?_⟩
      simp only [Table.okAt, hk, hs] at h5
      exact h5
    refine ⟨h1, h2, fun i k s hk hs => ?_, fun i j k hi hj => ?_⟩
    · obtain ⟨s', hs', h6⟩ := key i k hk
      rw [hs] at hs'
      cases hs'
      simp only [Bool.and_eq_true, beq_iff_eq, inB, decide_eq_true_eq, Bool.or_eq_true, bne_iff_ne] at h6
      refine ⟨h6.1.1.1, h6.1.1.2.1, h6.1.1.2.2, fun h7 => ?_⟩
      rcases h6.1.2 with h8 | h8
      · exact absurd h7 h8
      · exact h8
    · have main : ∀ a b : Nat, a < b → t.keys[a]? = some k → t.keys[b]? = some k → False := by
        intro a b hab ha hb
        obtain ⟨s', _, h6⟩ := key b k hb
        simp only [Bool.and_eq_true, List.all_eq_true] at h6
        obtain ⟨ha1, ha2⟩ := List.getElem?_eq_some_iff.1 ha
        have := h6.2 k (List.mem_take_iff_getElem.2 ⟨a, by have := (List.getElem?_eq_some_iff.1 hb).1; omega, ha2⟩)
        simp at this
      rcases Nat.lt_trichotomy i j with h | h | h
      · exact (main i j h hi hj).elim
      · exact h
      · exact (main j i h hj hi).elim
  · rintro ⟨h1, h2, h3, h4⟩
    have h5 := Table.lens_len h2
    simp only [Table.ok, Bool.and_eq_true, List.all_eq_true, List.mem_range]
    refine ⟨⟨h1, h2⟩, fun i hi => ?_⟩
    have hk : t.keys[i]? = some t.keys[i] := List.getElem?_eq_getElem hi
    have hs : t.slots[i]? = some t.slots[i] := List.getElem?_eq_getElem (by omega)
    obtain ⟨g1, g2, g3, g4⟩ := h3 i _ _ hk hs
    simp only [Table.okAt, hk, hs, Bool.and_eq_true, beq_iff_eq, inB, decide_eq_true_eq, Bool.or_eq_true, bne_iff_ne, List.all_eq_true]
    refine ⟨⟨⟨g1, g2, g3⟩, ?_⟩, fun x hx => ?_⟩
    · by_cases h : t.kind = 1
      · exact .inr (g4 h)
      · exact .inl h
    · obtain ⟨j, hj, rfl⟩ := List.mem_take_iff_getElem.1 hx
      intro he
      have := h4 j i t.keys[i] (by rw [List.getElem?_eq_getElem (by omega), he]) hk
      omega
theorem find_of {t : Table} (g : t.Good) {i : Nat} {x : Int} (h : t.keys[i]? = some x) : indexOf (· == x) t.keys = (i : Int) := by
  obtain ⟨hi, hx⟩ := List.getElem?_eq_some_iff.1 h
  have : t.keys.findIdx? (· == x) = some i := by
    rw [List.findIdx?_eq_some_iff_getElem]
    refine ⟨hi, by simp [hx], fun j hj => ?_⟩
    intro he
    have he : t.keys[j] = x := by simpa using he
    have := g.once j i x (by rw [List.getElem?_eq_getElem (by omega), he]) h
    omega
  simp [indexOf, this]
theorem find_not {ks : List Int} {x : Int} : ¬ 0 ≤ indexOf (· == x) ks ↔ x ∉ ks := by
  constructor
  · intro h hx
    have := indexOf_no h
    rw [List.findIdx?_eq_none_iff] at this
    have := this x hx
    simp at this
  · intro h h0
    obtain ⟨i, h1, h2, h3⟩ := indexOf_some h0
    obtain ⟨h4, h5, _⟩ := List.findIdx?_eq_some_iff_getElem.1 h3
    have h5 : ks[i] = x := by simpa using h5
    exact h (h5 ▸ List.getElem_mem h4)
theorem find_key {ks : List Int} {x : Int} {i : Nat} (h : indexOf (· == x) ks = (i : Int)) : ks[i]? = some x := by
  obtain ⟨j, h1, h2, h3⟩ := indexOf_some (p := (· == x)) (xs := ks) (by omega)
  obtain ⟨h4, h5, _⟩ := List.findIdx?_eq_some_iff_getElem.1 h3
  have : i = j := by omega
  subst this
  rw [List.getElem?_eq_getElem h2]
  simpa using h5
theorem Table.look_of {t : Table} (g : t.Good) (x : Int) : t.look x = match t.keys.findIdx? (· == x) with | some i => (t.slots.getD i ⟨#[]⟩, true) | none => (⟨#[]⟩, false) := by
  rw [Table.look, Table.ok_iff.2 g]
  by_cases h : 0 ≤ indexOf (· == x) t.keys
  · obtain ⟨i, h1, h2, h3⟩ := indexOf_some h
    have h0 : (0 : Int) ≤ (i : Int) := by omega
    simp only [h3, h1, Int.toNat_natCast, h0, decide_true, Bool.and_self, if_true]
  · simp only [h, decide_false, Bool.and_false, Bool.false_eq_true, if_false, indexOf_no h]
/-- What was put is there, all else is as it was. -/
theorem Table.put_laws {t : Table} {x : Int} {v : ByteArray} {t' : Table} (hok : t.ok = true) (h : t.put x v = (t', 0)) :
    t'.ok = true ∧ t'.look x = (v, true) ∧ ∀ y, y ≠ x → t'.look y = t.look y := by
  have g := Table.ok_iff.1 hok
  have gl := Table.lens_len g.lens
  simp only [Table.put, hok, if_true] at h
  by_cases hp : t.puts x v = true
  · rw [if_pos hp] at h
    simp only [Table.puts, Bool.and_eq_true, beq_iff_eq, inB, decide_eq_true_eq] at hp
    obtain ⟨⟨hx0, hx1⟩, hv⟩ := hp
    unfold Table.put0 at h
    by_cases hi : 0 ≤ indexOf (· == x) t.keys
    · rw [if_pos hi] at h
      obtain ⟨i, h1, h2, h3⟩ := indexOf_some hi
      rw [h1] at h
      simp only [Prod.mk.injEq, and_true, Int.toNat_natCast] at h
      subst h
      have hk := find_key h1
      have g' : ({ t with slots := t.slots.set i v } : Table).Good := by
        refine ⟨g.shape, ?_, fun j k s hj hs => ?_, g.once⟩
        · have := g.lens
          simp only [Table.lens, List.length_set] at this ⊢
          exact this
        · have hj' : t.keys[j]? = some k := hj
          have hjl : j < t.keys.length := (List.getElem?_eq_some_iff.1 hj').1
          have old := g.at_ j k t.slots[j] hj' (List.getElem?_eq_getElem (by omega))
          refine ⟨?_, old.2⟩
          simp only [List.getElem?_set] at hs
          split at hs
          · split at hs
            · cases hs; exact hv
            · cases hs
          · rw [List.getElem?_eq_getElem (show j < t.slots.length by omega)] at hs
            cases hs
            exact old.1
      refine ⟨Table.ok_iff.2 g', ?_, fun y hy => ?_⟩
      · rw [Table.look_of g']
        show (match t.keys.findIdx? (· == x) with | some i_1 => _ | none => _) = _
        rw [h3]
        simp [List.getD, show i < t.slots.length by omega]
      · rw [Table.look_of g', Table.look_of g]
        show (match t.keys.findIdx? (· == y) with | some i_1 => _ | none => _) = _
        cases hf : t.keys.findIdx? (· == y) with
        | none => rfl
        | some j =>
          have hji : j ≠ i := by
            rintro rfl
            obtain ⟨h4, h5, _⟩ := List.findIdx?_eq_some_iff_getElem.1 hf
            have h5 : t.keys[j] = y := by simpa using h5
            rw [List.getElem?_eq_getElem h4, h5] at hk
            exact hy (Option.some.inj hk)
          simp only [List.getD, List.getElem?_set, if_neg (Ne.symm hji)]
    · rw [if_neg hi] at h
      by_cases hk : t.kind = 1
      · rw [if_pos hk] at h; simp at h
      · rw [if_neg hk] at h
        by_cases hm : t.most ≤ (t.keys.length : Int)
        · rw [if_pos hm] at h; simp at h
        · rw [if_neg hm] at h
          simp only [Prod.mk.injEq, and_true] at h
          subst h
          have hnot := find_not.1 hi
          have hnone := indexOf_no hi
          have g' : ({ t with keys := t.keys ++ [x], slots := t.slots ++ [v] } : Table).Good := by
            refine ⟨g.shape, ?_, fun j k s hj hs => ?_, fun i j k h1 h2 => ?_⟩
            · have := g.lens
              simp only [Table.lens, Bool.and_eq_true, beq_iff_eq, decide_eq_true_eq, Bool.or_eq_true, bne_iff_ne, List.length_append, List.length_singleton] at this ⊢
              exact ⟨⟨by omega, by omega⟩, .inl hk⟩
            · simp only at hj hs
              by_cases hjl : j < t.keys.length
              · rw [List.getElem?_append_left hjl] at hj
                rw [List.getElem?_append_left (by omega)] at hs
                exact g.at_ j k s hj hs
              · have e1 : j = t.keys.length := by
                  have := (List.getElem?_eq_some_iff.1 hj).1
                  simp at this
                  omega
                subst e1
                rw [List.getElem?_append_right (Nat.le_refl _)] at hj
                rw [List.getElem?_append_right (by omega)] at hs
                simp [gl] at hj hs
                subst hj hs
                exact ⟨hv, hx0, hx1, fun h => absurd h hk⟩
            · simp only at h1 h2
              have len : ∀ {a : Nat}, (t.keys ++ [x])[a]? = some k → (a < t.keys.length ∧ t.keys[a]? = some k) ∨ (a = t.keys.length ∧ k = x) := by
                intro a ha
                by_cases hal : a < t.keys.length
                · rw [List.getElem?_append_left hal] at ha
                  exact .inl ⟨hal, ha⟩
                · have e1 : a = t.keys.length := by
                    have := (List.getElem?_eq_some_iff.1 ha).1
                    simp at this
                    omega
                  subst e1
                  simp at ha
                  exact .inr ⟨rfl, ha.symm⟩
              rcases len h1 with ⟨a1, a2⟩ | ⟨a1, a2⟩ <;> rcases len h2 with ⟨b1, b2⟩ | ⟨b1, b2⟩
              · exact g.once i j k a2 b2
              · subst b2; exact absurd (List.mem_of_getElem? a2) hnot
              · subst a2; exact absurd (List.mem_of_getElem? b2) hnot
              · omega
          refine ⟨Table.ok_iff.2 g', ?_, fun y hy => ?_⟩
          · rw [Table.look_of g']
            have e : (t.keys ++ [x]).findIdx? (· == x) = some t.keys.length := by
              rw [List.findIdx?_append, hnone]
              simp
            show (match (t.keys ++ [x]).findIdx? (· == x) with | some i_1 => _ | none => _) = _
            rw [e]
            simp [List.getD, ← gl]
          · rw [Table.look_of g', Table.look_of g]
            have e : (t.keys ++ [x]).findIdx? (· == y) = t.keys.findIdx? (· == y) := by
              rw [List.findIdx?_append]
              have : (x == y) = false := by simpa using fun h => hy h.symm
              cases t.keys.findIdx? (· == y) <;> simp [List.findIdx?_cons, this]
            show (match (t.keys ++ [x]).findIdx? (· == y) with | some i_1 => _ | none => _) = _
            rw [e]
            cases hf : t.keys.findIdx? (· == y) with
            | none => rfl
            | some j =>
              have hjl := (List.findIdx?_eq_some_iff_getElem.1 hf).1
              simp only [List.getD]
              rw [List.getElem?_append_left (by omega)]
  · rw [if_neg hp] at h
    simp at h
theorem Table.put_else {t : Table} {x : Int} {v : ByteArray} (hok : t.ok = true) (h : (t.put x v).2 ≠ 0) : (t.put x v).1 = t := by
  unfold Table.put Table.put0 at *
  rw [if_pos hok] at h ⊢
  split
  · rename_i hp
    rw [if_pos hp] at h
    split
    · rename_i hi
      rw [if_pos hi] at h
      exact absurd rfl h
    · split
      · rfl
      · split
        · rfl
        · rename_i h1 h2 h3
          rw [if_neg h1, if_neg h2, if_neg h3] at h
          exact absurd rfl h
  · rfl
def nought (n : Nat) : ByteArray := ⟨Array.replicate n 0⟩
theorem nought_size (n : Nat) : (nought n).size = n := by simp [nought, ByteArray.size]
def rowKeys (n : Nat) : List Int := (List.range n).map (fun i : Nat => (i : Int))
def Table.new (kind size most : Int) : Table :=
  if (⟨kind, size, most, [], []⟩ : Table).shape then (if kind = 1 then ⟨kind, size, most, rowKeys most.toNat, List.replicate most.toNat (nought size.toNat)⟩ else ⟨kind, size, most, [], []⟩) else Table.zero
theorem rowKeys_get {n i : Nat} {k : Int} (h : (rowKeys n)[i]? = some k) : i < n ∧ k = (i : Int) := by
  simp only [rowKeys, List.getElem?_map, Option.map_eq_some_iff] at h
  obtain ⟨j, h1, h2⟩ := h
  have := List.getElem?_eq_some_iff.1 h1
  simp at this
  omega
theorem Table.new_good {kind size most : Int} (h : (⟨kind, size, most, [], []⟩ : Table).shape = true) : (Table.new kind size most).Good := by
  have h' := h
  simp only [Table.shape, inB, Bool.and_eq_true, decide_eq_true_eq] at h'
  unfold Table.new
  rw [if_pos h]
  by_cases hk : kind = 1
  · rw [if_pos hk]
    have hm : ((most.toNat : Nat) : Int) = most := by omega
    refine ⟨h, ?_, fun i k s hi hs => ?_, fun i j k hi hj => ?_⟩
    · simp [Table.lens, rowKeys, hm]
    · obtain ⟨h1, h2⟩ := rowKeys_get hi
      simp only [List.getElem?_replicate] at hs
      rw [if_pos h1] at hs
      cases hs
      refine ⟨?_, by omega, by omega, fun _ => h2⟩
      rw [nought_size]
      show ((size.toNat : Nat) : Int) = size
      omega
    · have := rowKeys_get hi
      have := rowKeys_get hj
      omega
  · rw [if_neg hk]
    refine ⟨h, ?_, fun i k s hi hs => by simp at hi, fun i j k hi hj => by simp at hi⟩
    simp only [Table.lens, List.length_nil]
    have : ((0 : Nat) : Int) ≤ most := by omega
    simp [hk]
    omega
/-- What stands in a new table: in a row noughts, else nothing. -/
theorem Table.new_look {kind size most : Int} (h : (⟨kind, size, most, [], []⟩ : Table).shape = true) {i : Nat} (hi : (i : Int) < most) :
    (Table.new kind size most).look (i : Int) = if kind = 1 then (nought size.toNat, true) else (⟨#[]⟩, false) := by
  have g := Table.new_good h
  rw [Table.look_of g]
  unfold Table.new
  rw [if_pos h]
  by_cases hk : kind = 1
  · have g' := g
    unfold Table.new at g'
    rw [if_pos h, if_pos hk] at g'
    rw [if_pos hk, if_pos hk]
    have hk' : (rowKeys most.toNat)[i]? = some (i : Int) := by
      simp only [rowKeys, List.getElem?_map]
      rw [List.getElem?_range (by omega)]
      rfl
    have e := find_of g' hk'
    obtain ⟨j, h1, h2, h3⟩ := indexOf_some (p := (· == (i : Int))) (xs := rowKeys most.toNat) (by show 0 ≤ indexOf _ _; rw [e]; omega)
    have : j = i := by
      have : (j : Int) = (i : Int) := h1.symm.trans e
      omega
    subst this
    simp only
    rw [h3]
    simp [List.getD, show j < most.toNat by omega]
  · rw [if_neg hk, if_neg hk]
    rfl
theorem Table.new_kind {kind size most : Int} : (Table.new kind size most).kind = 0 ↔ (⟨kind, size, most, [], []⟩ : Table).shape = false := by
  unfold Table.new
  cases h : (⟨kind, size, most, [], []⟩ : Table).shape with
  | false => simp [Table.zero]
  | true =>
    simp only [Table.shape, inB, Bool.and_eq_true, decide_eq_true_eq] at h
    rw [if_pos rfl]
    split
    · simp only [Bool.true_eq_false, iff_false]; omega
    · simp only [Bool.true_eq_false, iff_false]; omega
theorem Table.new_shape {kind size most : Int} (h : (⟨kind, size, most, [], []⟩ : Table).shape = true) : (Table.new kind size most).kind = kind ∧ (Table.new kind size most).size = size ∧ (Table.new kind size most).most = most := by
  unfold Table.new
  rw [if_pos h]
  split <;> exact ⟨rfl, rfl, rfl⟩
end Go.Proofs.Ytoimeebildcofaa
