/- What the reference says of a table's drop, and the laws of it. Plain data; no Go, no memory. -/
import Derived.Test.YtoimeebildcofaaTabData
namespace Go.Proofs.Ytoimeebildcofaa
def Table.drop (t : Table) (x : Int) : Table × Bool :=
  if t.ok then (if 0 ≤ indexOf (· == x) t.keys then (if t.kind = 1 then ({ t with slots := t.slots.set (indexOf (· == x) t.keys).toNat (nought t.size.toNat) }, true)
    else ({ t with keys := t.keys.eraseIdx (indexOf (· == x) t.keys).toNat, slots := t.slots.eraseIdx (indexOf (· == x) t.keys).toNat }, true)) else (t, false)) else (Table.zero, false)
theorem Table.drop_else {t : Table} {x : Int} (hok : t.ok = true) (h : (t.drop x).2 = false) : (t.drop x).1 = t ∧ (t.look x).2 = false := by
  unfold Table.drop at *
  rw [if_pos hok] at h ⊢
  by_cases hi : 0 ≤ indexOf (· == x) t.keys
  · rw [if_pos hi] at h
    split at h <;> simp at h
  · rw [if_neg hi]
    refine ⟨rfl, ?_⟩
    simp [Table.look, hi]
theorem Table.look_at {t : Table} (g : t.Good) {i : Nat} {x : Int} {s : ByteArray} (hk : t.keys[i]? = some x) (hs : t.slots[i]? = some s) : t.look x = (s, true) := by
  rw [Table.look_of g]
  have h := find_of g hk
  obtain ⟨j, h1, h2, h3⟩ := indexOf_some (p := (· == x)) (xs := t.keys) (by omega)
  have : j = i := by omega
  subst this
  rw [h3]
  simp [List.getD, hs]
theorem Table.look_none {t : Table} (g : t.Good) {x : Int} (h : x ∉ t.keys) : t.look x = (⟨#[]⟩, false) := by
  rw [Table.look_of g, indexOf_no (find_not.2 h)]
/-- What was dropped is not there, or is 0 in a row; put again it is there, and as many keys as before. -/
theorem Table.drop_laws {t u : Table} {x : Int} (hok : t.ok = true) (h : t.drop x = (u, true)) :
    ∃ val y, t.look x = (val, true) ∧ u.ok = true ∧ (u.look x).2 = (t.kind == 1) ∧ u.put x val = (y, 0) ∧ y.look x = (val, true) ∧ y.keys.length = t.keys.length ∧ val.size ≤ 1024 := by
  have g := Table.ok_iff.1 hok
  have gl := Table.lens_len g.lens
  have gsh := g.shape
  simp only [Table.shape, inB, Bool.and_eq_true, decide_eq_true_eq] at gsh
  unfold Table.drop at h
  rw [if_pos hok] at h
  by_cases hi : 0 ≤ indexOf (· == x) t.keys
  · rw [if_pos hi] at h
    obtain ⟨i, h1, h2, h3⟩ := indexOf_some hi
    have hk := find_key h1
    obtain ⟨s, hs⟩ : ∃ s, t.slots[i]? = some s := ⟨_, List.getElem?_eq_getElem (by omega)⟩
    obtain ⟨a1, a2, a3, a4⟩ := g.at_ i x s hk hs
    have hl := Table.look_at g hk hs
    rw [h1] at h
    simp only [Int.toNat_natCast] at h
    refine ⟨s, ?_⟩
    by_cases hk1 : t.kind = 1
    · rw [if_pos hk1] at h
      simp only [Prod.mk.injEq, and_true] at h
      have hn : ((nought t.size.toNat).size : Int) = t.size := by rw [nought_size]; omega
      have hput : t.put x (nought t.size.toNat) = (u, 0) := by
        have h0 : (0 : Int) ≤ (i : Int) := by omega
        simp only [Table.put, hok, if_true, Table.puts, inB, hn, beq_self_eq_true, Bool.and_true, Table.put0, h1, h0, Int.toNat_natCast]
        rw [if_pos (by simp; omega), h]
      obtain ⟨p1, p2, _⟩ := Table.put_laws hok hput
      have gu := Table.ok_iff.1 p1
      have huk : u.keys = t.keys := by rw [← h]
      have hus : u.size = t.size := by rw [← h]
      have h0 : (0 : Int) ≤ (i : Int) := by omega
      have hput2 : u.put x s = ({ u with slots := u.slots.set i s }, 0) := by
        simp only [Table.put, p1, if_true, Table.puts, inB, hus, a1, beq_self_eq_true, Bool.and_true, Table.put0, huk, h1, h0, Int.toNat_natCast]
        rw [if_pos (by simp; omega)]
      refine ⟨_, hl, p1, by rw [p2]; simp [hk1], hput2, (Table.put_laws p1 hput2).2.1, by simp only [huk], by omega⟩
    · rw [if_neg hk1] at h
      simp only [Prod.mk.injEq, and_true] at h
      have hkx : x ∉ t.keys.eraseIdx i := by
        intro hx
        obtain ⟨j, hj⟩ := List.getElem?_of_mem hx
        rw [List.getElem?_eraseIdx] at hj
        split at hj
        · have := g.once j i x hj hk; omega
        · have := g.once (j + 1) i x hj hk; omega
      have hlen1 : (t.keys.eraseIdx i).length = t.keys.length - 1 := by rw [List.length_eraseIdx, if_pos h2]
      have hlen2 : (t.slots.eraseIdx i).length = t.keys.length - 1 := by rw [List.length_eraseIdx, if_pos (by omega)]; omega
      have gu : u.Good := by
        rw [← h]
        refine ⟨g.shape, ?_, fun j k s hj hs => ?_, fun a b k ha hb => ?_⟩
        · have := g.lens
          simp only [Table.lens, Bool.and_eq_true, beq_iff_eq, decide_eq_true_eq, Bool.or_eq_true, bne_iff_ne] at this ⊢
          exact ⟨⟨by omega, by omega⟩, .inl hk1⟩
        · simp only at hj hs
          rw [List.getElem?_eraseIdx] at hj hs
          split at hj
          · rename_i hlt
            rw [if_pos hlt] at hs
            obtain ⟨b1, b2, b3, _⟩ := g.at_ j k s hj hs
            exact ⟨b1, b2, b3, fun h => absurd h hk1⟩
          · rename_i hlt
            rw [if_neg hlt] at hs
            obtain ⟨b1, b2, b3, _⟩ := g.at_ (j + 1) k s hj hs
            exact ⟨b1, b2, b3, fun h => absurd h hk1⟩
        · simp only at ha hb
          rw [List.getElem?_eraseIdx] at ha hb
          split at ha <;> split at hb
          · exact g.once a b k ha hb
          · have := g.once a (b + 1) k ha hb; omega
          · have := g.once (a + 1) b k ha hb; omega
          · have := g.once (a + 1) (b + 1) k ha hb; omega
      have hu := Table.ok_iff.2 gu
      have hmost := g.lens
      simp only [Table.lens, Bool.and_eq_true, beq_iff_eq, decide_eq_true_eq] at hmost
      have hux : x ∉ u.keys := by rw [← h]; exact hkx
      have hul : u.keys.length = t.keys.length - 1 := by rw [← h]; exact hlen1
      have hum : u.most = t.most := by rw [← h]
      have huk : u.kind = t.kind := by rw [← h]
      have hus : u.size = t.size := by rw [← h]
      have hput : u.put x s = ({ u with keys := u.keys ++ [x], slots := u.slots ++ [s] }, 0) := by
        simp only [Table.put, hu, if_true, Table.puts, inB, hus, a1, beq_self_eq_true, Bool.and_true, Table.put0]
        rw [if_pos (by simp; omega), if_neg (find_not.2 hux), if_neg (by rw [huk]; exact hk1), if_neg (by rw [hum, hul]; omega)]
      refine ⟨_, hl, hu, by rw [Table.look_none gu hux]; simp [hk1], hput, (Table.put_laws hu hput).2.1, ?_, by omega⟩
      simp only [List.length_append, List.length_singleton, hul]
      omega
  · rw [if_neg hi] at h
    simp at h
end Go.Proofs.Ytoimeebildcofaa
