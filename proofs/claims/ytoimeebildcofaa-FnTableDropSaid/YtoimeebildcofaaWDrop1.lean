/- slices.Delete of one place, at rows of the call's own. -/
import Derived.Test.YtoimeebildcofaaDropKit
import Derived.Test.YtoimeebildcofaaShelf
import Derived.Test.YtoimeebildcofaaWTab3
namespace Go.Proofs.Ytoimeebildcofaa
open Go.RowKit
theorem apart_same' {M N M' N' : Blocks} (h : Apart M N) (h1 : M'.map (·.1) = M.map (·.1)) (h2 : N'.map (·.1) = N.map (·.1)) : Apart M' N' := fun p hp q hq e => by
  have a := List.mem_map_of_mem (f := Prod.fst) hp
  have b := List.mem_map_of_mem (f := Prod.fst) hq
  rw [h1] at a
  rw [h2] at b
  obtain ⟨p', hp', e1⟩ := List.mem_map.1 a
  obtain ⟨q', hq', e2⟩ := List.mem_map.1 b
  exact h p' hp' q' hq' (by rw [e1, e2, e])
theorem erase_take {α : Type} {xs : List α} {i n : Nat} {z : α} (hn : xs.length = n) (hi : i < n) : ((xs.take n).take i ++ (xs.take n).drop (i + 1) ++ List.replicate (i + 1 - i) z).take (n - 1) = xs.eraseIdx i := by
  have e : xs.take n = xs := List.take_of_length_le (by omega)
  rw [e, List.eraseIdx_eq_take_drop_succ]
  exact List.take_left' (by simp; omega)
theorem deleteInt_calls (A : Option Addr) (n c : Nat) (ks : List Int) (L : Blocks) (B i : Nat) (p q : Int) (hp : (i : Int) = p) (hq : ((i + 1 : Nat) : Int) = q) (w : World) (h : Own B 3 1 (.slice A n c) (ks.map intCell) L) (H : Holds w L) (hi : i < ks.length) :
    Calls Try.prog 41 #[.slice A n c, .int .i64 p, .int .i64 q] w fun e w' => ∃ v', e = .returned v' ∧ (∃ L', Own B 3 1 v' ((ks.eraseIdx i).map intCell) L' ∧ Holds w' L' ∧ L'.map (·.1) = L.map (·.1)) ∧ Only (Blk L) w w' := by
  subst hp hq
  have h' : Own B 3 1 (.slice A n c) ((ks.map (Value.int .i64)).map (fun v => [v])) L := by rw [List.map_map]; exact h
  obtain ⟨b, rfl, hn, hnc, hc, hL, hb, hcell, hfr, hset⟩ := own_cells h' H (by simp; omega)
  rw [List.length_map] at hn
  refine (Try.slices_Delete_int_cells b 0 n c i (i + 1) ks w (by omega) hnc hc (by omega) (by omega) (fun j hj => hcell j _ ?_) (fun j _ => hfr j)).mono ?_
  · rw [List.getElem?_map, List.getElem?_eq_getElem hj, List.getD, List.getElem?_eq_getElem hj]
    rfl
  · rintro e w' ⟨rfl, m, rfl⟩
    obtain ⟨L', o1, o2, o3⟩ := hset m (n - 1) (((ks.take n).take i ++ (ks.take n).drop (i + 1) ++ List.replicate (i + 1 - i) 0).map (Value.int .i64)) (by simp; omega) (by omega)
    rw [← List.map_take, erase_take hn.symm (by omega), List.map_map] at o1
    refine ⟨_, rfl, ⟨L', by rw [show n - (i + 1 - i) = n - 1 by omega]; exact o1, o2, o3.trans hL.symm⟩, ?_⟩
    refine only_setCells _ _ _ _ ((Only.refl _ w).drewN m) (.inl ?_)
    have : b ∈ L.map (·.1) := by rw [hL]; simp
    obtain ⟨p, hp, e⟩ := List.mem_map.1 this
    exact ⟨p, hp, e⟩
theorem strsOf_list (ss : List ByteArray) : Lib.strsOf (fun i => ss.getD i ⟨#[]⟩) ss.length = ss.map (fun s => s.data.toList) := by
  refine List.ext_getElem? fun k => ?_
  simp only [Lib.strsOf, List.getElem?_map]
  by_cases hk : k < ss.length
  · rw [List.getElem?_range hk, List.getElem?_eq_getElem hk, Option.map_some, Option.map_some, List.getD, List.getElem?_eq_getElem hk]
    rfl
  · rw [List.getElem?_eq_none (by simpa using hk), List.getElem?_eq_none (by omega)]
    rfl
theorem deleteStr_calls (A : Option Addr) (n c : Nat) (ss : List ByteArray) (L : Blocks) (B i : Nat) (p q : Int) (hp : (i : Int) = p) (hq : ((i + 1 : Nat) : Int) = q) (w : World) (h : Own B 9 1 (.slice A n c) (ss.map strCell) L) (H : Holds w L) (hi : i < ss.length) :
    Calls Try.prog 42 #[.slice A n c, .int .i64 p, .int .i64 q] w fun e w' => ∃ v', e = .returned v' ∧ (∃ L', Own B 9 1 v' ((ss.eraseIdx i).map strCell) L' ∧ Holds w' L' ∧ L'.map (·.1) = L.map (·.1)) ∧ Only (Blk L) w w' := by
  subst hp hq
  have h' : Own B 9 1 (.slice A n c) ((ss.map Value.string).map (fun v => [v])) L := by rw [List.map_map]; exact h
  obtain ⟨b, rfl, hn, hnc, hc, hL, hb, hcell, hfr, hset⟩ := own_cells h' H (by simp; omega)
  rw [List.length_map] at hn
  refine (Try.slices_Delete_string_cells b 0 n c i (i + 1) (fun i => ss.getD i ⟨#[]⟩) w hnc hc (by omega) (by omega) (fun j hj => hcell j _ ?_) (fun j _ => hfr j)).mono ?_
  · rw [List.getElem?_map, List.getElem?_eq_getElem (show j < ss.length by omega), List.getD, List.getElem?_eq_getElem (show j < ss.length by omega)]
    rfl
  · rintro e w' ⟨rfl, m, rfl⟩
    have hX : Lib.strsOf (fun i => ss.getD i ⟨#[]⟩) n = ss.map (fun s => s.data.toList) := by rw [hn]; exact strsOf_list ss
    rw [hX]
    have hXn : (ss.map (fun s => s.data.toList)).length = n := by rw [List.length_map, hn]
    generalize hXX : ss.map (fun s => s.data.toList) = X at *
    obtain ⟨L', o1, o2, o3⟩ := hset m (n - 1) ((X.take i ++ X.drop (i + 1) ++ List.replicate (i + 1 - i) []).map encStr) (by simp; omega) (by omega)
    have he := erase_take (z := ([] : List UInt8)) hXn (show i < n by omega)
    have hXt : X.take n = X := List.take_of_length_le (by omega)
    rw [hXt] at he
    rw [← List.map_take, he, List.map_map] at o1
    have hfin : (X.eraseIdx i).map ((fun v => [v]) ∘ encStr) = (ss.eraseIdx i).map strCell := by
      rw [← hXX, List.eraseIdx_eq_take_drop_succ, List.eraseIdx_eq_take_drop_succ]
      simp only [List.map_append, List.map_take, List.map_drop, List.map_map]
      rfl
    rw [hfin] at o1
    refine ⟨_, rfl, ⟨L', by rw [show n - (i + 1 - i) = n - 1 by omega]; exact o1, o2, o3.trans hL.symm⟩, ?_⟩
    refine only_setCells _ _ _ _ ((Only.refl _ w).drewN m) (.inl ?_)
    have : b ∈ L.map (·.1) := by rw [hL]; simp
    obtain ⟨p, hp, e⟩ := List.mem_map.1 this
    exact ⟨p, hp, e⟩
end Go.Proofs.Ytoimeebildcofaa
