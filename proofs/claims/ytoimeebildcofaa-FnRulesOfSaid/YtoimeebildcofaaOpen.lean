/- From the row's own reading of an argument to the words of the walks: a slice of whatever elements is a row that is read. -/
import Derived.Test.YtoimeebildcofaaLib
import Derived.Deep.Slices
import Derived.Lib.SmallJoins
namespace Go.Proofs.Ytoimeebildcofaa
open Go.RowKit Go.Deep
variable {H : Type} {enc : TypeId × Value → H} {P : Program} {w : World} {base : Nat} {spare : Nat → Bool} {held : Bool}

theorem cell_block {w : World} {a : Addr} {v : Value} (h : w.cell? a = some v) : a.spot = none ∧ ∃ cur e fr, w.heap[a.block]? = some (.cells cur e fr) ∧ cur[a.off]? = some v := by
  unfold World.cell? at h
  split at h
  · rename_i cur e fr hb
    split at h
    · cases h
    · rename_i hs
      exact ⟨by simpa using hs, cur, e, fr, hb, h⟩
  · cases h
theorem list_of {α : Type} {enc : α → List Value} {css : List (List Value)} (h : ∀ c ∈ css, ∃ x, c = enc x) : ∃ xs : List α, css = xs.map enc := by
  induction css with
  | nil => exact ⟨[], rfl⟩
  | cons c cs ih =>
    obtain ⟨x, rfl⟩ := h _ List.mem_cons_self
    obtain ⟨xs, rfl⟩ := ih (fun c hc => h c (List.mem_cons_of_mem _ hc))
    exact ⟨x :: xs, rfl⟩
theorem open_row {t e : TypeId} {fuel sz : Nat} {cs : List Value} {x : DataW H × List MemPlace} (ht : P.underlying t = some (.slice e)) (hsz : P.cellsOf e = sz) (h0 : 0 < sz) (h : DataW.trod enc P w base spare held fuel t cs = some x) :
    ∃ v css L, cs = [v] ∧ Row sz v css L ∧ Holds w L ∧ ∀ c ∈ css, ∃ n y, DataW.trod enc P w base spare held n e c = some y := by
  rcases open_slice ht h with ⟨rfl, _⟩ | ⟨a, len, cap, m, n, D, Pl, rfl, hb, hl, hm, hmm, _, hx⟩
  · exact ⟨_, [], [], rfl, ⟨by simp, .inl ⟨rfl, rfl, _, _, rfl⟩⟩, Holds.nil _, by simp⟩
  · rw [hsz] at hx
    have hlm : len ≤ m := by rw [hmm]; split <;> omega
    obtain ⟨f, hf⟩ := choose_lt (α := List Value) (n := len) (p := fun i c => w.cells? base (a.add (i * sz)) sz = some c ∧ DataW.trod enc P w base spare held n e c = some (D i, Pl i)) (fun i hi => hx i (by omega))
    have hlen : ∀ i, i < len → (f i).length = sz := fun i hi => (World.cells?_some (hf i hi).1).2.1
    have hcell : ∀ i, i < len → ∀ j u, (f i)[j]? = some u → w.cell? ((a.add (i * sz)).add j) = some u := fun i hi j u hu => by
      rw [(World.cells?_some (hf i hi).1).2.2 j (by rw [← hlen i hi]; exact (List.getElem?_eq_some_iff.1 hu).1)]
      exact hu
    have hmem : ∀ c ∈ (List.range len).map f, ∃ i, i < len ∧ c = f i := fun c hc => by
      obtain ⟨i, hi, rfl⟩ := List.mem_map.1 hc
      exact ⟨i, List.mem_range.1 hi, rfl⟩
    have htr : ∀ c ∈ (List.range len).map f, ∃ n y, DataW.trod enc P w base spare held n e c = some y := fun c hc => by
      obtain ⟨i, hi, rfl⟩ := hmem c hc
      exact ⟨n, _, (hf i hi).2⟩
    have hszs : ∀ c ∈ (List.range len).map f, c.length = sz := fun c hc => by
      obtain ⟨i, hi, rfl⟩ := hmem c hc
      exact hlen i hi
    rcases Nat.eq_zero_or_pos len with rfl | hpos
    · exact ⟨_, [], [], rfl, ⟨by simp, .inl ⟨rfl, rfl, _, _, rfl⟩⟩, Holds.nil _, by simp⟩
    · obtain ⟨u, hu⟩ : ∃ u, (f 0)[0]? = some u := ⟨_, List.getElem?_eq_getElem (by rw [hlen 0 hpos]; exact h0)⟩
      have hc0 := hcell 0 hpos 0 u hu
      rw [Nat.zero_mul] at hc0
      have ha0 : (a.add 0).add 0 = a := by simp [Addr.add]
      rw [ha0] at hc0
      obtain ⟨hsp, cur, e', fr, hbl, _⟩ := cell_block hc0
      obtain ⟨b, off, sp⟩ := a
      simp only at hsp hbl
      subst hsp
      simp only [maxLen] at hm
      refine ⟨_, (List.range len).map f, [(b, .cells cur e' fr)], rfl, ⟨hszs, .inr ⟨b, off, cap, cur, e', fr, by simp, by simpa using hl, rfl, hm, fun i j u hu => ?_⟩⟩, Holds.one hbl, htr⟩
      simp only [List.getElem?_map, Option.bind_eq_some_iff, Option.map_eq_some_iff] at hu
      obtain ⟨c, ⟨i', hi', rfl⟩, hj⟩ := hu
      obtain ⟨hi2, rfl⟩ : i < len ∧ i' = i := by
        have := List.getElem?_eq_some_iff.1 hi'
        obtain ⟨h1, h2⟩ := this
        simp at h1 h2
        exact ⟨h1, h2.symm⟩
      have h3 := hcell i' hi2 j u hj
      rw [Addr.add_mid, Addr.add_mid] at h3
      simpa [World.cell?, hbl] using h3
theorem int_field {n o i : Nat} {T : TypeId} {k : IntKind} {cs : List Value} {xs : List (DataW H × List MemPlace)} (hf : DataW.trod enc P w base spare held n T ((cs.drop o).take (P.cellsOf T)) = xs[i]?) (hi : i < xs.length) (hT : P.underlying T = some (.int k)) (hc : P.cellsOf T = 1) :
    ∃ v : Int, cs[o]? = some (.int k v) ∧ (Lit.int k v).wf = true := by
  rw [List.getElem?_eq_getElem hi, hc] at hf
  obtain ⟨v, h1, _, h2⟩ := DataW.trod_int hT hf
  refine ⟨v, ?_, h2⟩
  have : ((cs.drop o).take 1)[0]? = some (.int k v) := by rw [h1]; rfl
  simpa [List.getElem?_take] using this
theorem string_field {n o i : Nat} {T : TypeId} {cs : List Value} {xs : List (DataW H × List MemPlace)} (hf : DataW.trod enc P w base spare held n T ((cs.drop o).take (P.cellsOf T)) = xs[i]?) (hi : i < xs.length) (hT : P.underlying T = some .string) (hc : P.cellsOf T = 1) :
    ∃ v : ByteArray, cs[o]? = some (.string v) ∧ v.size ≤ 9223372036854775807 := by
  rw [List.getElem?_eq_getElem hi, hc] at hf
  obtain ⟨v, h1, _, h2⟩ := DataW.trod_string hT hf
  refine ⟨v, ?_, by simpa [maxLen] using h2⟩
  have : ((cs.drop o).take 1)[0]? = some (.string v) := by rw [h1]; rfl
  simpa [List.getElem?_take] using this
theorem bool_field {n o i : Nat} {T : TypeId} {cs : List Value} {xs : List (DataW H × List MemPlace)} (hf : DataW.trod enc P w base spare held n T ((cs.drop o).take (P.cellsOf T)) = xs[i]?) (hi : i < xs.length) (hT : P.underlying T = some .bool) (hc : P.cellsOf T = 1) :
    ∃ v : Bool, cs[o]? = some (.bool v) := by
  rw [List.getElem?_eq_getElem hi, hc] at hf
  obtain ⟨v, h1, _⟩ := DataW.trod_bool hT hf
  refine ⟨v, ?_⟩
  have : ((cs.drop o).take 1)[0]? = some (.bool v) := by rw [h1]; rfl
  simpa [List.getElem?_take] using this
theorem wf_i64 {v : Int} (h : (Lit.int .i64 v).wf = true) : -9223372036854775808 ≤ v ∧ v ≤ 9223372036854775807 := by
  simp only [Lit.wf, Bool.and_eq_true, decide_eq_true_eq] at h
  exact h
theorem open_byte {T : TypeId} (hT : P.underlying T = some (.int .u8)) {n : Nat} {c : List Value} {y : DataW H × List MemPlace} (h : DataW.trod enc P w base spare held n T c = some y) : ∃ b : Fin 256, c = byteCell ((b : Nat) : Int) := by
  obtain ⟨v, h1, _, h2⟩ := DataW.trod_int hT h
  simp only [Lit.wf, Bool.and_eq_true, decide_eq_true_eq] at h2
  have h3 : 0 ≤ v ∧ v ≤ 255 := h2
  exact ⟨⟨v.toNat, by omega⟩, by rw [h1, byteCell]; congr 2; show v = (v.toNat : Int); omega⟩
def ofBytes (xs : List (Fin 256)) : List Int := xs.map fun b : Fin 256 => ((b : Nat) : Int)
theorem ofBytes_row {xs : List (Fin 256)} {v : Value} {L : Blocks} (h : Row 1 v (xs.map fun b : Fin 256 => byteCell ((b : Nat) : Int)) L) : Row 1 v ((ofBytes xs).map byteCell) L := by
  rw [ofBytes, List.map_map]
  exact h
theorem ofBytes_small (xs : List (Fin 256)) : ∀ v, v ∈ ofBytes xs → 0 ≤ v ∧ v ≤ 255 := fun v hv => by
  obtain ⟨b, _, rfl⟩ := List.mem_map.1 hv
  have := b.2
  omega
end Go.Proofs.Ytoimeebildcofaa
