/- What the reference says of rules that are tidied: those that can hold where they stand, up to one that always holds. Plain data. -/
import Derived.Test.YtoimeebildcofaaData
import Derived.Test.YtoimeebildcofaaRangeOps
namespace Go.Proofs.Ytoimeebildcofaa
def oneRg (n : Int) : Rg := ival n.toNat n.toNat
def byteRg : Rg := ⟨0, 255, 0, 255⟩
theorem byte_tidy : (⟨0, 255, 0, 4294967295⟩ : Rg).tidy = byteRg := by decide +kernel
theorem byte_ival : byteRg = ival 0 255 := by decide +kernel
def knownAt (ks : List Rg) (r : Rule) : Rg := ks.getD r.at_.toNat byteRg
def tidyGo : List Rule → List Rg → List Rule
  | [], _ => []
  | r :: rs, ks => match Rg.branch r.op (knownAt ks r) (oneRg r.num) true with
    | none => tidyGo rs ks
    | some _ => r :: (match Rg.branch r.op (knownAt ks r) (oneRg r.num) false with
      | none => []
      | some p => tidyGo rs (ks.set r.at_.toNat p.1))
def tidyRules (rs : List Rule) : List Rule := tidyGo rs (List.replicate 12 byteRg)
/-- The ranges that are known of the bytes: intervals of bytes, twelve of them. -/
def Bytes (ks : List Rg) : Prop := ks.length = 12 ∧ ∀ k, k ∈ ks → ∃ lo hi : Nat, k = ival lo hi ∧ lo ≤ hi ∧ hi ≤ 255
theorem Bytes.init : Bytes (List.replicate 12 byteRg) := ⟨by simp, fun k hk => ⟨0, 255, (List.eq_of_mem_replicate hk).trans byte_ival, by omega, by omega⟩⟩
theorem Bytes.at_ {ks : List Rg} (h : Bytes ks) {i : Nat} (hi : i < 12) : ∃ lo hi : Nat, ks[i]? = some (ival lo hi) ∧ lo ≤ hi ∧ hi ≤ 255 := by
  have hl : i < ks.length := by rw [h.1]; exact hi
  obtain ⟨lo, h', e, h1, h2⟩ := h.2 ks[i] (List.getElem_mem hl)
  exact ⟨lo, h', by rw [List.getElem?_eq_getElem hl, e], h1, h2⟩
theorem Bytes.set {ks : List Rg} (h : Bytes ks) {i : Nat} {k : Rg} (hk : ∃ lo hi : Nat, k = ival lo hi ∧ lo ≤ hi ∧ hi ≤ 255) : Bytes (ks.set i k) :=
  ⟨by rw [List.length_set, h.1], fun x hx => by
    rcases List.mem_or_eq_of_mem_set hx with h1 | h1
    · exact h.2 x h1
    · rw [h1]; exact hk⟩
theorem Bytes.ok {ks : List Rg} (h : Bytes ks) {i : Nat} (hi : i < 12) {k : Rg} (hk : ks[i]? = some k) : k.Some ∧ k.Ok ∧ k.tidy = k := by
  obtain ⟨lo, h', e, h1, h2⟩ := h.at_ hi
  rw [e] at hk
  cases hk
  exact ⟨ival_some h1 (by omega), ival_ok h1 (by omega), ival_tidy h1⟩
/-- What is left of an interval of bytes behind a rule is one. -/
theorem Bytes.next {ks : List Rg} (h : Bytes ks) {i : Nat} (hi : i < 12) {k : Rg} (hk : ks[i]? = some k) {op : Int} {n : Nat} {is : Bool} {x y : Rg} (hb : Rg.branch op k (ival n n) is = some (x, y)) : Bytes (ks.set i x) := by
  obtain ⟨lo, h', e, h1, h2⟩ := h.at_ hi
  rw [e] at hk
  cases hk
  obtain ⟨lo', hi', e', h3, h4⟩ := branch_ival h1 (by omega) hb
  exact h.set ⟨lo', hi', e', h3, by omega⟩
theorem tidyGo_skip {r : Rule} {rs : List Rule} {ks : List Rg} (h : Rg.branch r.op (knownAt ks r) (oneRg r.num) true = none) : tidyGo (r :: rs) ks = tidyGo rs ks := by
  simp only [tidyGo, h]
theorem tidyGo_last {r : Rule} {rs : List Rule} {ks : List Rg} {p : Rg × Rg} (h : Rg.branch r.op (knownAt ks r) (oneRg r.num) true = some p) (h' : Rg.branch r.op (knownAt ks r) (oneRg r.num) false = none) : tidyGo (r :: rs) ks = [r] := by
  simp only [tidyGo, h, h']
theorem tidyGo_more {r : Rule} {rs : List Rule} {ks : List Rg} {p : Rg × Rg} {x y : Rg} (h : Rg.branch r.op (knownAt ks r) (oneRg r.num) true = some p) (h' : Rg.branch r.op (knownAt ks r) (oneRg r.num) false = some (x, y)) : tidyGo (r :: rs) ks = r :: tidyGo rs (ks.set r.at_.toNat x) := by
  simp only [tidyGo, h, h']
theorem tidyGo_le : ∀ (rs : List Rule) (ks : List Rg), (tidyGo rs ks).length ≤ rs.length
  | [], _ => Nat.le_refl _
  | r :: rs, ks => by
    simp only [tidyGo]
    split
    · exact Nat.le_trans (tidyGo_le rs ks) (Nat.le_succ _)
    · split
      · simp
      · simp only [List.length_cons]
        exact Nat.succ_le_succ (tidyGo_le rs _)
end Go.Proofs.Ytoimeebildcofaa
