/- The plain data of the program, and what the reference says of them: rules, ops, tables, frames. No Go, no memory. -/
namespace Go.Proofs.Ytoimeebildcofaa
def inB (n low high : Int) : Bool := decide (low ≤ n) && decide (n ≤ high)
structure Rule where
  (at_ op num verdict key : Int)
  deriving DecidableEq
def Rule.ok (r : Rule) : Bool := inB r.at_ 0 11 && inB r.op 12 15 && inB r.num 0 255 && inB r.verdict 0 2 && inB r.key 0 4294967295 && (r.verdict == 2 || r.key == 0)
def rulesOk (rs : List Rule) : Bool := decide (rs.length ≤ 6) && rs.all Rule.ok

theorem any_take_succ {α : Type} {p : α → Bool} {xs : List α} {k : Nat} {x : α} (h : xs[k]? = some x) : (xs.take (k + 1)).any p = ((xs.take k).any p || p x) := by
  have hlt := (List.getElem?_eq_some_iff.1 h).1
  rw [List.take_succ_eq_append_getElem hlt, List.any_append]
  have : xs[k] = x := (List.getElem?_eq_some_iff.1 h).2
  simp [this]
theorem all_take_succ {α : Type} {p : α → Bool} {xs : List α} {k : Nat} {x : α} (h : xs[k]? = some x) : (xs.take (k + 1)).all p = ((xs.take k).all p && p x) := by
  have hlt := (List.getElem?_eq_some_iff.1 h).1
  rw [List.take_succ_eq_append_getElem hlt, List.all_append]
  have : xs[k] = x := (List.getElem?_eq_some_iff.1 h).2
  simp [this]
theorem findIdx_take {α : Type} {p : α → Bool} {xs : List α} {k : Nat} {x : α} (h : xs[k]? = some x) (h0 : (xs.take k).any p = false) (hp : p x = true) : xs.findIdx? p = some k := by
  have hlt := (List.getElem?_eq_some_iff.1 h).1
  have hx : xs[k] = x := (List.getElem?_eq_some_iff.1 h).2
  rw [List.findIdx?_eq_some_iff_getElem]
  refine ⟨hlt, by rw [hx]; exact hp, fun j hj => ?_⟩
  simp only [List.any_eq_false] at h0
  have := h0 xs[j] (by rw [List.mem_take_iff_getElem]; exact ⟨j, by omega, rfl⟩)
  simpa using this
theorem findIdx_none {α : Type} {p : α → Bool} {xs : List α} (h0 : xs.any p = false) : xs.findIdx? p = none := by
  rw [List.findIdx?_eq_none_iff]
  simpa using h0
/-- The place of the first element of which p is true, or -1. -/
def indexOf {α : Type} (p : α → Bool) (xs : List α) : Int := match xs.findIdx? p with | some i => i | none => -1
theorem indexOf_nonneg {α : Type} (p : α → Bool) (xs : List α) : decide (0 ≤ indexOf p xs) = xs.any p := by
  unfold indexOf
  cases h : xs.findIdx? p with
  | none => rw [List.findIdx?_eq_none_iff] at h; symm; simpa using h
  | some i =>
    obtain ⟨h1, h2, _⟩ := List.findIdx?_eq_some_iff_getElem.1 h
    have : xs.any p = true := List.any_eq_true.2 ⟨xs[i], List.getElem_mem h1, h2⟩
    rw [this]
    simp
theorem find_take {α : Type} {p : α → Bool} {xs : List α} {k : Nat} {x : α} (h : xs[k]? = some x) (h0 : (xs.take k).any p = false) (hp : p x = true) : xs.find? p = some x := by
  have hlt := (List.getElem?_eq_some_iff.1 h).1
  have hx : xs[k] = x := (List.getElem?_eq_some_iff.1 h).2
  rw [List.find?_eq_some_iff_getElem]
  refine ⟨hp, k, hlt, hx, fun j hj => ?_⟩
  simp only [List.any_eq_false] at h0
  have := h0 xs[j] (by rw [List.mem_take_iff_getElem]; exact ⟨j, by omega, rfl⟩)
  simpa using this
theorem find_none {α : Type} {p : α → Bool} {xs : List α} (h0 : xs.any p = false) : xs.find? p = none := by
  rw [List.find?_eq_none]
  simpa using h0
def holdsB (op a b : Int) : Bool := if op = 12 then a == b else if op = 13 then a != b else if op = 14 then decide (a < b) else decide (b < a)
def byteAt (x : ByteArray) (i : Int) : Int := ((x.data.getD i.toNat 0).toNat : Int)
theorem byteAt_at {x : ByteArray} {a : Nat} (h : a < x.size) : ((x[a]).toNat : Int) = byteAt x a := by
  have h' : a < x.data.size := h
  simp only [byteAt, Int.toNat_natCast]
  rw [Array.getD_eq_getD_getElem?, Array.getElem?_eq_getElem h']
  rfl
def Rule.holds (x : ByteArray) (r : Rule) : Bool := holdsB r.op (byteAt x r.at_) r.num
/-- What becomes of a frame: the verdict, the key. -/
def ruled (rs : List Rule) (x : ByteArray) : Int × Int := match rs.find? (Rule.holds x) with | some r => (r.verdict, r.key) | none => (1, 0)
def rulesOf (rs : List Rule) (x : ByteArray) : Int × Int := if rulesOk rs && decide (x.size = 12) then ruled rs x else (-1, 0)
structure Ins where
  (op dst src off imm size : Int)
  deriving DecidableEq
/-- The end of a rule's ops: the key, if it has one; the verdict. -/
def Rule.tail (r : Rule) : List Ins := (if r.verdict = 2 then [⟨1, 1, -1, 0, r.key, 0⟩, ⟨19, 0, -1, 0, 6, 0⟩] else []) ++ [⟨1, 0, -1, 0, r.verdict, 0⟩, ⟨20, 0, -1, 0, 0, 0⟩]
def Rule.prog (r : Rule) : List Ins := [⟨17, 2, 6, r.at_, 0, 1⟩, ⟨r.op, 2, -1, 1, r.num, 0⟩, ⟨16, 0, -1, r.tail.length, 0, 0⟩] ++ r.tail
def rulesProg (rs : List Rule) : List Ins := if rulesOk rs then [⟨1, 6, 1, 0, 0, 0⟩] ++ rs.flatMap Rule.prog ++ [⟨1, 0, -1, 0, 1, 0⟩, ⟨20, 0, -1, 0, 0, 0⟩] else []
theorem Rule.prog_len (r : Rule) : r.prog.length ≤ 7 := by
  simp only [Rule.prog, Rule.tail]
  split <;> simp
/-- A table: of which kind (1: a row; 2: by keys), of how long slots, of how many at most; its keys and its slots. -/
structure Table where
  (kind size most : Int)
  keys : List Int
  slots : List ByteArray
  deriving DecidableEq
def Table.shape (t : Table) : Bool := inB t.kind 1 2 && inB t.size 1 8 && inB t.most 1 8
def Table.lens (t : Table) : Bool := t.slots.length == t.keys.length && decide ((t.keys.length : Int) ≤ t.most) && (t.kind != 1 || (t.keys.length : Int) == t.most)
/-- Slot number i is as it has to be. -/
def Table.okAt (t : Table) (i : Nat) : Bool := match t.keys[i]?, t.slots[i]? with
  | some k, some s => (s.size : Int) == t.size && inB k 0 4294967295 && (t.kind != 1 || k == (i : Int)) && (t.keys.take i).all (· != k)
  | _, _ => false
def Table.ok (t : Table) : Bool := t.shape && t.lens && (List.range t.keys.length).all t.okAt
theorem range_all_succ {p : Nat → Bool} {k : Nat} (h : (List.range k).all p = true) (hp : p k = true) : (List.range (k + 1)).all p = true := by
  rw [List.range_succ, List.all_append, h]
  simp [hp]
theorem range_all_false {p : Nat → Bool} {k n : Nat} (h : k < n) (hp : p k = false) : (List.range n).all p = false := by
  rw [List.all_eq_false]
  exact ⟨k, List.mem_range.2 h, by simp [hp]⟩
/-- The first place of a key that is at place i: i itself if it is not ahead of it. -/
theorem indexOf_at {ks : List Int} {i : Nat} {k : Int} (h : ks[i]? = some k) : decide (indexOf (· == k) ks = (i : Int)) = (ks.take i).all (· != k) := by
  have hlt := (List.getElem?_eq_some_iff.1 h).1
  have hk : ks[i] = k := (List.getElem?_eq_some_iff.1 h).2
  unfold indexOf
  cases hf : ks.findIdx? (· == k) with
  | none =>
    rw [List.findIdx?_eq_none_iff] at hf
    have := hf ks[i] (List.getElem_mem hlt)
    simp [hk] at this
  | some j =>
    obtain ⟨h1, h2, h3⟩ := List.findIdx?_eq_some_iff_getElem.1 hf
    by_cases hji : j = i
    · subst hji
      have : (ks.take j).all (· != k) = true := by
        rw [List.all_eq_true]
        intro x hx
        obtain ⟨m, hm, rfl⟩ := List.mem_take_iff_getElem.1 hx
        have := h3 m (by omega)
        simpa using this
      simp [this]
    · have hlt2 : j < i := by
        rcases Nat.lt_or_ge j i with h' | h'
        · exact h'
        · have := h3 i (by omega)
          simp [hk] at this
      have : (ks.take i).all (· != k) = false := by
        rw [List.all_eq_false]
        exact ⟨ks[j], List.mem_take_iff_getElem.2 ⟨j, by omega, rfl⟩, by simpa using h2⟩
      rw [this]
      simp only [decide_eq_false_iff_not]
      omega
/-- What stands at a key. -/
def Table.look (t : Table) (x : Int) : ByteArray × Bool := if t.ok && decide (0 ≤ indexOf (· == x) t.keys) then (t.slots.getD (indexOf (· == x) t.keys).toNat ⟨#[]⟩, true) else (⟨#[]⟩, false)
theorem indexOf_lt {α : Type} (p : α → Bool) (xs : List α) : indexOf p xs < xs.length := by
  unfold indexOf
  cases h : xs.findIdx? p with
  | none => simp only; omega
  | some i =>
    obtain ⟨h1, _⟩ := List.findIdx?_eq_some_iff_getElem.1 h
    simp only
    omega
theorem Table.ok_lens {t : Table} (h : t.ok = true) : t.slots.length = t.keys.length ∧ (t.keys.length : Int) ≤ 8 ∧ t.keys.length ≤ 8 := by
  unfold Table.ok Table.lens Table.shape inB at h
  simp only [Bool.and_eq_true, beq_iff_eq, decide_eq_true_eq] at h
  omega
end Go.Proofs.Ytoimeebildcofaa
