/- The plain data of the program, and what the reference says of them: rules, ops, tables, frames. No Go, no memory. -/
namespace Go.Proofs.Ytdpdclfanlbkjaa
def inB (n low high : Int) : Bool := decide (low ≤ n) && decide (n ≤ high)
structure Rule where
  (at_ op num verdict key : Int)
  deriving DecidableEq
def Rule.ok (r : Rule) : Bool := inB r.at_ 0 11 && inB r.op 12 15 && inB r.num 0 255 && inB r.verdict 0 2 && inB r.key 0 4294967295 && (r.verdict == 2 || r.key == 0)
def rulesOk (rs : List Rule) : Bool := decide (rs.length ≤ 6) && rs.all Rule.ok

theorem any_take_succ {α : Type} {p : α → Bool} {xs : List α} {k : Nat} {x : α} (h : xs[k]? = some x) : (xs.take (k + 1)).any p = ((xs.take k).any p || p x) := by
  have hlt := (List.getElem?_eq_some_iff.1 h).1
  rw [List.take_succ_eq_append_getElem hlt, List.any_append]
  have : xs[k] = x := (List.getElem?_eq_some_iff.1 h).2
  simp [this]
theorem all_take_succ {α : Type} {p : α → Bool} {xs : List α} {k : Nat} {x : α} (h : xs[k]? = some x) : (xs.take (k + 1)).all p = ((xs.take k).all p && p x) := by
  have hlt := (List.getElem?_eq_some_iff.1 h).1
  rw [List.take_succ_eq_append_getElem hlt, List.all_append]
  have : xs[k] = x := (List.getElem?_eq_some_iff.1 h).2
  simp [this]
theorem findIdx_take {α : Type} {p : α → Bool} {xs : List α} {k : Nat} {x : α} (h : xs[k]? = some x) (h0 : (xs.take k).any p = false) (hp : p x = true) : xs.findIdx? p = some k := by
  have hlt := (List.getElem?_eq_some_iff.1 h).1
  have hx : xs[k] = x := (List.getElem?_eq_some_iff.1 h).2
  rw [List.findIdx?_eq_some_iff_getElem]
  refine ⟨hlt, by rw [hx]; exact hp, fun j hj => ?_⟩
  simp only [List.any_eq_false] at h0
  have := h0 xs[j] (by rw [List.mem_take_iff_getElem]; exact ⟨j, by omega, rfl⟩)
  simpa using this
theorem findIdx_none {α : Type} {p : α → Bool} {xs : List α} (h0 : xs.any p = false) : xs.findIdx? p = none := by
  rw [List.findIdx?_eq_none_iff]
  simpa using h0
/-- The place of the first element of which p is true, or -1. -/
def indexOf {α : Type} (p : α → Bool) (xs : List α) : Int := match xs.findIdx? p with | some i => i | none => -1
theorem indexOf_nonneg {α : Type} (p : α → Bool) (xs : List α) : decide (0 ≤ indexOf p xs) = xs.any p := by
  unfold indexOf
  cases h : xs.findIdx? p with
  | none => rw [List.findIdx?_eq_none_iff] at h; symm; simpa using h
  | some i =>
    obtain ⟨h1, h2, _⟩ := List.findIdx?_eq_some_iff_getElem.1 h
    have : xs.any p = true := List.any_eq_true.2 ⟨xs[i], List.getElem_mem h1, h2⟩
    rw [this]
    simp
theorem find_take {α : Type} {p : α → Bool} {xs : List α} {k : Nat} {x : α} (h : xs[k]? = some x) (h0 : (xs.take k).any p = false) (hp : p x = true) : xs.find? p = some x := by
  have hlt := (List.getElem?_eq_some_iff.1 h).1
  have hx : xs[k] = x := (List.getElem?_eq_some_iff.1 h).2
  rw [List.find?_eq_some_iff_getElem]
  refine ⟨hp, k, hlt, hx, fun j hj => ?_⟩
  simp only [List.any_eq_false] at h0
  have := h0 xs[j] (by rw [List.mem_take_iff_getElem]; exact ⟨j, by omega, rfl⟩)
  simpa using this
theorem find_none {α : Type} {p : α → Bool} {xs : List α} (h0 : xs.any p = false) : xs.find? p = none := by
  rw [List.find?_eq_none]
  simpa using h0
def holdsB (op a b : Int) : Bool := if op = 12 then a == b else if op = 13 then a != b else if op = 14 then decide (a < b) else decide (b < a)
def byteAt (x : ByteArray) (i : Int) : Int := ((x.data.getD i.toNat 0).toNat : Int)
theorem byteAt_at {x : ByteArray} {a : Nat} (h : a < x.size) : ((x[a]).toNat : Int) = byteAt x a := by
  have h' : a < x.data.size := h
  simp only [byteAt, Int.toNat_natCast]
  rw [Array.getD_eq_getD_getElem?, Array.getElem?_eq_getElem h']
  rfl
def Rule.holds (x : ByteArray) (r : Rule) : Bool := holdsB r.op (byteAt x r.at_) r.num
/-- What becomes of a frame: the verdict, the key. -/
def ruled (rs : List Rule) (x : ByteArray) : Int × Int := match rs.find? (Rule.holds x) with | some r => (r.verdict, r.key) | none => (1, 0)
def rulesOf (rs : List Rule) (x : ByteArray) : Int × Int := if rulesOk rs && decide (x.size = 12) then ruled rs x else (-1, 0)
structure Ins where
  (op dst src off imm size : Int)
  deriving DecidableEq
/-- The end of a rule's ops: the key, if it has one; the verdict. -/
def Rule.tail (r : Rule) : List Ins := (if r.verdict = 2 then [⟨1, 1, -1, 0, r.key, 0⟩, ⟨19, 0, -1, 0, 6, 0⟩] else []) ++ [⟨1, 0, -1, 0, r.verdict, 0⟩, ⟨20, 0, -1, 0, 0, 0⟩]
def Rule.prog (r : Rule) : List Ins := [⟨17, 2, 6, r.at_, 0, 1⟩, ⟨r.op, 2, -1, 1, r.num, 0⟩, ⟨16, 0, -1, r.tail.length, 0, 0⟩] ++ r.tail
def rulesProg (rs : List Rule) : List Ins := if rulesOk rs then [⟨1, 6, 1, 0, 0, 0⟩] ++ rs.flatMap Rule.prog ++ [⟨1, 0, -1, 0, 1, 0⟩, ⟨20, 0, -1, 0, 0, 0⟩] else []
theorem Rule.prog_len (r : Rule) : r.prog.length ≤ 7 := by
  simp only [Rule.prog, Rule.tail]
  split <;> simp
end Go.Proofs.Ytdpdclfanlbkjaa
