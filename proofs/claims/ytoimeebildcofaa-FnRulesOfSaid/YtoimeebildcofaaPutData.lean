/- The text of rules, as both sides write it. Plain definitions and lemmas. -/
import Derived.Test.YtoimeebildcofaaLxRule
namespace Go.Proofs.Ytoimeebildcofaa
def words : List (List UInt8) := [[], [109, 111, 118], [97, 100, 100], [115, 117, 98], [109, 117, 108], [97, 110, 100], [111, 114], [120, 111, 114], [115, 104, 108], [115, 104, 114], [100, 105, 118], [109, 111, 100], [115, 97, 109, 101], [111, 116, 104, 101, 114], [108, 101, 115, 115], [109, 111, 114, 101], [103, 111], [108, 111, 97, 100], [115, 116, 111, 114, 101], [99, 97, 108, 108], [101, 120, 105, 116]]
def ruleWords : List (List UInt8) := [[100, 114, 111, 112], [107, 101, 101, 112], [115, 101, 110, 100]]
def wordAt (ws : List (List UInt8)) (i : Int) : List UInt8 := ws.getD i.toNat []
theorem word_at {ws : List (List UInt8)} {i : Int} (h0 : 0 ≤ i) (h1 : i < ws.length) : ws[i.toNat]? = some (wordAt ws i) := by
  have h : i.toNat < ws.length := by omega
  simp [wordAt, List.getD, h]
theorem word_len {ws : List (List UInt8)} (k : Nat) (h : ws.all (fun w => decide (w.length ≤ k)) = true) (i : Int) : (wordAt ws i).length ≤ k := by
  unfold wordAt
  rw [List.getD]
  cases e : ws[i.toNat]? with
  | none => simp
  | some w => simpa using List.all_eq_true.1 h w (List.mem_of_getElem? e)
def decI (n : Int) : List UInt8 := Lib.decDigits n.toNat
def Rule.line (r : Rule) : List UInt8 :=
  [98, 121, 116, 101, 32] ++ decI r.at_ ++ [32] ++ wordAt words r.op ++ [32] ++ decI r.num ++ [32] ++ wordAt ruleWords r.verdict ++ (if r.verdict = 2 then [32] ++ decI r.key else []) ++ [10]
theorem decI_len {n : Int} (h : n ≤ 4294967295) : (decI n).length ≤ 20 := dec_len 20 _ (by omega) (by omega)
theorem Rule.line_len {r : Rule} (h : r.ok = true) : r.line.length ≤ 100 := by
  simp only [Rule.ok, inB, Bool.and_eq_true, decide_eq_true_eq] at h
  have h1 : (decI r.at_).length ≤ 20 := decI_len (by omega)
  have h2 : (decI r.num).length ≤ 20 := decI_len (by omega)
  have h3 : (decI r.key).length ≤ 20 := decI_len (by omega)
  have h4 := word_len 5 (ws := words) (by decide) r.op
  have h5 := word_len 4 (ws := ruleWords) (by decide) r.verdict
  unfold Rule.line
  split <;> simp only [List.length_append, List.length_cons, List.length_nil] <;> omega
def putTo (rs : List Rule) (i : Nat) : List UInt8 := (rs.take i).flatMap Rule.line
theorem putTo_succ {rs : List Rule} {i : Nat} {r : Rule} (h : rs[i]? = some r) : putTo rs (i + 1) = putTo rs i ++ r.line := by
  unfold putTo
  rw [List.take_add_one, h]
  simp
theorem putTo_len {rs : List Rule} (h : rs.all Rule.ok = true) : ∀ i, (putTo rs i).length ≤ 100 * i
  | 0 => by simp [putTo]
  | i + 1 => by
    cases e : rs[i]? with
    | none =>
      have : putTo rs (i + 1) = putTo rs i := by unfold putTo; rw [List.take_add_one, e]; simp
      rw [this]
      have := putTo_len h i
      omega
    | some r =>
      rw [putTo_succ e, List.length_append]
      have h1 := putTo_len h i
      have h2 := Rule.line_len (List.all_eq_true.1 h r (List.mem_of_getElem? e))
      omega
def putText (rs : List Rule) : List UInt8 := if rulesOk rs then putTo rs rs.length else []
end Go.Proofs.Ytoimeebildcofaa
