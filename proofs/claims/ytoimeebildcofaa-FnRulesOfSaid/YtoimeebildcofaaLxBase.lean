/- Plain values and texts, as the walks by roots have them. No condition. -/
import Derived.Test.YtoimeebildcofaaLxAll2
import Derived.Test.YtoimeebildcofaaProg
import Derived.Lib.ItoaNum
namespace Go.Proofs.Ytoimeebildcofaa
open Go.RowKit
set_option linter.unusedSimpArgs false
set_option linter.unusedVariables false
set_option maxRecDepth 100000
def iv (n : Int) : LV := .v (.int .i64 n)
def bv (b : Bool) : LV := .v (.bool b)
theorem tk_int : tk Try.prog 3 = some .i64 := by kernel_rfl
theorem T_int : T Try.prog 3 = some .one := by kernel_rfl
theorem U_int : (Try.prog.underlying 3).isSome = true := by kernel_rfl
/-- A text out of its bytes. -/
def bs (l : List UInt8) : ByteArray := ⟨l.toArray⟩
def tv (l : List UInt8) : LV := .v (.string (bs l))
theorem LXy : (∀ l : List UInt8, ByteArray.mk (List.toArray l) = bs l) ∧ (∀ a b : List UInt8, bs a ++ bs b = bs (a ++ b)) ∧ (∀ l : List UInt8, (bs l).size = l.length) := by
  refine ⟨fun _ => rfl, fun a b => ?_, fun l => ?_⟩
  · apply ByteArray.ext
    simp [bs, ByteArray.data_append]
  · simp [bs, ByteArray.size]
theorem bo_ite {α : Type} (c : Prop) [Decidable c] (a : α) (f : α → Prop) : bo (if c then some a else none) f = (c ∧ f a) := by
  by_cases h : c <;> simp [h, bo]
theorem ex_byte1 (x : Int) (p : List Int → Prop) : (∃ ns : List Int, (Sh.one, [LV.v (.int .u8 x)]) = (Sh.one, ns.map byteLV) ∧ p ns) = p [x] := by
  apply propext
  constructor
  · rintro ⟨ns, e, h⟩
    simp only [Prod.mk.injEq, true_and] at e
    match ns, e with
    | [y], e => simp only [List.map_cons, List.map_nil, List.cons.injEq, and_true, byteLV, LV.v.injEq, Value.int.injEq, true_and] at e; rw [e]; exact h
  · intro h
    exact ⟨[x], rfl, h⟩
theorem str_one (n : Nat) : strOfNums [((48 + n : Nat) : Int)] = bs [UInt8.ofNat (48 + n)] := by
  simp only [strOfNums, bs, List.map_cons, List.map_nil, List.map_toArray, Int.toNat_natCast]
theorem dec_len : ∀ (k n : Nat), n < 10 ^ k → 0 < k → (Lib.decDigits n).length ≤ k
  | 0, _, _, h => by omega
  | k + 1, n, h, _ => by
    rw [Lib.decDigits]
    by_cases h1 : n < 10
    · rw [dif_pos h1]; simp
    · rw [dif_neg h1, List.length_append]
      have hk : 0 < k := by rcases Nat.eq_zero_or_pos k with e | e; · subst e; simp at h; omega
                            · exact e
      have := dec_len k (n / 10) (by rw [Nat.pow_succ] at h; omega) hk
      simp
      exact this
/-- A contract over roots as one over worlds. -/
theorem pf_calls {P : Program} {f : FuncId} {us : List LV} {vs : List Value} {x : EV} {v : Value} (h : PF P f us x) (hu : plainVs us = some vs) (hx : ∀ (ρ : Nat → Value) (N B : Nat) (w : World) (O : Nat → Prop) (v' : Value), EVal ρ N B w O x v' → v' = v) (w : World) :
    Calls P f vs.toArray w fun e w' => e = .returned v ∧ Below w.heap.size w w' := by
  refine (h.2 (fun _ => undef) w vs ⟨(fun y hy => by cases hy), .nil, .nil⟩ (plain_vals hu)).mono fun e w' he => ?_
  cases e with
  | returned v' =>
    obtain ⟨ρ', r, R', ⟨rfl, rfl⟩, hG, hv⟩ := he
    exact ⟨by rw [hx _ _ _ _ _ _ hv], hG.only.os, hG.only.tape, hG.only.output, hG.only.size, fun k hk => hG.only.block k hk (fun ⟨y, hy, _⟩ => by cases hy)⟩
  | panicked ch => obtain ⟨_, _, hq, _⟩ := he; exact hq.elim
  | outgrown => exact he.elim
theorem flatTv : Flat tv (fun l => [Value.string (bs l)]) .one := ⟨fun _ => rfl, fun _ => rfl⟩
end Go.Proofs.Ytoimeebildcofaa
