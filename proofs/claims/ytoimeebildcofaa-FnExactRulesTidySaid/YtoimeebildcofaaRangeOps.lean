/- Ranges met, parted, told to be less: plain data; no Go, no memory. -/
import Derived.Test.YtoimeebildcofaaRangeIval
namespace Go.Proofs.Ytoimeebildcofaa
/-- A range whose ends may lie beside the numbers of 32 bits. -/
structure RI where
  (lo hi : Int) (bits opn : Nat)
def RI.nat (r : RI) : Rg := ⟨r.lo.toNat, r.hi.toNat, r.bits, r.opn⟩
def RI.okB (r : RI) : Bool := decide (0 ≤ r.lo ∧ r.lo ≤ r.hi ∧ r.hi ≤ 4294967295 ∧ r.bits ≤ 4294967295 ∧ r.opn ≤ 4294967295 ∧ r.bits &&& r.opn = 0)
/-- The least number of a range, or -1. -/
def Rg.least (r : Rg) : Int := match next r.lo r.bits r.opn with
  | some x => if x ≤ r.hi then (x : Int) else -1
  | none => -1
def RI.someB (r : RI) : Bool := r.okB && decide (0 ≤ r.nat.least)
def RI.fit (r : RI) : Option Rg := if r.someB then some r.nat.tidy else none
theorem RI.ok_of {r : RI} (h : r.okB = true) : r.nat.Ok := by
  simp only [RI.okB, decide_eq_true_eq] at h
  obtain ⟨h1, h2, h3, h4, h5, h6⟩ := h
  exact ⟨by simp only [RI.nat]; omega, by simp only [RI.nat]; omega, h4, h5, h6⟩
theorem Rg.least_iff {r : Rg} (ok : r.Ok) : 0 ≤ r.least ↔ ∃ n, r.Has n := by
  rw [Rg.some_iff ok]
  unfold Rg.least
  constructor
  · intro h
    split at h
    · rename_i x hx
      split at h
      · exact ⟨x, hx, by assumption⟩
      · omega
    · omega
  · rintro ⟨x, hx, hle⟩
    rw [hx]
    simp only [hle, if_true]
    omega
theorem RI.some_of {r : RI} (h : r.someB = true) : r.nat.Some := by
  simp only [RI.someB, Bool.and_eq_true, decide_eq_true_eq] at h
  exact ⟨RI.ok_of h.1, (Rg.least_iff (RI.ok_of h.1)).1 h.2⟩
theorem RI.fit_ok {r : RI} {x : Rg} (h : r.fit = some x) : x.Ok ∧ x.Some := by
  unfold RI.fit at h
  split at h
  · cases h
    exact Rg.tidy_ok (RI.some_of (by assumption))
  · cases h
def Rg.toI (r : Rg) : RI := ⟨r.lo, r.hi, r.bits, r.opn⟩
def Rg.no : Rg := ⟨1, 0, 0, 0⟩
def Rg.meetI (a b : Rg) : RI := ⟨max (a.lo : Int) b.lo, min (a.hi : Int) b.hi, a.bits ||| b.bits, a.opn &&& b.opn⟩
def Rg.meet (a b : Rg) : Option Rg := if andNot (a.bits ^^^ b.bits) (a.opn ||| b.opn) = 0 then (a.meetI b).fit else none
def Rg.butI (a : Rg) (n : Nat) : RI := ⟨if a.lo = n then (a.lo : Int) + 1 else a.lo, if a.hi = n then (a.hi : Int) - 1 else a.hi, a.bits, a.opn⟩
def Rg.but (a b : Rg) : Option Rg := if b.lo = b.hi then (a.butI b.lo).fit else some a
/-- The first range is less than the second one, by so much at least. -/
def Rg.below (a b : Rg) (d : Int) : Option (Rg × Rg) :=
  match (⟨a.lo, min (a.hi : Int) (b.hi - d), a.bits, a.opn⟩ : RI).fit, (⟨max (b.lo : Int) (a.lo + d), b.hi, b.bits, b.opn⟩ : RI).fit with
  | some x, some y => some (x, y)
  | _, _ => none
def Rg.both (a b : Rg) : Option (Rg × Rg) := match a.but b, b.but a with
  | some x, some y => some (x, y)
  | _, _ => none
def swap2 (o : Option (Rg × Rg)) : Option (Rg × Rg) := o.map fun p => (p.2, p.1)
def Rg.branch (op : Int) (a b : Rg) (is : Bool) : Option (Rg × Rg) :=
  if op = 14 then (if is then a.below b 1 else swap2 (b.below a 0))
  else if op = 15 then (if is then swap2 (b.below a 1) else a.below b 0)
  else if is = decide (op = 12) then (a.meet b).map fun m => (m, m)
  else a.both b
theorem ival_tidy {lo hi : Nat} (h : lo ≤ hi) : (ival lo hi).tidy = ival lo hi := tidy_ival (Nat.le_refl _) h (Nat.le_refl _)
/-- An interval within an interval: there is a number of it just if its ends are in order. -/
theorem fit_ival {lo hi : Nat} {lo' hi' : Int} (h1 : (lo : Int) ≤ lo') (h2 : hi' ≤ hi) (h3 : hi ≤ 4294967295) :
    (⟨lo', hi', (ival lo hi).bits, (ival lo hi).opn⟩ : RI).fit = if lo' ≤ hi' then some (ival lo'.toNat hi'.toNat) else none := by
  by_cases h : lo' ≤ hi'
  · have ok := ival_ok (lo := lo) (hi := hi) (by omega) h3
    have hok : (⟨lo', hi', (ival lo hi).bits, (ival lo hi).opn⟩ : RI).okB = true := by
      simp only [RI.okB, decide_eq_true_eq]
      exact ⟨by omega, h, by omega, ok.bits, ok.opn, ok.disj⟩
    have hs : (⟨lo', hi', (ival lo hi).bits, (ival lo hi).opn⟩ : RI).someB = true := by
      simp only [RI.someB, hok, Bool.true_and, decide_eq_true_eq]
      refine (Rg.least_iff (RI.ok_of hok)).2 ⟨lo'.toNat, ?_⟩
      simp only [RI.nat]
      exact ⟨Nat.le_refl _, by simp only; omega, ival_fits (by omega) (by omega)⟩
    rw [if_pos h, RI.fit, if_pos hs]
    simp only [RI.nat]
    rw [tidy_ival (by omega) (by omega) (by omega)]
  · have hs : (⟨lo', hi', (ival lo hi).bits, (ival lo hi).opn⟩ : RI).someB = false := by
      simp only [RI.someB, RI.okB, Bool.and_eq_false_iff, decide_eq_false_iff_not]
      exact .inl (by omega)
    rw [if_neg h, RI.fit, hs]
    rfl
theorem fits_self {b o n : Nat} (h : Fits b o n) : b ||| (n &&& o) = n := Nat.eq_of_testBit_eq fun j => by
  have := fits_iff.1 h j
  rw [Nat.testBit_or, Nat.testBit_and, ← this]
  cases n.testBit j <;> cases o.testBit j <;> rfl
/-- An interval met with one number: that number, if it is of it. -/
theorem meet_one {lo hi n : Nat} (h : lo ≤ hi) (h3 : hi ≤ 4294967295) {x : Rg} (hx : (ival lo hi).meet (ival n n) = some x) : x = ival n n ∧ lo ≤ n ∧ n ≤ hi := by
  have ok := ival_ok h h3
  unfold Rg.meet at hx
  split at hx
  · rename_i h0
    unfold RI.fit at hx
    split at hx
    · rename_i hs
      have hs' := (Bool.and_eq_true _ _).mp hs
      obtain ⟨h4, h5, h6, -⟩ := of_decide_eq_true hs'.1
      simp only [Rg.meetI] at h4 h5 h6
      have e1 : (ival n n).lo = n := rfl
      have e2 : (ival n n).hi = n := rfl
      have e3 : (ival lo hi).lo = lo := rfl
      have e4 : (ival lo hi).hi = hi := rfl
      rw [e1, e2, e3, e4] at h5
      have h7 : lo ≤ n := by omega
      have h8 : n ≤ hi := by omega
      have hb : (ival lo hi).bits ||| (ival n n).bits = n := by
        have hf := fits_iff.1 (ival_fits (lo := lo) (hi := hi) h7 h8)
        rw [ival_self]
        refine Nat.eq_of_testBit_eq fun j => ?_
        rw [Nat.testBit_or, ← hf j]
        cases n.testBit j <;> cases (ival lo hi).opn.testBit j <;> rfl
      have ho : (ival lo hi).opn &&& (ival n n).opn = 0 := by rw [ival_self]; simp
      have hq : ((ival lo hi).meetI (ival n n)).nat = ival n n := by
        rw [ival_self]
        rw [ival_self] at hb ho
        simp only [Rg.meetI, RI.nat, hb, ho, e3, e4]
        have k1 : (max (lo : Int) n).toNat = n := by omega
        have k2 : (min (hi : Int) n).toNat = n := by omega
        rw [k1, k2]
      cases hx
      rw [hq, ival_tidy (Nat.le_refl _)]
      exact ⟨rfl, h7, h8⟩
    · cases hx
  · cases hx
/-- Where an interval goes on: an interval within it. -/
theorem branch_ival {op : Int} {lo hi n : Nat} (h : lo ≤ hi) (h3 : hi ≤ 4294967295) {is : Bool} {x y : Rg} (hx : (ival lo hi).branch op (ival n n) is = some (x, y)) :
    ∃ lo' hi' : Nat, x = ival lo' hi' ∧ lo' ≤ hi' ∧ hi' ≤ hi := by
  have fitted : ∀ {lo' hi' : Int} {z : Rg}, (lo : Int) ≤ lo' → hi' ≤ hi → (⟨lo', hi', (ival lo hi).bits, (ival lo hi).opn⟩ : RI).fit = some z → ∃ lo' hi' : Nat, z = ival lo' hi' ∧ lo' ≤ hi' ∧ hi' ≤ hi := by
    intro lo' hi' z h1 h2 hz
    rw [fit_ival h1 h2 h3] at hz
    split at hz
    · cases hz
      exact ⟨_, _, rfl, by omega, by omega⟩
    · cases hz
  have bl : ∀ {a b : Rg} {d : Int} {x y : Rg}, a.below b d = some (x, y) → (⟨a.lo, min (a.hi : Int) (b.hi - d), a.bits, a.opn⟩ : RI).fit = some x ∧ (⟨max (b.lo : Int) (a.lo + d), b.hi, b.bits, b.opn⟩ : RI).fit = some y := by
    intro a b d x y hb
    unfold Rg.below at hb
    split at hb
    · simp only [Option.some.injEq, Prod.mk.injEq] at hb
      obtain ⟨rfl, rfl⟩ := hb
      exact ⟨by assumption, by assumption⟩
    · cases hb
  have sw : ∀ {o : Option (Rg × Rg)} {x y : Rg}, swap2 o = some (x, y) → o = some (y, x) := by
    intro o x y ho
    unfold swap2 at ho
    obtain ⟨⟨p, q⟩, rfl, hp⟩ := Option.map_eq_some_iff.1 ho
    simp only [Prod.mk.injEq] at hp
    obtain ⟨rfl, rfl⟩ := hp
    rfl
  have e3 : (ival lo hi).lo = lo := rfl
  have e4 : (ival lo hi).hi = hi := rfl
  unfold Rg.branch at hx
  split at hx
  · split at hx
    · obtain ⟨g1, _⟩ := bl hx
      exact fitted (by rw [e3]; omega) (by rw [e4]; omega) g1
    · obtain ⟨_, g2⟩ := bl (sw hx)
      exact fitted (by rw [e3]; omega) (by rw [e4]; omega) g2
  · split at hx
    · split at hx
      · obtain ⟨_, g2⟩ := bl (sw hx)
        exact fitted (by rw [e3]; omega) (by rw [e4]; omega) g2
      · obtain ⟨g1, _⟩ := bl hx
        exact fitted (by rw [e3]; omega) (by rw [e4]; omega) g1
    · split at hx
      · obtain ⟨m, hm, hp⟩ := Option.map_eq_some_iff.1 hx
        simp only [Prod.mk.injEq] at hp
        obtain ⟨rfl, rfl⟩ := hp
        obtain ⟨rfl, h5, h6⟩ := meet_one h h3 hm
        exact ⟨n, n, rfl, Nat.le_refl _, h6⟩
      · unfold Rg.both at hx
        split at hx
        · rename_i x' y' h5 h6
          simp only [Option.some.injEq, Prod.mk.injEq] at hx
          obtain ⟨rfl, rfl⟩ := hx
          unfold Rg.but at h5
          split at h5
          · exact fitted (by rw [e3]; split <;> omega) (by rw [e4]; split <;> omega) h5
          · cases h5
            exact ⟨lo, hi, rfl, h, Nat.le_refl _⟩
        · cases hx
end Go.Proofs.Ytoimeebildcofaa
