/- The logic of roots, part 1. No condition. -/
import Derived.Test.YtoimeebildcofaaLib
import Derived.Deep.AppendSrc
import Derived.Great.BuildSlice
import Derived.Laws.StructEq
namespace Go.Proofs.Ytoimeebildcofaa
open Go.RowKit
set_option linter.unusedSimpArgs false
set_option linter.unusedVariables false

/-- How many cells a value has, and which parts. -/
inductive Sh where
  | one
  | st (ss : List Sh)
  | arr (n : Nat) (s : Sh)
mutual
def Sh.size : Sh → Nat
  | .one => 1
  | .st ss => Sh.sizes ss
  | .arr n s => n * s.size
def Sh.sizes : List Sh → Nat
  | [] => 0
  | s :: ss => s.size + Sh.sizes ss
end
def Sh.isAgg : Sh → Bool
  | .one => false
  | _ => true
def Sh.kid : Sh → Nat → Option (Nat × Sh)
  | .one, _ => none
  | .st ss, i => ss[i]?.map (fun s => (Sh.sizes (ss.take i), s))
  | .arr _ s, i => some (i * s.size, s)
def Sh.off : Sh → List Nat → Nat
  | _, [] => 0
  | s, i :: p => match s.kid i with | some k => k.1 + k.2.off p | none => 0
def Sh.at_ : Sh → List Nat → Option Sh
  | s, [] => some s
  | s, i :: p => (s.kid i).bind (fun k => k.2.at_ p)

/-- A value: a cell; a struct; an array; a slice that is only read; a pointer to what is only read; a pointer into a root; a root slice's handle; a part of a root's array. -/
inductive LV where
  | v (x : Value)
  | st (ss : List Sh) (ts : List LV)
  | arr (n : Nat) (s : Sh) (xs : List LV)
  | vec (fr : Bool) (s : Sh) (xs : List LV)
  | ip (t : LV)
  | pt (id : Nat) (s : Sh) (p : List Nat)
  | hd (id : Nat)
  | sub (id : Nat) (s : Sh) (p : List Nat) (l n : Nat)
def LV.shape : LV → Sh
  | .st ss _ => .st ss
  | .arr n s _ => .arr n s
  | _ => .one
def LV.kid : LV → Nat → Option LV
  | .st _ ts, i => ts[i]?
  | .arr _ _ xs, i => xs[i]?
  | _, _ => none
def LV.setKid : LV → Nat → LV → LV
  | .st ss ts, i, u => .st ss (ts.set i u)
  | .arr n s xs, i, u => .arr n s (xs.set i u)
  | t, _, _ => t
def LV.get : LV → List Nat → Option LV
  | t, [] => some t
  | t, i :: p => (t.kid i).bind (·.get p)
def LV.put : LV → List Nat → LV → Option LV
  | _, [], u => some u
  | t, i :: p, u => (t.kid i).bind fun k => (k.put p u).map (t.setKid i)
def capOf : Value → Nat
  | .slice _ _ c => c
  | _ => 0
def blkOf : Value → Nat
  | .pointer (some a) => a.block
  | .slice (some a) _ _ => a.block
  | _ => 0
section
variable (ρ : Nat → Value) (N B : Nat) (w : World) (O : Nat → Prop)
mutual
/-- The cells are the value: ρ: the roots' handles; O: the roots' blocks. -/
inductive Con : LV → List Value → Prop
  | v {x : Value} : x.oneCell' = true → Con (.v x) [x]
  | st {ss : List Sh} {ts : List LV} {cs : List Value} : Cons ss ts cs → Con (.st ss ts) cs
  | arr {n : Nat} {s : Sh} {xs : List LV} {cs : List Value} : Cons (List.replicate n s) xs cs → Con (.arr n s xs) cs
  | nil {f : Bool} {s : Sh} {A : Option Addr} {c : Nat} : Con (.vec f s []) [.slice A 0 c]
  | vec {f : Bool} {s : Sh} {xs : List LV} {b off cap : Nat} {cur : Array Value} {e : TypeId} {fr : Nat × Nat} : xs.length ≤ cap → cap ≤ 9223372036854775807 → ¬ O b → (f = true → B ≤ b) → w.heap[b]? = some (.cells cur e fr) →
      Cons (List.replicate xs.length s) xs ((cur.toList.drop off).take (xs.length * s.size)) → Con (.vec f s xs) [.slice (some ⟨b, off, none⟩) xs.length cap]
  | ip {t : LV} {b off : Nat} {cur : Array Value} {e : TypeId} {fr : Nat × Nat} : ¬ O b → w.heap[b]? = some (.cells cur e fr) → Con t ((cur.toList.drop off).take t.shape.size) → Con (.ip t) [.pointer (some ⟨b, off, none⟩)]
  | pt {id : Nat} {s : Sh} {p : List Nat} : id < N → Con (.pt id s p) [.pointer (some ⟨blkOf (ρ id), s.off p, none⟩)]
  | hd {id : Nat} : id < N → (ρ id).oneCell' = true → Con (.hd id) [ρ id]
  | sub0 {id : Nat} {s : Sh} {p : List Nat} {l : Nat} {A : Option Addr} : id < N → Con (.sub id s p l 0) [.slice A 0 0]
  | sub {id : Nat} {s : Sh} {p : List Nat} {l n cap : Nat} : id < N → n ≤ cap → cap ≤ 9223372036854775807 → (p = [] → l + cap ≤ capOf (ρ id)) → Con (.sub id s p l n) [.slice (some ⟨blkOf (ρ id), s.off (p ++ [l]), none⟩) n cap]
inductive Cons : List Sh → List LV → List Value → Prop
  | nil : Cons [] [] []
  | cons {s : Sh} {ss : List Sh} {t : LV} {ts : List LV} {c cs : List Value} : Con t c → t.shape = s → Cons ss ts cs → Cons (s :: ss) (t :: ts) (c ++ cs)
end
end
variable {ρ ρ' : Nat → Value} {N N' B : Nat} {w w' : World} {O O' : Nat → Prop}

theorem Sh.sizes_append : ∀ (a b : List Sh), Sh.sizes (a ++ b) = Sh.sizes a + Sh.sizes b
  | [], b => by simp [Sh.sizes]
  | s :: a, b => by simp only [List.cons_append, Sh.sizes, Sh.sizes_append a b]; omega
theorem Sh.sizes_replicate (s : Sh) : ∀ n, Sh.sizes (List.replicate n s) = n * s.size
  | 0 => by simp [Sh.sizes]
  | n + 1 => by rw [List.replicate_succ, Sh.sizes, Sh.sizes_replicate s n, Nat.succ_mul]; omega
mutual
theorem Con.len : ∀ {t : LV} {c : List Value}, Con ρ N B w O t c → c.length = t.shape.size
  | _, _, .v _ => rfl
  | _, _, .st h => by simpa [LV.shape, Sh.size] using h.len
  | _, _, .arr h => by rw [h.len, Sh.sizes_replicate]; rfl
  | _, _, .nil => rfl
  | _, _, .vec _ _ _ _ _ _ => rfl
  | _, _, .ip _ _ _ => rfl
  | _, _, .pt _ => rfl
  | _, _, .hd _ _ => rfl
  | _, _, .sub0 _ => rfl
  | _, _, .sub _ _ _ _ => rfl
theorem Cons.len : ∀ {ss : List Sh} {ts : List LV} {cs : List Value}, Cons ρ N B w O ss ts cs → cs.length = Sh.sizes ss
  | _, _, _, .nil => rfl
  | _, _, _, .cons h e hs => by rw [List.length_append, h.len, hs.len, e]; rfl
end
theorem Cons.num : ∀ {ss : List Sh} {ts : List LV} {cs : List Value}, Cons ρ N B w O ss ts cs → ts.length = ss.length
  | _, _, _, .nil => rfl
  | _, _, _, .cons _ _ hs => by simp [hs.num]
mutual
theorem Con.mono (hρ : ∀ i, i < N → ρ' i = ρ i) (hN : N ≤ N') (hw : ∀ b o, ¬ O b → w.heap[b]? = some o → w'.heap[b]? = some o ∧ ¬ O' b) : ∀ {t : LV} {c : List Value}, Con ρ N B w O t c → Con ρ' N' B w' O' t c
  | _, _, .v h => .v h
  | _, _, .st h => .st (h.mono hρ hN hw)
  | _, _, .arr h => .arr (h.mono hρ hN hw)
  | _, _, .nil => .nil
  | _, _, .vec h1 h2 h3 h6 h4 h5 => .vec h1 h2 (hw _ _ h3 h4).2 h6 (hw _ _ h3 h4).1 (h5.mono hρ hN hw)
  | _, _, .ip h1 h2 h3 => .ip (hw _ _ h1 h2).2 (hw _ _ h1 h2).1 (h3.mono hρ hN hw)
  | _, _, .pt h => hρ _ h ▸ .pt (Nat.lt_of_lt_of_le h hN)
  | _, _, .hd h h' => hρ _ h ▸ .hd (Nat.lt_of_lt_of_le h hN) ((hρ _ h).symm ▸ h')
  | _, _, .sub0 h => .sub0 (Nat.lt_of_lt_of_le h hN)
  | _, _, .sub h h1 h2 h3 => by rw [← hρ _ h] at *; exact .sub (Nat.lt_of_lt_of_le h hN) h1 h2 h3
theorem Cons.mono (hρ : ∀ i, i < N → ρ' i = ρ i) (hN : N ≤ N') (hw : ∀ b o, ¬ O b → w.heap[b]? = some o → w'.heap[b]? = some o ∧ ¬ O' b) : ∀ {ss : List Sh} {ts : List LV} {cs : List Value}, Cons ρ N B w O ss ts cs → Cons ρ' N' B w' O' ss ts cs
  | _, _, _, .nil => .nil
  | _, _, _, .cons h e hs => .cons (h.mono hρ hN hw) e (hs.mono hρ hN hw)
end
/-- The i-th part, and what its change makes of the whole. -/
theorem Cons.at_ : ∀ {ss : List Sh} {ts : List LV} {cs : List Value}, Cons ρ N B w O ss ts cs → ∀ {i : Nat} {u : LV}, ts[i]? = some u →
    ss[i]? = some u.shape ∧ Con ρ N B w O u ((cs.drop (Sh.sizes (ss.take i))).take u.shape.size) ∧ Sh.sizes (ss.take i) + u.shape.size ≤ cs.length ∧
    ∀ u' cu, u'.shape = u.shape → Con ρ N B w O u' cu → Cons ρ N B w O ss (ts.set i u') (cs.take (Sh.sizes (ss.take i)) ++ cu ++ cs.drop (Sh.sizes (ss.take i) + u.shape.size))
  | _, _, _, .nil, i, u, hu => by simp at hu
  | _, _, _, .cons (s := s) (ss := ss) (t := t) (ts := ts) (c := c) (cs := cs) h e hs, 0, u, hu => by
    simp only [List.getElem?_cons_zero, Option.some.injEq] at hu
    subst hu
    subst e
    have hl := h.len
    refine ⟨rfl, ?_, ?_, fun u' cu hu' hcu => ?_⟩
    · simp only [List.take_zero, Sh.sizes, List.drop_zero, ← hl, List.take_left]
      exact h
    · simp only [List.take_zero, Sh.sizes, List.length_append]
      omega
    · simp only [List.take_zero, Sh.sizes, List.nil_append, Nat.zero_add, ← hl, List.drop_left, List.set_cons_zero]
      exact .cons hcu hu' hs
  | _, _, _, .cons (s := s) (ss := ss) (t := t) (ts := ts) (c := c) (cs := cs) h e hs, i + 1, u, hu => by
    simp only [List.getElem?_cons_succ] at hu
    obtain ⟨h1, h2, h3, h4⟩ := hs.at_ hu
    have hl := h.len
    subst e
    have hd : ∀ k, (c ++ cs).drop (t.shape.size + k) = cs.drop k := fun k => by rw [← hl, List.drop_append]; simp
    refine ⟨by simpa using h1, ?_, ?_, fun u' cu hu' hcu => ?_⟩
    · simp only [List.take_succ_cons, Sh.sizes, hd]
      exact h2
    · simp only [List.take_succ_cons, Sh.sizes, List.length_append]
      omega
    · simp only [List.take_succ_cons, Sh.sizes, Nat.add_assoc, hd, List.set_cons_succ]
      have := h4 u' cu hu' hcu
      have ht : (c ++ cs).take (t.shape.size + Sh.sizes (ss.take i)) = c ++ cs.take (Sh.sizes (ss.take i)) := by rw [← hl, List.take_append, List.take_of_length_le (by omega), Nat.add_sub_cancel_left]
      rw [ht, List.append_assoc, List.append_assoc, ← List.append_assoc (cs.take _)]
      exact .cons h rfl this
theorem take_replicate_sizes (s : Sh) {i n : Nat} (h : i ≤ n) : Sh.sizes ((List.replicate n s).take i) = i * s.size := by
  rw [List.take_replicate, Nat.min_eq_left h, Sh.sizes_replicate]
/-- A part of a value. -/
theorem Con.kid {t u : LV} {c : List Value} {i : Nat} (h : Con ρ N B w O t c) (hu : t.kid i = some u) :
    ∃ o, t.shape.kid i = some (o, u.shape) ∧ Con ρ N B w O u ((c.drop o).take u.shape.size) ∧ o + u.shape.size ≤ c.length ∧
    ∀ u' cu, u'.shape = u.shape → Con ρ N B w O u' cu → Con ρ N B w O (t.setKid i u') (c.take o ++ cu ++ c.drop (o + u.shape.size)) ∧ (t.setKid i u').shape = t.shape := by
  cases h <;> simp only [LV.kid] at hu <;> try (cases hu; done)
  case st ss ts hs =>
    obtain ⟨h1, h2, h3, h4⟩ := hs.at_ hu
    exact ⟨_, by simp [LV.shape, Sh.kid, h1], h2, h3, fun u' cu e hc => ⟨.st (h4 u' cu e hc), rfl⟩⟩
  case arr n s xs hs =>
    obtain ⟨h1, h2, h3, h4⟩ := hs.at_ hu
    have hi : i < n := by have := (List.getElem?_eq_some_iff.1 h1).1; simpa using this
    have hs' : s = u.shape := by simpa [List.getElem?_replicate, hi] using h1
    rw [take_replicate_sizes s (Nat.le_of_lt hi)] at h2 h3 h4
    refine ⟨i * s.size, by simp [LV.shape, Sh.kid, hs'], h2, h3, fun u' cu e hc => ⟨.arr (h4 u' cu e hc), rfl⟩⟩
theorem Con.get : ∀ {p : List Nat} {t u : LV} {c : List Value}, Con ρ N B w O t c → t.get p = some u →
    t.shape.at_ p = some u.shape ∧ Con ρ N B w O u ((c.drop (t.shape.off p)).take u.shape.size) ∧ t.shape.off p + u.shape.size ≤ c.length
  | [], t, u, c, h, hu => by
    simp only [LV.get, Option.some.injEq] at hu
    subst hu
    have hl := h.len
    refine ⟨rfl, ?_, by simp [Sh.off, hl]⟩
    simp only [Sh.off, List.drop_zero, ← hl, List.take_length]
    exact h
  | i :: p, t, u, c, h, hu => by
    simp only [LV.get, Option.bind_eq_some_iff] at hu
    obtain ⟨k, hk, hu⟩ := hu
    obtain ⟨o, h1, h2, h3, _⟩ := h.kid hk
    obtain ⟨g1, g2, g3⟩ := h2.get hu
    have hkl := h2.len
    refine ⟨by simp [Sh.at_, h1, g1], ?_, ?_⟩
    · simp only [Sh.off, h1]
      rw [List.drop_take, List.take_take, List.drop_drop] at g2
      rw [List.length_take, List.length_drop] at g3
      rwa [Nat.min_eq_left (by omega)] at g2
    · simp only [Sh.off, h1]
      rw [List.length_take, List.length_drop] at g3
      omega
theorem Con.put : ∀ {p : List Nat} {t t' u u' : LV} {c cu : List Value}, Con ρ N B w O t c → t.get p = some u → t.put p u' = some t' → u'.shape = u.shape → Con ρ N B w O u' cu →
    t'.shape = t.shape ∧ Con ρ N B w O t' (c.take (t.shape.off p) ++ cu ++ c.drop (t.shape.off p + u.shape.size))
  | [], t, t', u, u', c, cu, h, hu, ht, e, hc => by
    simp only [LV.get, Option.some.injEq] at hu
    simp only [LV.put, Option.some.injEq] at ht
    subst hu
    subst ht
    have hl := h.len
    refine ⟨e, ?_⟩
    simp only [Sh.off, List.take_zero, List.nil_append, Nat.zero_add, ← hl, List.drop_length, List.append_nil]
    exact hc
  | i :: p, t, t', u, u', c, cu, h, hu, ht, e, hc => by
    simp only [LV.get, Option.bind_eq_some_iff] at hu
    obtain ⟨k, hk, hu⟩ := hu
    simp only [LV.put, hk, Option.bind_some, Option.map_eq_some_iff] at ht
    obtain ⟨k', hk', rfl⟩ := ht
    obtain ⟨o, h1, h2, h3, h4⟩ := h.kid hk
    obtain ⟨g1, g2⟩ := h2.put hu hk' e hc
    obtain ⟨_, _, g3⟩ := h2.get hu
    have hkl := h2.len
    obtain ⟨f1, f2⟩ := h4 _ _ g1 g2
    refine ⟨f2, ?_⟩
    simp only [Sh.off, h1]
    rw [List.length_take, List.length_drop] at g3
    have e1 : c.take o ++ (((c.drop o).take k.shape.size).take (k.shape.off p) ++ cu ++ ((c.drop o).take k.shape.size).drop (k.shape.off p + u.shape.size)) ++ c.drop (o + k.shape.size) = c.take (o + k.shape.off p) ++ cu ++ c.drop (o + k.shape.off p + u.shape.size) := by
      rw [List.take_take, Nat.min_eq_left (by omega), List.take_add, List.drop_take, List.drop_drop]
      simp only [List.append_assoc]
      congr 3
      have : c.drop (o + k.shape.size) = (c.drop (o + (k.shape.off p + u.shape.size))).drop (k.shape.size - (k.shape.off p + u.shape.size)) := by rw [List.drop_drop]; congr 1; omega
      rw [this, List.take_append_drop]
      congr 1
      omega
    rw [← e1]
    exact f1
end Go.Proofs.Ytoimeebildcofaa
namespace Go.Proofs.Ytoimeebildcofaa
open Go.RowKit
set_option linter.unusedSimpArgs false
set_option linter.unusedVariables false

/-- A variable; a slice's elements. -/
inductive Root where
  | box (t : LV)
  | row (s : Sh) (xs : List LV)
def Root.tree : Root → LV
  | .box t => t
  | .row s xs => .arr xs.length s xs
def Root.sh : Root → Sh
  | .box t => t.shape
  | .row s _ => .arr 0 s
def Root.with_ : Root → LV → Root
  | .box _, t => .box t
  | .row s _, .arr _ _ xs => .row s xs
  | r, _ => r
theorem Root.off_eq (r : Root) (p : List Nat) : r.tree.shape.off p = r.sh.off p := by
  cases r with
  | box t => rfl
  | row s xs => cases p <;> rfl
def owns : Value → Nat → Prop
  | .pointer (some a), b => a.block = b
  | .slice (some a) _ cap, b => a.block = b ∧ 0 < cap
  | _, _ => False
abbrev Roots := List (Nat × Root)
def Mine (ρ : Nat → Value) (R : Roots) (b : Nat) : Prop := ∃ x ∈ R, owns (ρ x.1) b
def Root.handle (b : Nat) : Root → Value → Prop
  | .box _, h => h = .pointer (some ⟨b, 0, none⟩)
  | .row _ xs, h => ∃ cap, h = .slice (some ⟨b, 0, none⟩) xs.length cap ∧ xs.length ≤ cap ∧ 0 < cap ∧ cap ≤ 9223372036854775807
def Root.room : Root → Value → Nat → Prop
  | .row s _, .slice _ _ cap, n => cap * s.size ≤ n
  | _, _, _ => True
/-- What is where a root is. -/
def Root.Ok (ρ : Nat → Value) (N B : Nat) (w : World) (O : Nat → Prop) (h : Value) (r : Root) : Prop :=
  (∃ s A, r = .row s [] ∧ h = .slice A 0 0) ∨
  ∃ b cur e, w.heap[b]? = some (.cells cur e (0, 0)) ∧ Con ρ N B w O r.tree (cur.toList.take r.tree.shape.size) ∧ r.handle b h ∧ r.room h cur.size
variable {ρ ρ' : Nat → Value} {N N' B : Nat} {w w' : World} {O O' : Nat → Prop} {R : Roots}
theorem Root.handle_owns {b : Nat} {r : Root} {h : Value} (hh : r.handle b h) : owns h b ∧ ∀ b', owns h b' → b' = b := by
  cases r with
  | box t => subst hh; exact ⟨rfl, fun b' e => e.symm⟩
  | row s xs => obtain ⟨cap, rfl, _, h0, _⟩ := hh; exact ⟨⟨rfl, h0⟩, fun b' e => e.1.symm⟩
theorem Root.handle_blk {b : Nat} {r : Root} {h : Value} (hh : r.handle b h) : blkOf h = b := by
  cases r with
  | box t => subst hh; rfl
  | row s xs => obtain ⟨cap, rfl, _, h0, _⟩ := hh; rfl
theorem Root.Ok.owns_lt {r : Root} {h : Value} (hr : r.Ok ρ N B w O h) {b : Nat} (hb : owns h b) : b < w.heap.size := by
  rcases hr with ⟨s, A, rfl, rfl⟩ | ⟨b', cur, e, h1, _, h3, _⟩
  · cases A <;> simp [owns] at hb
  · rw [(Root.handle_owns h3).2 b hb]
    exact (Array.getElem?_eq_some_iff.1 h1).1
theorem Root.Ok.mono {r : Root} {h : Value} (hr : r.Ok ρ N B w O h) (hρ : ∀ i, i < N → ρ' i = ρ i) (hN : N ≤ N') (hw : ∀ b o, ¬ O b → w.heap[b]? = some o → w'.heap[b]? = some o ∧ ¬ O' b)
    (hb : ∀ b, owns h b → w'.heap[b]? = w.heap[b]?) : r.Ok ρ' N' B w' O' h := by
  rcases hr with h1 | ⟨b, cur, e, h1, h2, h3, h4⟩
  · exact .inl h1
  · exact .inr ⟨b, cur, e, (hb b (Root.handle_owns h3).1).trans h1, h2.mono hρ hN hw, h3, h4⟩
structure SatR (ρ : Nat → Value) (N B : Nat) (w : World) (R : Roots) : Prop where
  ok : ∀ x ∈ R, x.1 < N ∧ x.2.Ok ρ N B w (Mine ρ R) (ρ x.1)
  apart : R.Pairwise fun x y => ∀ b, owns (ρ x.1) b → ¬ owns (ρ y.1) b
  ids : (R.map (·.1)).Nodup
theorem pairwise_of {P : Nat → Nat → Prop} (hs : ∀ i j, P i j → P j i) : ∀ {R : Roots}, (R.Pairwise fun x y => P x.1 y.1) → ∀ {x y : Nat × Root}, x ∈ R → y ∈ R → x.1 ≠ y.1 → P x.1 y.1
  | [], _, x, y, hx, _, _ => by cases hx
  | z :: R, h, x, y, hx, hy, hne => by
    obtain ⟨h1, h2⟩ := List.pairwise_cons.1 h
    rcases List.mem_cons.1 hx with ex | hx
    · rcases List.mem_cons.1 hy with ey | hy
      · exact absurd (by rw [ex, ey]) hne
      · rw [ex]; exact h1 y hy
    · rcases List.mem_cons.1 hy with ey | hy
      · rw [ey]; exact hs _ _ (h1 x hx)
      · exact pairwise_of hs h2 hx hy hne
def pack (s : Sh) (c : List Value) : Value := if s.isAgg then .agg c.toArray else c.headD undef
/-- A value in a slot. -/
def Val (ρ : Nat → Value) (N B : Nat) (w : World) (O : Nat → Prop) (t : LV) (v : Value) : Prop := ∃ c, Con ρ N B w O t c ∧ v = pack t.shape c
/-- What a slot has: a value, or several (the results of a call). -/
inductive EV where
  | one (t : LV)
  | tup (ts : List LV)
  | un
  | fx (L : List (Nat × Obj)) (t : LV)
inductive Vals (ρ : Nat → Value) (N B : Nat) (w : World) (O : Nat → Prop) : List LV → List Value → Prop
  | nil : Vals ρ N B w O [] []
  | cons {t : LV} {ts : List LV} {v : Value} {vs : List Value} : Val ρ N B w O t v → Vals ρ N B w O ts vs → Vals ρ N B w O (t :: ts) (v :: vs)
def EVal (ρ : Nat → Value) (N B : Nat) (w : World) (O : Nat → Prop) : EV → Value → Prop
  | .one t, v => Val ρ N B w O t v
  | .tup ts, v => ∃ vs, Vals ρ N B w O ts vs ∧ v = .tuple vs.toArray
  | .un, v => v = undef
  | .fx L t, v => Val ρ N B w O t v ∧ ∀ p, p ∈ L → ¬ O p.1 ∧ w.heap[p.1]? = some p.2
abbrev Env := List (Nat × EV)
def lk : Env → Nat → Option EV
  | [], _ => none
  | (k, v) :: e, t => if t = k then some v else lk e t
structure St where
  env : Env
  roots : Roots
  next : Nat
  sz : Nat
  ds : List Deferred
structure Ctx where
  w0 : World
  O0 : Nat → Prop
  ρ0 : Nat → Value
  N0 : Nat
def Ctx.bb (c : Ctx) : Nat := c.w0.heap.size
structure Sat (c : Ctx) (ρ : Nat → Value) (s : St) (a : Act) (w : World) : Prop where
  rs : SatR ρ s.next c.bb w s.roots
  env : ∀ t x, lk s.env t = some x → ∃ v, EVal ρ s.next c.bb w (Mine ρ s.roots) x v ∧ a.tmps[t]? = some v
  size : a.tmps.size = s.sz
  only : Only c.O0 c.w0 w
  mine : ∀ b, Mine ρ s.roots b → c.O0 b ∨ c.w0.heap.size ≤ b
  old : ∀ i, i < c.N0 → ρ i = c.ρ0 i
  n0 : c.N0 ≤ s.next
  defs : a.defers = s.ds
theorem Val.mono {t : LV} {v : Value} (h : Val ρ N B w O t v) (hρ : ∀ i, i < N → ρ' i = ρ i) (hN : N ≤ N') (hw : ∀ b o, ¬ O b → w.heap[b]? = some o → w'.heap[b]? = some o ∧ ¬ O' b) : Val ρ' N' B w' O' t v := by
  obtain ⟨c, h1, h2⟩ := h
  exact ⟨c, h1.mono hρ hN hw, h2⟩
theorem Vals.mono (hρ : ∀ i, i < N → ρ' i = ρ i) (hN : N ≤ N') (hw : ∀ b o, ¬ O b → w.heap[b]? = some o → w'.heap[b]? = some o ∧ ¬ O' b) : ∀ {ts : List LV} {vs : List Value}, Vals ρ N B w O ts vs → Vals ρ' N' B w' O' ts vs
  | _, _, .nil => .nil
  | _, _, .cons h hs => .cons (h.mono hρ hN hw) (hs.mono hρ hN hw)
theorem EVal.mono {t : EV} {v : Value} (h : EVal ρ N B w O t v) (hρ : ∀ i, i < N → ρ' i = ρ i) (hN : N ≤ N') (hw : ∀ b o, ¬ O b → w.heap[b]? = some o → w'.heap[b]? = some o ∧ ¬ O' b) : EVal ρ' N' B w' O' t v := by
  cases t with
  | one t => exact Val.mono h hρ hN hw
  | tup ts => obtain ⟨vs, h1, h2⟩ := h; exact ⟨vs, h1.mono hρ hN hw, h2⟩
  | un => exact h
  | fx L t => exact ⟨Val.mono h.1 hρ hN hw, fun p hp => let h2 := hw p.1 p.2 (h.2 p hp).1 (h.2 p hp).2; ⟨h2.2, h2.1⟩⟩
theorem Vals.get : ∀ {ts : List LV} {vs : List Value}, Vals ρ N B w O ts vs → ∀ {i : Nat} {t : LV}, ts[i]? = some t → ∃ v, vs[i]? = some v ∧ Val ρ N B w O t v
  | _, _, .nil, i, t, h => by simp at h
  | _, _, .cons h hs, 0, t, e => by simp only [List.getElem?_cons_zero, Option.some.injEq] at e; subst e; exact ⟨_, rfl, h⟩
  | _, _, .cons h hs, i + 1, t, e => by simp only [List.getElem?_cons_succ] at e ⊢; exact hs.get e

def St.set (s : St) (d : Option Tmp) (x : EV) : St := match d with | some d => { s with env := (d, x) :: s.env } | none => s
/-- There is such a slot. -/
def St.fit (s : St) (d : Option Tmp) : Prop := match d with | some d => d < s.sz | none => True
theorem act_put_get {a : Act} {d : Nat} {v : Value} {t : Nat} (h : d < a.tmps.size) : (a.put (some d) v).tmps[t]? = if t = d then some v else a.tmps[t]? := by
  simp only [Act.put, Array.getElem?_setIfInBounds]
  by_cases e : t = d
  · subst e; simp [h]
  · have e' : ¬ d = t := fun x => e x.symm
    simp [e, e']
theorem act_put_size {a : Act} {d : Option Tmp} {v : Value} : (a.put d v).tmps.size = a.tmps.size := by cases d <;> simp [Act.put]
theorem act_put_defers {a : Act} {d : Option Tmp} {v : Value} : (a.put d v).defers = a.defers := by cases d <;> rfl
variable {c : Ctx} {s : St} {a : Act}
/-- A value comes into a slot. -/
theorem Sat.put (h : Sat c ρ s a w) {d : Option Tmp} {x : EV} {v : Value} (hd : s.fit d) (hv : EVal ρ s.next c.bb w (Mine ρ s.roots) x v) : Sat c ρ (s.set d x) (a.put d v) w := by
  cases d with
  | none => exact h
  | some d =>
    have hlt : d < a.tmps.size := by rw [h.size]; exact hd
    refine ⟨h.rs, fun t y hy => ?_, by rw [act_put_size]; exact h.size, h.only, h.mine, h.old, h.n0, by rw [act_put_defers]; exact h.defs⟩
    rw [act_put_get hlt]
    simp only [St.set, lk] at hy
    split at hy
    · rename_i e
      simp only [Option.some.injEq] at hy
      subst hy
      exact ⟨v, hv, by rw [if_pos e]⟩
    · rename_i e
      obtain ⟨u, h1, h2⟩ := h.env t y hy
      exact ⟨u, h1, by rw [if_neg e]; exact h2⟩
/-- A slot is written of which no more is asked. -/
theorem lk_filter {e : Env} {d t : Nat} {x : EV} (h : lk (e.filter (fun y => y.1 != d)) t = some x) : t ≠ d ∧ lk e t = some x := by
  induction e with
  | nil => simp [lk] at h
  | cons y e ih =>
    obtain ⟨k, y⟩ := y
    by_cases hk : k = d
    · subst hk
      simp only [List.filter_cons, bne_self_eq_false, Bool.false_eq_true, if_false] at h
      obtain ⟨h1, h2⟩ := ih h
      exact ⟨h1, by simp [lk, h1, h2]⟩
    · have : (k != d) = true := by simpa using hk
      simp only [List.filter_cons, this, if_true, lk] at h
      split at h
      · rename_i e'
        exact ⟨by omega, by simp only [lk]; rw [if_pos e']; exact h⟩
      · rename_i e'
        obtain ⟨h1, h2⟩ := ih h
        exact ⟨h1, by simp only [lk]; rw [if_neg e']; exact h2⟩
theorem Sat.less (h : Sat c ρ s a w) {e : Env} (he : ∀ t x, lk e t = some x → lk s.env t = some x) : Sat c ρ { s with env := e } a w :=
  ⟨h.rs, fun t x hx => h.env t x (he t x hx), h.size, h.only, h.mine, h.old, h.n0, h.defs⟩

/-- Update of the handles. -/
def upd (ρ : Nat → Value) (n : Nat) (h : Value) : Nat → Value := fun i => if i = n then h else ρ i
theorem upd_lt {ρ : Nat → Value} {n i : Nat} {h : Value} (hi : i < n) : upd ρ n h i = ρ i := if_neg (by omega)
theorem upd_self {ρ : Nat → Value} {n : Nat} {h : Value} : upd ρ n h n = h := if_pos rfl
theorem mine_cons {x : Nat × Root} {b : Nat} : Mine ρ (x :: R) b ↔ owns (ρ x.1) b ∨ Mine ρ R b := by
  simp [Mine]
theorem mine_upd {n : Nat} {h : Value} (hR : ∀ x ∈ R, x.1 < n) {b : Nat} : Mine (upd ρ n h) R b ↔ Mine ρ R b := by
  constructor <;> rintro ⟨x, hx, e⟩ <;> refine ⟨x, hx, ?_⟩
  · rwa [upd_lt (hR x hx)] at e
  · rwa [upd_lt (hR x hx)]
theorem SatR.lt (h : SatR ρ N B w R) {b : Nat} (hb : Mine ρ R b) : b < w.heap.size := by
  obtain ⟨x, hx, e⟩ := hb
  exact (h.ok x hx).2.owns_lt e
/-- A new root: its block, if it has one, is new in w'; all that was is as it was. -/
theorem Sat.grow (h : Sat c ρ s a w) {hv : Value} {r : Root} (hO : ∀ b, owns hv b → w.heap.size ≤ b) (hw : Only (fun _ => False) w w')
    (hr : r.Ok (upd ρ s.next hv) (s.next + 1) c.bb w' (Mine (upd ρ s.next hv) ((s.next, r) :: s.roots)) hv) :
    Sat c (upd ρ s.next hv) { s with roots := (s.next, r) :: s.roots, next := s.next + 1 } a w' ∧
    ∀ t v, EVal ρ s.next c.bb w (Mine ρ s.roots) t v → EVal (upd ρ s.next hv) (s.next + 1) c.bb w' (Mine (upd ρ s.next hv) ((s.next, r) :: s.roots)) t v := by
  have hlt : ∀ x ∈ s.roots, x.1 < s.next := fun x hx => (h.rs.ok x hx).1
  have hM : ∀ b, Mine (upd ρ s.next hv) ((s.next, r) :: s.roots) b ↔ owns hv b ∨ Mine ρ s.roots b := fun b => by
    rw [mine_cons, mine_upd hlt, upd_self]
  have hkeep : ∀ b o, ¬ Mine ρ s.roots b → w.heap[b]? = some o → w'.heap[b]? = some o ∧ ¬ Mine (upd ρ s.next hv) ((s.next, r) :: s.roots) b := fun b o hn hb => by
    have hl := (Array.getElem?_eq_some_iff.1 hb).1
    refine ⟨(hw.block b hl id).trans hb, fun hm => ?_⟩
    rcases (hM b).1 hm with h1 | h1
    · have := hO b h1; omega
    · exact hn h1
  have hρ : ∀ i, i < s.next → upd ρ s.next hv i = ρ i := fun i hi => upd_lt hi
  have hE : ∀ t v, EVal ρ s.next c.bb w (Mine ρ s.roots) t v → EVal (upd ρ s.next hv) (s.next + 1) c.bb w' (Mine (upd ρ s.next hv) ((s.next, r) :: s.roots)) t v := fun t v he => he.mono hρ (Nat.le_succ _) hkeep
  refine ⟨⟨⟨fun x hx => ?_, ?_, ?_⟩, fun t x hx => ?_, h.size, h.only.trans (hw.mono (fun _ _ hf => hf.elim)), fun b hb => ?_, fun i hi => ?_, Nat.le_succ_of_le h.n0, h.defs⟩, hE⟩
  · rcases List.mem_cons.1 hx with rfl | hx
    · exact ⟨Nat.lt_succ_self _, by rw [upd_self]; exact hr⟩
    · obtain ⟨h1, h2⟩ := h.rs.ok x hx
      refine ⟨Nat.lt_succ_of_lt h1, ?_⟩
      rw [upd_lt h1]
      exact h2.mono hρ (Nat.le_succ _) hkeep (fun b hb => hw.block b (h2.owns_lt hb) id)
  · refine List.pairwise_cons.2 ⟨fun y hy b hb => ?_, ?_⟩
    · rw [upd_self] at hb
      obtain ⟨h1, h2⟩ := h.rs.ok y hy
      rw [upd_lt h1]
      intro hb'
      have := h2.owns_lt hb'
      have := hO b hb
      omega
    · refine List.Pairwise.imp_of_mem ?_ h.rs.apart
      intro x y hx hy hxy
      rw [upd_lt (hlt x hx), upd_lt (hlt y hy)]
      exact hxy
  · refine List.nodup_cons.2 ⟨fun hm => ?_, h.rs.ids⟩
    obtain ⟨y, hy, e⟩ := List.mem_map.1 hm
    have := hlt y hy
    simp only at e
    omega
  · obtain ⟨v, h1, h2⟩ := h.env t x hx
    exact ⟨v, hE x v h1, h2⟩
  · rcases (hM b).1 hb with h1 | h1
    · right
      have := hO b h1
      have := h.only.size
      omega
    · exact h.mine b h1
  · show upd ρ s.next hv i = _
    rw [upd_lt (Nat.lt_of_lt_of_le hi h.n0)]
    exact h.old i hi
def rootOf : Roots → Nat → Option Root
  | [], _ => none
  | (k, r) :: R, i => if i = k then some r else rootOf R i
def rootPut : Roots → Nat → Root → Roots
  | [], _, _ => []
  | (k, r) :: R, i, r' => if i = k then (k, r') :: R else (k, r) :: rootPut R i r'
theorem rootOf_mem : ∀ {R : Roots} {i : Nat} {r : Root}, rootOf R i = some r → (i, r) ∈ R
  | (k, r') :: R, i, r, h => by
    simp only [rootOf] at h
    split at h
    · rename_i e; simp only [Option.some.injEq] at h; subst e; subst h; exact List.mem_cons_self
    · exact List.mem_cons_of_mem _ (rootOf_mem h)
theorem rootPut_ids : ∀ {R : Roots} {i : Nat} {r : Root}, (rootPut R i r).map (·.1) = R.map (·.1)
  | [], _, _ => rfl
  | (k, r') :: R, i, r => by
    simp only [rootPut]
    split
    · rfl
    · simp [rootPut_ids]
theorem mine_ids {R R' : Roots} (h : R'.map (·.1) = R.map (·.1)) {b : Nat} : Mine ρ R' b ↔ Mine ρ R b := by
  have key : ∀ (A B : Roots), B.map (·.1) = A.map (·.1) → Mine ρ A b → Mine ρ B b := fun A B e ⟨x, hx, ho⟩ => by
    have : x.1 ∈ B.map (·.1) := by rw [e]; exact List.mem_map_of_mem hx
    obtain ⟨y, hy, e2⟩ := List.mem_map.1 this
    exact ⟨y, hy, by rw [e2]; exact ho⟩
  exact ⟨key R' R h.symm, key R R' h⟩
theorem rootPut_mem : ∀ {R : Roots}, (R.map (·.1)).Nodup → ∀ {i : Nat} {r : Root} {x : Nat × Root}, x ∈ rootPut R i r → (x = (i, r) ∧ ∃ y ∈ R, y.1 = i) ∨ (x ∈ R ∧ x.1 ≠ i)
  | [], _, _, _, _, h => by cases h
  | (k, r') :: R, hn, i, r, x, h => by
    obtain ⟨n1, n2⟩ := List.nodup_cons.1 hn
    simp only [rootPut] at h
    split at h
    · rename_i e
      rcases List.mem_cons.1 h with rfl | h
      · exact .inl ⟨by rw [e], _, List.mem_cons_self, e.symm⟩
      · exact .inr ⟨List.mem_cons_of_mem _ h, fun e2 => n1 (by rw [← e, ← e2]; exact List.mem_map_of_mem (f := (·.1)) h)⟩
    · rename_i e
      rcases List.mem_cons.1 h with rfl | h
      · exact .inr ⟨List.mem_cons_self, fun e2 => e e2.symm⟩
      · rcases rootPut_mem n2 h with ⟨h1, y, hy, h2⟩ | ⟨h1, h2⟩
        · exact .inl ⟨h1, y, List.mem_cons_of_mem _ hy, h2⟩
        · exact .inr ⟨List.mem_cons_of_mem _ h1, h2⟩
theorem pairwise_ids {P : Nat → Nat → Prop} {R R' : Roots} (h : R'.map (·.1) = R.map (·.1)) (hp : R.Pairwise fun x y => P x.1 y.1) : R'.Pairwise fun x y => P x.1 y.1 := by
  have e : ∀ A : Roots, (A.Pairwise fun x y => P x.1 y.1) ↔ (A.map (·.1)).Pairwise P := fun A => by rw [List.pairwise_map]
  rw [e, h, ← e]
  exact hp
theorem splice_take {α : Type} {l cu : List α} {o n : Nat} (h : o + cu.length ≤ n) (hn : n ≤ l.length) :
    (l.take n).take o ++ cu ++ (l.take n).drop (o + cu.length) = (l.take o ++ cu ++ l.drop (o + cu.length)).take n := by
  have e : (l.take o ++ cu).length = o + cu.length := by simp only [List.length_append, List.length_take]; omega
  rw [List.take_take, Nat.min_eq_left (by omega), List.take_append (l₁ := l.take o ++ cu), List.take_of_length_le (l := l.take o ++ cu) (by omega), List.drop_take, e]
/-- A path into a root that is no slice as a whole. -/
def Root.Acc : Root → List Nat → Prop
  | .box _, _ => True
  | .row _ _, p => p ≠ []
theorem Root.with_spec {r : Root} {p : List Nat} {u' t' : LV} (hp : r.Acc p) (ht : r.tree.put p u' = some t') :
    (r.with_ t').tree = t' ∧ (∀ b h, r.handle b h → (r.with_ t').handle b h) ∧ (∀ h n, r.room h n → (r.with_ t').room h n) ∧ (∀ s, r ≠ .row s []) := by
  cases r with
  | box t => exact ⟨rfl, fun b h e => e, fun h n e => trivial, fun s e => by cases e⟩
  | row s xs =>
    cases p with
    | nil => exact absurd rfl hp
    | cons i p =>
      simp only [Root.tree, LV.put, LV.kid, Option.bind_eq_some_iff, Option.map_eq_some_iff] at ht
      obtain ⟨k, hk, k', _, rfl⟩ := ht
      have hne : ∀ s', (Root.row s xs) ≠ .row s' [] := fun s' e => by cases e; simp at hk
      refine ⟨by simp [Root.with_, LV.setKid, Root.tree], fun b h e => ?_, fun h n e => ?_, hne⟩
      · simpa [Root.with_, LV.setKid, Root.handle] using e
      · cases h <;> exact e
/-- What is read through a pointer into a root. -/
theorem Sat.at_ (h : Sat c ρ s a w) {id : Nat} {r : Root} {p : List Nat} {u : LV} (hr : rootOf s.roots id = some r) (hp : r.Acc p) (hu : r.tree.get p = some u) :
    ∃ b cur e, w.heap[b]? = some (.cells cur e (0, 0)) ∧ blkOf (ρ id) = b ∧ owns (ρ id) b ∧ Con ρ s.next c.bb w (Mine ρ s.roots) u ((cur.toList.drop (r.sh.off p)).take u.shape.size) ∧ r.sh.off p + u.shape.size ≤ cur.size ∧
      Con ρ s.next c.bb w (Mine ρ s.roots) r.tree (cur.toList.take r.tree.shape.size) ∧ r.handle b (ρ id) ∧ r.room (ρ id) cur.size := by
  obtain ⟨h1, h2⟩ := h.rs.ok _ (rootOf_mem hr)
  rcases h2 with ⟨s', A, rfl, _⟩ | ⟨b, cur, e, g1, g2, g3, g4⟩
  · cases p with
    | nil => exact absurd rfl hp
    | cons i p => simp [Root.tree, LV.get, LV.kid] at hu
  · obtain ⟨f1, f2, f3⟩ := g2.get hu
    have hl := g2.len
    rw [Root.off_eq] at f2 f3
    rw [List.length_take, Array.length_toList] at f3 hl
    simp only at f3 f2
    refine ⟨b, cur, e, g1, Root.handle_blk g3, (Root.handle_owns g3).1, ?_, by omega, g2, g3, g4⟩
    rw [List.drop_take, List.take_take, Nat.min_eq_left (by omega)] at f2
    exact f2
mutual
theorem Con.ones : ∀ {t : LV} {c : List Value}, Con ρ N B w O t c → ∀ u ∈ c, u.oneCell' = true
  | _, _, .v h, u, hu => by rw [List.mem_singleton.1 hu]; exact h
  | _, _, .st h, u, hu => h.ones u hu
  | _, _, .arr h, u, hu => h.ones u hu
  | _, _, .nil, u, hu => by rw [List.mem_singleton.1 hu]; rfl
  | _, _, .vec _ _ _ _ _ _, u, hu => by rw [List.mem_singleton.1 hu]; rfl
  | _, _, .ip _ _ _, u, hu => by rw [List.mem_singleton.1 hu]; rfl
  | _, _, .pt _, u, hu => by rw [List.mem_singleton.1 hu]; rfl
  | _, _, .hd _ h, u, hu => by rw [List.mem_singleton.1 hu]; exact h
  | _, _, .sub0 _, u, hu => by rw [List.mem_singleton.1 hu]; rfl
  | _, _, .sub _ _ _ _, u, hu => by rw [List.mem_singleton.1 hu]; rfl
theorem Cons.ones : ∀ {ss : List Sh} {ts : List LV} {cs : List Value}, Cons ρ N B w O ss ts cs → ∀ u ∈ cs, u.oneCell' = true
  | _, _, _, .nil, u, hu => by cases hu
  | _, _, _, .cons h _ hs, u, hu => (List.mem_append.1 hu).elim (h.ones u) (hs.ones u)
end
/-- What a store through a pointer into a root comes to. -/
theorem Sat.store (h : Sat c ρ s a w) {id : Nat} {r : Root} {p : List Nat} {u u' t' : LV} {cu : List Value} (hr : rootOf s.roots id = some r) (hp : r.Acc p) (hu : r.tree.get p = some u) (ht : r.tree.put p u' = some t')
    (hs : u'.shape = u.shape) (hc : Con ρ s.next c.bb w (Mine ρ s.roots) u' cu) :
    w.there (blkOf (ρ id)) (r.sh.off p) cu.length ∧ Sat c ρ { s with roots := rootPut s.roots id (r.with_ t') } a (w.setCells (blkOf (ρ id)) (r.sh.off p) cu) := by
  obtain ⟨b, cur, e, g1, g2, g3, g4, g5, g6, g7, g8⟩ := h.at_ hr hp hu
  obtain ⟨k1, k2, k3, k4⟩ := Root.with_spec hp ht
  obtain ⟨f1, f2⟩ := g6.put hu ht hs hc
  have hcl : cu.length = u.shape.size := by rw [hc.len, hs]
  have hl := g6.len
  obtain ⟨_, _, f3⟩ := g6.get hu
  rw [Root.off_eq] at f2 f3
  rw [List.length_take, Array.length_toList] at f3 hl
  have hfit : r.sh.off p + cu.length ≤ cur.size := by omega
  rw [g2]
  refine ⟨fun j hj => ⟨by simp [World.cell?, g1, show r.sh.off p + j < cur.size by omega], frozen_of_row w b _ cur e g1⟩, ?_⟩
  have hb := heap_setCells cu (r.sh.off p) cur w g1 hfit
  have hO : ∀ x, Mine ρ (rootPut s.roots id (r.with_ t')) x ↔ Mine ρ s.roots x := fun x => mine_ids rootPut_ids
  have hmb : Mine ρ s.roots b := ⟨_, rootOf_mem hr, g3⟩
  have hon : Only (· = b) w (w.setCells b (r.sh.off p) cu) := only_setCells _ _ _ _ (Only.refl _ _) (.inl rfl)
  have hoth : ∀ x, x ≠ b → (w.setCells b (r.sh.off p) cu).heap[x]? = w.heap[x]? := fun x hx => by
    rcases Nat.lt_or_ge x w.heap.size with hlt | hge
    · exact hon.block x hlt hx
    · rw [Array.getElem?_eq_none hge, Array.getElem?_eq_none (by rw [size_setCells]; exact hge)]
  have hkeep : ∀ x o, ¬ Mine ρ s.roots x → w.heap[x]? = some o → (w.setCells b (r.sh.off p) cu).heap[x]? = some o ∧ ¬ Mine ρ (rootPut s.roots id (r.with_ t')) x := fun x o hn hx =>
    ⟨(hoth x (fun e => hn (e ▸ hmb))).trans hx, fun hm => hn ((hO x).1 hm)⟩
  refine ⟨⟨fun x hx => ?_, ?_, ?_⟩, fun _ x hx => ?_, h.size, ?_, fun x hx => h.mine x ((hO x).1 hx), h.old, h.n0, h.defs⟩
  · rcases rootPut_mem h.rs.ids hx with ⟨rfl, y, hy, rfl⟩ | ⟨hx, hid⟩
    · refine ⟨(h.rs.ok _ hy).1, .inr ⟨b, _, e, hb, ?_, k2 b _ g7, ?_⟩⟩
      · rw [k1, f1]
        have e1 := splice_take (l := cur.toList) (cu := cu) (o := r.sh.off p) (n := r.tree.shape.size) (by omega) (by rw [Array.length_toList]; omega)
        have f4 : Con ρ s.next c.bb w (Mine ρ s.roots) t' ((cur.toList.take (r.sh.off p) ++ cu ++ cur.toList.drop (r.sh.off p + cu.length)).take r.tree.shape.size) := by
          rw [← e1, hcl]
          exact f2
        exact f4.mono (fun _ _ => rfl) (Nat.le_refl _) hkeep
      · refine k3 _ _ ?_
        have : (cur.toList.take (r.sh.off p) ++ cu ++ cur.toList.drop (r.sh.off p + cu.length)).toArray.size = cur.size := by
          simp only [List.size_toArray, List.length_append, List.length_take, List.length_drop, Array.length_toList]
          omega
        rw [this]
        exact g8
    · obtain ⟨h1, h2⟩ := h.rs.ok x hx
      refine ⟨h1, ?_⟩
      refine h2.mono (fun _ _ => rfl) (Nat.le_refl _) hkeep (fun y hy => hoth y (fun e => ?_))
      subst e
      exact pairwise_of (P := fun i j => ∀ b, owns (ρ i) b → ¬ owns (ρ j) b) (fun i j h b h1 h2 => h b h2 h1) h.rs.apart hx (rootOf_mem hr) hid _ hy g3
  · exact pairwise_ids (P := fun i j => ∀ b, owns (ρ i) b → ¬ owns (ρ j) b) rootPut_ids h.rs.apart
  · show ((rootPut s.roots id (r.with_ t')).map (·.1)).Nodup
    rw [rootPut_ids]
    exact h.rs.ids
  · obtain ⟨v, h1, h2⟩ := h.env _ x hx
    exact ⟨v, h1.mono (fun _ _ => rfl) (Nat.le_refl _) hkeep, h2⟩
  · refine ⟨hon.os.trans h.only.os, hon.tape.trans h.only.tape, hon.output.trans h.only.output, Nat.le_trans h.only.size hon.size, fun k hk hn => (hoth k (fun e => ?_)).trans (h.only.block k hk hn)⟩
    subst e
    rcases h.mine _ hmb with h1 | h1
    · exact hn h1
    · omega
end Go.Proofs.Ytoimeebildcofaa
namespace Go.Proofs.Ytoimeebildcofaa
open Go.RowKit
set_option linter.unusedSimpArgs false
set_option linter.unusedVariables false

/-- A type's shape, by the program's own table. -/
def tsh (P : Program) : Nat → TypeId → Option Sh
  | 0, _ => none
  | n + 1, t =>
    match P.info? t, P.underlying t with
    | some i, some (.struct fs) =>
      match fs.toList.mapM (fun f => tsh P n f.type) with
      | some ss => if i.size = Sh.sizes ss ∧ fs.toList.map (·.offset) = (List.range ss.length).map (fun k => Sh.sizes (ss.take k)) then some (.st ss) else none
      | none => none
    | some i, some (.array k e) =>
      match tsh P n e with
      | some s => if i.size = k * s.size ∧ P.cellsOf e = s.size then some (.arr k s) else none
      | none => none
    | some i, some _ => if i.size = 1 then some .one else none
    | _, _ => none
def aggB : TypeDesc → Bool
  | .struct _ | .array _ _ => true
  | _ => false
variable {P : Program} {ρ ρ' : Nat → Value} {N N' B : Nat} {w w' : World} {O O' : Nat → Prop} {R : Roots} {c : Ctx} {s : St} {a : Act}
theorem tsh_info {n : Nat} {t : TypeId} {sh : Sh} (h : tsh P n t = some sh) : ∃ i d, P.info? t = some i ∧ P.underlying t = some d ∧ i.size = sh.size ∧ aggB d = sh.isAgg := by
  cases n with
  | zero => cases h
  | succ n =>
    simp only [tsh] at h
    split at h
    · rename_i i fs h1 h2
      split at h
      · split at h
        · rename_i hc
          simp only [Option.some.injEq] at h
          subst h
          exact ⟨_, _, h1, h2, hc.1, rfl⟩
        · cases h
      · cases h
    · rename_i i k e h1 h2
      split at h
      · split at h
        · rename_i hc
          simp only [Option.some.injEq] at h
          subst h
          exact ⟨_, _, h1, h2, hc.1, rfl⟩
        · cases h
      · cases h
    · rename_i i d hs ha h1 h2
      split at h
      · simp only [Option.some.injEq] at h
        subst h
        refine ⟨_, _, h1, h2, by simpa [Sh.size], ?_⟩
        cases d <;> first | rfl | (exact absurd rfl (hs _)) | (exact absurd rfl (ha _ _))
      · cases h
    · cases h
theorem mapM_get {α β : Type} {f : α → Option β} : ∀ {xs : List α} {ys : List β}, xs.mapM f = some ys → ∀ {i : Nat} {y : β}, ys[i]? = some y → ∃ x, xs[i]? = some x ∧ f x = some y
  | [], ys, h, i, y, hy => by simp at h; subst h; simp at hy
  | x :: xs, ys, h, i, y, hy => by
    simp only [List.mapM_cons, Option.bind_eq_bind, Option.bind_eq_some_iff, Option.pure_def, Option.some.injEq] at h
    obtain ⟨y0, h0, zs, hz, rfl⟩ := h
    cases i with
    | zero => simp only [List.getElem?_cons_zero, Option.some.injEq] at hy; subst hy; exact ⟨x, rfl, h0⟩
    | succ i => simp only [List.getElem?_cons_succ] at hy ⊢; exact mapM_get hz hy
theorem tsh_field {n : Nat} {t : TypeId} {ss : List Sh} (h : tsh P n t = some (.st ss)) {i : Nat} {sh : Sh} (hi : ss[i]? = some sh) :
    ∃ fs f m, P.underlying t = some (.struct fs) ∧ fs[i]? = some f ∧ f.offset = Sh.sizes (ss.take i) ∧ tsh P m f.type = some sh := by
  cases n with
  | zero => cases h
  | succ n =>
    simp only [tsh] at h
    split at h
    · rename_i i' fs h1 h2
      split at h
      · rename_i ss' hm
        split at h
        · rename_i hc
          simp only [Option.some.injEq, Sh.st.injEq] at h
          subst h
          obtain ⟨f, hf, hft⟩ := mapM_get hm hi
          have hlt : i < ss'.length := (List.getElem?_eq_some_iff.1 hi).1
          have ho := congrArg (·[i]?) hc.2
          simp only [List.getElem?_map, hf, Option.map_some, List.getElem?_range hlt, Option.some.injEq] at ho
          exact ⟨fs, f, n, h2, by rw [← Array.getElem?_toList]; exact hf, ho, hft⟩
        · cases h
      · cases h
    · split at h
      · split at h <;> simp at h
      · cases h
    · split at h <;> simp at h
    · cases h
theorem tsh_arr {n : Nat} {t : TypeId} {k : Nat} {sh : Sh} (h : tsh P n t = some (.arr k sh)) :
    ∃ e m, P.underlying t = some (.array k e) ∧ P.cellsOf e = sh.size ∧ tsh P m e = some sh := by
  cases n with
  | zero => cases h
  | succ n =>
    simp only [tsh] at h
    split at h
    · split at h
      · split at h <;> simp at h
      · cases h
    · rename_i i' k' e h1 h2
      split at h
      · rename_i s' he
        split at h
        · rename_i hc
          simp only [Option.some.injEq, Sh.arr.injEq] at h
          obtain ⟨rfl, rfl⟩ := h
          exact ⟨e, n, h2, hc.2, he⟩
        · cases h
      · cases h
    · split at h <;> simp at h
    · cases h
abbrev T (P : Program) (t : TypeId) : Option Sh := tsh P 9 t
def St.ev (s : St) : Operand → Option LV
  | .tmp t => match lk s.env t with | some (.one x) => some x | some (.fx _ x) => some x | _ => none
  | .const v => if v.oneCell' then some (.v v) else none
  | .func f => some (.v (.func (.func f) #[] #[]))
  | .global _ => none
theorem Sat.ev (h : Sat c ρ s a w) {x : Operand} {t : LV} (hx : s.ev x = some t) : Val ρ s.next c.bb w (Mine ρ s.roots) t (a.eval x) := by
  cases x with
  | tmp k =>
    simp only [St.ev] at hx
    split at hx
    · rename_i y hy
      simp only [Option.some.injEq] at hx
      subst hx
      obtain ⟨v, h1, h2⟩ := h.env k _ hy
      have : a.eval (.tmp k) = v := by simp [Act.eval, Array.getD_eq_getD_getElem?, h2]
      rw [this]
      exact h1
    · rename_i L y hy
      simp only [Option.some.injEq] at hx
      subst hx
      obtain ⟨v, h1, h2⟩ := h.env k _ hy
      have : a.eval (.tmp k) = v := by simp [Act.eval, Array.getD_eq_getD_getElem?, h2]
      rw [this]
      exact h1.1
    · cases hx
  | const v =>
    simp only [St.ev] at hx
    split at hx
    · rename_i h1
      simp only [Option.some.injEq] at hx
      subst hx
      exact ⟨[v], .v h1, rfl⟩
    · cases hx
  | func f =>
    simp only [St.ev, Option.some.injEq] at hx
    subst hx
    exact ⟨_, .v rfl, rfl⟩
  | global g => cases hx
theorem Val.plain {x v : Value} (h : Val ρ N B w O (.v x) v) : v = x := by
  obtain ⟨cs, h1, h2⟩ := h
  cases h1
  exact h2
theorem Sat.evv (h : Sat c ρ s a w) {x : Operand} {u : Value} (hx : s.ev x = some (.v u)) : a.eval x = u := (h.ev hx).plain
theorem val_v {x : Value} (h : x.oneCell' = true) : Val ρ N B w O (.v x) x := ⟨[x], .v h, rfl⟩
/-- An operation is carried out: what comes into its slot, and the state behind it. -/
def Does (P : Program) (o : Oper) (s : St) (K : EV → St → Prop) : Prop :=
  ∀ c ρ a w, Sat c ρ s a w → ∃ n v w' ρ' s' x, (execOp a.eval o).run P w = .ok n w' ∧ (n = .value v ∨ n = .skip ∧ v = undef) ∧ Sat c ρ' s' a w' ∧ EVal ρ' s'.next c.bb w' (Mine ρ' s'.roots) x v ∧ s'.sz = s.sz ∧ K x s'
/-- All that was is as it was. -/
def Keeps (w w' : World) : Prop := ∀ k, k < w.heap.size → w'.heap[k]? = w.heap[k]?
/-- One that only reads, or (m: False) not even that: it comes to the same in every world (m: in which all is as it was). -/
def DoesM (m : Prop) (P : Program) (o : Oper) (s : St) (K : EV → St → Prop) : Prop :=
  ∀ c ρ a w, Sat c ρ s a w → ∃ v x, (∀ w', (m → Keeps w w') → (execOp a.eval o).run P w' = .ok (.value v) w') ∧ EVal ρ s.next c.bb w (Mine ρ s.roots) x v ∧ K x s
theorem DoesM.does {m : Prop} {o : Oper} {K : EV → St → Prop} (h : DoesM m P o s K) : Does P o s K :=
  fun c ρ a w hs => let ⟨v, x, h1, h2, h3⟩ := h c ρ a w hs; ⟨_, v, w, ρ, s, x, h1 w (fun _ _ _ => rfl), .inl rfl, hs, h2, rfl, h3⟩
theorem does_pure {m : Prop} {o : Oper} {K : EV → St → Prop} {x : EV} (hk : K x s) (h : ∀ c ρ a w, Sat c ρ s a w → ∃ v, (∀ w', (m → Keeps w w') → (execOp a.eval o).run P w' = .ok (.value v) w') ∧ EVal ρ s.next c.bb w (Mine ρ s.roots) x v) : DoesM m P o s K :=
  fun c ρ a w hs => let ⟨v, h1, h2⟩ := h c ρ a w hs; ⟨v, x, h1, h2, hk⟩
theorem does_plain {m : Prop} {o : Oper} {K : EV → St → Prop} {u : Value} (h1 : u.oneCell' = true) (hk : K (.one (.v u)) s) (h : ∀ c ρ a w, Sat c ρ s a w → ∀ w', (m → Keeps w w') → (execOp a.eval o).run P w' = .ok (.value u) w') : DoesM m P o s K :=
  does_pure hk fun c ρ a w hs => ⟨u, h c ρ a w hs, val_v h1⟩

def intOp : BinOp → IntKind → Int → Int → Option Value
  | .add, k, a, b => some (.int k (k.wrap (a + b)))
  | .sub, k, a, b => some (.int k (k.wrap (a - b)))
  | .mul, k, a, b => some (.int k (k.wrap (a * b)))
  | .quo, k, a, b => if b = 0 then none else some (.int k (k.wrap (a.tdiv b)))
  | .rem, k, a, b => if b = 0 then none else some (.int k (a.tmod b))
  | .and, k, a, b => some (.int k (k.wrap (BitVec.ofInt k.bits a &&& BitVec.ofInt k.bits b).toNat))
  | .or, k, a, b => some (.int k (k.wrap (BitVec.ofInt k.bits a ||| BitVec.ofInt k.bits b).toNat))
  | .xor, k, a, b => some (.int k (k.wrap (BitVec.ofInt k.bits a ^^^ BitVec.ofInt k.bits b).toNat))
  | .andNot, k, a, b => some (.int k (k.wrap (BitVec.ofInt k.bits a &&& ~~~BitVec.ofInt k.bits b).toNat))
  | .eql, _, a, b => some (.bool (a == b))
  | .neq, _, a, b => some (.bool (a != b))
  | .lss, _, a, b => some (.bool (a < b))
  | .leq, _, a, b => some (.bool (a ≤ b))
  | .gtr, _, a, b => some (.bool (a > b))
  | .geq, _, a, b => some (.bool (a ≥ b))
  | _, _, _, _ => none
def shOp : BinOp → IntKind → Int → Int → Option Value
  | .shl, k, a, b => if b < 0 then none else some (.int k (k.wrap (a * 2 ^ (min b.toNat k.bits))))
  | .shr, k, a, b => if b < 0 then none else some (.int k (a.fdiv (2 ^ (min b.toNat k.bits))))
  | _, _, _, _ => none
def strOp : BinOp → ByteArray → ByteArray → Option Value
  | .add, x, y => if x.size + y.size ≤ 9223372036854775807 then some (.string (x ++ y)) else none
  | .eql, x, y => some (.bool (x.toList == y.toList))
  | .neq, x, y => some (.bool (!(x.toList == y.toList)))
  | _, _, _ => none
theorem eqGuard_run (op : BinOp) (t : TypeId) (x y : Operand) {u v : Value} (h : ∀ cs, u ≠ .agg cs) (h' : u ≠ .nilIface) : (eqGuard op t x y u v).run P w = .ok () w := by
  have key : ∀ op, (op = .eql ∨ op = .neq) ∨ eqGuard op t x y u v = pure () := fun op => by cases op <;> first | exact .inr rfl | exact .inl (.inl rfl) | exact .inl (.inr rfl)
  rcases key op with (rfl | rfl) | h1
  · cases u <;> first | exact absurd rfl h' | exact absurd rfl (h _) | (cases v <;> rfl)
  · cases u <;> first | exact absurd rfl h' | exact absurd rfl (h _) | (cases v <;> rfl)
  · rw [h1]; rfl
theorem intOp_run {op : BinOp} {k : IntKind} {i j : Int} {v : Value} (t : TypeId) (h : intOp op k i j = some v) : (binOp op t (.int k i) (.int k j)).run P w = .ok v w := by
  cases op <;> simp only [intOp, Option.some.injEq] at h <;>
    first
    | (subst h; simp [binOp, Op.intArith, Op.intBits, Op.intCmp]; done)
    | (split at h
       · cases h
       · rename_i hb
         simp only [Option.some.injEq] at h
         subst h
         simp [binOp, Op.intDiv, hb])
    | cases h
theorem shOp_run {op : BinOp} {k k' : IntKind} {i j : Int} {v : Value} (t : TypeId) (h : shOp op k i j = some v) : (binOp op t (.int k i) (.int k' j)).run P w = .ok v w := by
  cases op <;> simp only [shOp] at h <;>
    first
    | cases h; done
    | (split at h
       · cases h
       · rename_i hb
         simp only [Option.some.injEq] at h
         subst h
         simp [binOp, Op.shift, hb])
theorem strOp_run {op : BinOp} {x y : ByteArray} {v : Value} (t : TypeId) (h : strOp op x y = some v) : (binOp op t (.string x) (.string y)).run P w = .ok v w := by
  unfold strOp at h
  split at h
  · split at h
    · rename_i hb
      simp only [Option.some.injEq] at h
      subst h
      have h1 : IntKind.i64.max = 9223372036854775807 := by decide
      simp [binOp, Op.stringOp]
      omega
    · cases h
  · simp only [Option.some.injEq] at h; subst h; simp [binOp, Op.stringOp]
  · simp only [Option.some.injEq] at h; subst h; simp [binOp, Op.stringOp]
  · cases h
theorem intOp_one {op : BinOp} {k : IntKind} {i j : Int} {v : Value} (h : intOp op k i j = some v) : v.oneCell' = true := by
  cases op <;> simp only [intOp, Option.some.injEq] at h <;> first | (subst h; rfl) | (split at h <;> simp at h; subst h; rfl) | cases h
theorem shOp_one {op : BinOp} {k : IntKind} {i j : Int} {v : Value} (h : shOp op k i j = some v) : v.oneCell' = true := by
  cases op <;> simp only [shOp] at h <;> first | cases h; done | (split at h <;> simp at h; subst h; rfl)
theorem strOp_one {op : BinOp} {x y : ByteArray} {v : Value} (h : strOp op x y = some v) : v.oneCell' = true := by
  unfold strOp at h
  split at h
  · split at h
    · simp only [Option.some.injEq] at h; subst h; rfl
    · cases h
  · simp only [Option.some.injEq] at h; subst h; rfl
  · simp only [Option.some.injEq] at h; subst h; rfl
  · cases h
def binB : BinOp → Value → Value → Option Value
  | .shl, .int k a, .int _ b => shOp .shl k a b
  | .shr, .int k a, .int _ b => shOp .shr k a b
  | op, .int k a, .int k' b => if k = k' then intOp op k a b else none
  | op, .string x, .string y => strOp op x y
  | .eql, .bool x, .bool y => some (.bool (x == y))
  | .neq, .bool x, .bool y => some (.bool (!(x == y)))
  | _, _, _ => none
theorem binB_spec {op : BinOp} {x y v : Value} (t : TypeId) (ht : (∃ a b, x = .bool a ∧ y = .bool b) → P.underlying t = some .bool) (h : binB op x y = some v) : (binOp op t x y).run P w = .ok v w ∧ v.oneCell' = true ∧ (∀ cs, x ≠ .agg cs) ∧ x ≠ .nilIface := by
  unfold binB at h
  split at h
  · exact ⟨shOp_run t h, shOp_one h, by simp, by simp⟩
  · exact ⟨shOp_run t h, shOp_one h, by simp, by simp⟩
  · split at h
    · rename_i hk
      subst hk
      exact ⟨intOp_run t h, intOp_one h, by simp, by simp⟩
    · cases h
  · exact ⟨strOp_run t h, strOp_one h, by simp, by simp⟩
  · simp only [Option.some.injEq] at h
    subst h
    have := ht ⟨_, _, rfl, rfl⟩
    exact ⟨by simp [binOp, run_equal_bool w t _ _ this], rfl, by simp, by simp⟩
  · simp only [Option.some.injEq] at h
    subst h
    have := ht ⟨_, _, rfl, rfl⟩
    exact ⟨by simp [binOp, run_equal_bool w t _ _ this], rfl, by simp, by simp⟩
  · cases h
def unB : UnOp → Value → Option Value
  | .neg, .int k n => some (.int k (k.wrap (0 - n)))
  | .xor, .int k n => some (.int k (k.wrap (BitVec.ofInt k.bits (if k.signed then -1 else k.max) ^^^ BitVec.ofInt k.bits n).toNat))
  | .not, .bool b => some (.bool !b)
  | _, _ => none
theorem unB_spec {op : UnOp} {x v : Value} (h : unB op x = some v) : (Op.unary op x).run P w = .ok v w ∧ v.oneCell' = true := by
  unfold unB at h
  split at h
  · simp only [Option.some.injEq] at h; subst h; exact ⟨by simp [Op.unary, Op.intArith], rfl⟩
  · simp only [Option.some.injEq] at h; subst h; exact ⟨by simp [Op.unary, Op.intBits], rfl⟩
  · simp only [Option.some.injEq] at h; subst h; exact ⟨by simp [Op.unary], rfl⟩
  · cases h
end Go.Proofs.Ytoimeebildcofaa
namespace Go.Proofs.Ytoimeebildcofaa
open Go.RowKit
set_option linter.unusedSimpArgs false
set_option linter.unusedVariables false
variable {P : Program} {ρ ρ' : Nat → Value} {N N' B : Nat} {w w' : World} {O O' : Nat → Prop} {R : Roots} {c : Ctx} {s : St} {a : Act} {o : Oper} {K : EV → St → Prop} {md : Prop}

theorem aggB_row (d : TypeDesc) : d.isRow = aggB d := by cases d <;> rfl
theorem run_isAgg {t : TypeId} {d : TypeDesc} (h : P.underlying t = some d) : (isAgg t).run P w = .ok (aggB d) w := by
  unfold isAgg
  rw [Sem.run_bind, run_underlying h w]
  cases d <;> rfl
theorem run_loadVar_sh {n : Nat} {t : TypeId} {sh : Sh} (ht : tsh P n t = some sh) {b off : Nat} {cs : List Value} (hl : cs.length = sh.size) (hc : w.rangeAt b off cs) :
    (loadVar t ⟨b, off, none⟩).run P w = .ok (pack sh cs) w := by
  obtain ⟨i, d, h1, h2, h3, h4⟩ := tsh_info ht
  cases ha : sh.isAgg with
  | true =>
    rw [run_loadVar_mid w b off t cs d hc h2 (by rw [aggB_row, h4, ha]) (by rw [h1, Option.map_some, h3, hl])]
    simp [pack, ha]
  | false =>
    have hs : sh = .one := by cases sh <;> first | rfl | cases ha
    subst hs
    simp only [Sh.size] at hl
    obtain ⟨u, rfl⟩ := List.length_eq_one_iff.1 hl
    have := hc 0 u rfl
    rw [ha] at h4
    simp only [loadVar, Sem.run_bind, run_isAgg h2, h4, Result.andThen_ok, Bool.false_eq_true, if_false]
    simpa [load, Sem.run, pack, Sh.isAgg] using by simp_all
theorem Con.range {t : LV} {cs : List Value} {b off : Nat} {cur : Array Value} {e : TypeId} {fr : Nat × Nat} (hb : w.heap[b]? = some (.cells cur e fr)) (hc : cs = (cur.toList.drop off).take t.shape.size) : w.rangeAt b off cs := by
  intro j v hv
  subst hc
  rw [List.getElem?_take] at hv
  split at hv
  · rw [List.getElem?_drop] at hv
    simp only [World.cell?, hb]
    simpa using hv
  · cases hv
theorem does_load (t : TypeId) (x : Operand) (ho : o.op = .load t x) {id : Nat} {S : Sh} {p : List Nat} {r : Root} {u : LV} (hx : s.ev x = some (.pt id S p)) (hr : rootOf s.roots id = some r) (hS : r.sh = S)
    (hp : r.Acc p) (hu : r.tree.get p = some u) (ht : T P t = some u.shape) (hk : K (.one u) s) : DoesM True P o s K :=
  does_pure hk fun c ρ a w hs => by
    obtain ⟨b, cur, e, g1, g2, g3, g4, g5, _⟩ := hs.at_ hr hp hu
    obtain ⟨cs, hc, hv⟩ := hs.ev hx
    cases hc
    have hval : a.eval x = .pointer (some ⟨b, r.sh.off p, none⟩) := by rw [hv, hS, ← g2]; rfl
    have hl := g4.len
    refine ⟨_, fun w' hw' => ?_, ⟨_, g4, rfl⟩⟩
    have g1' := (hw' trivial b (Array.getElem?_eq_some_iff.1 g1).1).trans g1
    unfold execOp
    simp only [ho, hval, Instr.loadAt, Instr.sureAddr, Sem.run_bind, Sem.run_pure, Result.andThen_ok, run_loadVar_sh ht hl (Con.range g1' rfl)]
theorem does_load_ip (t : TypeId) (x : Operand) (ho : o.op = .load t x) {u : LV} (hx : s.ev x = some (.ip u)) (ht : T P t = some u.shape) (hk : K (.one u) s) : DoesM True P o s K :=
  does_pure hk fun c ρ a w hs => by
    obtain ⟨cs, hc, hv⟩ := hs.ev hx
    cases hc with
    | ip h1 h2 h3 =>
      rename_i b off cur e fr
      refine ⟨_, fun w' hw' => ?_, ⟨_, h3, rfl⟩⟩
      have h2' := (hw' trivial b (Array.getElem?_eq_some_iff.1 h2).1).trans h2
      have hval : a.eval x = .pointer (some ⟨b, off, none⟩) := hv
      unfold execOp
      simp only [ho, hval, Instr.loadAt, Instr.sureAddr, Sem.run_bind, Sem.run_pure, Result.andThen_ok, run_loadVar_sh ht h3.len (Con.range h2' rfl)]
theorem pack_cells {t : LV} {cs : List Value} (h : Con ρ N B w O t cs) : (pack t.shape cs).cells.toList = cs := by
  unfold pack
  split
  · rfl
  · rename_i ha
    have hs : t.shape = .one := by cases hsh : t.shape <;> first | rfl | (rw [hsh] at ha; exact absurd rfl ha)
    have hl := h.len
    rw [hs] at hl
    obtain ⟨u, rfl⟩ := List.length_eq_one_iff.1 hl
    have := h.ones u (by simp)
    cases u <;> first | rfl | cases this
theorem does_store (t : TypeId) (x y : Operand) (ho : o.op = .store t x y) {id : Nat} {S : Sh} {p : List Nat} {r : Root} {u u' t' : LV} (hx : s.ev x = some (.pt id S p)) (hy : s.ev y = some u') (hr : rootOf s.roots id = some r) (hS : r.sh = S)
    (hp : r.Acc p) (hu : r.tree.get p = some u) (hput : r.tree.put p u' = some t') (hs' : u'.shape = u.shape) (ht : T P t = some u.shape)
    (hk : K (.one (.v undef)) { s with roots := rootPut s.roots id (r.with_ t') }) : ∀ c ρ a w, Sat c ρ s a w → ∃ w', (execOp a.eval o).run P w = .ok .skip w' ∧ Sat c ρ { s with roots := rootPut s.roots id (r.with_ t') } a w' :=
  fun c ρ a w hs => by
    obtain ⟨cu, hcu, hvu⟩ := hs.ev hy
    obtain ⟨h1, h2⟩ := hs.store hr hp hu hput hs' hcu
    obtain ⟨cs, hc, hv⟩ := hs.ev hx
    cases hc
    have hval : a.eval x = .pointer (some ⟨blkOf (ρ id), r.sh.off p, none⟩) := by rw [hv, hS]; rfl
    refine ⟨_, ?_, h2⟩
    obtain ⟨i, d, e1, e2, e3, e4⟩ := tsh_info ht
    have hcells := pack_cells hcu
    have hsz : (pack u'.shape cu).cells.size = i.size := by rw [← Array.length_toList, hcells, hcu.len, hs', e3]
    have hrun := run_storeCells_cells (P := P) (blkOf (ρ id)) (r.sh.off p) cu 0 w (fun j hj => by simpa using (h1 j hj).1) (fun j hj => by simpa using (h1 j hj).2) hcu.ones
    simp only [Nat.add_zero] at hrun
    unfold execOp
    simp [ho, hval, hvu, Instr.storeAt, Instr.sureAddr, storeVar, sizeOf, typeInfo, e1, hsz, hcells, hrun]
end Go.Proofs.Ytoimeebildcofaa
namespace Go.Proofs.Ytoimeebildcofaa
open Go.RowKit
set_option linter.unusedSimpArgs false
set_option linter.unusedVariables false
variable {P : Program} {ρ ρ' : Nat → Value} {N N' B : Nat} {w w' : World} {O O' : Nat → Prop} {R : Roots} {c : Ctx} {s : St} {a : Act} {o : Oper} {K : EV → St → Prop} {md : Prop}
mutual
def LV.ofCells : Sh → List Value → LV
  | .one, cs => .v (cs.headD undef)
  | .st ss, cs => .st ss (LV.ofCellss ss cs)
  | .arr n s, cs => .arr n s ((List.range n).map fun i => LV.ofCells s ((cs.drop (i * s.size)).take s.size))
def LV.ofCellss : List Sh → List Value → List LV
  | [], _ => []
  | s :: ss, cs => LV.ofCells s (cs.take s.size) :: LV.ofCellss ss (cs.drop s.size)
end
theorem ofCells_shape (s : Sh) (cs : List Value) : (LV.ofCells s cs).shape = s := by cases s <;> simp [LV.ofCells, LV.shape]
theorem cons_range {s : Sh} {f : Nat → LV} {g : Nat → List Value} : ∀ (n : Nat), (∀ i, i < n → Con ρ N B w O (f i) (g i) ∧ (f i).shape = s) → Cons ρ N B w O (List.replicate n s) ((List.range n).map f) ((List.range n).map g).flatten
  | 0, _ => .nil
  | n + 1, h => by
    have ih := cons_range n (fun i hi => h i (by omega))
    obtain ⟨h1, h2⟩ := h n (by omega)
    have key : ∀ {ss : List Sh} {ts : List LV} {cs : List Value}, Cons ρ N B w O ss ts cs → Cons ρ N B w O (ss ++ [s]) (ts ++ [f n]) (cs ++ g n) := by
      intro ss ts cs hc
      induction ss generalizing ts cs with
      | nil =>
        cases hc
        have := Cons.cons h1 h2 (Cons.nil (ρ := ρ) (N := N) (w := w) (O := O))
        simpa using this
      | cons s' ss ih' =>
        cases hc with
        | cons e1 e2 e3 => rw [List.append_assoc]; exact .cons e1 e2 (ih' e3)
    rw [List.replicate_succ', List.range_succ, List.map_append, List.map_append, List.flatten_append]
    simpa using key ih
theorem flatten_slices {α : Type} (sz : Nat) : ∀ (n : Nat) (cs : List α), cs.length = n * sz → ((List.range n).map fun i => (cs.drop (i * sz)).take sz).flatten = cs
  | 0, cs, h => by
    rw [Nat.zero_mul] at h
    simp [List.eq_nil_of_length_eq_zero h]
  | n + 1, cs, h => by
    rw [Nat.succ_mul] at h
    have ih := flatten_slices sz n (cs.take (n * sz)) (by rw [List.length_take]; omega)
    rw [List.range_succ, List.map_append, List.flatten_append]
    have e1 : ((List.range n).map fun i => (cs.drop (i * sz)).take sz) = (List.range n).map fun i => ((cs.take (n * sz)).drop (i * sz)).take sz := by
      apply List.map_congr_left
      intro i hi
      have hi := List.mem_range.1 hi
      have := Nat.mul_le_mul_right sz (Nat.succ_le_of_lt hi)
      rw [Nat.succ_mul] at this
      rw [List.drop_take, List.take_take, Nat.min_eq_left (by omega)]
    rw [e1, ih]
    simp only [List.map_cons, List.map_nil, List.flatten_cons, List.flatten_nil, List.append_nil]
    rw [List.take_of_length_le (l := cs.drop (n * sz)) (by rw [List.length_drop]; omega), List.take_append_drop]
mutual
theorem con_ofCells : ∀ (s : Sh) (cs : List Value), cs.length = s.size → (∀ u ∈ cs, u.oneCell' = true) → Con ρ N B w O (LV.ofCells s cs) cs
  | .one, cs, h, h1 => by
    obtain ⟨u, rfl⟩ := List.length_eq_one_iff.1 h
    simp only [LV.ofCells, List.headD_cons]
    exact .v (h1 u (by simp))
  | .st ss, cs, h, h1 => by simp only [LV.ofCells]; exact .st (cons_ofCells ss cs h h1)
  | .arr n s, cs, h, h1 => by
    simp only [LV.ofCells]
    refine .arr ?_
    simp only [Sh.size] at h
    have := cons_range (ρ := ρ) (N := N) (w := w) (O := O) (s := s) (f := fun i => LV.ofCells s ((cs.drop (i * s.size)).take s.size)) (g := fun i => (cs.drop (i * s.size)).take s.size) n (fun i hi => ⟨con_ofCells s _ ?_ fun u hu => h1 u (List.mem_of_mem_drop (List.mem_of_mem_take hu)), ofCells_shape _ _⟩)
    · rw [flatten_slices s.size n cs h] at this
      exact this
    · have := Nat.mul_le_mul_right s.size (Nat.succ_le_of_lt hi)
      rw [Nat.succ_mul] at this
      rw [List.length_take, List.length_drop]
      omega
theorem cons_ofCells : ∀ (ss : List Sh) (cs : List Value), cs.length = Sh.sizes ss → (∀ u ∈ cs, u.oneCell' = true) → Cons ρ N B w O ss (LV.ofCellss ss cs) cs
  | [], cs, h, _ => by
    obtain rfl := List.eq_nil_of_length_eq_zero h
    exact .nil
  | s :: ss, cs, h, h1 => by
    simp only [Sh.sizes] at h
    simp only [LV.ofCellss]
    have a1 := con_ofCells s (cs.take s.size) (by rw [List.length_take]; omega) fun u hu => h1 u (List.mem_of_mem_take hu)
    have a2 := cons_ofCells ss (cs.drop s.size) (by rw [List.length_drop]; omega) fun u hu => h1 u (List.mem_of_mem_drop hu)
    have := Cons.cons a1 (ofCells_shape _ _) a2
    rw [List.take_append_drop] at this
    exact this
end
/-- The zero value of a type. -/
def tz (P : Program) (t : TypeId) : Option LV :=
  match T P t, (P.info? t).bind (·.zero) with
  | some sh, some z => if z.cells.size = sh.size ∧ z.cells.toList.all (·.oneCell') = true ∧ sh.isAgg = (match z with | .agg _ => true | _ => false) then some (LV.ofCells sh z.cells.toList) else none
  | _, _ => none
theorem tz_spec {t : TypeId} {z : LV} (h : tz P t = some z) : ∃ i v sh, P.info? t = some i ∧ i.zero = some v ∧ T P t = some sh ∧ z.shape = sh ∧ ∀ (ρ : Nat → Value) (N B : Nat) (w : World) (O : Nat → Prop), Con ρ N B w O z v.cells.toList := by
  unfold tz at h
  split at h
  · rename_i sh v h1 h2
    simp only [Option.ite_none_right_eq_some, Option.some.injEq] at h
    obtain ⟨hc, rfl⟩ := h
    obtain ⟨i, hi, hz⟩ := Option.bind_eq_some_iff.1 h2
    exact ⟨i, v, sh, hi, hz, h1, ofCells_shape _ _, fun ρ N B w O => con_ofCells _ _ (by simpa using hc.1) fun u hu => List.all_eq_true.1 hc.2.1 u hu⟩
  · cases h
theorem owns_pointer {b : Nat} : ∀ b', owns (.pointer (some ⟨b, 0, none⟩)) b' → b' = b := fun _ e => e.symm
/-- A new variable. -/
theorem Sat.newBox (h : Sat c ρ s a w) {t : LV} {cs : List Value} {e : TypeId} (hc : Con ρ s.next c.bb w (Mine ρ s.roots) t cs) :
    ∃ ρ', Sat c ρ' { s with roots := (s.next, .box t) :: s.roots, next := s.next + 1 } a (w.alloc (.cells cs.toArray e)) ∧
      EVal ρ' (s.next + 1) c.bb (w.alloc (.cells cs.toArray e)) (Mine ρ' ((s.next, .box t) :: s.roots)) (.one (.pt s.next t.shape [])) (.pointer (some ⟨w.heap.size, 0, none⟩)) ∧ (∀ i, i ≠ s.next → ρ' i = ρ i) ∧ ∀ b, owns (ρ' s.next) b → w.heap.size ≤ b := by
  have hw : Only (fun _ => False) w (w.alloc (.cells cs.toArray e)) := (Only.refl _ _).alloc _
  have hlt : ∀ x ∈ s.roots, x.1 < s.next := fun x hx => (h.rs.ok x hx).1
  have hl := hc.len
  refine ⟨upd ρ s.next (.pointer (some ⟨w.heap.size, 0, none⟩)), (h.grow (r := .box t) (fun b hb => by rw [owns_pointer b hb]; exact Nat.le_refl _) hw ?_).1, ?_, fun i hi => if_neg hi, fun b hb => by rw [upd_self] at hb; rw [owns_pointer b hb]; exact Nat.le_refl _⟩
  · refine .inr ⟨w.heap.size, cs.toArray, e, heap_alloc_new w _, ?_, rfl, trivial⟩
    simp only [Root.tree, ← hl, List.take_length]
    refine hc.mono (fun i hi => upd_lt hi) (Nat.le_succ _) fun b ob hn hb => ?_
    have hbl := (Array.getElem?_eq_some_iff.1 hb).1
    refine ⟨(hw.block b hbl id).trans hb, fun hm => ?_⟩
    rw [mine_cons, mine_upd hlt, upd_self] at hm
    rcases hm with h1 | h1
    · have := owns_pointer b h1; omega
    · exact hn h1
  · refine ⟨_, .pt (Nat.lt_succ_self _), ?_⟩
    simp [pack, LV.shape, Sh.isAgg, upd_self, blkOf, Sh.off]
theorem does_alloc (t : TypeId) (ho : o.op = .alloc t) {z : LV} (hz : tz P t = some z) (hk : K (.one (.pt s.next z.shape [])) { s with roots := (s.next, .box z) :: s.roots, next := s.next + 1 }) : Does P o s K :=
  fun c ρ a w hs => by
    obtain ⟨i, v, sh, h1, h2, h3, h4, h5⟩ := tz_spec hz
    obtain ⟨ρ', g1, g2, _, _⟩ := hs.newBox (e := t) (h5 ρ s.next c.bb w (Mine ρ s.roots))
    refine ⟨_, _, _, ρ', _, _, ?_, .inl rfl, g1, g2, rfl, hk⟩
    unfold execOp
    simp [ho, Instr.alloc, zeroValue, typeInfo, h1, h2, newVar, newRow, newObj, Sem.run]
theorem does_box (t : TypeId) (x : Operand) (ho : o.op = .box t x) {u : LV} (hx : s.ev x = some u) (hk : K (.one (.pt s.next u.shape [])) { s with roots := (s.next, .box u) :: s.roots, next := s.next + 1 }) : Does P o s K :=
  fun c ρ a w hs => by
    obtain ⟨cs, hc, hv⟩ := hs.ev hx
    obtain ⟨ρ', g1, g2, _, _⟩ := hs.newBox (e := t) hc
    refine ⟨_, _, _, ρ', _, _, ?_, .inl rfl, g1, g2, rfl, hk⟩
    have hcells := pack_cells hc
    unfold execOp
    have : (pack u.shape cs).cells = cs.toArray := Array.toList_inj.1 (by rw [hcells])
    simp [ho, hv, Instr.box, newVar, newRow, newObj, Sem.run, this]
/-- The address of a field. -/
theorem does_fieldAddr (t : TypeId) (x : Operand) (k : Nat) (ho : o.op = .fieldAddr t x k) {id : Nat} {S : Sh} {p : List Nat} {ss : List Sh} {sk : Sh} (hx : s.ev x = some (.pt id S p)) (ht : T P t = some (.st ss)) (hS : S.at_ p = some (.st ss)) (hk' : ss[k]? = some sk) (h0 : sk.size ≠ 0)
    (hk : K (.one (.pt id S (p ++ [k]))) s) : DoesM md P o s K :=
  does_pure hk fun c ρ a w hs => by
    obtain ⟨fs, f, m, h1, h2, h3, h4⟩ := tsh_field ht hk'
    obtain ⟨i, d, e1, _, e3, _⟩ := tsh_info h4
    obtain ⟨cs, hc, hv⟩ := hs.ev hx
    cases hc with
    | pt hid =>
      have hoff : ∀ (p : List Nat) (S : Sh), S.at_ p = some (.st ss) → S.off (p ++ [k]) = S.off p + Sh.sizes (ss.take k) := by
        intro p
        induction p with
        | nil => intro S hS; simp only [Sh.at_, Option.some.injEq] at hS; subst hS; simp [Sh.off, Sh.kid, hk']
        | cons i p ih =>
          intro S hS
          simp only [Sh.at_, Option.bind_eq_some_iff] at hS
          obtain ⟨q, hq, hS⟩ := hS
          simp only [List.cons_append, Sh.off, hq, ih _ hS]
          omega
      refine ⟨.pointer (some ⟨blkOf (ρ id), S.off (p ++ [k]), none⟩), fun w' hw' => ?_, ⟨_, .pt hid, rfl⟩⟩
      have hval : a.eval x = .pointer (some ⟨blkOf (ρ id), S.off p, none⟩) := hv
      unfold execOp
      simp [ho, hval, Instr.fieldAt, run_underlying h1, h2, Instr.sureAddr, fieldPlace, sizeOf, typeInfo, e1, e3, h0, h3, hoff p S hS, Addr.add_mid]
end Go.Proofs.Ytoimeebildcofaa
namespace Go.Proofs.Ytoimeebildcofaa
open Go.RowKit
set_option linter.unusedSimpArgs false
set_option linter.unusedVariables false
variable {P : Program} {ρ ρ' : Nat → Value} {N N' B : Nat} {w w' : World} {O O' : Nat → Prop} {R : Roots} {c : Ctx} {s : St} {a : Act} {o : Oper} {K : EV → St → Prop}

def dropRoot (R : Roots) (id : Nat) : Roots := R.filter (fun x => x.1 != id)
theorem mem_dropRoot {R : Roots} {id : Nat} {x : Nat × Root} : x ∈ dropRoot R id ↔ x ∈ R ∧ x.1 ≠ id := by simp [dropRoot]
/-- Root id is no more, a new one is there, where it was or in a new block. -/
theorem Sat.swap (h : Sat c ρ s a w) {id : Nat} {r0 r : Root} {hv : Value} (hid : (id, r0) ∈ s.roots) (hO : ∀ b, owns hv b → w.heap.size ≤ b ∨ owns (ρ id) b) (hw : Only (owns (ρ id)) w w')
    (hr : (∀ t cs, Con ρ s.next c.bb w (Mine ρ s.roots) t cs → Con (upd ρ s.next hv) (s.next + 1) c.bb w' (Mine (upd ρ s.next hv) ((s.next, r) :: dropRoot s.roots id)) t cs) → r.Ok (upd ρ s.next hv) (s.next + 1) c.bb w' (Mine (upd ρ s.next hv) ((s.next, r) :: dropRoot s.roots id)) hv) :
    Sat c (upd ρ s.next hv) { s with roots := (s.next, r) :: dropRoot s.roots id, next := s.next + 1 } a w' := by
  have hlt : ∀ x ∈ s.roots, x.1 < s.next := fun x hx => (h.rs.ok x hx).1
  have hltd : ∀ x ∈ dropRoot s.roots id, x.1 < s.next := fun x hx => hlt x (mem_dropRoot.1 hx).1
  have hM : ∀ b, Mine (upd ρ s.next hv) ((s.next, r) :: dropRoot s.roots id) b ↔ owns hv b ∨ Mine ρ (dropRoot s.roots id) b := fun b => by
    rw [mine_cons, mine_upd hltd, upd_self]
  have hMd : ∀ b, Mine ρ (dropRoot s.roots id) b → Mine ρ s.roots b := fun b ⟨x, hx, e⟩ => ⟨x, (mem_dropRoot.1 hx).1, e⟩
  have hkeep : ∀ b o, ¬ Mine ρ s.roots b → w.heap[b]? = some o → w'.heap[b]? = some o ∧ ¬ Mine (upd ρ s.next hv) ((s.next, r) :: dropRoot s.roots id) b := fun b o hn hb => by
    have hl := (Array.getElem?_eq_some_iff.1 hb).1
    have hnid : ¬ owns (ρ id) b := fun e => hn ⟨_, hid, e⟩
    refine ⟨(hw.block b hl hnid).trans hb, fun hm => ?_⟩
    rcases (hM b).1 hm with h1 | h1
    · rcases hO b h1 with h2 | h2
      · omega
      · exact hnid h2
    · exact hn (hMd b h1)
  have hρ : ∀ i, i < s.next → upd ρ s.next hv i = ρ i := fun i hi => upd_lt hi
  have hapart : ∀ x ∈ dropRoot s.roots id, ∀ b, owns (ρ id) b → ¬ owns (ρ x.1) b := fun x hx b h1 h2 =>
    pairwise_of (P := fun i j => ∀ b, owns (ρ i) b → ¬ owns (ρ j) b) (fun i j h b h1 h2 => h b h2 h1) h.rs.apart hid (mem_dropRoot.1 hx).1 (fun e => (mem_dropRoot.1 hx).2 e.symm) b h1 h2
  refine ⟨⟨fun x hx => ?_, ?_, ?_⟩, fun t x hx => ?_, h.size, ?_, fun b hb => ?_, fun i hi => ?_, Nat.le_succ_of_le h.n0, h.defs⟩
  · rcases List.mem_cons.1 hx with rfl | hx
    · exact ⟨Nat.lt_succ_self _, by rw [upd_self]; exact hr fun t cs hc => hc.mono hρ (Nat.le_succ _) hkeep⟩
    · obtain ⟨h1, h2⟩ := h.rs.ok x (mem_dropRoot.1 hx).1
      refine ⟨Nat.lt_succ_of_lt h1, ?_⟩
      rw [upd_lt h1]
      exact h2.mono hρ (Nat.le_succ _) hkeep (fun b hb => hw.block b (h2.owns_lt hb) (fun e => hapart x hx b e hb))
  · refine List.pairwise_cons.2 ⟨fun y hy b hb => ?_, ?_⟩
    · rw [upd_self] at hb
      obtain ⟨h1, h2⟩ := h.rs.ok y (mem_dropRoot.1 hy).1
      rw [upd_lt h1]
      intro hb'
      have := h2.owns_lt hb'
      rcases hO b hb with h3 | h3
      · omega
      · exact hapart y hy b h3 hb'
    · refine List.Pairwise.imp_of_mem ?_ (h.rs.apart.filter _)
      intro x y hx hy hxy
      rw [upd_lt (hltd x hx), upd_lt (hltd y hy)]
      exact hxy
  · refine List.nodup_cons.2 ⟨fun hm => ?_, ?_⟩
    · obtain ⟨y, hy, e⟩ := List.mem_map.1 hm
      have := hltd y hy
      simp only at e
      omega
    · exact h.rs.ids.sublist (List.filter_sublist.map _)
  · obtain ⟨v, h1, h2⟩ := h.env t x hx
    exact ⟨v, h1.mono hρ (Nat.le_succ _) hkeep, h2⟩
  · refine ⟨hw.os.trans h.only.os, hw.tape.trans h.only.tape, hw.output.trans h.only.output, Nat.le_trans h.only.size hw.size, fun k hk hn => ?_⟩
    refine (hw.block k (Nat.lt_of_lt_of_le hk h.only.size) (fun e => ?_)).trans (h.only.block k hk hn)
    rcases h.mine k ⟨_, hid, e⟩ with h1 | h1
    · exact hn h1
    · omega
  · rcases (hM b).1 hb with h1 | h1
    · rcases hO b h1 with h2 | h2
      · right
        have := h.only.size
        omega
      · exact h.mine b ⟨_, hid, h2⟩
    · exact h.mine b (hMd b h1)
  · show upd ρ s.next hv i = _
    rw [upd_lt (Nat.lt_of_lt_of_le hi h.n0)]
    exact h.old i hi
/-- A slice type: its elements' type, and their zero value. -/
def tsl (P : Program) (t : TypeId) : Option (TypeId × LV) :=
  match P.underlying t with
  | some (.slice e) =>
    match tz P e, P.info? e with
    | some z, some i => if 0 < i.bytes ∧ i.bytes ≤ 100000 ∧ 0 < z.shape.size then some (e, z) else none
    | _, _ => none
  | _ => none
theorem tsl_spec {t e : TypeId} {z : LV} (h : tsl P t = some (e, z)) : P.underlying t = some (.slice e) ∧ ∃ i v, P.info? e = some i ∧ i.zero = some v ∧ i.size = z.shape.size ∧ T P e = some z.shape ∧ v.cells.size = z.shape.size ∧ 0 < i.bytes ∧ i.bytes ≤ 100000 ∧ 0 < z.shape.size ∧
    ∀ (ρ : Nat → Value) (N B : Nat) (w : World) (O : Nat → Prop), Con ρ N B w O z v.cells.toList := by
  unfold tsl at h
  split at h
  · rename_i e' he
    split at h
    · rename_i z' i hz hi
      simp only [Option.ite_none_right_eq_some, Option.some.injEq, Prod.mk.injEq] at h
      obtain ⟨⟨h1, h2, h3⟩, rfl, rfl⟩ := h
      obtain ⟨i', v, sh, g1, g2, g3, g4, g5⟩ := tz_spec hz
      rw [hi] at g1
      cases g1
      obtain ⟨i'', d, f1, f2, f3, f4⟩ := tsh_info g3
      rw [hi] at f1
      cases f1
      refine ⟨he, i, v, hi, g2, by rw [f3, g4], by rw [g3, g4], ?_, h1, h2, h3, g5⟩
      have := (g5 (fun _ => undef) 0 0 default (fun _ => False)).len
      simpa using this
    · cases h
  · cases h
theorem Cons.append : ∀ {ss ss' : List Sh} {ts ts' : List LV} {cs cs' : List Value}, Cons ρ N B w O ss ts cs → Cons ρ N B w O ss' ts' cs' → Cons ρ N B w O (ss ++ ss') (ts ++ ts') (cs ++ cs')
  | _, _, _, _, _, _, .nil, h => h
  | _, _, _, _, _, _, .cons h1 h2 h3, h => by rw [List.append_assoc]; exact .cons h1 h2 (h3.append h)
/-- The elements, cell by cell. -/
theorem Cons.chunks {sh : Sh} : ∀ {n : Nat} {ts : List LV} {cs : List Value}, Cons ρ N B w O (List.replicate n sh) ts cs → ∃ css : List (List Value), css.flatten = cs ∧ css.length = n ∧ ∀ x ∈ css, x.length = sh.size
  | 0, _, _, .nil => ⟨[], rfl, rfl, by simp⟩
  | n + 1, _, _, h => by
    rw [List.replicate_succ] at h
    cases h with
    | @cons _ _ _ _ c0 _ h1 h2 h3 =>
      obtain ⟨css, g1, g2, g3⟩ := h3.chunks
      exact ⟨c0 :: css, by simp [g1], by simp [g2], fun x hx => by
        rcases List.mem_cons.1 hx with rfl | hx
        · rw [h1.len, h2]
        · exact g3 x hx⟩
theorem cons_rep {z : LV} {cs : List Value} (h : Con ρ N B w O z cs) : ∀ n, Cons ρ N B w O (List.replicate n z.shape) (List.replicate n z) (List.replicate n cs).flatten
  | 0 => .nil
  | n + 1 => by simp only [List.replicate_succ, List.flatten_cons]; exact .cons h rfl (cons_rep h n)
/-- A new row. -/
theorem Sat.newRow (h : Sat c ρ s a w) {sh : Sh} {xs : List LV} {cs spare : List Value} {cap : Nat} {e : TypeId} (hc : Cons ρ s.next c.bb w (Mine ρ s.roots) (List.replicate xs.length sh) xs cs) (h1 : xs.length ≤ cap) (h2 : cap * sh.size ≤ cs.length + spare.length) (h3 : cap ≤ 9223372036854775807) :
    ∃ ρ', Sat c ρ' { s with roots := (s.next, .row sh xs) :: s.roots, next := s.next + 1 } a (w.alloc (.cells (cs ++ spare).toArray e)) ∧
      EVal ρ' (s.next + 1) c.bb (w.alloc (.cells (cs ++ spare).toArray e)) (Mine ρ' ((s.next, .row sh xs) :: s.roots)) (.one (.hd s.next)) (.slice (some ⟨w.heap.size, 0, none⟩) xs.length cap) ∧ (∀ i, i ≠ s.next → ρ' i = ρ i) ∧ ∀ b, owns (ρ' s.next) b → w.heap.size ≤ b := by
  have hw : Only (fun _ => False) w (w.alloc (.cells (cs ++ spare).toArray e)) := (Only.refl _ _).alloc _
  have hlt : ∀ x ∈ s.roots, x.1 < s.next := fun x hx => (h.rs.ok x hx).1
  have hl := hc.len
  rw [Sh.sizes_replicate] at hl
  have hO : ∀ b, owns (.slice (some ⟨w.heap.size, 0, none⟩) xs.length cap) b → w.heap.size ≤ b := fun b hb => by have := hb.1; simp only at this; omega
  refine ⟨upd ρ s.next (.slice (some ⟨w.heap.size, 0, none⟩) xs.length cap), (h.grow (r := .row sh xs) hO hw ?_).1, ?_, fun i hi => if_neg hi, fun b hb => by rw [upd_self] at hb; exact hO b hb⟩
  · rcases Nat.eq_zero_or_pos cap with rfl | hpos
    · have : xs = [] := List.eq_nil_of_length_eq_zero (by omega)
      subst this
      exact .inl ⟨_, _, rfl, rfl⟩
    · refine .inr ⟨w.heap.size, _, e, heap_alloc_new w _, ?_, ⟨cap, rfl, h1, hpos, h3⟩, ?_⟩
      · simp only [Root.tree, LV.shape, Sh.size]
        rw [← hl, List.take_left]
        refine Con.mono (fun i hi => upd_lt hi) (Nat.le_succ _) (fun b ob hn hb => ?_) (.arr hc)
        have hbl := (Array.getElem?_eq_some_iff.1 hb).1
        refine ⟨(hw.block b hbl id).trans hb, fun hm => ?_⟩
        rw [mine_cons, mine_upd hlt, upd_self] at hm
        rcases hm with h1 | h1
        · have := hO b h1; omega
        · exact hn h1
      · simpa [Root.room] using h2
  · exact ⟨_, .hd (Nat.lt_succ_self _) (by rw [upd_self]; rfl), by simp [pack, LV.shape, Sh.isAgg, upd_self]⟩
end Go.Proofs.Ytoimeebildcofaa
namespace Go.Proofs.Ytoimeebildcofaa
open Go.RowKit
set_option linter.unusedSimpArgs false
set_option linter.unusedVariables false
variable {P : Program} {ρ ρ' : Nat → Value} {N N' B : Nat} {w w' : World} {O O' : Nat → Prop} {R : Roots} {c : Ctx} {s : St} {a : Act} {o : Oper} {K : EV → St → Prop}

open Classical in
/-- The elements that a slice has: one that is only read, or a row of the call's own, or a part of one. -/
noncomputable def St.elems (s : St) : LV → Option (Sh × List LV)
  | .vec _ sh xs => some (sh, xs)
  | .hd id => match rootOf s.roots id with | some (.row sh xs) => some (sh, xs) | _ => none
  | .sub id S p l n => match rootOf s.roots id with
    | some r => if r.sh = S then (match r.tree.get p with | some (.arr m sh xs) => if l + n ≤ m ∧ m = xs.length then some (sh, (xs.drop l).take n) else none | _ => none) else none
    | none => none
  | _ => none
/-- A slice whose elements lie there. -/
def Lies (ρ : Nat → Value) (N B : Nat) (w : World) (O : Nat → Prop) (v : Value) (sh : Sh) (xs : List LV) : Prop :=
  (∃ A c, v = .slice A 0 c ∧ xs = []) ∨
  ∃ b off cap cur e fr, v = .slice (some ⟨b, off, none⟩) xs.length cap ∧ xs.length ≤ cap ∧ cap ≤ 9223372036854775807 ∧ w.heap[b]? = some (.cells cur e fr) ∧ Cons ρ N B w O (List.replicate xs.length sh) xs ((cur.toList.drop off).take (xs.length * sh.size))
theorem cons_drop {sh : Sh} : ∀ {n : Nat} {xs : List LV} {cs : List Value}, Cons ρ N B w O (List.replicate n sh) xs cs → ∀ l, l ≤ n → Cons ρ N B w O (List.replicate (n - l) sh) (xs.drop l) (cs.drop (l * sh.size))
  | n, xs, cs, h, 0, _ => by simpa using h
  | 0, xs, cs, h, l + 1, hl => absurd hl (by omega)
  | n + 1, xs, cs, h, l + 1, hl => by
    rw [List.replicate_succ] at h
    cases h with
    | @cons _ _ t0 ts0 c0 cs0 h1 h2 h3 =>
      have hc : c0.length = sh.size := by rw [h1.len, h2]
      have e : (c0 ++ cs0).drop ((l + 1) * sh.size) = cs0.drop (l * sh.size) := by
        rw [Nat.succ_mul, List.drop_append, List.drop_of_length_le (l := c0) (by omega), List.nil_append]
        congr 1
        omega
      rw [List.drop_succ_cons, e, show n + 1 - (l + 1) = n - l by omega]
      exact cons_drop h3 l (by omega)
theorem cons_take {sh : Sh} : ∀ {n : Nat} {xs : List LV} {cs : List Value}, Cons ρ N B w O (List.replicate n sh) xs cs → ∀ l, l ≤ n → Cons ρ N B w O (List.replicate l sh) (xs.take l) (cs.take (l * sh.size))
  | n, xs, cs, h, 0, _ => by simpa using Cons.nil
  | 0, xs, cs, h, l + 1, hl => absurd hl (by omega)
  | n + 1, xs, cs, h, l + 1, hl => by
    rw [List.replicate_succ] at h
    cases h with
    | @cons _ _ t0 ts0 c0 cs0 h1 h2 h3 =>
      have hc : c0.length = sh.size := by rw [h1.len, h2]
      have e : (c0 ++ cs0).take ((l + 1) * sh.size) = c0 ++ cs0.take (l * sh.size) := by
        rw [Nat.succ_mul, List.take_append, List.take_of_length_le (l := c0) (by omega)]
        congr 2
        omega
      rw [List.take_succ_cons, e, List.replicate_succ]
      exact .cons h1 h2 (cons_take h3 l (by omega))
theorem Sat.elems (h : Sat c ρ s a w) {x : Operand} {t : LV} {sh : Sh} {xs : List LV} (hx : s.ev x = some t) (he : s.elems t = some (sh, xs)) : Lies ρ s.next c.bb w (Mine ρ s.roots) (a.eval x) sh xs := by
  obtain ⟨cs, hc, hv⟩ := h.ev hx
  unfold St.elems at he
  split at he
  · simp only [Option.some.injEq, Prod.mk.injEq] at he
    obtain ⟨rfl, rfl⟩ := he
    cases hc with
    | nil => exact .inl ⟨_, _, hv, rfl⟩
    | vec h1 h2 h3 _ h4 h5 => exact .inr ⟨_, _, _, _, _, _, hv, h1, h2, h4, h5⟩
  · rename_i id0
    split at he
    · rename_i hr
      simp only [Option.some.injEq, Prod.mk.injEq] at he
      obtain ⟨rfl, rfl⟩ := he
      obtain ⟨_, h2⟩ := h.rs.ok _ (rootOf_mem hr)
      have hv' : a.eval x = ρ id0 := by
        cases hc with
        | hd _ _ => exact hv
      rcases h2 with ⟨s', A, e, hh⟩ | ⟨b, cur, e, g1, g2, g3, g4⟩
      · cases e
        exact .inl ⟨_, _, hv'.trans hh, rfl⟩
      · obtain ⟨cap, f1, f2, f3, f4⟩ := g3
        cases g2 with
        | arr g2 => exact .inr ⟨b, 0, cap, cur, e, _, hv'.trans f1, f2, f4, g1, by simpa [Root.tree, LV.shape, Sh.size] using g2⟩
    · cases he
  · rename_i id0 S p l n
    split at he
    · rename_i r hr
      split at he
      · rename_i hS
        split at he
        · rename_i m sh' xs' hg
          simp only [Option.ite_none_right_eq_some, Option.some.injEq, Prod.mk.injEq] at he
          obtain ⟨⟨hln, hm⟩, rfl, rfl⟩ := he
          have hlen : ((xs'.drop l).take n).length = n := by rw [List.length_take, List.length_drop]; omega
          cases hc with
          | sub0 _ => exact .inl ⟨_, _, hv, by simp⟩
          | @sub _ _ _ _ _ cap _ h1 h2 _ =>
            rcases Nat.eq_zero_or_pos n with rfl | hn
            · exact .inl ⟨_, _, hv, by simp⟩
            obtain ⟨_, hok⟩ := h.rs.ok _ (rootOf_mem hr)
            rcases hok with ⟨s', A, e, hh⟩ | ⟨b, cur, e, g1, g2, g3, g4⟩
            · simp only at e
              subst e
              cases p with
              | nil => simp only [Root.tree, LV.get, Option.some.injEq, LV.arr.injEq] at hg; obtain ⟨rfl, _, rfl⟩ := hg; simp at hln; omega
              | cons i p => simp [Root.tree, LV.get, LV.kid] at hg
            · obtain ⟨f1, f2, f3⟩ := g2.get hg
              have hl := g2.len
              rw [Root.off_eq] at f2 f3
              rw [List.length_take, Array.length_toList] at f3 hl
              rw [List.drop_take, List.take_take, Nat.min_eq_left (by omega)] at f2
              have hoff : ∀ (p : List Nat) (S : Sh), S.at_ p = some (.arr m sh') → S.off (p ++ [l]) = S.off p + l * sh'.size := by
                intro p
                induction p with
                | nil => intro S hS; simp only [Sh.at_, Option.some.injEq] at hS; subst hS; simp [Sh.off, Sh.kid]
                | cons i p ih =>
                  intro S hS
                  simp only [Sh.at_, Option.bind_eq_some_iff] at hS
                  obtain ⟨q, hq, hS⟩ := hS
                  simp only [List.cons_append, Sh.off, hq, ih _ hS]
                  omega
              have f1' : r.tree.shape.off (p ++ [l]) = r.tree.shape.off p + l * sh'.size := hoff p _ f1
              rw [Root.off_eq, Root.off_eq, hS] at f1'
              rw [hS] at f2
              refine .inr ⟨b, S.off p + l * sh'.size, cap, cur, e, _, ?_, by rw [hlen]; exact h1, h2, g1, ?_⟩
              · rw [hv, hlen]
                simp only [pack, LV.shape, Sh.isAgg, Bool.false_eq_true, if_false, List.headD_cons, f1', Root.handle_blk g3]
              · cases f2 with
                | arr f2 =>
                  have a1 := cons_take (cons_drop f2 l (by omega)) n (by omega)
                  rw [hlen]
                  simp only [LV.shape, Sh.size] at a1
                  rw [List.drop_take, List.take_take, List.drop_drop, Nat.min_eq_left] at a1
                  · exact a1
                  · rw [← Nat.sub_mul]
                    exact Nat.mul_le_mul_right _ (by omega)
        · cases he
      · cases he
    · cases he
  · cases he
theorem Lies.src {v : Value} {sh : Sh} {xs : List LV} (h : Lies ρ N B w O v sh xs) (t e : TypeId) (ht : P.underlying t = some (.slice e)) (h0 : xs ≠ []) :
    ∃ news, Src P sh.size t v xs.length news w ∧ Cons ρ N B w O (List.replicate xs.length sh) xs news := by
  rcases h with ⟨A, c, rfl, hx⟩ | ⟨b, off, cap, cur, e', fr, rfl, h1, h2, h3, h4⟩
  · exact absurd hx h0
  · have hl := h4.len
    rw [Sh.sizes_replicate] at hl
    refine ⟨_, Src.ofSlice w ht ⟨b, off, none⟩ _ cap _ hl (fun j u hu => ?_) h4.ones, h4⟩
    rw [Addr.add_mid]
    rw [List.getElem?_take] at hu
    split at hu
    · rw [List.getElem?_drop] at hu
      simp only [World.cell?, h3]
      simpa using hu
    · cases hu
/-- 'append(v, x...)', v a row of the call's own. -/
theorem Sat.append (h : Sat c ρ s a w) {id : Nat} {sh : Sh} {xs ys : List LV} (hr : rootOf s.roots id = some (.row sh xs)) {t e ty : TypeId} {z : LV} (ht : tsl P t = some (e, z)) (hz : z.shape = sh) (hb : xs.length + ys.length ≤ 1000000000)
    {tx : TypeId} {y : Value} {news : List Value} (hnil : ys = [] → ∃ A cy, y = .slice A 0 cy ∧ tx = t) (hs : ys ≠ [] → Src P sh.size tx y ys.length news w ∧ Cons ρ s.next c.bb w (Mine ρ s.roots) (List.replicate ys.length sh) ys news) :
    ∃ v w' ρ', (Builtin.append_ #[t, tx] ty #[ρ id, y]).run P w = .ok v w' ∧ Sat c ρ' { s with roots := (s.next, .row sh (xs ++ ys)) :: dropRoot s.roots id, next := s.next + 1 } a w' ∧
      EVal ρ' (s.next + 1) c.bb w' (Mine ρ' ((s.next, .row sh (xs ++ ys)) :: dropRoot s.roots id)) (.one (.hd s.next)) v := by
  obtain ⟨h1, i, zv, h2, h3, h4, h5, h6, h7, h8, h9, h10⟩ := tsl_spec ht
  rw [hz] at h4 h6 h9
  have hmem := rootOf_mem hr
  obtain ⟨hlt, hok⟩ := h.rs.ok _ hmem
  have hend : ∀ (v : Value) (w' : World), (∀ A n cap, v = .slice A n cap → True) → v.oneCell' = true → EVal (upd ρ s.next v) (s.next + 1) c.bb w' (Mine (upd ρ s.next v) ((s.next, .row sh (xs ++ ys)) :: dropRoot s.roots id)) (.one (.hd s.next)) v :=
    fun v w' _ h1 => ⟨_, .hd (Nat.lt_succ_self _) (by rw [upd_self]; exact h1), by simp [pack, LV.shape, Sh.isAgg, upd_self]⟩
  by_cases hys : ys = []
  · subst hys
    obtain ⟨A, cy, rfl, rfl⟩ := hnil rfl
    rw [List.append_nil] at hend ⊢
    obtain ⟨B, l, cap, hv, hlc⟩ : ∃ B l cap, ρ id = .slice B l cap ∧ l ≤ cap := by
      rcases hok with ⟨s', A', e', hh⟩ | ⟨b, cur, e', g1, g2, ⟨cap, f1, f2, _, _⟩, g4⟩
      · exact ⟨_, _, _, hh, Nat.le_refl _⟩
      · exact ⟨_, _, _, f1, f2⟩
    refine ⟨ρ id, w, upd ρ s.next (ρ id), by rw [hv]; exact run_append_zero w tx ty e i h1 h2 B A l cap cy hlc, h.swap hmem (fun b hb => .inr hb) (Only.refl _ _) fun hmono => ?_, hend _ _ (fun _ _ _ _ => trivial) (by rw [hv]; rfl)⟩
    rcases hok with h1 | ⟨b, cur, e', g1, g2, g3, g4⟩
    · exact .inl h1
    · exact .inr ⟨b, cur, e', g1, hmono _ _ g2, g3, g4⟩
  · obtain ⟨hsrc, hcn⟩ := hs hys
    have hnl := hsrc.newsLen
    have hyl : 0 < ys.length := List.length_pos_iff.2 hys
    rw [← h4] at hsrc
    -- the row behind it, in a block of which the first cells are known
    have fin : ∀ (b cap : Nat) (cur' : Array Value) (e' : TypeId) (w' : World) (cs : List Value), (b = w.heap.size ∨ owns (ρ id) b) → xs.length + ys.length ≤ cap → cap ≤ 9223372036854775807 → cap * sh.size ≤ cur'.size → w'.heap[b]? = some (.cells cur' e' (0, 0)) →
        Cons ρ s.next c.bb w (Mine ρ s.roots) (List.replicate xs.length sh) xs cs → cur'.toList.take ((xs.length + ys.length) * sh.size) = cs ++ news → Only (owns (ρ id)) w w' →
        Sat c (upd ρ s.next (.slice (some ⟨b, 0, none⟩) (xs.length + ys.length) cap)) { s with roots := (s.next, .row sh (xs ++ ys)) :: dropRoot s.roots id, next := s.next + 1 } a w' := by
      intro b cap cur' e' w' cs hb' hc1 hc2 hc3 hh hcx htk hon
      refine h.swap hmem (fun b'' hb'' => ?_) hon fun hmono => .inr ⟨b, cur', e', hh, ?_, ⟨cap, by rw [List.length_append], by rw [List.length_append]; exact hc1, by omega, hc2⟩, hc3⟩
      · have := hb''.1
        simp only at this
        subst this
        rcases hb' with h | h
        · exact .inl (by omega)
        · exact .inr h
      · refine hmono _ _ ?_
        simp only [Root.tree, LV.shape, Sh.size, List.length_append, htk]
        refine .arr ?_
        rw [← List.replicate_append_replicate]
        exact hcx.append hcn
    have h63 : ((xs.length + ys.length : Nat) : Int) ≤ 9223372036854775807 := by omega
    have hby : (xs.length + ys.length) * i.bytes ≤ 140737488355328 := Nat.le_trans (Nat.mul_le_mul hb h8) (by decide)
    have grow : ∀ (B : Option Addr) (cap : Nat) (olds : List Value), ρ id = .slice B xs.length cap → cap < xs.length + ys.length → (Builtin.firstCells i.size xs.length (.slice B xs.length cap)).run P w.drew = .ok olds.toArray w.drew →
        Cons ρ s.next c.bb w (Mine ρ s.roots) (List.replicate xs.length sh) xs olds →
        ∃ v w' ρ', (Builtin.append_ #[t, tx] ty #[ρ id, y]).run P w = .ok v w' ∧ Sat c ρ' { s with roots := (s.next, .row sh (xs ++ ys)) :: dropRoot s.roots id, next := s.next + 1 } a w' ∧
          EVal ρ' (s.next + 1) c.bb w' (Mine ρ' ((s.next, .row sh (xs ++ ys)) :: dropRoot s.roots id)) (.one (.hd s.next)) v := by
      intro B cap olds hv hlt' hold hco
      have hr := run_append_grow_src (P := P) w t tx ty e i zv h1 h2 h3 B xs.length cap olds hold y ys.length news hsrc hlt' h63 (growslice_fits hlt' hby)
      have hge := grownCap_ge w (xs.length + ys.length) cap e
      have hcm := grownCap_le_maxLen w (xs.length + ys.length) cap e (by simp only [maxLen]; omega)
      simp only [maxLen] at hcm
      have hol := hco.len
      rw [Sh.sizes_replicate] at hol
      refine ⟨_, _, _, by rw [hv]; exact hr, fin w.heap.size _ _ e _ olds (.inl rfl) hge hcm ?_ (heap_alloc_new w.drew _) hco ?_ (((Only.refl _ w).drew).alloc _), hend _ _ (fun _ _ _ _ => trivial) rfl⟩
      · simp only [Array.size_append, List.size_toArray, List.length_append, size_zeroCells, h6, hol, hnl, ← Nat.add_mul]
        exact Nat.mul_le_mul_right _ (by omega)
      · simp only [Array.toList_append]
        rw [List.take_append_of_le_length (by simp only [List.length_append, hol, hnl, ← Nat.add_mul]; exact Nat.le_refl _), List.take_of_length_le]
        simp only [List.length_append, hol, hnl, ← Nat.add_mul]
        exact Nat.le_refl _
    rcases hok with ⟨s', A', e', hh⟩ | ⟨b, cur, e', g1, g2, ⟨cap, f1, f2, f3, f4⟩, g4⟩
    · cases e'
      exact grow A' 0 [] hh (by rw [List.length_nil]; omega) (by cases A' <;> simp [Builtin.firstCells, loadCells, loadCellsFrom]) .nil
    · cases g2 with
      | arr g2 =>
        simp only [Root.tree, LV.shape, Sh.size] at g2
        have hol := g2.len
        rw [Sh.sizes_replicate] at hol
        have hsz : cap * sh.size ≤ cur.size := by rw [f1] at g4; exact g4
        by_cases hroom : xs.length + ys.length ≤ cap
        · have hfit : xs.length * sh.size + news.length ≤ cur.size := by rw [hnl, ← Nat.add_mul]; exact Nat.le_trans (Nat.mul_le_mul_right _ hroom) hsz
          have hr := run_append_room_src (P := P) w t tx ty e i h1 h2 b 0 xs.length cap y ys.length news hsrc hroom
            (fun j hj => by simp [World.cell?, g1, h4, show xs.length * sh.size + j < cur.size by omega]) (fun j hj => frozen_of_row w b _ cur e' g1)
          have hr' : (Builtin.append_ #[t, tx] ty #[.slice (some ⟨b, 0, none⟩) xs.length cap, y]).run P w = .ok (.slice (some ⟨b, 0, none⟩) (xs.length + ys.length) cap) (w.setCells b (xs.length * sh.size) news) := by
            rw [hr, h4, Nat.zero_add]
          have howns : owns (ρ id) b := by rw [f1]; exact ⟨rfl, f3⟩
          refine ⟨_, _, _, by rw [f1]; exact hr', fin b cap _ e' _ _ (.inr howns) hroom f4 ?_ (heap_setCells news (xs.length * sh.size) cur w g1 hfit) g2 ?_ (only_setCells _ _ _ _ (Only.refl _ _) (.inl howns)), hend _ _ (fun _ _ _ _ => trivial) rfl⟩
          · simp only [List.size_toArray, List.length_append, List.length_take, List.length_drop, Array.length_toList]
            omega
          · rw [Nat.add_mul, ← hnl]
            have : (cur.toList.take (xs.length * sh.size) ++ news).length = xs.length * sh.size + news.length := by rw [List.length_append, hol]
            rw [← this]
            exact List.take_left
        · refine grow (some ⟨b, 0, none⟩) cap _ f1 (by omega) ?_ g2
          rw [h4]
          refine run_firstCells_some w.drew _ _ _ _ _ _ hol fun j u hu => ?_
          rw [Addr.add_mid, Nat.zero_add]
          rw [List.getElem?_take] at hu
          split at hu
          · have g1' : w.drew.heap[b]? = some (.cells cur e' (0, 0)) := g1
            simp only [World.cell?, g1']
            simpa using hu
          · cases hu
end Go.Proofs.Ytoimeebildcofaa
namespace Go.Proofs.Ytoimeebildcofaa
open Go.RowKit
set_option linter.unusedSimpArgs false
set_option linter.unusedVariables false
variable {P : Program} {ρ ρ' : Nat → Value} {N N' B : Nat} {w w' : World} {O O' : Nat → Prop} {R : Roots} {c : Ctx} {s : St} {a : Act} {o : Oper} {K : EV → St → Prop} {md : Prop}

theorem run_part {n : Nat} {t : TypeId} {sh : Sh} (ht : tsh P n t = some sh) {cs : Array Value} {off : Nat} (hl : off + sh.size ≤ cs.size) : (part t cs off).run P w = .ok (pack sh ((cs.toList.drop off).take sh.size)) w := by
  obtain ⟨i, d, h1, h2, h3, h4⟩ := tsh_info ht
  unfold part
  rw [Sem.run_bind, run_isAgg h2, h4, Result.andThen_ok]
  cases ha : sh.isAgg with
  | true =>
    simp only [if_true, Sem.run_bind, sizeOf, typeInfo, Sem.run_pure, pack, ha]
    simp [program, Sem.run, h1, h3]
    apply Array.ext'
    simp [List.extract_eq_take_drop]
  | false =>
    have hs : sh = .one := by cases sh <;> first | rfl | cases ha
    subst hs
    simp only [Sh.size] at hl
    have h5 : cs[off]? = some cs[off] := Array.getElem?_eq_getElem (by omega)
    simp only [Bool.false_eq_true, if_false, h5, Sem.run_pure, pack, ha]
    have h6 : (cs.toList.drop off).take Sh.one.size = [cs[off]] := by
      rw [List.drop_eq_getElem_cons (by rw [Array.length_toList]; omega)]
      simp [Sh.size]
    rw [h6]
    rfl
theorem does_field (t : TypeId) (x : Operand) (k : Nat) (ho : o.op = .field t x k) {ss : List Sh} {ts : List LV} {u : LV} (hx : s.ev x = some (.st ss ts)) (ht : T P t = some (.st ss)) (hu : ts[k]? = some u) (hk : K (.one u) s) : DoesM md P o s K :=
  does_pure hk fun c ρ a w hs => by
    obtain ⟨cs, hc, hv⟩ := hs.ev hx
    obtain ⟨off, h1, h2, h3, _⟩ := hc.kid (i := k) (u := u) hu
    replace h1 : (Sh.st ss).kid k = some (off, u.shape) := h1
    simp only [Sh.kid, Option.map_eq_some_iff, Prod.mk.injEq] at h1
    obtain ⟨sk, hsk, rfl, rfl⟩ := h1
    obtain ⟨fs, f, m, g1, g2, g3, g4⟩ := tsh_field ht hsk
    refine ⟨_, fun w' hw' => ?_, ⟨_, h2, rfl⟩⟩
    have hval : a.eval x = .agg cs.toArray := hv
    unfold execOp
    simp only [ho, hval, Instr.field, run_underlying g1, Sem.run_bind, Result.andThen_ok, g2, asAgg, Sem.run_pure, g3, run_part g4 (cs := cs.toArray) (by simpa using h3)]
/-- An element of an array's value. -/
theorem does_index_arr (t : TypeId) (x y : Operand) (ho : o.op = .index t x y) {n : Nat} {sh : Sh} {xs : List LV} {u : LV} {k : IntKind} {i : Int} (hx : s.ev x = some (.arr n sh xs)) (ht : T P t = some (.arr n sh)) (hy : s.ev y = some (.v (.int k i))) (h0 : 0 ≤ i) (hu : xs[i.toNat]? = some u) (hk : K (.one u) s) : DoesM md P o s K :=
  does_pure hk fun c ρ a w hs => by
    obtain ⟨cs, hc, hv⟩ := hs.ev hx
    obtain ⟨off, h1, h2, h3, _⟩ := hc.kid (i := i.toNat) (u := u) hu
    replace h1 : (Sh.arr n sh).kid i.toNat = some (off, u.shape) := h1
    simp only [Sh.kid, Option.some.injEq, Prod.mk.injEq] at h1
    have hlen : i.toNat < n := by
      cases hc with
      | arr hcs =>
        have := hcs.num
        rw [List.length_replicate] at this
        have := (List.getElem?_eq_some_iff.1 hu).1
        omega
    obtain ⟨rfl, e2⟩ := h1
    obtain ⟨e, m, g1, g2, g3⟩ := tsh_arr ht
    obtain ⟨ie, d, q1, q2, q3, q4⟩ := tsh_info g3
    have hi : i < (n : Int) := by omega
    have hval : a.eval x = .agg cs.toArray := hv
    refine ⟨_, fun w' hw' => ?_, ⟨_, h2, rfl⟩⟩
    unfold execOp
    rw [e2] at g3 q3
    have hp := run_part (w := w') g3 (cs := cs.toArray) (off := i.toNat * ie.size) (by rw [q3]; rw [e2] at h3; simpa using h3)
    rw [q3] at hp
    simp only [ho, hval, hs.evv hy, Instr.index, asIntOf, Sem.run_bind, Sem.run_pure, Result.andThen_ok, run_underlying g1, h0, hi, and_self, if_true, sizeOf, typeInfo, q1, q3, ← e2]
    simp [Sem.run, q1, q3, ← e2] at hp ⊢
    rw [hp]
    rfl
theorem does_extract (x : Operand) (k : Nat) (tx : Tmp) (hx : x = .tmp tx) (ho : o.op = .extract x k) {ts : List LV} {u : LV} (he : lk s.env tx = some (.tup ts)) (hu : ts[k]? = some u) (hk : K (.one u) s) : DoesM md P o s K :=
  does_pure hk fun c ρ a w hs => by
    obtain ⟨v, ⟨vs, h1, rfl⟩, h2⟩ := hs.env tx _ he
    obtain ⟨y, h3, h4⟩ := h1.get hu
    refine ⟨y, fun w' hw' => ?_, h4⟩
    have hval : a.eval x = .tuple vs.toArray := by rw [hx]; simp [Act.eval, Array.getD_eq_getD_getElem?, h2]
    unfold execOp
    simp [ho, hval, Instr.extract, h3]
theorem asIntOf_int (k : IntKind) (i : Int) : (asIntOf (.int k i)).run P w = .ok (k, i) w := rfl
/-- An element of a row of the call's own: its address. -/
theorem does_indexAddr (t : TypeId) (x y : Operand) (ho : o.op = .indexAddr t x y) {id : Nat} {sh : Sh} {xs : List LV} {e : TypeId} {z : LV} {k : IntKind} {i : Int} (hx : s.ev x = some (.hd id)) (hr : rootOf s.roots id = some (.row sh xs)) (ht : tsl P t = some (e, z)) (hz : z.shape = sh)
    (hy : s.ev y = some (.v (.int k i))) (h0 : 0 ≤ i) (h1 : i < xs.length) (hk : K (.one (.pt id (.arr 0 sh) [i.toNat])) s) : DoesM md P o s K :=
  does_pure hk fun c ρ a w hs => by
    obtain ⟨f1, j, zv, f2, f3, f4, f5, f6, f7, f8, f9, f10⟩ := tsl_spec ht
    rw [hz] at f4
    obtain ⟨hlt, hok⟩ := hs.rs.ok _ (rootOf_mem hr)
    obtain ⟨cs, hc, hv⟩ := hs.ev hx
    cases hc
    have hval : a.eval x = ρ id := hv
    rcases hok with ⟨s', A', e', hh⟩ | ⟨b, cur, e', g1, g2, ⟨cap, q1, q2, q3, q4⟩, g4⟩
    · cases e'; simp at h1; omega
    · simp only at q1
      refine ⟨.pointer (some ⟨b, i.toNat * sh.size, none⟩), fun w' hw' => ?_, ⟨_, .pt hlt, ?_⟩⟩
      · unfold execOp
        simp only [ho, hval, q1, hs.evv hy, Instr.indexAt, Sem.run_bind, asIntOf_int, Result.andThen_ok, run_underlying f1, Sem.run_pure, and_self, h0, h1, if_true, sizeOf, typeInfo, true_and]
        simp [program, Sem.run, f2, f4, Addr.add_mid]
      · simp [pack, LV.shape, Sh.isAgg, q1, blkOf, Sh.off, Sh.kid]
/-- An element of a slice that is only read: its address. -/
theorem does_indexAddr_vec (t : TypeId) (x y : Operand) (ho : o.op = .indexAddr t x y) {f : Bool} {sh : Sh} {xs : List LV} {u : LV} {e : TypeId} {z : LV} {k : IntKind} {i : Int} (hx : s.ev x = some (.vec f sh xs)) (ht : tsl P t = some (e, z)) (hz : z.shape = sh)
    (hy : s.ev y = some (.v (.int k i))) (h0 : 0 ≤ i) (h1 : xs[i.toNat]? = some u) (hk : K (.one (.ip u)) s) : DoesM md P o s K :=
  does_pure hk fun c ρ a w hs => by
    obtain ⟨f1, j, zv, f2, f3, f4, f5, f6, f7, f8, f9, f10⟩ := tsl_spec ht
    rw [hz] at f4
    obtain ⟨cs, hc, hv⟩ := hs.ev hx
    have hlt : i.toNat < xs.length := (List.getElem?_eq_some_iff.1 h1).1
    cases hc with
    | nil => simp at h1
    | @vec _ _ _ b off cap cur e' fr q1 q2 q3 q6 q4 q5 =>
      obtain ⟨g1, g2, g3, _⟩ := q5.at_ h1
      rw [take_replicate_sizes sh (Nat.le_of_lt hlt)] at g2 g3
      have hsh : u.shape = sh := by rw [List.getElem?_replicate, if_pos hlt] at g1; simpa using g1.symm
      refine ⟨.pointer (some ⟨b, off + i.toNat * sh.size, none⟩), fun w' hw' => ?_, ⟨_, .ip q3 q4 ?_, rfl⟩⟩
      · have hval : a.eval x = .slice (some ⟨b, off, none⟩) xs.length cap := hv
        have h1' : i < (xs.length : Int) := by omega
        unfold execOp
        simp only [ho, hval, hs.evv hy, Instr.indexAt, Sem.run_bind, asIntOf_int, Result.andThen_ok, run_underlying f1, Sem.run_pure, and_self, h0, h1', if_true, sizeOf, typeInfo, true_and]
        simp [program, Sem.run, f2, f4, Addr.add_mid]
      · rw [List.drop_take, List.take_take, List.drop_drop] at g2
        rw [Nat.min_eq_left] at g2
        · exact g2
        · have := q5.len
          rw [Sh.sizes_replicate] at this
          omega
/-- A byte of a string. -/
theorem does_index_str (t : TypeId) (x y : Operand) (ho : o.op = .index t x y) {b : ByteArray} {k : IntKind} {i : Int} (hx : s.ev x = some (.v (.string b))) (ht : P.underlying t = some .string) (hy : s.ev y = some (.v (.int k i))) (h0 : 0 ≤ i) {u : UInt8} (hu : b[i.toNat]? = some u)
    (hk : K (.one (.v (.int .u8 u.toNat))) s) : DoesM md P o s K :=
  does_plain rfl hk fun c ρ a w hs w' hw' => by
    unfold execOp
    simp [ho, hs.evv hx, hs.evv hy, Instr.index, run_underlying ht, asIntOf, Sem.run_bind, Sem.run, h0, hu]
theorem does_len_str (x : Operand) (t : TypeId) (ho : o.op = .call { callee := .builtin .len, args := #[x], argTypes := #[t] }) {b : ByteArray} (hx : s.ev x = some (.v (.string b))) (ht : P.underlying t = some .string) (hk : K (.one (.v (.int .i64 b.size))) s) : DoesM md P o s K :=
  does_plain rfl hk fun c ρ a w hs w' hw' => by
    unfold execOp
    simp [ho, resolve, invoke, builtin, hs.evv hx, Builtin.len_, run_underlying ht, goInt]
theorem does_len (x : Operand) (t : TypeId) (ho : o.op = .call { callee := .builtin .len, args := #[x], argTypes := #[t] }) {y : LV} {sh : Sh} {xs : List LV} {e : TypeId} {z : LV} (hx : s.ev x = some y) (he : s.elems y = some (sh, xs)) (ht : tsl P t = some (e, z)) (hk : K (.one (.v (.int .i64 xs.length))) s) : DoesM md P o s K :=
  does_plain rfl hk fun c ρ a w hs w' hw' => by
    obtain ⟨f1, _⟩ := tsl_spec ht
    obtain ⟨A, cap, hv⟩ : ∃ A cap, a.eval x = .slice A xs.length cap := by
      rcases hs.elems hx he with ⟨A, cc, h1, h2⟩ | ⟨b, off, cap, cur, e', fr, h1, _⟩
      · exact ⟨A, cc, by rw [h1, h2]; rfl⟩
      · exact ⟨_, _, h1⟩
    unfold execOp
    simp [ho, resolve, invoke, builtin, hv, Builtin.len_, run_underlying f1, goInt]
theorem does_append (x y : Operand) (t : TypeId) (ho : o.op = .call { callee := .builtin .append, args := #[x, y], argTypes := #[t, t] }) {id : Nat} {sh : Sh} {xs ys : List LV} {yv : LV} {e : TypeId} {z : LV} (hx : s.ev x = some (.hd id)) (hr : rootOf s.roots id = some (.row sh xs))
    (hy : s.ev y = some yv) (he : s.elems yv = some (sh, ys)) (ht : tsl P t = some (e, z)) (hz : z.shape = sh) (hb : xs.length + ys.length ≤ 1000000000)
    (hk : K (.one (.hd s.next)) { s with roots := (s.next, .row sh (xs ++ ys)) :: dropRoot s.roots id, next := s.next + 1 }) : Does P o s K :=
  fun c ρ a w hs => by
    obtain ⟨f1, _⟩ := tsl_spec ht
    have hl := hs.elems hy he
    obtain ⟨v, w', ρ', h1, h2, h3⟩ := hs.append (y := a.eval y) (tx := t) (news := (if h : ys = [] then [] else (hl.src t e f1 h).choose)) (ty := o.type) hr ht hz hb (fun h0 => by
        rcases hl with ⟨A, cc, h1, h2⟩ | ⟨b, off, cap, cur, e', fr, h1, _⟩
        · exact ⟨A, cc, h1, rfl⟩
        · rw [h0] at h1; exact ⟨_, _, h1, rfl⟩) (fun h0 => by rw [dif_neg h0]; exact (hl.src t e f1 h0).choose_spec)
    refine ⟨_, v, w', ρ', _, _, ?_, .inl rfl, h2, h3, rfl, hk⟩
    obtain ⟨cs, hc, hv⟩ := hs.ev hx
    cases hc
    have hval : a.eval x = ρ id := hv
    unfold execOp
    simp only [ho, resolve, invoke, builtin, Sem.run_bind, Sem.run_pure, Result.andThen_ok, List.map_toArray, List.map_cons, List.map_nil, hval, h1]
end Go.Proofs.Ytoimeebildcofaa
namespace Go.Proofs.Ytoimeebildcofaa
open Go.RowKit
set_option linter.unusedSimpArgs false
set_option linter.unusedVariables false
variable {P : Program} {ρ ρ' : Nat → Value} {N N' B : Nat} {w w' : World} {O O' : Nat → Prop} {R : Roots} {c : Ctx} {s : St} {a : Act} {o : Oper} {K : EV → St → Prop} {md : Prop}

/-- A bound of a slice, or what stands for it. -/
def St.opt (s : St) (d : Int) : Option Operand → Option Int
  | none => some d
  | some x => match s.ev x with | some (.v (.int _ i)) => some i | _ => none
theorem Sat.opt (h : Sat c ρ s a w) {x : Option Operand} {d i : Int} (hx : s.opt d x = some i) : (x = none ∧ i = d) ∨ ∃ k, x.map a.eval = some (.int k i) := by
  cases x with
  | none => simp only [St.opt, Option.some.injEq] at hx; exact .inl ⟨rfl, hx.symm⟩
  | some x =>
    simp only [St.opt] at hx
    split at hx
    · rename_i k j hj
      simp only [Option.some.injEq] at hx
      subst hx
      exact .inr ⟨k, by simp [h.evv hj]⟩
    · cases hx
theorem run_sliceBound {k : IntKind} {i : Int} {y : Nat} {code : BoundsCode} (h0 : 0 ≤ i) (h1 : i ≤ y) : (Instr.sliceBound (.int k i) y code).run P w = .ok i.toNat w := by
  simp [Instr.sliceBound, Sem.run_bind, asIntOf, h0, h1]
theorem run_sliceBounds {isS : Bool} {len cap : Nat} {lo hi mx : Option Value} {l h m : Int} (hm : (mx = none ∧ m = cap) ∨ ∃ k, mx = some (.int k m)) (hh : (hi = none ∧ h = len ∧ mx = none) ∨ ∃ k, hi = some (.int k h)) (hl : (lo = none ∧ l = 0) ∨ ∃ k, lo = some (.int k l))
    (h0 : 0 ≤ l) (h1 : l ≤ h) (h2 : h ≤ m) (h3 : m ≤ cap) : (Instr.sliceBounds isS len cap lo hi mx).run P w = .ok (l.toNat, h.toNat, m.toNat) w := by
  have a1 : h ≤ (m.toNat : Int) := by omega
  have a2 : l ≤ (h.toNat : Int) := by omega
  have a3 : 0 ≤ h := by omega
  have a4 : 0 ≤ m := by omega
  have b2 : ∀ (y : Nat), h ≤ (y : Int) → ∀ (k : IntKind) (code : BoundsCode), (Instr.sliceBound (.int k l) y code).run P w = .ok l.toNat w := fun y e k code => run_sliceBound h0 (by omega)
  unfold Instr.sliceBounds
  rcases hm with ⟨rfl, rfl⟩ | ⟨k, rfl⟩
  · rcases hh with ⟨rfl, rfl, _⟩ | ⟨k', rfl⟩ <;> rcases hl with ⟨rfl, rfl⟩ | ⟨k'', rfl⟩ <;>
      simp only [Sem.run_bind, Sem.run_pure, Result.andThen_ok, run_sliceBound a3 h2, b2, Int.self_le_toNat, Int.le_refl, Int.toNat_natCast, Int.toNat_zero]
  · rcases hh with ⟨_, _, hf⟩ | ⟨k', rfl⟩
    · cases hf
    · rcases hl with ⟨rfl, rfl⟩ | ⟨k'', rfl⟩ <;>
        simp only [Sem.run_bind, Sem.run_pure, Result.andThen_ok, run_sliceBound a4 h3, run_sliceBound a3 a1, run_sliceBound h0 a2, Int.toNat_zero]
theorem does_slice_str (t : TypeId) (x : Operand) (lo hi : Option Operand) (ho : o.op = .slice t x lo hi none) {b : ByteArray} {l h : Int} (hx : s.ev x = some (.v (.string b))) (ht : P.underlying t = some .string) (hl : s.opt 0 lo = some l) (hh : s.opt b.size hi = some h)
    (h0 : 0 ≤ l) (h1 : l ≤ h) (h2 : h ≤ b.size) (hk : K (.one (.v (.string (b.extract l.toNat h.toNat)))) s) : DoesM md P o s K :=
  does_plain rfl hk fun c ρ a w hs w' hw' => by
    have hb := run_sliceBounds (P := P) (w := w') (isS := false) (len := b.size) (cap := b.size) (lo := lo.map a.eval) (hi := hi.map a.eval) (mx := none) (l := l) (h := h) (m := b.size) (.inl ⟨rfl, rfl⟩)
      ((hs.opt hh).imp (fun e => ⟨by rw [e.1]; rfl, e.2, rfl⟩) id) ((hs.opt hl).imp (fun e => ⟨by rw [e.1]; rfl, e.2⟩) id) h0 h1 h2 (Int.le_refl _)
    unfold execOp
    simp [ho, hs.evv hx, Instr.sliceAt, Instr.slice, run_underlying ht, hb]
theorem run_slice_row {t e : TypeId} {i : TypeInfo} (ht : P.underlying t = some (.slice e)) (hi : P.info? e = some i) {A : Option Addr} {n cap : Nat} {lo h mx : Option Value} {l' h' m' : Nat} (hb : (Instr.sliceBounds true n cap lo h mx).run P w = .ok (l', h', m') w) :
    (Instr.sliceAt t (.slice A n cap) lo h mx).run P w = .ok (.slice (if m' = l' then A else A.map (·.add (l' * i.size))) (h' - l') (m' - l')) w := by
  simp [Instr.sliceAt, Instr.slice, run_underlying ht, hb, sizeOf, typeInfo, hi]
theorem slice_bounds (hs : Sat c ρ s a w) {n cap : Nat} {lo hi mx : Option Operand} {l h m : Int} (hl : s.opt 0 lo = some l) (hh : s.opt n hi = some h) (hm : s.opt n mx = some m) (hmx : mx = none ∨ hi ≠ none) (h0 : 0 ≤ l) (h1 : l ≤ h) (h2 : h ≤ m) (h3 : m ≤ n) (hnc : n ≤ cap) :
    ∃ m' : Nat, h.toNat ≤ m' ∧ m' ≤ cap ∧ ∀ w : World, (Instr.sliceBounds true n cap (lo.map a.eval) (hi.map a.eval) (mx.map a.eval)).run P w = .ok (l.toNat, h.toNat, m') w := by
  have hl' : (lo.map a.eval = none ∧ l = 0) ∨ ∃ k, lo.map a.eval = some (.int k l) := (hs.opt hl).imp (fun e => ⟨by rw [e.1]; rfl, e.2⟩) id
  cases mx with
  | none =>
    refine ⟨cap, by omega, Nat.le_refl _, fun w => ?_⟩
    have := run_sliceBounds (P := P) (w := w) (isS := true) (len := n) (cap := cap) (lo := lo.map a.eval) (hi := hi.map a.eval) (mx := none) (l := l) (h := h) (m := cap) (.inl ⟨rfl, rfl⟩)
      ((hs.opt hh).imp (fun e => ⟨by rw [e.1]; rfl, e.2, rfl⟩) id) hl' h0 h1 (by omega) (Int.le_refl _)
    simpa using this
  | some y =>
    rcases hmx with hmx | hmx
    · cases hmx
    rcases hs.opt hm with ⟨e, _⟩ | ⟨k, e⟩
    · cases e
    rcases hs.opt hh with ⟨e', _⟩ | ⟨k', e'⟩
    · exact absurd e' hmx
    refine ⟨m.toNat, by omega, by omega, fun w => ?_⟩
    exact run_sliceBounds (.inr ⟨k, e⟩) (.inr ⟨k', e'⟩) hl' h0 h1 h2 (by omega)
/-- A part of a slice that is only read. -/
theorem does_slice_vec (t : TypeId) (x : Operand) (lo hi mx : Option Operand) (ho : o.op = .slice t x lo hi mx) {f : Bool} {sh : Sh} {xs : List LV} {e : TypeId} {z : LV} {l h m : Int} (hx : s.ev x = some (.vec f sh xs)) (ht : tsl P t = some (e, z)) (hz : z.shape = sh)
    (hl : s.opt 0 lo = some l) (hh : s.opt xs.length hi = some h) (hm : s.opt xs.length mx = some m) (hmx : mx = none ∨ hi ≠ none) (h0 : 0 ≤ l) (h1 : l ≤ h) (h2 : h ≤ m) (h3 : m ≤ xs.length) (hk : K (.one (.vec f sh ((xs.take h.toNat).drop l.toNat))) s) : DoesM md P o s K :=
  does_pure hk fun c ρ a w hs => by
    obtain ⟨f1, i, zv, f2, f3, f4, _⟩ := tsl_spec ht
    rw [hz] at f4
    obtain ⟨cs, hc, hv⟩ := hs.ev hx
    have hlen : ((xs.take h.toNat).drop l.toNat).length = h.toNat - l.toNat := by rw [List.length_drop, List.length_take]; omega
    cases hc with
    | @nil _ _ A cap =>
      have hz0 : l = 0 ∧ h = 0 ∧ m = 0 := by simp at h3; omega
      obtain ⟨rfl, rfl, rfl⟩ := hz0
      obtain ⟨m', g1, g2, g3⟩ := slice_bounds (P := P) (n := 0) (cap := cap) hs hl hh hm hmx h0 h1 h2 h3 (Nat.zero_le _)
      refine ⟨.slice (if m' = (0 : Int).toNat then A else A.map (·.add ((0 : Int).toNat * i.size))) 0 m', fun w' hw' => ?_, ⟨[.slice (if m' = (0 : Int).toNat then A else A.map (·.add ((0 : Int).toNat * i.size))) 0 m'], .nil, rfl⟩⟩
      have hval : a.eval x = .slice A 0 cap := hv
      unfold execOp
      simp only [ho, hval, run_slice_row f1 f2 (g3 w'), Sem.run_bind, Result.andThen_ok]
      rfl
    | @vec _ _ _ b off cap cur e' fr q1 q2 q3 q6 q4 q5 =>
      obtain ⟨m', g1, g2, g3⟩ := slice_bounds (P := P) hs hl hh hm hmx h0 h1 h2 h3 q1
      have hval : a.eval x = .slice (some ⟨b, off, none⟩) xs.length cap := hv
      refine ⟨_, fun w' hw' => by unfold execOp; simp only [ho, hval, run_slice_row f1 f2 (g3 w'), Sem.run_bind, Result.andThen_ok]; rfl, ?_⟩
      by_cases he : l.toNat = h.toNat
      · have : (xs.take h.toNat).drop l.toNat = [] := List.eq_nil_of_length_eq_zero (by omega)
        rw [this, he, Nat.sub_self]
        exact ⟨_, .nil, rfl⟩
      · have hne : ¬ m' = l.toNat := by omega
        refine ⟨[.slice (some ⟨b, off + l.toNat * sh.size, none⟩) ((xs.take h.toNat).drop l.toNat).length (m' - l.toNat)], .vec (by omega) (by omega) q3 q6 q4 ?_, ?_⟩
        · have a1 := cons_drop (cons_take q5 h.toNat (by omega)) l.toNat (by omega)
          have e1 : (((cur.toList.drop off).take (xs.length * sh.size)).take (h.toNat * sh.size)).drop (l.toNat * sh.size) = (cur.toList.drop (off + l.toNat * sh.size)).take ((h.toNat - l.toNat) * sh.size) := by
            rw [List.take_take, List.drop_take, List.drop_drop, Nat.min_eq_left (Nat.mul_le_mul_right _ (by omega)), ← Nat.sub_mul]
          rw [hlen, ← e1]
          exact a1
        · simp [pack, LV.shape, Sh.isAgg, hne, Addr.add_mid, f4, hlen]
/-- A part of a row of the call's own. -/
theorem does_slice_hd (t : TypeId) (x : Operand) (lo hi mx : Option Operand) (ho : o.op = .slice t x lo hi mx) {id : Nat} {sh : Sh} {xs : List LV} {e : TypeId} {z : LV} {l h m : Int} (hx : s.ev x = some (.hd id)) (hr : rootOf s.roots id = some (.row sh xs)) (ht : tsl P t = some (e, z)) (hz : z.shape = sh)
    (hl : s.opt 0 lo = some l) (hh : s.opt xs.length hi = some h) (hm : s.opt xs.length mx = some m) (hmx : mx = none ∨ hi ≠ none) (h0 : 0 ≤ l) (h1 : l ≤ h) (h2 : h ≤ m) (h3 : m ≤ xs.length) (hk : K (.one (.sub id (.arr 0 sh) [] l.toNat (h.toNat - l.toNat))) s) : DoesM md P o s K :=
  does_pure hk fun c ρ a w hs => by
    obtain ⟨f1, i, zv, f2, f3, f4, _⟩ := tsl_spec ht
    rw [hz] at f4
    obtain ⟨cs, hc, hv⟩ := hs.ev hx
    cases hc
    have hval : a.eval x = ρ id := hv
    obtain ⟨hlt, hok⟩ := hs.rs.ok _ (rootOf_mem hr)
    obtain ⟨A, cap, q, hq, hcm, hA⟩ : ∃ A cap, ρ id = .slice A xs.length cap ∧ xs.length ≤ cap ∧ cap ≤ 9223372036854775807 ∧ (cap = 0 ∨ A = some ⟨blkOf (ρ id), 0, none⟩) := by
      rcases hok with ⟨s', A', e', hh⟩ | ⟨b, cur, e', g1, g2, ⟨cap, q1, q2, q3, q4⟩, g4⟩
      · cases e'; exact ⟨A', 0, hh, Nat.le_refl _, by omega, .inl rfl⟩
      · exact ⟨_, cap, q1, q2, q4, .inr (by rw [show ρ id = _ from q1]; rfl)⟩
    obtain ⟨m', g1, g2, g3⟩ := slice_bounds (P := P) hs hl hh hm hmx h0 h1 h2 h3 hq
    refine ⟨_, fun w' hw' => by unfold execOp; simp only [ho, hval, q, run_slice_row f1 f2 (g3 w'), Sem.run_bind, Result.andThen_ok]; rfl, ?_⟩
    by_cases he : m' = l.toNat
    · have e1 : h.toNat - l.toNat = 0 := by omega
      rw [e1, he, if_pos rfl, Nat.sub_self]
      exact ⟨_, .sub0 hlt, rfl⟩
    · rcases hA with hA | hA
      · omega
      · refine ⟨_, .sub (cap := m' - l.toNat) hlt (by omega) (by omega) (fun _ => ?_), ?_⟩
        · rw [q]
          show _ ≤ cap
          omega
        · simp [pack, LV.shape, Sh.isAgg, he, hA, Addr.add_mid, f4, Sh.off, Sh.kid]
theorem madeCells_toList (z : Array Value) (h0 : 0 < z.size) (c : Nat) : (madeCells z (c * z.size)).toList = (List.replicate c z.toList).flatten := by
  induction c with
  | zero => simp [madeCells]
  | succ c ih =>
    rw [List.replicate_succ', List.flatten_append, ← ih]
    have : madeCells z ((c + 1) * z.size) = madeCells z (c * z.size) ++ z := by
      apply Array.ext
      · simp [madeCells, Nat.succ_mul]
      · intro i h1 h2
        simp only [madeCells, Array.size_map, Array.size_range] at h1
        rw [Array.getElem_append]
        have hm : i % z.size < z.size := Nat.mod_lt _ h0
        split
        · simp [madeCells]
        · rename_i hlt
          simp only [madeCells, Array.size_map, Array.size_range, Nat.not_lt] at hlt
          have e : i % z.size = i - c * z.size := by
            rw [Nat.succ_mul] at h1
            have : i = (i - c * z.size) + z.size * c := by rw [Nat.mul_comm z.size]; omega
            conv => lhs; rw [this]
            rw [Nat.add_mul_mod_self_left, Nat.mod_eq_of_lt (by omega)]
          simp [madeCells, e, getElem!_pos z (i - c * z.size) (by omega)]
    rw [this]
    simp
theorem does_makeSlice (t : TypeId) (x y : Operand) (ho : o.op = .makeSlice t x y) {e : TypeId} {z : LV} {k k' : IntKind} {l m : Int} (ht : tsl P t = some (e, z)) (hx : s.ev x = some (.v (.int k l))) (hy : s.ev y = some (.v (.int k' m))) (h0 : 0 ≤ l) (h1 : l ≤ m) (h2 : m ≤ 1000000000)
    (hk : K (.one (.hd s.next)) { s with roots := (s.next, .row z.shape (List.replicate l.toNat z)) :: s.roots, next := s.next + 1 }) : Does P o s K :=
  fun c ρ a w hs => by
    obtain ⟨f1, i, zv, f2, f3, f4, f5, f6, f7, f8, f9, f10⟩ := tsl_spec ht
    have hb : (i.bytes : Int) * m ≤ 281474976710656 := by
      have h3 : (i.bytes : Int) * m ≤ (i.bytes : Int) * 1000000000 := Int.mul_le_mul_of_nonneg_left h2 (by omega)
      omega
    have hr := run_make (P := P) w t e i zv f1 f2 f3 k k' l m h0 h1 hb (by omega)
    have hcz := cons_rep (f10 ρ s.next c.bb w (Mine ρ s.roots)) l.toNat
    have hmade : madeCells zv.cells (m.toNat * i.size) = ((List.replicate l.toNat zv.cells.toList).flatten ++ (List.replicate (m.toNat - l.toNat) zv.cells.toList).flatten).toArray := by
      apply Array.ext'
      rw [f4, ← f6, madeCells_toList zv.cells (by omega), ← List.flatten_append, List.replicate_append_replicate, show l.toNat + (m.toNat - l.toNat) = m.toNat by omega]
    obtain ⟨ρ', g1, g2, _, _⟩ := hs.newRow (sh := z.shape) (xs := List.replicate l.toNat z) (spare := (List.replicate (m.toNat - l.toNat) zv.cells.toList).flatten) (cap := m.toNat) (e := e) (by simpa using hcz) (by simp; omega)
      (by rw [← List.length_append, ← List.flatten_append, List.replicate_append_replicate, show l.toNat + (m.toNat - l.toNat) = m.toNat by omega, length_flatten_of (sz := z.shape.size) (fun c hc => by rw [List.eq_of_mem_replicate hc]; simpa using f6)]; simp) (by omega)
    rw [List.length_replicate] at g2
    refine ⟨_, .slice (some ⟨w.heap.size, 0, none⟩) l.toNat m.toNat, _, ρ', _, .one (.hd s.next), ?_, .inl rfl, g1, g2, rfl, hk⟩
    unfold execOp
    simp only [ho, hs.evv hx, hs.evv hy, hr, Sem.run_bind, Result.andThen_ok, hmade]
    rfl
end Go.Proofs.Ytoimeebildcofaa
namespace Go.Proofs.Ytoimeebildcofaa
open Go.RowKit
set_option linter.unusedSimpArgs false
set_option linter.unusedVariables false
variable {P : Program} {ρ ρ' : Nat → Value} {N N' B : Nat} {w w' : World} {O O' : Nat → Prop} {R : Roots} {c : Ctx} {s : St} {a : Act} {o : Oper} {K : EV → St → Prop} {md : Prop}

/-- Parts put into a value, one behind the other. -/
def buildK : LV → List (Nat × LV) → (LV → Prop) → Prop
  | t, [], K => K t
  | t, (i, u) :: r, K => (match t.kid i with | some k => u.shape = k.shape | none => False) ∧ buildK (t.setKid i u) r K
def St.evs (s : St) : List (Nat × Operand) → Option (List (Nat × LV))
  | [] => some []
  | (i, x) :: r => match s.ev x, s.evs r with | some u, some us => some ((i, u) :: us) | _, _ => none
theorem splice_fold (v : List Value) (off : Nat) (cs : Array Value) (h : off + v.length ≤ cs.size) :
    ((v.toArray.zipIdx.foldl (fun cs (x : Value × Nat) => cs.setIfInBounds (off + x.2) x.1) cs)).toList = cs.toList.take off ++ v ++ cs.toList.drop (off + v.length) := by
  obtain ⟨h1, h2⟩ := Go.Great.foldl_set off v 0 cs
  have e : v.toArray.zipIdx.foldl (fun cs (x : Value × Nat) => cs.setIfInBounds (off + x.2) x.1) cs = (v.zipIdx 0).foldl (fun cs (x : Value × Nat) => cs.setIfInBounds (off + x.2) x.1) cs := by simp
  rw [e]
  apply List.ext_getElem?
  intro k
  rw [Array.getElem?_toList, h2 k]
  simp only [Nat.add_zero, List.append_assoc, List.getElem?_append, List.length_take, Array.length_toList, List.getElem?_take, List.getElem?_drop, Array.getElem?_toList, Nat.min_eq_left (show off ≤ cs.size by omega)]
  by_cases h3 : k < off
  · rw [if_neg (by omega), if_pos h3, if_pos h3]
  · rw [if_neg h3]
    by_cases h4 : k < off + v.length
    · rw [if_pos (by omega), if_pos (by omega)]
    · rw [if_neg (by omega), if_neg (by omega)]
      congr 1
      omega
theorem fill_con {place : Nat → Option (Nat × Nat)} : ∀ {us : List (Nat × LV)} {L : List (Nat × Operand)} {t : LV} {cells : Array Value} {K : LV → Prop}, Sat c ρ s a w → s.evs L = some us → Con ρ s.next c.bb w (Mine ρ s.roots) t cells.toList →
    (∀ (t' : LV) (i : Nat) (k : LV), t'.shape = t.shape → t'.kid i = some k → ∀ o : Nat, t'.shape.kid i = some (o, k.shape) → place i = some (o, k.shape.size)) → buildK t us K →
    ∃ t' cells', Instr.fill place cells (L.map fun x => (x.1, a.eval x.2)) = some cells' ∧ Con ρ s.next c.bb w (Mine ρ s.roots) t' cells'.toList ∧ t'.shape = t.shape ∧ K t'
  | us, [], t, cells, K, hs, he, hc, hp, hb => by
    simp only [St.evs, Option.some.injEq] at he
    subst he
    exact ⟨t, cells, rfl, hc, rfl, hb⟩
  | us, (i, x) :: L, t, cells, K, hs, he, hc, hp, hb => by
    simp only [St.evs] at he
    split at he
    · rename_i u us' hu hus
      simp only [Option.some.injEq] at he
      subst he
      simp only [buildK] at hb
      obtain ⟨h1, h2⟩ := hb
      split at h1
      · rename_i k hk
        obtain ⟨off, g1, g2, g3, g4⟩ := hc.kid hk
        obtain ⟨cu, hcu, hvu⟩ := hs.ev hu
        obtain ⟨f1, f2⟩ := g4 u cu h1 hcu
        have hpl := hp t i k rfl hk off g1
        have hcl : cu.length = k.shape.size := by rw [hcu.len, h1]
        have hcells : (a.eval x).cells = cu.toArray := by rw [hvu]; exact Array.toList_inj.1 (by rw [pack_cells hcu])
        rw [Array.length_toList] at g3
        have hsp := splice_fold cu off cells (by omega)
        rw [hcl] at hsp
        rw [← hsp] at f1
        obtain ⟨t', cells', e1, e2, e3, e4⟩ := fill_con hs hus f1 (fun t' i k e => hp t' i k (e.trans f2)) h2
        refine ⟨t', cells', ?_, e2, e3.trans f2, e4⟩
        have hcond : ¬ ((decide (cu.length ≠ k.shape.size) || decide (off + cu.length > cells.size)) = true) := by simp; omega
        simp only [List.map_cons, Instr.fill, hpl, hcells, List.size_toArray]
        rw [if_neg hcond]
        exact e1
      · exact h1.elim
    · cases he
theorem does_build_st (t : TypeId) (parts : Array (Nat × Operand)) (ho : o.op = .build t parts) {z : LV} {ss : List Sh} {us : List (Nat × LV)} (hz : tz P t = some z) (ht : T P t = some (.st ss)) (he : s.evs parts.toList = some us) (hk : buildK z us fun t' => K (.one t') s) : DoesM md P o s K :=
  fun c ρ a w hs => by
    obtain ⟨i, v, sh, h1, h2, h3, h4, h5⟩ := tz_spec hz
    rw [ht] at h3
    cases h3
    have hpl : ∃ places, ∃ fs : Array Field, P.underlying t = some (.struct fs) ∧ fs.toList.mapM (fun f => (P.info? f.type).map fun i => (f.offset, i.size)) = some places ∧ ∀ i sh, ss[i]? = some sh → places[i]? = some (Sh.sizes (ss.take i), sh.size) := by
      have ht' : tsh P 9 t = some (.st ss) := ht
      obtain ⟨j, d, g1, g2, g3, g4⟩ := tsh_info ht'
      cases d with
      | struct fs =>
        have key : ∀ i sh, ss[i]? = some sh → ∃ f m, fs[i]? = some f ∧ f.offset = Sh.sizes (ss.take i) ∧ tsh P m f.type = some sh := fun i sh hi => by
          obtain ⟨fs', f, m, e1, e2, e3, e4⟩ := tsh_field ht' hi
          rw [g2] at e1
          cases e1
          exact ⟨f, m, e2, e3, e4⟩
        have hlen : fs.toList.length = ss.length := by
          simp only [tsh, g1, g2] at ht'
          split at ht'
          · rename_i ss' hm
            simp only [Option.ite_none_right_eq_some, Option.some.injEq, Sh.st.injEq] at ht'
            obtain ⟨⟨_, hc⟩, rfl⟩ := ht'
            simpa using congrArg List.length hc
          · cases ht'
        have hall : ∀ (k : Nat) (l : List Field), (∀ i f, l[i]? = some f → ∃ sh, ss[k + i]? = some sh ∧ f.offset = Sh.sizes (ss.take (k + i)) ∧ ∃ m, tsh P m f.type = some sh) →
            ∃ places, l.mapM (fun f => (P.info? f.type).map fun i => (f.offset, i.size)) = some places ∧ ∀ i f, l[i]? = some f → ∀ sh, ss[k + i]? = some sh → places[i]? = some (Sh.sizes (ss.take (k + i)), sh.size) := by
          intro k l
          induction l generalizing k with
          | nil => intro _; exact ⟨[], rfl, by simp⟩
          | cons f l ih =>
            intro hl
            obtain ⟨sh, e1, e2, m, e3⟩ := hl 0 f rfl
            obtain ⟨j, d, e4, e5, e6, e7⟩ := tsh_info e3
            obtain ⟨pl, q1, q2⟩ := ih (k + 1) (fun i f' hf => by have := hl (i + 1) f' hf; rw [show k + 1 + i = k + (i + 1) by omega]; exact this)
            refine ⟨(f.offset, j.size) :: pl, by simp [e4, q1], fun i f' hf sh' hsh => ?_⟩
            cases i with
            | zero => rw [e1] at hsh; cases hsh; simp only [List.getElem?_cons_zero, e2, e6]
            | succ i =>
              simp only [List.getElem?_cons_succ] at hf ⊢
              have := q2 i f' hf sh' (by rw [show k + 1 + i = k + (i + 1) by omega]; exact hsh)
              rw [this, show k + 1 + i = k + (i + 1) by omega]
        obtain ⟨pl, q1, q2⟩ := hall 0 fs.toList fun i f hf => by
          have hi : i < ss.length := by rw [← hlen]; exact (List.getElem?_eq_some_iff.1 hf).1
          obtain ⟨f', m, e1, e2, e3⟩ := key i ss[i] (List.getElem?_eq_getElem hi)
          rw [Array.getElem?_toList, e1] at hf
          cases hf
          rw [Nat.zero_add]
          exact ⟨_, List.getElem?_eq_getElem hi, e2, m, e3⟩
        refine ⟨pl, fs, g2, q1, fun i sh hi => ?_⟩
        obtain ⟨f, m, e1, e2, e3⟩ := key i sh hi
        have := q2 i f (by rw [Array.getElem?_toList]; exact e1) sh (by rw [Nat.zero_add]; exact hi)
        rwa [Nat.zero_add] at this
      | _ => simp [aggB, Sh.isAgg] at g4; try (simp only [tsh, g1, g2] at ht'; split at ht' <;> simp at ht')
    obtain ⟨places, fs, f1, f2, f3⟩ := hpl
    obtain ⟨t', cells', e1, e2, e3, e4⟩ := fill_con (place := (places.toArray[·]?)) hs he (h5 ρ s.next c.bb w (Mine ρ s.roots)) (fun t' i k e hk' o' ho' => by
      rw [e, h4] at ho'
      simp only [Sh.kid, Option.map_eq_some_iff, Prod.mk.injEq] at ho'
      obtain ⟨sk, hsk, rfl, rfl⟩ := ho'
      simpa using f3 i _ hsk) hk
    have hb : P.built t (parts.map fun (i, x) => (i, a.eval x)).toList = some cells' := by
      simp only [Program.built, h1, f1, h2, f2, Array.toList_map]
      exact e1
    refine ⟨.agg cells', .one t', fun w' hw' => ?_, ⟨_, e2, ?_⟩, e4⟩
    · unfold execOp
      simp only [ho, run_build w' t _ cells' hb, Sem.run_bind, Result.andThen_ok]
      rfl
    · simp [pack, e3, h4, Sh.isAgg]
/-- An array's value out of its elements. -/
theorem does_build_arr (t : TypeId) (parts : Array (Nat × Operand)) (ho : o.op = .build t parts) {z : LV} {n : Nat} {sh : Sh} {us : List (Nat × LV)} (hz : tz P t = some z) (ht : T P t = some (.arr n sh)) (he : s.evs parts.toList = some us) (hk : buildK z us fun t' => K (.one t') s) : DoesM md P o s K :=
  fun c ρ a w hs => by
    obtain ⟨i, v, sh', h1, h2, h3, h4, h5⟩ := tz_spec hz
    rw [ht] at h3
    cases h3
    obtain ⟨e, m, g1, g2, g3⟩ := tsh_arr ht
    obtain ⟨ie, d, q1, q2, q3, q4⟩ := tsh_info g3
    obtain ⟨t', cells', e1, e2, e3, e4⟩ := fill_con (place := fun i => some (i * ie.size, ie.size)) hs he (h5 ρ s.next c.bb w (Mine ρ s.roots)) (fun t' i k e hk' o' ho' => by
      rw [e, h4] at ho'
      simp only [Sh.kid, Option.some.injEq, Prod.mk.injEq] at ho'
      obtain ⟨rfl, hsk⟩ := ho'
      rw [← hsk, q3]) hk
    have hb : P.built t (parts.map fun (i, x) => (i, a.eval x)).toList = some cells' := by
      simp only [Program.built, h1, g1, h2, q1, Array.toList_map]
      exact e1
    refine ⟨.agg cells', .one t', fun w' hw' => ?_, ⟨_, e2, ?_⟩, e4⟩
    · unfold execOp
      simp only [ho, run_build w' t _ cells' hb, Sem.run_bind, Result.andThen_ok]
      rfl
    · simp [pack, e3, h4, Sh.isAgg]
end Go.Proofs.Ytoimeebildcofaa
namespace Go.Proofs.Ytoimeebildcofaa
open Go.RowKit
set_option linter.unusedSimpArgs false
set_option linter.unusedVariables false
variable {P : Program} {ρ ρ' : Nat → Value} {N N' B : Nat} {w w' : World} {O O' : Nat → Prop} {R : Roots} {c : Ctx} {s : St} {a : Act} {o : Oper} {K : EV → St → Prop} {md : Prop}

def rowK (t : LV) (K : List LV → Prop) : Prop := match t with | .arr _ _ xs => K xs | _ => False
theorem does_buildSlice (t : TypeId) (len : Nat) (parts : Array (Nat × Operand)) (ho : o.op = .buildSlice t len parts) {e : TypeId} {z : LV} {us : List (Nat × LV)} (ht : tsl P t = some (e, z)) (he : s.evs parts.toList = some us) (hlen : len * z.shape.size ≤ 10000)
    (hk : buildK (.arr len z.shape (List.replicate len z)) us fun t' => rowK t' fun xs => K (.one (.hd s.next)) { s with roots := (s.next, .row z.shape xs) :: s.roots, next := s.next + 1 }) : Does P o s K :=
  fun c ρ a w hs => by
    obtain ⟨f1, i, zv, f2, f3, f4, f5, f6, f7, f8, f9, f10⟩ := tsl_spec ht
    have hcz : Con ρ s.next c.bb w (Mine ρ s.roots) (.arr len z.shape (List.replicate len z)) (madeCells zv.cells (len * zv.cells.size)).toList := by
      rw [madeCells_toList zv.cells (by omega)]
      exact .arr (cons_rep (f10 ρ s.next c.bb w (Mine ρ s.roots)) len)
    obtain ⟨t', cells', e1, e2, e3, e4⟩ := fill_con (place := fun i => some (i * z.shape.size, z.shape.size)) hs he hcz (fun t' i k e hk' o' ho' => by
      rw [e] at ho'
      replace ho' : some (i * z.shape.size, z.shape) = some (o', k.shape) := ho'
      generalize k.shape = sk at *
      cases ho'
      rfl) hk
    have hfill : Instr.fill (fun j => some (j * i.size, i.size)) (madeCells zv.cells (len * i.size)) (parts.map fun (i, x) => (i, a.eval x)).toList = some cells' := by
      rw [f4, ← f6]
      rw [← f6] at e1
      rw [Array.toList_map]
      exact e1
    obtain ⟨xs, rfl⟩ : ∃ xs, t' = .arr len z.shape xs := by
      cases t' <;> simp only [LV.shape] at e3 <;> first | cases e3; exact ⟨_, rfl⟩ | cases e3
    have hrun : (Instr.buildSlice t len (parts.map fun (i, x) => (i, a.eval x))).run P w = .ok (.slice (some ⟨w.heap.size, 0, none⟩) len len) (w.alloc (.cells cells' e)) := by
      by_cases h0 : len * i.size = 0
      · unfold Instr.buildSlice
        have hf : Instr.fill (fun j => some (j * i.size, i.size)) #[] (parts.toList.map fun x => (x.1, a.eval x.2)) = some cells' := by
          have : madeCells zv.cells (len * i.size) = #[] := by rw [h0]; simp [madeCells, Array.range_zero']
          rw [← this]
          rw [Array.toList_map] at hfill
          exact hfill
        simp [run_underlying f1, sizeOf, typeInfo, f2, h0, hf, newRow, newObj, Sem.run, Array.range_zero']
      · exact run_buildSlice w t e len _ cells' i zv f1 f2 f3 (by rw [f4]; omega) h0 hfill
    cases e2 with
    | arr e2 =>
      have hn := e2.num
      rw [List.length_replicate] at hn
      have hl := e2.len
      rw [Sh.sizes_replicate] at hl
      obtain ⟨ρ', g1, g2, _, _⟩ := hs.newRow (sh := z.shape) (xs := xs) (cs := cells'.toList) (spare := []) (cap := len) (e := e) (by rw [hn]; exact e2) (by omega) (by rw [hl]; simp) (by have := Nat.le_mul_of_pos_right len f9; omega)
      rw [List.append_nil, hn] at g2
      rw [List.append_nil] at g1
      simp only [Array.toArray_toList] at g1 g2
      refine ⟨_, _, _, ρ', _, .one (.hd s.next), ?_, .inl rfl, g1, g2, rfl, e4⟩
      unfold execOp
      simp only [ho, hrun, Sem.run_bind, Result.andThen_ok]
      rfl
theorem does_move (x : Operand) (ho : o.op = .move x ∨ o.op = .assign x) {u : LV} (hx : s.ev x = some u) (hk : K (.one u) s) : DoesM md P o s K :=
  does_pure hk fun c ρ a w hs => ⟨a.eval x, fun w' hw' => by unfold execOp; rcases ho with ho | ho <;> simp [ho], hs.ev hx⟩
theorem does_move_tup (t : Tmp) (ho : o.op = .move (.tmp t) ∨ o.op = .assign (.tmp t)) {us : List LV} (hx : lk s.env t = some (.tup us)) (hk : K (.tup us) s) : DoesM md P o s K :=
  does_pure hk fun c ρ a w hs => by
    obtain ⟨v, h1, h2⟩ := hs.env t _ hx
    have : a.eval (.tmp t) = v := by simp [Act.eval, Array.getD_eq_getD_getElem?, h2]
    exact ⟨v, fun w' hw' => by unfold execOp; rcases ho with ho | ho <;> simp [ho, this], h1⟩
theorem does_pick (b x y : Operand) (ho : o.op = .pick b x y) {t : Bool} {u : LV} (hb : s.ev b = some (.v (.bool t))) (hx : s.ev (if t then x else y) = some u) (hk : K (.one u) s) : DoesM md P o s K :=
  does_pure hk fun c ρ a w hs => ⟨a.eval (if t then x else y), fun w' hw' => by unfold execOp; cases t <;> simp [ho, hs.evv hb, asBool], hs.ev hx⟩
theorem does_binOp (op : BinOp) (t t' : TypeId) (x y : Operand) (ho : o.op = .binOp op t x y t') {u v r : Value} (hx : s.ev x = some (.v u)) (hy : s.ev y = some (.v v)) (hb : (∃ a b, u = .bool a ∧ v = .bool b) → P.underlying t = some .bool) (hr : binB op u v = some r) (hk : K (.one (.v r)) s) : DoesM md P o s K := by
  have h1 := fun w => binB_spec (P := P) (w := w) t hb hr
  refine does_plain (h1 default).2.1 hk fun c ρ a w hs w' hw' => ?_
  obtain ⟨h2, _, h3, h4⟩ := h1 w'
  unfold execOp
  simp only [ho, hs.evv hx, hs.evv hy, Sem.run_bind, eqGuard_run op t x y h3 h4, Result.andThen_ok, h2]
  rfl
theorem does_unOp (op : UnOp) (t : TypeId) (x : Operand) (ho : o.op = .unOp op t x) {u r : Value} (hx : s.ev x = some (.v u)) (hr : unB op u = some r) (hk : K (.one (.v r)) s) : DoesM md P o s K := by
  have h1 := fun w => unB_spec (P := P) (w := w) hr
  refine does_plain (h1 default).2 hk fun c ρ a w hs w' hw' => ?_
  unfold execOp
  simp only [ho, hs.evv hx, Sem.run_bind, (h1 w').1, Result.andThen_ok]
  rfl
theorem does_nilCheck (x : Operand) (ho : o.op = .nilCheck x) {u : LV} (hx : s.ev x = some u) (hu : (∃ id S p, u = .pt id S p) ∨ ∃ t, u = .ip t) (hk : K (.one u) s) : DoesM md P o s K :=
  does_pure hk fun c ρ a w hs => by
    have hv := hs.ev hx
    obtain ⟨ad, hp⟩ : ∃ ad, a.eval x = .pointer (some ad) := by
      obtain ⟨cs, hc, he⟩ := hv
      rcases hu with ⟨id, S, p, rfl⟩ | ⟨t, rfl⟩
      · cases hc; exact ⟨_, he⟩
      · cases hc; exact ⟨_, he⟩
    exact ⟨.pointer (some ad), fun w' hw' => by unfold execOp; simp [ho, hp], by rw [← hp]; exact hv⟩
theorem does_conv_int (src dst : TypeId) (x : Operand) (ho : o.op = .convert src dst x) {k k' : IntKind} {n : Int} (hx : s.ev x = some (.v (.int k n))) (hd : P.underlying dst = some (.int k')) (hs' : (P.underlying src).isSome = true) (hk : K (.one (.v (.int k' (k'.wrap n)))) s) : DoesM md P o s K :=
  does_plain rfl hk fun c ρ a w hs w' hw' => by
    obtain ⟨d, hd'⟩ := Option.isSome_iff_exists.1 hs'
    unfold execOp
    simp [ho, hs.evv hx, convert, run_underlying hd, run_underlying hd', Conv.intToInt]
theorem does_conv_str (src dst : TypeId) (x : Operand) (ho : o.op = .convert src dst x) {b : ByteArray} (hx : s.ev x = some (.v (.string b))) (hd : P.underlying dst = some .string) (hs' : (P.underlying src).isSome = true) (hk : K (.one (.v (.string b))) s) : DoesM md P o s K :=
  does_plain rfl hk fun c ρ a w hs w' hw' => by
    obtain ⟨d, hd'⟩ := Option.isSome_iff_exists.1 hs'
    unfold execOp
    simp [ho, hs.evv hx, convert, run_underlying hd, run_underlying hd']
/-- Bytes as values. -/
def byteLV (n : Int) : LV := .v (.int .u8 n)
theorem does_conv_bytes (src dst u8 : TypeId) (x : Operand) (ho : o.op = .convert src dst x) {y : LV} {ns : List Int} (hx : s.ev x = some y) (he : s.elems y = some (.one, ns.map byteLV)) (hs' : P.underlying src = some (.slice u8)) (h8 : P.underlying u8 = some (.int .u8)) (hd : P.underlying dst = some .string)
    (hk : K (.one (.v (.string (strOfNums ns)))) s) : DoesM True P o s K :=
  does_plain rfl hk fun c ρ a w hs w' hw' => by
    have hrun : (convert src dst (a.eval x)).run P w' = .ok (.string (strOfNums ns)) w' := by
      rcases hs.elems hx he with ⟨A, cc, h1, h2⟩ | ⟨b, off, cap, cur, e', fr, h1, _, _, h4, h5⟩
      · have : ns = [] := by simpa using h2
        subst this
        rw [h1]
        cases A with
        | none => exact run_convert_bytes_nil w' src u8 hs' h8 0 cc dst hd
        | some ad => simp [convert, run_underlying hs', run_underlying h8, run_underlying hd, Conv.bytesToString, loadCells, loadCellsFrom]; rfl
      · rw [List.length_map] at h1
        rw [h1]
        refine run_convert_bytes_arg w' src u8 hs' h8 b off ns.length cap ns rfl (fun i hi => ?_) dst hd
        obtain ⟨g1, g2, g3, _⟩ := h5.at_ (i := i) (u := byteLV (ns.getD i 0)) (by simp [List.getD, hi])
        rw [List.length_map, take_replicate_sizes .one (Nat.le_of_lt hi)] at g2 g3
        simp only [byteLV, LV.shape, Sh.size, Nat.mul_one] at g2 g3
        generalize hcs : (List.drop i (List.take ns.length (List.drop off cur.toList))).take 1 = cs at g2
        cases g2
        have := congrArg (·[0]?) hcs
        simp only [List.getElem?_take, List.getElem?_drop, Nat.add_zero, show 0 < 1 from by omega, if_true, hi, List.getElem?_cons_zero, Array.getElem?_toList] at this
        have h4' := (hw' trivial b (Array.getElem?_eq_some_iff.1 h4).1).trans h4
        simp [World.cell?, h4', this]
    unfold execOp
    simp only [ho, hrun, Sem.run_bind, Result.andThen_ok]
    rfl
end Go.Proofs.Ytoimeebildcofaa
namespace Go.Proofs.Ytoimeebildcofaa
open Go.RowKit
set_option linter.unusedSimpArgs false
set_option linter.unusedVariables false
variable {P : Program} {ρ ρ' : Nat → Value} {N N' B : Nat} {w w' : World} {O O' : Nat → Prop} {R : Roots} {c : Ctx} {s : St} {a : Act} {o : Oper} {K : EV → St → Prop}

/-- A field's place in what is only read. -/
theorem does_fieldAddr_ip {md : Prop} (t : TypeId) (x : Operand) (k : Nat) (ho : o.op = .fieldAddr t x k) {ss : List Sh} {ts : List LV} {sk : Sh} {u : LV} (hx : s.ev x = some (.ip (.st ss ts))) (ht : T P t = some (.st ss)) (hk' : ss[k]? = some sk) (hu : ts[k]? = some u) (h0 : sk.size ≠ 0)
    (hk : K (.one (.ip u)) s) : DoesM md P o s K :=
  does_pure hk fun c ρ a w hs => by
    obtain ⟨fs, f, m, h1, h2, h3, h4⟩ := tsh_field ht hk'
    obtain ⟨i, d, e1, _, e3, _⟩ := tsh_info h4
    obtain ⟨cs, hc, hv⟩ := hs.ev hx
    cases hc with
    | @ip _ b off cur e fr g1 g2 g3 =>
      obtain ⟨o', q1, q2, q3, _⟩ := g3.kid (i := k) hu
      simp only [LV.shape, Sh.kid, hk', Option.map_some, Option.some.injEq, Prod.mk.injEq] at q1
      obtain ⟨q4, q5⟩ := q1
      subst q4
      refine ⟨.pointer (some ⟨b, off + Sh.sizes (ss.take k), none⟩), fun w' hw' => ?_, ⟨_, .ip g1 g2 ?_, rfl⟩⟩
      · have hval : a.eval x = .pointer (some ⟨b, off, none⟩) := hv
        unfold execOp
        simp [ho, hval, Instr.fieldAt, run_underlying h1, h2, Instr.sureAddr, fieldPlace, sizeOf, typeInfo, e1, e3, h0, h3, Addr.add_mid]
      · rw [List.length_take] at q3
        rw [List.drop_take, List.take_take, List.drop_drop, Nat.min_eq_left (by omega)] at q2
        exact q2
/-- Cells of a root's block are written: what the root is then. -/
theorem Sat.write (h : Sat c ρ s a w) {id off b : Nat} {r r' : Root} {cur : Array Value} {e : TypeId} {cu : List Value} (hr : rootOf s.roots id = some r) (g1 : w.heap[b]? = some (.cells cur e (0, 0))) (g2 : blkOf (ρ id) = b) (g3 : owns (ρ id) b)
    (hfit : off + cu.length ≤ cur.size) (k2 : r'.handle b (ρ id)) (k3 : r'.room (ρ id) cur.size) (f : Con ρ s.next c.bb w (Mine ρ s.roots) r'.tree ((cur.toList.take off ++ cu ++ cur.toList.drop (off + cu.length)).take r'.tree.shape.size)) :
    w.there (blkOf (ρ id)) off cu.length ∧ Sat c ρ { s with roots := rootPut s.roots id r' } a (w.setCells (blkOf (ρ id)) off cu) := by
  rw [g2]
  refine ⟨fun j hj => ⟨by simp [World.cell?, g1, show off + j < cur.size by omega], frozen_of_row w b _ cur e g1⟩, ?_⟩
  have hb := heap_setCells cu off cur w g1 hfit
  have hO : ∀ x, Mine ρ (rootPut s.roots id r') x ↔ Mine ρ s.roots x := fun x => mine_ids rootPut_ids
  have hmb : Mine ρ s.roots b := ⟨_, rootOf_mem hr, g3⟩
  have hon : Only (· = b) w (w.setCells b off cu) := only_setCells _ _ _ _ (Only.refl _ _) (.inl rfl)
  have hoth : ∀ x, x ≠ b → (w.setCells b off cu).heap[x]? = w.heap[x]? := fun x hx => by
    rcases Nat.lt_or_ge x w.heap.size with hlt | hge
    · exact hon.block x hlt hx
    · rw [Array.getElem?_eq_none hge, Array.getElem?_eq_none (by rw [size_setCells]; exact hge)]
  have hkeep : ∀ x o, ¬ Mine ρ s.roots x → w.heap[x]? = some o → (w.setCells b off cu).heap[x]? = some o ∧ ¬ Mine ρ (rootPut s.roots id r') x := fun x o hn hx =>
    ⟨(hoth x (fun e => hn (e ▸ hmb))).trans hx, fun hm => hn ((hO x).1 hm)⟩
  refine ⟨⟨fun x hx => ?_, ?_, ?_⟩, fun _ x hx => ?_, h.size, ?_, fun x hx => h.mine x ((hO x).1 hx), h.old, h.n0, h.defs⟩
  · rcases rootPut_mem h.rs.ids hx with ⟨rfl, y, hy, rfl⟩ | ⟨hx, hid⟩
    · refine ⟨(h.rs.ok _ hy).1, .inr ⟨b, _, e, hb, ?_, k2, ?_⟩⟩
      · exact f.mono (fun _ _ => rfl) (Nat.le_refl _) hkeep
      · have : (cur.toList.take off ++ cu ++ cur.toList.drop (off + cu.length)).toArray.size = cur.size := by
          simp only [List.size_toArray, List.length_append, List.length_take, List.length_drop, Array.length_toList]
          omega
        rw [this]
        exact k3
    · obtain ⟨h1, h2⟩ := h.rs.ok x hx
      refine ⟨h1, ?_⟩
      refine h2.mono (fun _ _ => rfl) (Nat.le_refl _) hkeep (fun y hy => hoth y (fun e => ?_))
      subst e
      exact pairwise_of (P := fun i j => ∀ b, owns (ρ i) b → ¬ owns (ρ j) b) (fun i j h b h1 h2 => h b h2 h1) h.rs.apart hx (rootOf_mem hr) hid _ hy g3
  · exact pairwise_ids (P := fun i j => ∀ b, owns (ρ i) b → ¬ owns (ρ j) b) rootPut_ids h.rs.apart
  · show ((rootPut s.roots id r').map (·.1)).Nodup
    rw [rootPut_ids]
    exact h.rs.ids
  · obtain ⟨v, h1, h2⟩ := h.env _ x hx
    exact ⟨v, h1.mono (fun _ _ => rfl) (Nat.le_refl _) hkeep, h2⟩
  · refine ⟨hon.os.trans h.only.os, hon.tape.trans h.only.tape, hon.output.trans h.only.output, Nat.le_trans h.only.size hon.size, fun k hk hn => (hoth k (fun e => ?_)).trans (h.only.block k hk hn)⟩
    subst e
    rcases h.mine _ hmb with h1 | h1
    · exact hn h1
    · omega
/-- Elements of a row of the call's own are written over. -/
theorem Sat.put_row (h : Sat c ρ s a w) {id l : Nat} {sh : Sh} {xs ys : List LV} {cu : List Value} (hr : rootOf s.roots id = some (.row sh xs)) (hl : l + ys.length ≤ xs.length) (h0 : ys ≠ []) (hc : Cons ρ s.next c.bb w (Mine ρ s.roots) (List.replicate ys.length sh) ys cu) :
    w.there (blkOf (ρ id)) (l * sh.size) cu.length ∧ Sat c ρ { s with roots := rootPut s.roots id (.row sh (xs.take l ++ ys ++ xs.drop (l + ys.length))) } a (w.setCells (blkOf (ρ id)) (l * sh.size) cu) := by
  obtain ⟨_, hok⟩ := h.rs.ok _ (rootOf_mem hr)
  have hy0 : 0 < ys.length := List.length_pos_iff.2 h0
  rcases hok with ⟨s', A, e, _⟩ | ⟨b, cur, e, g1, g2, ⟨cap, f1, f2, f3, f4⟩, g4⟩
  · cases e
    simp at hl
    exact absurd hl.2 h0
  · cases g2 with
    | arr g2 =>
      simp only [Root.tree, LV.shape, Sh.size] at g2
      have hol := g2.len
      rw [Sh.sizes_replicate] at hol
      have hcl := hc.len
      rw [Sh.sizes_replicate] at hcl
      have hsz : cap * sh.size ≤ cur.size := by rw [f1] at g4; exact g4
      have hlen : (xs.take l ++ ys ++ xs.drop (l + ys.length)).length = xs.length := by simp only [List.length_append, List.length_take, List.length_drop]; omega
      have hm : l * sh.size + ys.length * sh.size ≤ xs.length * sh.size := by rw [← Nat.add_mul]; exact Nat.mul_le_mul_right _ hl
      have hc' : xs.length * sh.size ≤ cap * sh.size := Nat.mul_le_mul_right _ f2
      have hfit : l * sh.size + cu.length ≤ cur.size := by omega
      refine h.write hr g1 (by rw [f1]; rfl) (by rw [f1]; exact ⟨rfl, f3⟩) hfit ⟨cap, by rw [hlen]; exact f1, by rw [hlen]; exact f2, f3, f4⟩ (by rw [f1]; exact hsz) ?_
      simp only [Root.tree, LV.shape, Sh.size, hlen]
      have e1 := splice_take (l := cur.toList) (cu := cu) (o := l * sh.size) (n := xs.length * sh.size) (by omega) (by have := Array.length_toList (xs := cur); omega)
      rw [← e1]
      refine .arr ?_
      have a1 := cons_take g2 l (by omega)
      have a2 := cons_drop g2 (l + ys.length) hl
      have a3 := (a1.append hc).append a2
      rw [List.replicate_append_replicate, List.replicate_append_replicate, show l + ys.length + (xs.length - (l + ys.length)) = xs.length by omega, Nat.add_mul, ← hcl] at a3
      exact a3
theorem rootPut_same : ∀ {R : Roots} {id : Nat} {r : Root}, rootOf R id = some r → rootPut R id r = R
  | [], _, _, h => by cases h
  | (k, r') :: R, id, r, h => by
    simp only [rootOf] at h
    simp only [rootPut]
    split at h
    · rename_i e; simp only [Option.some.injEq] at h; rw [if_pos e, h]
    · rename_i e; rw [if_neg e, rootPut_same h]
def Root.row?' : Root → Option (Sh × List LV)
  | .row s xs => some (s, xs)
  | _ => none
def St.row? (s : St) (id : Nat) : Option (Sh × List LV) := (rootOf s.roots id).bind Root.row?'
theorem St.row?_spec {id : Nat} {q : Sh × List LV} (h : s.row? id = some q) : rootOf s.roots id = some (.row q.1 q.2) := by
  obtain ⟨r, hr, e⟩ := Option.bind_eq_some_iff.1 h
  cases r <;> simp only [Root.row?', Option.some.injEq] at e
  · cases e
  · rw [hr, ← e]
theorem Lies.lenOf {v : Value} {sh : Sh} {ys : List LV} (h : Lies ρ N B w O v sh ys) : (Builtin.lenOf v).run P w' = .ok ys.length w' := by
  rcases h with ⟨A, c, rfl, rfl⟩ | ⟨b, off, cap, cur, e', fr, rfl, _⟩ <;> rfl
theorem Lies.first {v : Value} {sh : Sh} {ys : List LV} (h : Lies ρ N B w O v sh ys) {m : Nat} (hm : m ≤ ys.length) (h0 : 0 < m) :
    ∃ cu, (Builtin.firstCells sh.size m v).run P w = .ok cu.toArray w ∧ Cons ρ N B w O (List.replicate m sh) (ys.take m) cu := by
  rcases h with ⟨A, c, rfl, rfl⟩ | ⟨b, off, cap, cur, e', fr, rfl, h1, h2, h3, h4⟩
  · simp at hm; omega
  · have h5 := cons_take h4 m hm
    have hl := h5.len
    rw [Sh.sizes_replicate] at hl
    refine ⟨_, run_firstCells_some _ _ _ _ _ _ _ hl fun j u hu => ?_, h5⟩
    rw [Addr.add_mid]
    rw [List.getElem?_take] at hu
    split at hu
    · rw [List.getElem?_take] at hu
      split at hu
      · rw [List.getElem?_drop] at hu
        simp only [World.cell?, h3]
        simpa using hu
      · cases hu
    · cases hu
/-- 'copy(u, y)', u a row of the call's own or a part of one. -/
theorem does_copy (x y : Operand) (t t' : TypeId) (ho : o.op = .call { callee := .builtin .copy, args := #[x, y], argTypes := #[t, t'] }) {id l n : Nat} {sh : Sh} {xs ys : List LV} {u yv : LV} {e : TypeId} {z : LV} (hx : s.ev x = some u) (hu : (u = .hd id ∧ l = 0 ∧ n = xs.length) ∨ u = .sub id (.arr 0 sh) [] l n) (hr : s.row? id = some (sh, xs))
    (hy : s.ev y = some yv) (he : s.elems yv = some (sh, ys)) (ht : tsl P t = some (e, z)) (hz : z.shape = sh) (hln : l + n ≤ xs.length)
    (hk : K (.one (.v (.int .i64 (min ys.length n : Nat)))) { s with roots := rootPut s.roots id (.row sh (xs.take l ++ ys.take (min ys.length n) ++ xs.drop (l + min ys.length n))) }) : Does P o s K :=
  fun c ρ a w hs => by
    have hr' := St.row?_spec hr
    simp only at hr'
    obtain ⟨f1, i, zv, f2, f3, f4, _⟩ := tsl_spec ht
    rw [hz] at f4
    have hl := hs.elems hy he
    obtain ⟨cs, hc, hv⟩ := hs.ev hx
    obtain ⟨_, hok⟩ := hs.rs.ok _ (rootOf_mem hr')
    have hval : ∃ A cap, a.eval x = .slice A n cap ∧ (0 < n → A = some ⟨blkOf (ρ id), l * sh.size, none⟩) := by
      rcases hu with ⟨rfl, rfl, rfl⟩ | rfl
      · cases hc
        have hvv : a.eval x = ρ id := hv
        rcases hok with ⟨s', A, e', hh⟩ | ⟨b, cur, e', g1, g2, ⟨cap, q1, q2, q3, q4⟩, g4⟩
        · cases e'
          exact ⟨_, _, hvv.trans hh, fun h => absurd h (by simp)⟩
        · refine ⟨_, cap, hvv.trans q1, fun _ => ?_⟩
          rw [show ρ id = _ from q1, Nat.zero_mul]
          rfl
      · cases hc with
        | sub0 _ => exact ⟨_, _, hv, fun h => absurd h (by omega)⟩
        | @sub _ _ _ _ _ cap _ h1 h2 _ => exact ⟨_, cap, hv, fun hn => by simp [Sh.off, Sh.kid]⟩
    obtain ⟨A, cap, hval, hA⟩ := hval
    have hlen := hl.lenOf (P := P) (w' := w)
    by_cases hm : min ys.length n = 0
    · have hsame : rootPut s.roots id (.row sh (xs.take l ++ ys.take (min ys.length n) ++ xs.drop (l + min ys.length n))) = s.roots := by
        rw [hm, List.take_zero, List.append_nil, Nat.add_zero, List.take_append_drop]
        exact rootPut_same hr'
      rw [hsame] at hk
      refine ⟨.value (.int .i64 (min ys.length n : Nat)), _, w, ρ, s, .one (.v (.int .i64 (min ys.length n : Nat))), ?_, .inl rfl, hs, ⟨[.int .i64 (min ys.length n : Nat)], .v rfl, rfl⟩, rfl, hk⟩
      have hm' : ys.length.min n = 0 := hm
      have hf : (Builtin.firstCells i.size 0 (a.eval y)).run P w = .ok #[] w := by
        rcases hl with ⟨A, c, h1, _⟩ | ⟨b, off, cap, cur, e', fr, h1, _⟩ <;> rw [h1]
        · cases A <;> simp [Builtin.firstCells, loadCells, loadCellsFrom]
        · simp [Builtin.firstCells, loadCells, loadCellsFrom]
      have hst : ∀ A : Addr, (storeCells A []).run P w = .ok () w := fun A => rfl
      unfold execOp
      cases A <;> simp [ho, resolve, invoke, builtin, Sem.run_bind, Sem.run_pure, hval, Builtin.copy_, run_underlying f1, hlen, sizeOf, typeInfo, f2, hm', hf, hst, goInt]
    · obtain ⟨cu, q1, q2⟩ := hl.first (P := P) (m := min ys.length n) (by omega) (by omega)
      have hne : ys.take (min ys.length n) ≠ [] := fun h => by
        have := congrArg List.length h
        rw [List.length_take, List.length_nil] at this
        omega
      have htl : (ys.take (min ys.length n)).length = min ys.length n := by rw [List.length_take]; omega
      obtain ⟨p1, p2⟩ := hs.put_row (l := l) (ys := ys.take (min ys.length n)) (cu := cu) hr' (by rw [htl]; omega) hne (by rw [htl]; exact q2)
      rw [htl] at p2
      refine ⟨.value (.int .i64 (min ys.length n : Nat)), _, _, ρ, _, .one (.v (.int .i64 (min ys.length n : Nat))), ?_, .inl rfl, p2, ⟨[.int .i64 (min ys.length n : Nat)], .v rfl, rfl⟩, rfl, hk⟩
      have hrun := run_storeCells_cells (P := P) (blkOf (ρ id)) (l * sh.size) cu 0 w (fun j hj => by simpa using (p1 j hj).1) (fun j hj => by simpa using (p1 j hj).2) q2.ones
      simp only [Nat.add_zero] at hrun
      have hAn := hA (by omega)
      subst hAn
      have hmm : ys.length.min n = min ys.length n := rfl
      unfold execOp
      simp [ho, resolve, invoke, builtin, Sem.run_bind, Sem.run_pure, hval, Builtin.copy_, run_underlying f1, hlen, sizeOf, typeInfo, f2, f4, hmm, q1, hrun, goInt]
/-- A slice without elements may be a row of the call's own. -/
theorem Sat.asRow (h : Sat c ρ s a w) (A : Option Addr) (sh : Sh) : Sat c (upd ρ s.next (.slice A 0 0)) { s with roots := (s.next, .row sh []) :: s.roots, next := s.next + 1 } a w ∧
    ∀ t v, EVal ρ s.next c.bb w (Mine ρ s.roots) t v → EVal (upd ρ s.next (.slice A 0 0)) (s.next + 1) c.bb w (Mine (upd ρ s.next (.slice A 0 0)) ((s.next, .row sh []) :: s.roots)) t v :=
  h.grow (fun b hb => by cases A <;> simp [owns] at hb) (Only.refl _ _) (.inl ⟨sh, A, rfl, rfl⟩)
theorem dropRoot_new (hs : Sat c ρ s a w) (r : Root) : dropRoot ((s.next, r) :: s.roots) s.next = s.roots := by
  have : ∀ x ∈ s.roots, x.1 ≠ s.next := fun x hx => Nat.ne_of_lt (hs.rs.ok x hx).1
  simp only [dropRoot, List.filter_cons, bne_self_eq_false, Bool.false_eq_true, if_false]
  exact List.filter_eq_self.2 fun x hx => by simpa using this x hx
theorem does_append_nil (x y : Operand) (t : TypeId) (ho : o.op = .call { callee := .builtin .append, args := #[x, y], argTypes := #[t, t] }) {A : Option Addr} {sh : Sh} {ys : List LV} {yv : LV} {e : TypeId} {z : LV} (hx : s.ev x = some (.v (.slice A 0 0)))
    (hy : s.ev y = some yv) (he : s.elems yv = some (sh, ys)) (ht : tsl P t = some (e, z)) (hz : z.shape = sh) (hb : ys.length ≤ 1000000000)
    (hk : K (.one (.hd (s.next + 1))) { s with roots := (s.next + 1, .row sh ys) :: s.roots, next := s.next + 2 }) : Does P o s K :=
  fun c ρ a w hs => by
    obtain ⟨f1, _⟩ := tsl_spec ht
    obtain ⟨hs', hmono⟩ := hs.asRow A sh
    have hl := hs.elems hy he
    have hl' : Lies (upd ρ s.next (.slice A 0 0)) (s.next + 1) c.bb w (Mine (upd ρ s.next (.slice A 0 0)) ((s.next, .row sh []) :: s.roots)) (a.eval y) sh ys := by
      have hlt : ∀ x ∈ s.roots, x.1 < s.next := fun x hx => (hs.rs.ok x hx).1
      rcases hl with h1 | ⟨b, off, cap, cur, e', fr, h1, h2, h3, h4, h5⟩
      · exact .inl h1
      · refine .inr ⟨b, off, cap, cur, e', fr, h1, h2, h3, h4, h5.mono (fun i hi => upd_lt hi) (Nat.le_succ _) fun b o hn hb => ⟨hb, fun hm => ?_⟩⟩
        rcases mine_cons.1 hm with h | h
        · rw [upd_self] at h
          cases A <;> simp [owns] at h
        · exact hn ((mine_upd hlt).1 h)
    obtain ⟨v, w', ρ', h1, h2, h3⟩ := hs'.append (id := s.next) (sh := sh) (xs := []) (y := a.eval y) (tx := t) (news := (if h : ys = [] then [] else (hl'.src t e f1 h).choose)) (ty := o.type) (by simp [rootOf]) ht hz (by simpa using hb) (fun h0 => by
        rcases hl with ⟨A, cc, h1, h2⟩ | ⟨b, off, cap, cur, e', fr, h1, _⟩
        · exact ⟨A, cc, h1, rfl⟩
        · rw [h0] at h1; exact ⟨_, _, h1, rfl⟩) (fun h0 => by rw [dif_neg h0]; exact (hl'.src t e f1 h0).choose_spec)
    rw [dropRoot_new hs, List.nil_append] at h2 h3
    refine ⟨_, v, w', ρ', _, _, ?_, .inl rfl, h2, h3, rfl, hk⟩
    obtain ⟨cs, hc, hv⟩ := hs.ev hx
    cases hc
    have hval : a.eval x = upd ρ s.next (.slice A 0 0) s.next := by rw [upd_self]; exact hv
    unfold execOp
    simp only [ho, resolve, invoke, builtin, Sem.run_bind, Sem.run_pure, Result.andThen_ok, List.map_toArray, List.map_cons, List.map_nil, hval, h1]
/-- A slot that has a slice without elements has a row of the call's own. -/
def asRowK (s : St) (t : Nat) (sh : Sh) : St := { s with env := (t, .one (.hd s.next)) :: s.env, roots := (s.next, .row sh []) :: s.roots, next := s.next + 1 }
theorem Sat.slotRow (h : Sat c ρ s a w) {t : Nat} {A : Option Addr} (sh : Sh) (ht : lk s.env t = some (.one (.v (.slice A 0 0)))) : Sat c (upd ρ s.next (.slice A 0 0)) (asRowK s t sh) a w := by
  obtain ⟨h1, h2⟩ := h.asRow A sh
  obtain ⟨v, ⟨cs, g1, g2⟩, g3⟩ := h.env t _ ht
  refine ⟨h1.rs, fun t' x hx => ?_, h1.size, h1.only, h1.mine, h1.old, h1.n0, h1.defs⟩
  simp only [asRowK, lk] at hx
  split at hx
  · rename_i e
    simp only [Option.some.injEq] at hx
    subst hx
    subst e
    cases g1
    exact ⟨v, ⟨_, .hd (Nat.lt_succ_self _) (by rw [upd_self]; rfl), by rw [g2, upd_self]; rfl⟩, g3⟩
  · exact h1.env t' x hx
end Go.Proofs.Ytoimeebildcofaa
namespace Go.Proofs.Ytoimeebildcofaa
open Go.RowKit
set_option linter.unusedSimpArgs false
set_option linter.unusedVariables false
variable {P : Program} {ρ ρ' : Nat → Value} {N N' B : Nat} {w w' : World} {O O' : Nat → Prop} {R : Roots} {c : Ctx} {s : St} {a : Act} {o : Oper} {K : EV → St → Prop} {md : Prop}
/-- What a plain field is of: a number, a truth value, a text. -/
inductive Tag | i | b | s
def tagOf (P : Program) (t : TypeId) : Option Tag := match P.underlying t with | some (.int _) => some .i | some .bool => some .b | some .string => some .s | _ => none
def isOne : Option Sh → Bool
  | some .one => true
  | _ => false
theorem isOne_spec {x : Option Sh} (h : isOne x = true) : x = some .one := by
  unfold isOne at h
  split at h
  · rfl
  · cases h
def fieldsAt (P : Program) : Nat → List Field → Option (List Tag)
  | _, [] => some []
  | i, f :: fs => if f.offset = i ∧ f.name ≠ "_" ∧ isOne (tsh P 9 f.type) = true then (match tagOf P f.type, fieldsAt P (i + 1) fs with | some g, some gs => some (g :: gs) | _, _ => none) else none
/-- The fields' kinds of a struct that is compared field by field. -/
def eqS (P : Program) (t : TypeId) : Option (List Tag) := match P.underlying t with
  | some (.struct fs) => if P.stoodInHeld t = false ∧ P.eqGuardType P.depth t = false then fieldsAt P 0 fs.toList else none
  | _ => none
def eqL : List Tag → List LV → List LV → Option Bool
  | [], [], [] => some true
  | .i :: gs, .v (.int k x) :: us, .v (.int k' y) :: vs => if k = k' then (eqL gs us vs).map (fun r => x == y && r) else none
  | .b :: gs, .v (.bool x) :: us, .v (.bool y) :: vs => (eqL gs us vs).map (fun r => x == y && r)
  | .s :: gs, .v (.string x) :: us, .v (.string y) :: vs => (eqL gs us vs).map (fun r => x.toList == y.toList && r)
  | _, _, _ => none
theorem cons_v {ss : List Sh} {x : Value} {us : List LV} {cs : List Value} (h : Cons ρ N B w O ss (.v x :: us) cs) : ∃ ss' cs', cs = x :: cs' ∧ Cons ρ N B w O ss' us cs' := by
  cases h with
  | cons h1 h2 h3 =>
    cases h1
    exact ⟨_, _, rfl, h3⟩
theorem part_one {t : TypeId} (ht : tsh P 9 t = some .one) {cs : List Value} {i : Nat} {x : Value} (hx : cs[i]? = some x) : (part t cs.toArray i).run P w = .ok x w := by
  have hl := (List.getElem?_eq_some_iff.1 hx).1
  rw [run_part ht (by simp only [Sh.size, List.size_toArray]; omega)]
  have : (cs.toArray.toList.drop i).take Sh.one.size = [x] := by
    apply List.ext_getElem?
    intro j
    cases j with
    | zero => simp [Sh.size, List.getElem?_take, hx]
    | succ j => simp [Sh.size, List.getElem?_take]
  rw [this]
  simp [pack, Sh.isAgg]
theorem eqFields_run (d : Nat) {cx cy : List Value} : ∀ (fs : List Field) (i : Nat) (gs : List Tag) (us vs : List LV) (r : Bool) (ss ss' : List Sh) (rx ry : List Value),
    fieldsAt P i fs = some gs → eqL gs us vs = some r → Cons ρ N B w O ss us rx → Cons ρ N B w O ss' vs ry → (∀ j x, rx[j]? = some x → cx[i + j]? = some x) → (∀ j x, ry[j]? = some x → cy[i + j]? = some x) →
    (Op.eqFields (d + 1) cx.toArray cy.toArray fs).run P w' = .ok r w'
  | [], i, gs, us, vs, r, ss, ss', rx, ry, hf, he, _, _, _, _ => by
    simp only [fieldsAt, Option.some.injEq] at hf
    subst hf
    cases us <;> cases vs <;> simp [eqL] at he
    subst he
    simp [Op.eqFields]
  | f :: fs, i, gs, us, vs, r, ss, ss', rx, ry, hf, he, h1, h2, hx, hy => by
    simp only [fieldsAt] at hf
    split at hf
    · rename_i hc
      obtain ⟨c1, c2, c3⟩ := hc
      replace c3 := isOne_spec c3
      split at hf
      · rename_i g gs' e1 e2
        simp only [Option.some.injEq] at hf
        subst hf
        have go : ∀ (x y : Value) (us' vs' : List LV) (r1 r2 : Bool), us = .v x :: us' → vs = .v y :: vs' → eqL gs' us' vs' = some r2 → r = (r1 && r2) → (∀ w, (Op.equalIn (d + 1) f.type x y).run P w = .ok r1 w) →
            (Op.eqFields (d + 1) cx.toArray cy.toArray (f :: fs)).run P w' = .ok r w' := by
          intro x y us' vs' r1 r2 eu ev er err hr
          subst eu ev
          obtain ⟨s1, cs1, rfl, k1⟩ := cons_v h1
          obtain ⟨s2, cs2, rfl, k2⟩ := cons_v h2
          have hx0 : cx[f.offset]? = some x := by rw [c1]; exact hx 0 x rfl
          have hy0 : cy[f.offset]? = some y := by rw [c1]; exact hy 0 y rfl
          have ih := eqFields_run d (cx := cx) (cy := cy) fs (i + 1) gs' us' vs' r2 s1 s2 cs1 cs2 e2 er k1 k2 (fun j z hz => by have := hx (j + 1) z (by simpa using hz); rw [show i + 1 + j = i + (j + 1) by omega]; exact this) (fun j z hz => by have := hy (j + 1) z (by simpa using hz); rw [show i + 1 + j = i + (j + 1) by omega]; exact this)
          simp only [Op.eqFields, if_pos c2, Sem.run_bind, part_one c3 hx0, part_one c3 hy0, Result.andThen_ok, hr]
          cases r1
          · simp [err]
          · simpa [err] using ih
        cases g with
        | i =>
          match us, vs, he with
          | .v (.int k x) :: us', .v (.int k' y) :: vs', he =>
            simp only [eqL] at he
            split at he
            · rename_i hk
              subst hk
              obtain ⟨r2, er, rfl⟩ := Option.map_eq_some_iff.1 he
              have hu : ∃ k0, P.underlying f.type = some (.int k0) := by
                unfold tagOf at e1
                split at e1 <;> simp at e1
                exact ⟨_, by assumption⟩
              obtain ⟨k0, hu⟩ := hu
              exact go _ _ us' vs' (x == y) r2 rfl rfl er rfl fun w => run_equalIn_int w d f.type k k0 x y hu
            · cases he
        | b =>
          match us, vs, he with
          | .v (.bool x) :: us', .v (.bool y) :: vs', he =>
            simp only [eqL] at he
            obtain ⟨r2, er, rfl⟩ := Option.map_eq_some_iff.1 he
            have hu : P.underlying f.type = some .bool := by
              unfold tagOf at e1
              split at e1 <;> simp at e1
              assumption
            exact go _ _ us' vs' (x == y) r2 rfl rfl er rfl fun w => run_equalIn_bool' w d f.type x y hu
        | s =>
          match us, vs, he with
          | .v (.string x) :: us', .v (.string y) :: vs', he =>
            simp only [eqL] at he
            obtain ⟨r2, er, rfl⟩ := Option.map_eq_some_iff.1 he
            have hu : P.underlying f.type = some .string := by
              unfold tagOf at e1
              split at e1 <;> simp at e1
              assumption
            exact go _ _ us' vs' (x.toList == y.toList) r2 rfl rfl er rfl fun w => run_equalIn_string w d f.type x y hu
      · cases hf
    · cases hf
/-- Two structs of plain fields: equal, or not. -/
theorem does_eq_st (op : BinOp) (t t' : TypeId) (x y : Operand) (ho : o.op = .binOp op t x y t') {ss ss' : List Sh} {us vs : List LV} {gs : List Tag} {r : Bool} (hop : op = .eql ∨ op = .neq) (hx : s.ev x = some (.st ss us)) (hy : s.ev y = some (.st ss' vs)) (ht : eqS P t = some gs) (hr : eqL gs us vs = some r)
    (hk : K (.one (.v (.bool (if op = .eql then r else !r)))) s) : DoesM md P o s K :=
  does_plain rfl hk fun c ρ a w hs w' hw' => by
    obtain ⟨cx, hcx, hvx⟩ := hs.ev hx
    obtain ⟨cy, hcy, hvy⟩ := hs.ev hy
    cases hcx with
    | st h1 =>
    cases hcy with
    | st h2 =>
    have vx : a.eval x = .agg cx.toArray := hvx
    have vy : a.eval y = .agg cy.toArray := hvy
    unfold eqS at ht
    split at ht
    · rename_i fs hfs
      split at ht
      · rename_i hc
        have hfo : P.fieldsOf t = fs := by simp [Program.fieldsOf, hfs]
        have hE : (Op.equalIn 10000 t (.agg cx.toArray) (.agg cy.toArray)).run P w' = .ok r w' := by
          rw [run_equalIn_struct w' 9999 t _ _ (by rw [hfo]; exact hfs) hc.1, hfo]
          exact eqFields_run 9998 fs.toList 0 gs us vs r ss ss' cx cy ht hr h1 h2 (fun j z hz => by rw [Nat.zero_add]; exact hz) (fun j z hz => by rw [Nat.zero_add]; exact hz)
        unfold execOp
        rcases hop with rfl | rfl
        · simp only [ho, vx, vy, Sem.run_bind, run_eqGuard_agg w' .eql t x y _ _ hc.2, Result.andThen_ok, run_eql_struct, hE]
          rfl
        · simp only [ho, vx, vy, Sem.run_bind, run_eqGuard_agg w' .neq t x y _ _ hc.2, Result.andThen_ok, run_neq_struct, hE]
          rfl
      · cases ht
    · cases ht
end Go.Proofs.Ytoimeebildcofaa
namespace Go.Proofs.Ytoimeebildcofaa
open Go.RowKit
set_option linter.unusedSimpArgs false
set_option linter.unusedVariables false
variable {P : Program} {ρ ρ' : Nat → Value} {N N' B : Nat} {w w' : World} {O O' : Nat → Prop} {R : Roots} {c : Ctx} {s : St} {a : Act} {o : Oper} {K : EV → St → Prop} {md : Prop}

/-- It is there, and so it is of it. -/
def bo {α : Type} (o : Option α) (f : α → Prop) : Prop := match o with | some a => f a | none => False
@[congr] theorem bo_congr {α : Type} {o o' : Option α} {f : α → Prop} (h : o = o') : bo o f = bo o' f := by rw [h]
theorem bo_some {α : Type} (a : α) (f : α → Prop) : bo (some a) f = f a := rfl
theorem bo_spec {α : Type} {o : Option α} {f : α → Prop} (h : bo o f) : ∃ a, o = some a ∧ f a := by
  cases o with
  | none => exact h.elim
  | some a => exact ⟨a, rfl, h⟩
def St.get (s : St) : Operand → Option EV
  | .tmp t => lk s.env t
  | x => (s.ev x).map .one
def LV.bool? : LV → Option Bool
  | .v (.bool t) => some t
  | _ => none
def LV.int? : LV → Option Int
  | .v (.int _ i) => some i
  | _ => none
def LV.val? : LV → Option Value
  | .v x => some x
  | _ => none
theorem LV.bool?_spec {u : LV} {t : Bool} (h : u.bool? = some t) : u = .v (.bool t) := by
  unfold LV.bool? at h
  split at h
  · simp only [Option.some.injEq] at h; rw [h]
  · cases h
theorem LV.int?_spec {u : LV} {i : Int} (h : u.int? = some i) : ∃ k, u = .v (.int k i) := by
  unfold LV.int? at h
  split at h
  · simp only [Option.some.injEq] at h; exact ⟨_, by rw [h]⟩
  · cases h
theorem LV.val?_spec {u : LV} {x : Value} (h : u.val? = some x) : u = .v x := by
  unfold LV.val? at h
  split at h
  · simp only [Option.some.injEq] at h; rw [h]
  · cases h
def vMove (s : St) (x : Operand) (K : EV → St → Prop) : Prop := bo (s.get x) fun u => K u s
theorem vMove_does {x : Operand} (ho : o.op = .move x ∨ o.op = .assign x) (h : vMove s x K) : DoesM md P o s K := by
  obtain ⟨u, hu, h⟩ := bo_spec h
  refine does_pure h fun c ρ a w hs => ⟨a.eval x, fun w' hw' => by unfold execOp; rcases ho with ho | ho <;> simp [ho], ?_⟩
  cases x with
  | tmp t =>
    obtain ⟨v, h1, h2⟩ := hs.env t _ hu
    have : a.eval (.tmp t) = v := by simp [Act.eval, Array.getD_eq_getD_getElem?, h2]
    rw [this]; exact h1
  | const v => have hu' : (s.ev (.const v)).map EV.one = some u := hu; obtain ⟨u', h1, rfl⟩ := Option.map_eq_some_iff.1 hu'; exact hs.ev h1
  | func f => have hu' : (s.ev (.func f)).map EV.one = some u := hu; obtain ⟨u', h1, rfl⟩ := Option.map_eq_some_iff.1 hu'; exact hs.ev h1
  | global g => have hu' : (s.ev (.global g)).map EV.one = some u := hu; obtain ⟨u', h1, rfl⟩ := Option.map_eq_some_iff.1 hu'; exact hs.ev h1
def vPick (s : St) (b x y : Operand) (K : EV → St → Prop) : Prop :=
  bo ((s.ev b).bind LV.bool?) fun t => (t = true → bo (s.ev x) fun u => K (.one u) s) ∧ (t = false → bo (s.ev y) fun u => K (.one u) s)
theorem vPick_does {b x y : Operand} (ho : o.op = .pick b x y) (h : vPick s b x y K) : DoesM md P o s K := by
  obtain ⟨t, ht, h⟩ := bo_spec h
  obtain ⟨u, hu, hb⟩ := Option.bind_eq_some_iff.1 ht
  have := LV.bool?_spec hb
  subst this
  cases t with
  | true => obtain ⟨u, h1, h2⟩ := bo_spec (h.1 rfl); exact does_pick b x y ho hu h1 h2
  | false => obtain ⟨u, h1, h2⟩ := bo_spec (h.2 rfl); exact does_pick b x y ho hu h1 h2
def ldP (P : Program) (s : St) (t : TypeId) (K : EV → St → Prop) : LV → Prop
  | .pt id S p => bo (rootOf s.roots id) fun r => r.sh = S ∧ r.Acc p ∧ bo (r.tree.get p) fun u => T P t = some u.shape ∧ K (.one u) s
  | .ip u => T P t = some u.shape ∧ K (.one u) s
  | _ => False
def vLoad (P : Program) (s : St) (t : TypeId) (x : Operand) (K : EV → St → Prop) : Prop := bo (s.ev x) (ldP P s t K)
theorem vLoad_does {t : TypeId} {x : Operand} (ho : o.op = .load t x) (h : vLoad P s t x K) : DoesM True P o s K := by
  obtain ⟨u, hu, h⟩ := bo_spec h
  unfold ldP at h
  split at h
  · obtain ⟨r, hr, h1, h2, h3⟩ := bo_spec h
    obtain ⟨v, hv, h4, h5⟩ := bo_spec h3
    exact does_load t x ho hu hr h1 h2 hv h4 h5
  · exact does_load_ip t x ho hu h.1 h.2
  · exact h.elim
def stP (P : Program) (s : St) (t : TypeId) (u' : LV) (K : EV → St → Prop) : LV → Prop
  | .pt id S p => bo (rootOf s.roots id) fun r => r.sh = S ∧ r.Acc p ∧ bo (r.tree.get p) fun u => bo (r.tree.put p u') fun t' => u'.shape = u.shape ∧ T P t = some u.shape ∧ K .un { s with roots := rootPut s.roots id (r.with_ t') }
  | _ => False
def vStore (P : Program) (s : St) (t : TypeId) (x y : Operand) (K : EV → St → Prop) : Prop := bo (s.ev y) fun u' => bo (s.ev x) (stP P s t u' K)
theorem vStore_does {t : TypeId} {x y : Operand} (ho : o.op = .store t x y) (h : vStore P s t x y K) : Does P o s K := by
  obtain ⟨u', hy, h⟩ := bo_spec h
  obtain ⟨u, hx, h⟩ := bo_spec h
  unfold stP at h
  split at h
  · obtain ⟨r, hr, h1, h2, h3⟩ := bo_spec h
    obtain ⟨v, hv, h4⟩ := bo_spec h3
    obtain ⟨t', ht', h5, h6, h7⟩ := bo_spec h4
    intro c ρ a w hs
    obtain ⟨w', g1, g2⟩ := does_store (K := fun _ _ => True) t x y ho hx hy hr h1 h2 hv ht' h5 h6 trivial c ρ a w hs
    exact ⟨_, undef, w', ρ, _, .un, g1, .inr ⟨rfl, rfl⟩, g2, rfl, rfl, h7⟩
  · exact h.elim
def isBoolT (P : Program) (t : TypeId) : Bool := match P.underlying t with | some .bool => true | _ => false
theorem isBoolT_spec {t : TypeId} (h : isBoolT P t = true) : P.underlying t = some .bool := by
  unfold isBoolT at h
  split at h
  · assumption
  · cases h
/-- A test or a sum of plain values; of truth values, if the type is theirs. -/
def binP (P : Program) (op : BinOp) (t : TypeId) (u v : Value) : Option Value :=
  match u, v with
  | .bool a, .bool b => if isBoolT P t = true then binB op (.bool a) (.bool b) else none
  | u, v => binB op u v
def biP (P : Program) (s : St) (op : BinOp) (t : TypeId) (K : EV → St → Prop) : LV → LV → Prop
  | .v u, .v v => bo (binP P op t u v) fun r => K (.one (.v r)) s
  | .st _ us, .st _ vs => (op = .eql ∨ op = .neq) ∧ bo (eqS P t) fun gs => bo (eqL gs us vs) fun r => K (.one (.v (.bool (if op = .eql then r else !r)))) s
  | _, _ => False
def vBin (P : Program) (s : St) (op : BinOp) (t : TypeId) (x y : Operand) (K : EV → St → Prop) : Prop :=
  bo (s.ev x) fun u => bo (s.ev y) fun v => biP P s op t K u v
theorem vBin_does {op : BinOp} {t t' : TypeId} {x y : Operand} (ho : o.op = .binOp op t x y t') (h : vBin P s op t x y K) : DoesM md P o s K := by
  obtain ⟨u0, hx, h⟩ := bo_spec h
  obtain ⟨v0, hy, h⟩ := bo_spec h
  unfold biP at h
  split at h
  · rename_i u v
    obtain ⟨r, hr, hK⟩ := bo_spec h
    unfold binP at hr
    split at hr
    · simp only [Option.ite_none_right_eq_some] at hr
      exact does_binOp op t t' x y ho hx hy (fun _ => isBoolT_spec hr.1) hr.2 hK
    · rename_i hne
      exact does_binOp op t t' x y ho hx hy (fun ⟨a, b, e1, e2⟩ => absurd e2 (hne a b e1)) hr hK
  · obtain ⟨hop, h⟩ := h
    obtain ⟨gs, hgs, h⟩ := bo_spec h
    obtain ⟨r, hr, hK⟩ := bo_spec h
    exact does_eq_st op t t' x y ho hop hx hy hgs hr hK
  · exact h.elim
def vUn (s : St) (op : UnOp) (x : Operand) (K : EV → St → Prop) : Prop := bo ((s.ev x).bind LV.val?) fun u => bo (unB op u) fun r => K (.one (.v r)) s
theorem vUn_does {op : UnOp} {t : TypeId} {x : Operand} (ho : o.op = .unOp op t x) (h : vUn s op x K) : DoesM md P o s K := by
  obtain ⟨u, hu, h⟩ := bo_spec h
  obtain ⟨r, hr, h⟩ := bo_spec h
  obtain ⟨u', hx, e⟩ := Option.bind_eq_some_iff.1 hu
  rw [LV.val?_spec e] at hx
  exact does_unOp op t x ho hx hr h
def fdP (P : Program) (s : St) (t : TypeId) (k : Nat) (K : EV → St → Prop) : LV → Prop
  | .st ss ts => T P t = some (.st ss) ∧ bo ts[k]? fun u => K (.one u) s
  | _ => False
def vField (P : Program) (s : St) (t : TypeId) (x : Operand) (k : Nat) (K : EV → St → Prop) : Prop := bo (s.ev x) (fdP P s t k K)
theorem vField_does {t : TypeId} {x : Operand} {k : Nat} (ho : o.op = .field t x k) (h : vField P s t x k K) : DoesM md P o s K := by
  obtain ⟨u, hx, h⟩ := bo_spec h
  unfold fdP at h
  split at h
  · obtain ⟨u, hu, h2⟩ := bo_spec h.2
    exact does_field t x k ho hx h.1 hu h2
  · exact h.elim
def Sh.fields : Sh → Option (List Sh)
  | .st ss => some ss
  | _ => none
def faP (P : Program) (s : St) (t : TypeId) (k : Nat) (K : EV → St → Prop) : LV → Prop
  | .pt id S p => bo ((T P t).bind Sh.fields) fun ss => S.at_ p = some (.st ss) ∧ bo ss[k]? fun sk => sk.size ≠ 0 ∧ K (.one (.pt id S (p ++ [k]))) s
  | .ip (.st ss ts) => T P t = some (.st ss) ∧ bo ss[k]? fun sk => sk.size ≠ 0 ∧ bo ts[k]? fun u => K (.one (.ip u)) s
  | _ => False
def vFieldAddr (P : Program) (s : St) (t : TypeId) (x : Operand) (k : Nat) (K : EV → St → Prop) : Prop := bo (s.ev x) (faP P s t k K)
theorem vFieldAddr_does {t : TypeId} {x : Operand} {k : Nat} (ho : o.op = .fieldAddr t x k) (h : vFieldAddr P s t x k K) : DoesM md P o s K := by
  obtain ⟨u, hx, h⟩ := bo_spec h
  unfold faP at h
  split at h
  · obtain ⟨ss, hss, h1, h2⟩ := bo_spec h
    obtain ⟨sh, ht, e⟩ := Option.bind_eq_some_iff.1 hss
    have : sh = .st ss := by
      cases sh <;> simp only [Sh.fields, Option.some.injEq] at e <;> first | (rw [e]) | cases e
    subst this
    obtain ⟨sk, hsk, h3, h4⟩ := bo_spec h2
    exact does_fieldAddr t x k ho hx ht h1 hsk h3 h4
  · obtain ⟨ht, h⟩ := h
    obtain ⟨sk, hsk, h3, h⟩ := bo_spec h
    obtain ⟨u, hu, h4⟩ := bo_spec h
    exact does_fieldAddr_ip t x k ho hx ht hsk hu h3 h4
  · exact h.elim
def Root.row? : Root → Option (Sh × List LV)
  | .row sh xs => some (sh, xs)
  | _ => none
theorem Root.row?_spec {r : Root} {q : Sh × List LV} (h : r.row? = some q) : r = .row q.1 q.2 := by
  cases r with
  | box t => cases h
  | row sh xs => simp only [Root.row?, Option.some.injEq] at h; rw [← h]
def iaP (s : St) (z : LV) (i : Int) (K : EV → St → Prop) : LV → Prop
  | .hd id => bo (rootOf s.roots id) fun r => bo r.row? fun q => z.shape = q.1 ∧ 0 ≤ i ∧ i < q.2.length ∧ K (.one (.pt id (.arr 0 q.1) [i.toNat])) s
  | .vec _ sh xs => z.shape = sh ∧ 0 ≤ i ∧ bo xs[i.toNat]? fun u => K (.one (.ip u)) s
  | _ => False
def vIndexAddr (P : Program) (s : St) (t : TypeId) (x y : Operand) (K : EV → St → Prop) : Prop :=
  bo (s.ev x) fun u => bo ((s.ev y).bind LV.int?) fun i => bo (tsl P t) fun q => iaP s q.2 i K u
theorem ev_int {y : Operand} {i : Int} (h : (s.ev y).bind LV.int? = some i) : ∃ k, s.ev y = some (.v (.int k i)) := by
  obtain ⟨u, hu, e⟩ := Option.bind_eq_some_iff.1 h
  obtain ⟨k, rfl⟩ := LV.int?_spec e
  exact ⟨k, hu⟩
theorem vIndexAddr_does {t : TypeId} {x y : Operand} (ho : o.op = .indexAddr t x y) (h : vIndexAddr P s t x y K) : DoesM md P o s K := by
  obtain ⟨u, hx, h⟩ := bo_spec h
  obtain ⟨i, hi, h⟩ := bo_spec h
  obtain ⟨⟨e, z⟩, ht, h⟩ := bo_spec h
  obtain ⟨k, hy⟩ := ev_int hi
  unfold iaP at h
  split at h
  · obtain ⟨r, hr, h⟩ := bo_spec h
    obtain ⟨q, hq, h1, h2, h3, h4⟩ := bo_spec h
    rw [Root.row?_spec hq] at hr
    exact does_indexAddr t x y ho hx hr ht h1 hy h2 h3 h4
  · obtain ⟨h1, h2, h3⟩ := h
    obtain ⟨v, hv, h4⟩ := bo_spec h3
    exact does_indexAddr_vec t x y ho hx ht h1 hy h2 hv h4
  · exact h.elim
def LV.str? : LV → Option ByteArray
  | .v (.string b) => some b
  | _ => none
theorem LV.str?_spec {u : LV} {b : ByteArray} (h : u.str? = some b) : u = .v (.string b) := by
  unfold LV.str? at h
  split at h
  · simp only [Option.some.injEq] at h; rw [h]
  · cases h
theorem ev_str {y : Operand} {b : ByteArray} (h : (s.ev y).bind LV.str? = some b) : s.ev y = some (.v (.string b)) := by
  obtain ⟨u, hu, e⟩ := Option.bind_eq_some_iff.1 h
  rw [LV.str?_spec e] at hu
  exact hu
def ixP (P : Program) (s : St) (t : TypeId) (i : Int) (K : EV → St → Prop) : LV → Prop
  | .v (.string b) => P.underlying t = some .string ∧ 0 ≤ i ∧ bo b[i.toNat]? fun u => K (.one (.v (.int .u8 u.toNat))) s
  | .arr n sh xs => T P t = some (.arr n sh) ∧ 0 ≤ i ∧ bo xs[i.toNat]? fun u => K (.one u) s
  | _ => False
def vIndex (P : Program) (s : St) (t : TypeId) (x y : Operand) (K : EV → St → Prop) : Prop :=
  bo (s.ev x) fun u => bo ((s.ev y).bind LV.int?) fun i => ixP P s t i K u
theorem vIndex_does {t : TypeId} {x y : Operand} (ho : o.op = .index t x y) (h : vIndex P s t x y K) : DoesM md P o s K := by
  obtain ⟨b, hb, h⟩ := bo_spec h
  obtain ⟨i, hi, h⟩ := bo_spec h
  obtain ⟨k, hy⟩ := ev_int hi
  unfold ixP at h
  split at h
  · obtain ⟨h1, h2, h3⟩ := h
    obtain ⟨u, hu, h4⟩ := bo_spec h3
    exact does_index_str t x y ho hb h1 hy h2 hu h4
  · obtain ⟨h1, h2, h3⟩ := h
    obtain ⟨u, hu, h4⟩ := bo_spec h3
    exact does_index_arr t x y ho hb h1 hy h2 hu h4
  · exact h.elim
def EV.tup? : EV → Option (List LV)
  | .tup us => some us
  | _ => none
def vExtract (s : St) (x : Operand) (k : Nat) (K : EV → St → Prop) : Prop := bo ((s.get x).bind EV.tup?) fun us => bo us[k]? fun u => K (.one u) s
theorem vExtract_does {x : Operand} {k : Nat} (ho : o.op = .extract x k) (h : vExtract s x k K) : DoesM md P o s K := by
  obtain ⟨us, hu, h⟩ := bo_spec h
  obtain ⟨u, hk, hK⟩ := bo_spec h
  obtain ⟨e, he, ht⟩ := Option.bind_eq_some_iff.1 hu
  have : e = .tup us := by cases e <;> simp only [EV.tup?, Option.some.injEq] at ht <;> first | (rw [ht]) | cases ht
  subst this
  cases x with
  | tmp t => exact does_extract _ k t rfl ho he hk hK
  | const v => have he' : (s.ev (.const v)).map EV.one = some (.tup us) := he; obtain ⟨u', h1, h2⟩ := Option.map_eq_some_iff.1 he'; cases h2
  | func f => have he' : (s.ev (.func f)).map EV.one = some (.tup us) := he; obtain ⟨u', h1, h2⟩ := Option.map_eq_some_iff.1 he'; cases h2
  | global g => have he' : (s.ev (.global g)).map EV.one = some (.tup us) := he; obtain ⟨u', h1, h2⟩ := Option.map_eq_some_iff.1 he'; cases h2
def slP (P : Program) (s : St) (t : TypeId) (lo hi mx : Option Operand) (K : EV → St → Prop) : LV → Prop
  | .v (.string b) => mx = none ∧ P.underlying t = some .string ∧ bo (s.opt 0 lo) fun l => bo (s.opt b.size hi) fun h => 0 ≤ l ∧ l ≤ h ∧ h ≤ b.size ∧ K (.one (.v (.string (b.extract l.toNat h.toNat)))) s
  | .vec f sh xs => bo (tsl P t) fun q => bo (s.opt 0 lo) fun l => bo (s.opt xs.length hi) fun h => bo (s.opt xs.length mx) fun m => q.2.shape = sh ∧ (mx = none ∨ hi ≠ none) ∧ 0 ≤ l ∧ l ≤ h ∧ h ≤ m ∧ m ≤ xs.length ∧ K (.one (.vec f sh ((xs.take h.toNat).drop l.toNat))) s
  | .hd id => bo (rootOf s.roots id) fun r => bo r.row? fun p => bo (tsl P t) fun q => bo (s.opt 0 lo) fun l => bo (s.opt p.2.length hi) fun h => bo (s.opt p.2.length mx) fun m =>
      q.2.shape = p.1 ∧ (mx = none ∨ hi ≠ none) ∧ 0 ≤ l ∧ l ≤ h ∧ h ≤ m ∧ m ≤ p.2.length ∧ K (.one (.sub id (.arr 0 p.1) [] l.toNat (h.toNat - l.toNat))) s
  | _ => False
def vSlice (P : Program) (s : St) (t : TypeId) (x : Operand) (lo hi mx : Option Operand) (K : EV → St → Prop) : Prop := bo (s.ev x) (slP P s t lo hi mx K)
theorem vSlice_does {t : TypeId} {x : Operand} {lo hi mx : Option Operand} (ho : o.op = .slice t x lo hi mx) (h : vSlice P s t x lo hi mx K) : DoesM md P o s K := by
  obtain ⟨u, hx, h⟩ := bo_spec h
  unfold slP at h
  split at h
  · obtain ⟨rfl, h1, h⟩ := h
    obtain ⟨l, hl, h⟩ := bo_spec h
    obtain ⟨k, hk, h2, h3, h4, h5⟩ := bo_spec h
    exact does_slice_str t x lo hi ho hx h1 hl hk h2 h3 h4 h5
  · obtain ⟨⟨e, z⟩, ht, h⟩ := bo_spec h
    obtain ⟨l, hl, h⟩ := bo_spec h
    obtain ⟨k, hk, h⟩ := bo_spec h
    obtain ⟨m, hm, h1, h2, h3, h4, h5, h6, h7⟩ := bo_spec h
    exact does_slice_vec t x lo hi mx ho hx ht h1 hl hk hm h2 h3 h4 h5 h6 h7
  · obtain ⟨r, hr, h⟩ := bo_spec h
    obtain ⟨p, hp, h⟩ := bo_spec h
    obtain ⟨⟨e, z⟩, ht, h⟩ := bo_spec h
    obtain ⟨l, hl, h⟩ := bo_spec h
    obtain ⟨k, hk, h⟩ := bo_spec h
    obtain ⟨m, hm, h1, h2, h3, h4, h5, h6, h7⟩ := bo_spec h
    rw [Root.row?_spec hp] at hr
    exact does_slice_hd t x lo hi mx ho hx hr ht h1 hl hk hm h2 h3 h4 h5 h6 h7
  · exact h.elim
def vMake (P : Program) (s : St) (t : TypeId) (x y : Operand) (K : EV → St → Prop) : Prop :=
  bo (tsl P t) fun q => bo ((s.ev x).bind LV.int?) fun l => bo ((s.ev y).bind LV.int?) fun m => 0 ≤ l ∧ l ≤ m ∧ m ≤ 1000000000 ∧ K (.one (.hd s.next)) { s with roots := (s.next, .row q.2.shape (List.replicate l.toNat q.2)) :: s.roots, next := s.next + 1 }
theorem vMake_does {t : TypeId} {x y : Operand} (ho : o.op = .makeSlice t x y) (h : vMake P s t x y K) : Does P o s K := by
  obtain ⟨⟨e, z⟩, ht, h⟩ := bo_spec h
  obtain ⟨l, hl, h⟩ := bo_spec h
  obtain ⟨m, hm, h1, h2, h3, h4⟩ := bo_spec h
  obtain ⟨k, hx⟩ := ev_int hl
  obtain ⟨k', hy⟩ := ev_int hm
  exact does_makeSlice t x y ho ht hx hy h1 h2 h3 h4
def Sh.agg? : Sh → Option Unit
  | .st _ => some ()
  | .arr _ _ => some ()
  | .one => none
def vBuild (P : Program) (s : St) (t : TypeId) (parts : Array (Nat × Operand)) (K : EV → St → Prop) : Prop :=
  bo (tz P t) fun z => bo ((T P t).bind Sh.agg?) fun _ => bo (s.evs parts.toList) fun us => buildK z us fun t' => K (.one t') s
theorem vBuild_does {t : TypeId} {parts : Array (Nat × Operand)} (ho : o.op = .build t parts) (h : vBuild P s t parts K) : DoesM md P o s K := by
  obtain ⟨z, hz, h⟩ := bo_spec h
  obtain ⟨ss, hss, h⟩ := bo_spec h
  obtain ⟨us, hus, h⟩ := bo_spec h
  obtain ⟨sh, ht, e⟩ := Option.bind_eq_some_iff.1 hss
  cases sh with
  | st ss => exact does_build_st t parts ho hz ht hus h
  | arr n sh => exact does_build_arr t parts ho hz ht hus h
  | one => cases e
def vBuildSlice (P : Program) (s : St) (t : TypeId) (len : Nat) (parts : Array (Nat × Operand)) (K : EV → St → Prop) : Prop :=
  bo (tsl P t) fun q => bo (s.evs parts.toList) fun us => len * q.2.shape.size ≤ 10000 ∧ buildK (.arr len q.2.shape (List.replicate len q.2)) us fun t' => rowK t' fun xs => K (.one (.hd s.next)) { s with roots := (s.next, .row q.2.shape xs) :: s.roots, next := s.next + 1 }
theorem vBuildSlice_does {t : TypeId} {len : Nat} {parts : Array (Nat × Operand)} (ho : o.op = .buildSlice t len parts) (h : vBuildSlice P s t len parts K) : Does P o s K := by
  obtain ⟨⟨e, z⟩, ht, h⟩ := bo_spec h
  obtain ⟨us, hus, h1, h2⟩ := bo_spec h
  exact does_buildSlice t len parts ho ht hus h1 h2
def TypeDesc.kind? : TypeDesc → Option IntKind
  | .int k => some k
  | _ => none
/-- The kind of a type of integers. -/
def tk (P : Program) (t : TypeId) : Option IntKind := match P.underlying t with | some (.int k) => some k | _ => none
theorem tk_spec {t : TypeId} {k : IntKind} (h : tk P t = some k) : P.underlying t = some (.int k) := by
  unfold tk at h
  split at h
  · rename_i k' hk; simp only [Option.some.injEq] at h; rw [hk, h]
  · cases h
/-- From bytes to a text. -/
def isBytes (P : Program) (src dst : TypeId) : Bool :=
  match P.underlying src, P.underlying dst with
  | some (.slice e), some .string => (match P.underlying e with | some (.int .u8) => true | _ => false)
  | _, _ => false
theorem isBytes_spec {src dst : TypeId} (h : isBytes P src dst = true) : ∃ e, P.underlying src = some (.slice e) ∧ P.underlying e = some (.int .u8) ∧ P.underlying dst = some .string := by
  unfold isBytes at h
  split at h
  · rename_i e h1 h2
    split at h
    · rename_i h3; exact ⟨e, h1, h3, h2⟩
    · cases h
  · cases h
def cvP (P : Program) (s : St) (src dst : TypeId) (K : EV → St → Prop) : LV → Prop
  | .v (.int _ n) => (P.underlying src).isSome = true ∧ bo (tk P dst) fun k => K (.one (.v (.int k (k.wrap n)))) s
  | .v (.string b) => (P.underlying src).isSome = true ∧ P.underlying dst = some .string ∧ K (.one (.v (.string b))) s
  | y => isBytes P src dst = true ∧ bo (s.elems y) fun q => ∃ ns, q = (.one, ns.map byteLV) ∧ K (.one (.v (.string (strOfNums ns)))) s
def vConv (P : Program) (s : St) (src dst : TypeId) (x : Operand) (K : EV → St → Prop) : Prop := bo (s.ev x) (cvP P s src dst K)
theorem vConv_does {src dst : TypeId} {x : Operand} (ho : o.op = .convert src dst x) (h : vConv P s src dst x K) : DoesM True P o s K := by
  obtain ⟨u, hx, h⟩ := bo_spec h
  unfold cvP at h
  split at h
  · obtain ⟨h1, h2⟩ := h
    obtain ⟨k, hk, h3⟩ := bo_spec h2
    exact does_conv_int src dst x ho hx (tk_spec hk) h1 h3
  · exact does_conv_str src dst x ho hx h.2.1 h.1 h.2.2
  · obtain ⟨h1, h2⟩ := h
    obtain ⟨q, hq, ns, rfl, h3⟩ := bo_spec h2
    obtain ⟨e, g1, g2, g3⟩ := isBytes_spec h1
    exact does_conv_bytes src dst e x ho hx hq g1 g2 g3 h3
def lenP (P : Program) (s : St) (t : TypeId) (K : EV → St → Prop) : LV → Prop
  | .v (.string b) => P.underlying t = some .string ∧ K (.one (.v (.int .i64 b.size))) s
  | y => bo (tsl P t) fun _ => bo (s.elems y) fun q => K (.one (.v (.int .i64 q.2.length))) s
def vLen (P : Program) (s : St) (x : Operand) (t : TypeId) (K : EV → St → Prop) : Prop := bo (s.ev x) (lenP P s t K)
theorem vLen_does {x : Operand} {t : TypeId} (ho : o.op = .call { callee := .builtin .len, args := #[x], argTypes := #[t] }) (h : vLen P s x t K) : DoesM md P o s K := by
  obtain ⟨u, hx, h⟩ := bo_spec h
  unfold lenP at h
  split at h
  · exact does_len_str x t ho hx h.1 h.2
  · obtain ⟨⟨e, z⟩, ht, h⟩ := bo_spec h
    obtain ⟨⟨sh, xs⟩, he, h⟩ := bo_spec h
    exact does_len x t ho hx he ht h
def LV.hd? : LV → Option Nat
  | .hd id => some id
  | _ => none
def apP (P : Program) (s : St) (t : TypeId) (q' : Sh × List LV) (K : EV → St → Prop) : LV → Prop
  | .hd id => bo (tsl P t) fun q => bo ((rootOf s.roots id).bind Root.row?) fun p =>
    q'.1 = p.1 ∧ q.2.shape = p.1 ∧ p.2.length + q'.2.length ≤ 1000000000 ∧ K (.one (.hd s.next)) { s with roots := (s.next, .row p.1 (p.2 ++ q'.2)) :: dropRoot s.roots id, next := s.next + 1 }
  | .v (.slice _ 0 0) => bo (tsl P t) fun q => q.2.shape = q'.1 ∧ q'.2.length ≤ 1000000000 ∧ K (.one (.hd (s.next + 1))) { s with roots := (s.next + 1, .row q'.1 q'.2) :: s.roots, next := s.next + 2 }
  | _ => False
def vAppend (P : Program) (s : St) (x y : Operand) (t : TypeId) (K : EV → St → Prop) : Prop :=
  bo ((s.ev y).bind s.elems) fun q' => bo (s.ev x) fun u => apP P s t q' K u
theorem vAppend_does {x y : Operand} {t : TypeId} (ho : o.op = .call { callee := .builtin .append, args := #[x, y], argTypes := #[t, t] }) (h : vAppend P s x y t K) : Does P o s K := by
  obtain ⟨⟨sh', ys⟩, hys, h⟩ := bo_spec h
  obtain ⟨u, hx, h⟩ := bo_spec h
  obtain ⟨v, hy, e2⟩ := Option.bind_eq_some_iff.1 hys
  unfold apP at h
  split at h
  · obtain ⟨⟨e, z⟩, ht, h⟩ := bo_spec h
    obtain ⟨⟨sh, xs⟩, hp, h1, h2, h3, h4⟩ := bo_spec h
    obtain ⟨r, hr, e3⟩ := Option.bind_eq_some_iff.1 hp
    rw [Root.row?_spec e3] at hr
    simp only at h1
    subst h1
    exact does_append x y t ho hx hr hy e2 ht h2 h3 h4
  · obtain ⟨⟨e, z⟩, ht, h2, h3, h4⟩ := bo_spec h
    exact does_append_nil x y t ho hx hy e2 ht h2 h3 h4
  · exact h.elim
def cpP (P : Program) (s : St) (t : TypeId) (q' : Sh × List LV) (K : EV → St → Prop) : LV → Prop
  | .hd id => bo (tsl P t) fun q => bo (s.row? id) fun p => q'.1 = p.1 ∧ q.2.shape = p.1 ∧
    K (.one (.v (.int .i64 (min q'.2.length p.2.length : Nat)))) { s with roots := rootPut s.roots id (.row p.1 (q'.2.take (min q'.2.length p.2.length) ++ p.2.drop (min q'.2.length p.2.length))) }
  | .sub id (.arr 0 sh) [] l n => bo (tsl P t) fun q => bo (s.row? id) fun p => q'.1 = p.1 ∧ q.2.shape = p.1 ∧ sh = p.1 ∧ l + n ≤ p.2.length ∧
    K (.one (.v (.int .i64 (min q'.2.length n : Nat)))) { s with roots := rootPut s.roots id (.row p.1 (p.2.take l ++ q'.2.take (min q'.2.length n) ++ p.2.drop (l + min q'.2.length n))) }
  | _ => False
def vCopy (P : Program) (s : St) (x y : Operand) (t : TypeId) (K : EV → St → Prop) : Prop :=
  bo ((s.ev y).bind s.elems) fun q' => bo (s.ev x) fun u => cpP P s t q' K u
theorem vCopy_does {x y : Operand} {t t' : TypeId} (ho : o.op = .call { callee := .builtin .copy, args := #[x, y], argTypes := #[t, t'] }) (h : vCopy P s x y t K) : Does P o s K := by
  obtain ⟨⟨sh', ys⟩, hys, h⟩ := bo_spec h
  obtain ⟨u, hx, h⟩ := bo_spec h
  obtain ⟨v, hy, e2⟩ := Option.bind_eq_some_iff.1 hys
  unfold cpP at h
  split at h
  · obtain ⟨⟨e, z⟩, ht, h⟩ := bo_spec h
    obtain ⟨⟨sh, xs⟩, hr, h1, h2, h4⟩ := bo_spec h
    simp only at h1
    subst h1
    exact does_copy x y t t' ho (l := 0) hx (.inl ⟨rfl, rfl, rfl⟩) hr hy e2 ht h2 (by omega) (by simpa using h4)
  · obtain ⟨⟨e, z⟩, ht, h⟩ := bo_spec h
    obtain ⟨⟨sh, xs⟩, hr, h1, h2, h3, h4, h5⟩ := bo_spec h
    simp only at h1 h3
    subst h1
    subst h3
    exact does_copy x y t t' ho hx (.inr rfl) hr hy e2 ht h2 h4 h5
  · exact h.elim
def vAlloc (P : Program) (s : St) (t : TypeId) (K : EV → St → Prop) : Prop := bo (tz P t) fun z => K (.one (.pt s.next z.shape [])) { s with roots := (s.next, .box z) :: s.roots, next := s.next + 1 }
def vBox (s : St) (x : Operand) (K : EV → St → Prop) : Prop := bo (s.ev x) fun u => K (.one (.pt s.next u.shape [])) { s with roots := (s.next, .box u) :: s.roots, next := s.next + 1 }
def LV.ptr? : LV → Option LV
  | .pt id S p => some (.pt id S p)
  | .ip u => some (.ip u)
  | _ => none
def vNil (s : St) (x : Operand) (K : EV → St → Prop) : Prop := bo ((s.ev x).bind LV.ptr?) fun u => K (.one u) s
theorem vNil_does {x : Operand} (ho : o.op = .nilCheck x) (h : vNil s x K) : DoesM md P o s K := by
  obtain ⟨u, hu, h⟩ := bo_spec h
  obtain ⟨v, hx, e⟩ := Option.bind_eq_some_iff.1 hu
  cases v <;> simp only [LV.ptr?, Option.some.injEq] at e <;> first | (subst e) | cases e
  · exact does_nilCheck x ho hx (.inr ⟨_, rfl⟩) h
  · exact does_nilCheck x ho hx (.inl ⟨_, _, _, rfl⟩) h
def vBuiltin (P : Program) (s : St) (b : Builtin) (args : List Operand) (ts : List TypeId) (K : EV → St → Prop) : Prop :=
  match b, args, ts with
  | .len, [x], [t] => vLen P s x t K
  | .append, [x, y], [t, t'] => t = t' ∧ vAppend P s x y t K
  | .copy, [x, y], [t, _] => vCopy P s x y t K
  | _, _, _ => False
theorem vBuiltin_does {b : Builtin} {args : Array Operand} {ts : Array TypeId} (ho : o.op = .call { callee := .builtin b, args := args, argTypes := ts }) (h : vBuiltin P s b args.toList ts.toList K) : Does P o s K := by
  have e : o.op = .call { callee := .builtin b, args := args.toList.toArray, argTypes := ts.toList.toArray } := by rw [ho]
  generalize args.toList = as at *
  generalize ts.toList = tys at *
  unfold vBuiltin at h
  split at h
  · exact (vLen_does (md := True) e h).does
  · obtain ⟨rfl, h⟩ := h
    exact vAppend_does e h
  · exact vCopy_does e h
  · exact h.elim
def vCall (P : Program) (s : St) (c : Call) (K : EV → St → Prop) : Prop :=
  match c.callee with
  | .builtin b => vBuiltin P s b c.args.toList c.argTypes.toList K
  | _ => False
/-- What is to be shown of an operation that calls no function. -/
def vop (P : Program) (s : St) (op : Op) (K : EV → St → Prop) : Prop :=
  match op with
  | .move x => vMove s x K
  | .assign x => vMove s x K
  | .pick b x y => vPick s b x y K
  | .alloc t => vAlloc P s t K
  | .box _ x => vBox s x K
  | .load t x => vLoad P s t x K
  | .store t x y => vStore P s t x y K
  | .nilCheck x => vNil s x K
  | .binOp op t x y _ => vBin P s op t x y K
  | .unOp op _ x => vUn s op x K
  | .field t x k => vField P s t x k K
  | .fieldAddr t x k => vFieldAddr P s t x k K
  | .indexAddr t x y => vIndexAddr P s t x y K
  | .index t x y => vIndex P s t x y K
  | .extract x k => vExtract s x k K
  | .slice t x lo hi mx => vSlice P s t x lo hi mx K
  | .makeSlice t x y => vMake P s t x y K
  | .build t parts => vBuild P s t parts K
  | .buildSlice t len parts => vBuildSlice P s t len parts K
  | .convert src dst x => vConv P s src dst x K
  | .call c => vCall P s c K
  | _ => False
theorem vop_does (h : vop P s o.op K) : Does P o s K := by
  unfold vop at h
  split at h
  case h_1 x ho => exact (vMove_does (md := True) (.inl ho) h).does
  case h_2 x ho => exact (vMove_does (md := True) (.inr ho) h).does
  case h_3 b x y ho => exact (vPick_does (md := True) ho h).does
  case h_4 t ho => obtain ⟨z, hz, h⟩ := bo_spec h; exact does_alloc t ho hz h
  case h_5 t x ho => obtain ⟨u, hx, h⟩ := bo_spec h; exact does_box t x ho hx h
  case h_6 t x ho => exact (vLoad_does ho h).does
  case h_7 t x y ho => exact vStore_does ho h
  case h_8 x ho => exact (vNil_does (md := True) ho h).does
  case h_9 op t x y t' ho => exact (vBin_does (md := True) ho h).does
  case h_10 op t x ho => exact (vUn_does (md := True) ho h).does
  case h_11 t x k ho => exact (vField_does (md := True) ho h).does
  case h_12 t x k ho => exact (vFieldAddr_does (md := True) ho h).does
  case h_13 t x y ho => exact (vIndexAddr_does (md := True) ho h).does
  case h_14 t x y ho => exact (vIndex_does (md := True) ho h).does
  case h_15 x k ho => exact (vExtract_does (md := True) ho h).does
  case h_16 t x lo hi mx ho => exact (vSlice_does (md := True) ho h).does
  case h_17 t x y ho => exact vMake_does ho h
  case h_18 t parts ho => exact (vBuild_does (md := True) ho h).does
  case h_19 t len parts ho => exact vBuildSlice_does ho h
  case h_20 src dst x ho => exact (vConv_does ho h).does
  case h_21 c ho =>
    obtain ⟨cal, args, ts⟩ := c
    unfold vCall at h
    split at h
    · rename_i b hb
      simp only at hb
      subst hb
      exact vBuiltin_does ho h
    · exact h.elim
  case h_22 => exact h.elim
def cvI (P : Program) (s : St) (src dst : TypeId) (K : EV → St → Prop) : LV → Prop
  | .v (.int _ n) => (P.underlying src).isSome = true ∧ bo (tk P dst) fun k => K (.one (.v (.int k (k.wrap n)))) s
  | _ => False
theorem vConvI_does {src dst : TypeId} {x : Operand} (ho : o.op = .convert src dst x) (h : bo (s.ev x) (cvI P s src dst K)) : DoesM md P o s K := by
  obtain ⟨u, hx, h⟩ := bo_spec h
  unfold cvI at h
  split at h
  · obtain ⟨h1, h2⟩ := h
    obtain ⟨k, hk, h3⟩ := bo_spec h2
    exact does_conv_int src dst x ho hx (tk_spec hk) h1 h3
  · exact h.elim
/-- What is to be shown of an operation that does not even read. -/
def vopP (P : Program) (s : St) (op : Op) (K : EV → St → Prop) : Prop :=
  match op with
  | .move x => vMove s x K
  | .assign x => vMove s x K
  | .pick b x y => vPick s b x y K
  | .nilCheck x => vNil s x K
  | .binOp op t x y _ => vBin P s op t x y K
  | .unOp op _ x => vUn s op x K
  | .field t x k => vField P s t x k K
  | .fieldAddr t x k => vFieldAddr P s t x k K
  | .indexAddr t x y => vIndexAddr P s t x y K
  | .index t x y => vIndex P s t x y K
  | .extract x k => vExtract s x k K
  | .slice t x lo hi mx => vSlice P s t x lo hi mx K
  | .build t parts => vBuild P s t parts K
  | .convert src dst x => bo (s.ev x) (cvI P s src dst K)
  | .call c => (match c.callee, c.args.toList, c.argTypes.toList with | .builtin .len, [x], [t] => vLen P s x t K | _, _, _ => False)
  | _ => False
theorem vopP_does (h : vopP P s o.op K) : DoesM md P o s K := by
  unfold vopP at h
  split at h
  case h_1 x ho => exact vMove_does (.inl ho) h
  case h_2 x ho => exact vMove_does (.inr ho) h
  case h_3 b x y ho => exact vPick_does ho h
  case h_4 x ho => exact vNil_does ho h
  case h_5 op t x y t' ho => exact vBin_does ho h
  case h_6 op t x ho => exact vUn_does ho h
  case h_7 t x k ho => exact vField_does ho h
  case h_8 t x k ho => exact vFieldAddr_does ho h
  case h_9 t x y ho => exact vIndexAddr_does ho h
  case h_10 t x y ho => exact vIndex_does ho h
  case h_11 x k ho => exact vExtract_does ho h
  case h_12 t x lo hi mx ho => exact vSlice_does ho h
  case h_13 t parts ho => exact vBuild_does ho h
  case h_14 src dst x ho => exact vConvI_does ho h
  case h_15 c ho =>
    obtain ⟨cal, args, ts⟩ := c
    have e : o.op = .call { callee := cal, args := args.toList.toArray, argTypes := ts.toList.toArray } := by rw [ho]
    simp only at h
    generalize args.toList = as at *
    generalize ts.toList = tys at *
    split at h
    · exact vLen_does e h
    · exact h.elim
  case h_16 => exact h.elim
/-- What is to be shown of an operation that only reads. -/
def vopR (P : Program) (s : St) (op : Op) (K : EV → St → Prop) : Prop :=
  match op with
  | .load t x => vLoad P s t x K
  | .convert src dst x => vConv P s src dst x K
  | op => vopP P s op K
theorem vopR_does (h : vopR P s o.op K) : DoesM True P o s K := by
  unfold vopR at h
  split at h
  case h_1 t x ho => exact vLoad_does ho h
  case h_2 src dst x ho => exact vConv_does ho h
  case h_3 => exact vopP_does h
end Go.Proofs.Ytoimeebildcofaa
