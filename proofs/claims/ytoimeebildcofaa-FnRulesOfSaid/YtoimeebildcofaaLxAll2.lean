/- The logic of roots, part 2. No condition. -/
import Derived.Test.YtoimeebildcofaaLxAll1
import Derived.Scope
import Derived.Test.YtoimeebildcofaaPlan
namespace Go.Proofs.Ytoimeebildcofaa
open Go.RowKit
set_option linter.unusedSimpArgs false
set_option linter.unusedVariables false
variable {P : Program} {ρ ρ' : Nat → Value} {N N' B : Nat} {w w' : World} {O O' : Nat → Prop} {R : Roots} {c : Ctx} {s : St} {a : Act} {o : Oper}

def isFn (P : Program) (f : FuncId) : Bool := match P.funcs[f]? with | some fn => fn.body.isSome && fn.name != "runtime.NumGoroutine" | none => false
def St.evl (s : St) : List Operand → Option (List LV)
  | [] => some []
  | x :: r => match s.ev x, s.evl r with | some u, some us => some (u :: us) | _, _ => none
theorem Sat.evl (h : Sat c ρ s a w) : ∀ {xs : List Operand} {us : List LV}, s.evl xs = some us → Vals ρ s.next c.bb w (Mine ρ s.roots) us (xs.map a.eval)
  | [], us, hx => by simp only [St.evl, Option.some.injEq] at hx; subst hx; exact .nil
  | x :: xs, us, hx => by
    simp only [St.evl] at hx
    split at hx
    · rename_i u us' hu hus
      simp only [Option.some.injEq] at hx
      subst hx
      exact .cons (h.ev hu) (h.evl hus)
    · cases hx
/-- A call: from this state it comes back in such a state, with such a result; or it panics so. -/
def CallTo (P : Program) (f : FuncId) (us : List LV) (s : St) (K : EV → St → Prop) (KP : List PanicEntry → St → Prop) : Prop :=
  isFn P f = true ∧ ∀ c ρ a w vs, Sat c ρ s a w → Vals ρ s.next c.bb w (Mine ρ s.roots) us vs → Calls P f vs.toArray w fun e w' => match e with
    | .returned v => ∃ ρ' s' r, Sat c ρ' s' a w' ∧ EVal ρ' s'.next c.bb w' (Mine ρ' s'.roots) r v ∧ s'.sz = s.sz ∧ K r s'
    | .panicked ch => ∃ ρ' s', Sat c ρ' s' a w' ∧ s'.sz = s.sz ∧ KP ch s'
    | .outgrown => False
def vOp (P : Program) (s : St) (op : Op) (K : EV → St → Prop) (KP : List PanicEntry → St → Prop) : Prop :=
  match op with
  | .call { callee := .value (.func f), args := args, argTypes := _ } => bo (s.evl args.toList) fun us => CallTo P f us s K KP
  | op => vop P s op K
def vo (P : Program) (o : Oper) (s : St) (K : St → Prop) (KP : List PanicEntry → St → Prop) : Prop :=
  s.fit o.dst ∧ vOp P s o.op (fun r s' => K (s'.set o.dst r)) KP
/-- A guard, decided: what it asks was not done itself, or came to a truth value. -/
def gd (x : Option EV) (want : Bool) (p q : Prop) : Prop := match x with
  | some .un => q
  | some (.one (.v (.bool b))) => (b = want → p) ∧ (b = (!want) → q)
  | _ => False
@[congr] theorem gd_congr {x x' : Option EV} {want : Bool} {p q : Prop} (h : x = x') : gd x want p q = gd x' want p q := by rw [h]
/-- An operation that has a guard. -/
def vg (ops : List Oper) (o : Oper) (s : St) (K K' : St → Prop) : Prop :=
  match o.guard with
  | none => K s
  | some (j, want) => bo ((ops[j]?).bind (·.dst)) fun d => gd (lk s.env d) want (K s) (s.fit o.dst ∧ K' (s.set o.dst .un))
theorem vg_cases {ops : Array Oper} {K K' : St → Prop} (h : vg ops.toList o s K K') (hs : Sat c ρ s a w) : (Region.wanted o (yielded ops a.tmps) = true ∧ K s) ∨ (¬ Region.wanted o (yielded ops a.tmps) = true ∧ s.fit o.dst ∧ K' (s.set o.dst .un)) := by
  unfold vg at h
  split at h
  · rename_i hg
    exact .inl ⟨by simp [Region.wanted, hg], h⟩
  · rename_i j want hg
    obtain ⟨d, hd, h⟩ := bo_spec h
    rw [Array.getElem?_toList] at hd
    unfold gd at h
    split at h
    · rename_i hx
      obtain ⟨v, hv, hlk⟩ := hs.env d _ hx
      have hv' : v = undef := hv
      subst hv'
      have hy : yielded ops a.tmps j = none := by
        unfold yielded
        simp [hd, hlk, undef]
      exact .inr ⟨by simp [Region.wanted, hg, hy], h⟩
    · rename_i b hx
      obtain ⟨v, hv, hlk⟩ := hs.env d _ hx
      have hvb : v = .bool b := Val.plain hv
      subst hvb
      have hy : yielded ops a.tmps j = some b := by
        unfold yielded
        simp [hd, hlk]
      by_cases hbw : b = want
      · exact .inl ⟨by simp [Region.wanted, hg, hy, hbw], h.1 hbw⟩
      · have hbw' : b = (!want) := by cases b <;> cases want <;> simp_all
        exact .inr ⟨by simp [Region.wanted, hg, hy, hbw], h.2 hbw'⟩
    · exact h.elim
def vl (P : Program) (ops : List Oper) : List Oper → St → (St → Prop) → (List PanicEntry → St → Prop) → Prop
  | [], s, K, _ => K s
  | o :: rest, s, K, KP => vg ops o s (fun s => vo P o s (fun s' => vl P ops rest s' K KP) KP) (fun s => vl P ops rest s K KP)
/-- What is known at an exit. -/
def satAt (e : Exit) (c : Ctx) (ρ : Nat → Value) (s : St) (a : Act) (w : World) : Prop :=
  match e with
  | .panic _ => Sat c ρ { s with env := [] } a w
  | _ => Sat c ρ s a w
def QQ (c : Ctx) (Q : Exit → St → Prop) (e : Exit) (a : Act) (w : World) : Prop := ∃ ρ s, satAt e c ρ s a w ∧ Q e s
theorem Sat.bare (h : Sat c ρ s a w) : Sat c ρ { s with env := [] } a w := h.less fun t x hx => by simp [lk] at hx
theorem callFunc_run {f : FuncId} {args : Array Value} (h : isFn P f = true) : (callFunc f args).run P w = .ok (.enter f args) w := by
  unfold isFn at h
  split at h
  · rename_i fn hf
    simp only [Bool.and_eq_true, bne_iff_ne, ne_eq] at h
    cases hb : fn.body with
    | none => simp [hb] at h
    | some b =>
      unfold callFunc
      simp [Sem.run, program, hf, hb, h.2]
  · cases h
theorem vl_sound {ops : Array Oper} {K : St → Prop} {KP : List PanicEntry → St → Prop} {Q : Exit → Act → World → Prop} (c : Ctx) (hN : ∀ ρ s a w, Sat c ρ s a w → K s → Q .normal a w) (hP : ∀ ρ s a w ch, Sat c ρ s a w → KP ch s → Q (.panic ch) a w) :
    ∀ (l : List Oper) (s : St) (ρ : Nat → Value) (a : Act) (w : World), vl P ops.toList l s K KP → Sat c ρ s a w → wpList P ops Q l a w
  | [], s, ρ, a, w, h, hs => hN ρ s a w hs h
  | o :: rest, s, ρ, a, w, h, hs => by
    have ih := vl_sound (ops := ops) c hN hP rest
    have main : vo P o s (fun s' => vl P ops.toList rest s' K KP) KP → Region.wanted o (yielded ops a.tmps) = true → wpList P ops Q (o :: rest) a w := by
      intro ho hw
      refine wpList_now hw fun K' hK' => ?_
      obtain ⟨hfit, ho⟩ := ho
      have hdoes : Does P o s (fun r s' => vl P ops.toList rest (s'.set o.dst r) K KP) → o.wp P a w K' Q := by
        intro hd
        obtain ⟨n, v, w', ρ', s', x, h1, h2, h3, h4, h5, h6⟩ := hd c ρ a w hs
        have h7 := hK' _ _ (ih _ ρ' _ w' h6 (h3.put (d := o.dst) (by unfold St.fit at *; rw [h5]; exact hfit) h4))
        unfold Oper.wp
        rw [h1]
        rcases h2 with rfl | ⟨rfl, rfl⟩
        · exact h7
        · exact h7
      unfold vOp at ho
      split at ho
      · rename_i f args ts hop
        · obtain ⟨us, hus, g1, g2⟩ := bo_spec ho
          have g3 := g2 c ρ a w _ hs (hs.evl hus)
          unfold Oper.wp execOp
          simp only [hop, resolve, Deferred.ofValue, Act.eval, invoke, Sem.run_bind, Sem.run_pure, Result.andThen_ok, callFunc_run g1]
          rw [Oper.upon_enter]
          have hA : ∀ A : Array Value, A = (List.map a.eval args.toList).toArray → Calls P f A w _ := fun A e => by rw [e]; exact g3
          refine Calls.mono (hA _ (by apply Array.ext'; simp)) fun e w' he => ?_
          cases e with
          | returned v =>
            obtain ⟨ρ', s', r, h1, h2, h3, h4⟩ := he
            exact hK' _ _ (ih _ ρ' _ w' h4 (h1.put (d := o.dst) (by unfold St.fit at *; rw [h3]; exact hfit) h2))
          | panicked ch =>
            obtain ⟨ρ', s', h1, _, h2⟩ := he
            exact hP _ _ _ _ _ h1 h2
          | outgrown => exact he.elim
      · exact hdoes (vop_does ho)
    unfold vl at h
    rcases vg_cases h hs with ⟨hw, h⟩ | ⟨hw, hf, h⟩
    · exact main h hw
    · refine wpList_step fun K' hK' => ?_
      rw [if_neg hw]
      exact hK' _ _ (ih _ ρ _ w h (hs.put (d := o.dst) (x := .un) (v := undef) hf rfl))
/-- Code from a state on: it comes to such exits in such states. -/
def CW (P : Program) (cd : Code) (Q : Exit → St → Prop) (s : St) : Prop := ∀ c ρ a w, Sat c ρ s a w → cd.wp P (QQ c Q) a w
def thenQ (K : St → Prop) (Q : Exit → St → Prop) : Exit → St → Prop
  | .normal, s => K s
  | e, s => Q e s
def blockQ (id : Nat) (Q : Exit → St → Prop) : Exit → St → Prop
  | .exit i, s => if i = id then Q .normal s else Q (.exit i) s
  | e, s => Q e s
def scopeQ (Q : Exit → St → Prop) : Exit → St → Prop
  | .goto _, _ => False
  | e, s => Q e s
def vc (P : Program) : Code → (Exit → St → Prop) → St → Prop
  | .skip, Q, s => Q .normal s
  | .ret, Q, s => Q .ret s
  | .exit id, Q, s => Q (.exit id) s
  | .seq x y, Q, s => vc P x (thenQ (fun s' => vc P y Q s') Q) s
  | .cond x y z, Q, s => bo ((s.ev x).bind LV.bool?) fun t => (t = true → vc P y Q s) ∧ (t = false → vc P z Q s)
  | .block id x, Q, s => vc P x (blockQ id Q) s
  | .scope x, Q, s => vc P x (scopeQ Q) s
  | .region _ ops false, Q, s => vl P ops.toList ops.toList s (fun s' => Q .normal s') (fun ch s' => Q (.panic ch) s')
  | cd, Q, s => CW P cd Q s
theorem QQ.mono {Q Q' : Exit → St → Prop} {e : Exit} (h : QQ c Q e a w) (hq : ∀ s, Q e s → Q' e s) : QQ c Q' e a w := by
  obtain ⟨ρ, s, h1, h2⟩ := h
  exact ⟨ρ, s, h1, hq s h2⟩
theorem vc_sound : ∀ (cd : Code) (Q : Exit → St → Prop) (s : St), vc P cd Q s → CW P cd Q s
  | .skip, Q, s, h => fun c ρ a w hs => wp_skip ⟨ρ, s, hs, h⟩
  | .ret, Q, s, h => fun c ρ a w hs => wp_ret ⟨ρ, s, hs, h⟩
  | .exit id, Q, s, h => fun c ρ a w hs => wp_exit ⟨ρ, s, hs, h⟩
  | .seq x y, Q, s, h => fun c ρ a w hs => by
    refine wp_seq (wp_mono (vc_sound x _ s h c ρ a w hs) fun e a' w' hq => ?_)
    obtain ⟨ρ', s', h1, h2⟩ := hq
    cases e with
    | normal => exact vc_sound y Q s' h2 c ρ' a' w' h1
    | _ => exact ⟨ρ', s', h1, h2⟩
  | .cond x y z, Q, s, h => fun c ρ a w hs => by
    simp only [vc] at h
    obtain ⟨t, ht, h⟩ := bo_spec h
    obtain ⟨u, hu, hb⟩ := Option.bind_eq_some_iff.1 ht
    rw [LV.bool?_spec hb] at hu
    exact wp_cond_split (hs.evv hu) (fun e => vc_sound y Q s (h.1 e) c ρ a w hs) (fun e => vc_sound z Q s (h.2 e) c ρ a w hs)
  | .block id x, Q, s, h => fun c ρ a w hs => by
    refine wp_block (wp_mono (vc_sound x _ s h c ρ a w hs) fun e a' w' hq => ?_)
    obtain ⟨ρ', s', h1, h2⟩ := hq
    cases e with
    | exit i =>
      simp only [blockQ] at h2
      simp only [Exit.inBlock]
      split at h2
      · rename_i e; rw [if_pos e]; exact ⟨ρ', s', h1, h2⟩
      · rename_i e; rw [if_neg e]; exact ⟨ρ', s', h1, h2⟩
    | _ => exact ⟨ρ', s', h1, h2⟩
  | .scope x, Q, s, h => fun c ρ a w hs => by
    refine wp_scope_straight (wp_mono (vc_sound x _ s h c ρ a w hs) fun e a' w' hq => ?_)
    obtain ⟨ρ', s', h1, h2⟩ := hq
    cases e with
    | goto l => exact h2.elim
    | _ => exact ⟨ρ', s', h1, h2⟩
  | .region id ops false, Q, s, h => fun c ρ a w hs => by
    exact wp_region_list (vl_sound c (fun ρ s a w h1 h2 => ⟨ρ, s, h1, h2⟩) (fun ρ s a w ch h1 h2 => ⟨ρ, s, h1.bare, h2⟩) ops.toList s ρ a w h hs)
  | .region _ _ true, Q, s, h => h
  | .loop _, Q, s, h => h
  | .rangeFunc _ _ _ _, Q, s, h => h
  | .label _, Q, s, h => h
  | .goto _, Q, s, h => h
  | .refuse _, Q, s, h => h
end Go.Proofs.Ytoimeebildcofaa
namespace Go.Proofs.Ytoimeebildcofaa
open Go.RowKit
set_option linter.unusedSimpArgs false
set_option linter.unusedVariables false
variable {P : Program} {ρ ρ' : Nat → Value} {N N' B B' : Nat} {w w' : World} {O O' : Nat → Prop} {R : Roots} {c : Ctx} {s : St} {a : Act} {o : Oper}

mutual
/-- Other names for roots. -/
def LV.ren (σ : Nat → Nat) : LV → LV
  | .v x => .v x
  | .st ss ts => .st ss (renL σ ts)
  | .arr n s xs => .arr n s (renL σ xs)
  | .vec f s xs => .vec f s (renL σ xs)
  | .ip t => .ip (t.ren σ)
  | .pt id s p => .pt (σ id) s p
  | .hd id => .hd (σ id)
  | .sub id s p l n => .sub (σ id) s p l n
def renL (σ : Nat → Nat) : List LV → List LV
  | [] => []
  | t :: ts => t.ren σ :: renL σ ts
end
mutual
/-- All roots that are named are below m. -/
def LV.under (m : Nat) : LV → Prop
  | .v _ => True
  | .st _ ts => underL m ts
  | .arr _ _ xs => underL m xs
  | .vec _ _ xs => underL m xs
  | .ip t => t.under m
  | .pt id _ _ => id < m
  | .hd id => id < m
  | .sub id _ _ _ _ => id < m
def underL (m : Nat) : List LV → Prop
  | [] => True
  | t :: ts => t.under m ∧ underL m ts
end
mutual
/-- All slices that are only read are new. -/
def LV.new : LV → Prop
  | .st _ ts => newL ts
  | .arr _ _ xs => newL xs
  | .vec f _ xs => f = true ∧ newL xs
  | .ip _ => False
  | _ => True
def newL : List LV → Prop
  | [] => True
  | t :: ts => t.new ∧ newL ts
end
mutual
/-- For a callee no slice is new. -/
def LV.old : LV → LV
  | .st ss ts => .st ss (oldL ts)
  | .arr n s xs => .arr n s (oldL xs)
  | .vec _ s xs => .vec false s (oldL xs)
  | .ip t => .ip t.old
  | t => t
def oldL : List LV → List LV
  | [] => []
  | t :: ts => t.old :: oldL ts
end
theorem ren_shape (σ : Nat → Nat) (t : LV) : (t.ren σ).shape = t.shape := by cases t <;> simp [LV.ren, LV.shape]
theorem old_shape (t : LV) : t.old.shape = t.shape := by cases t <;> simp [LV.old, LV.shape]
theorem renL_map {α : Type} (σ : Nat → Nat) (f : α → LV) : ∀ xs : List α, renL σ (xs.map f) = xs.map (fun x => (f x).ren σ)
  | [] => by simp [renL]
  | x :: xs => by simp [renL, renL_map σ f xs]
theorem renL_eq (σ : Nat → Nat) : ∀ xs : List LV, renL σ xs = xs.map (LV.ren σ)
  | [] => by simp [renL]
  | x :: xs => by simp [renL, renL_eq σ xs]
theorem oldL_map {α : Type} (f : α → LV) : ∀ xs : List α, oldL (xs.map f) = xs.map (fun x => (f x).old)
  | [] => by simp [oldL]
  | x :: xs => by simp [oldL, oldL_map f xs]
theorem underL_map {α : Type} (m : Nat) (f : α → LV) : ∀ xs : List α, (∀ x, (f x).under m) → underL m (xs.map f)
  | [], _ => by simp [underL]
  | x :: xs, h => by simp only [List.map_cons, underL]; exact ⟨h x, underL_map m f xs h⟩
theorem newL_map {α : Type} (f : α → LV) : ∀ xs : List α, (∀ x, (f x).new) → newL (xs.map f)
  | [], _ => by simp [newL]
  | x :: xs, h => by simp only [List.map_cons, newL]; exact ⟨h x, newL_map f xs h⟩
theorem renL_len (σ : Nat → Nat) (xs : List LV) : (renL σ xs).length = xs.length := by rw [renL_eq, List.length_map]
theorem oldL_len : ∀ (xs : List LV), (oldL xs).length = xs.length
  | [] => rfl
  | x :: xs => by simp [oldL, oldL_len xs]
def Root.ren (σ : Nat → Nat) : Root → Root
  | .box t => .box (t.ren σ)
  | .row s xs => .row s (renL σ xs)
def Root.under (m : Nat) : Root → Prop
  | .box t => t.under m
  | .row _ xs => underL m xs
def Root.new : Root → Prop
  | .box t => t.new
  | .row _ xs => newL xs
theorem Root.ren_tree (σ : Nat → Nat) (r : Root) : (r.ren σ).tree = r.tree.ren σ := by
  cases r <;> simp [Root.ren, Root.tree, LV.ren, renL_len]
theorem Root.under_tree {m : Nat} {r : Root} : r.under m ↔ r.tree.under m := by cases r <;> simp [Root.under, Root.tree, LV.under]
mutual
theorem Con.ren {σ : Nat → Nat} (hσ : ∀ i, i < N → σ i < N' ∧ ρ' (σ i) = ρ i) (hw : ∀ b o, ¬ O b → w.heap[b]? = some o → w'.heap[b]? = some o ∧ ¬ O' b) (hB : B' ≤ B) : ∀ {t : LV} {c : List Value}, Con ρ N B w O t c → Con ρ' N' B' w' O' (t.ren σ) c
  | _, _, .v h => by simp only [LV.ren]; exact .v h
  | _, _, .st h => by simp only [LV.ren]; exact .st (h.ren hσ hw hB)
  | _, _, .arr h => by simp only [LV.ren]; exact .arr (h.ren hσ hw hB)
  | _, _, .nil => by simp only [LV.ren, renL]; exact .nil
  | _, _, .vec h1 h2 h3 h6 h4 h5 => by
    simp only [LV.ren]
    have h7 := h5.ren (σ := σ) hσ hw hB
    have h8 := renL_len σ
    rw [← h8] at h1 h7 ⊢
    exact .vec h1 h2 (hw _ _ h3 h4).2 (fun e => Nat.le_trans hB (h6 e)) (hw _ _ h3 h4).1 h7
  | _, _, .ip h1 h2 h3 => by
    simp only [LV.ren]
    have h4 := h3.ren (σ := σ) hσ hw hB
    rw [← ren_shape σ] at h4
    exact .ip (hw _ _ h1 h2).2 (hw _ _ h1 h2).1 h4
  | _, _, .pt h => by simp only [LV.ren]; rw [← (hσ _ h).2]; exact .pt (hσ _ h).1
  | _, _, .hd h h' => by simp only [LV.ren]; rw [← (hσ _ h).2] at h' ⊢; exact .hd (hσ _ h).1 h'
  | _, _, .sub0 h => by simp only [LV.ren]; exact .sub0 (hσ _ h).1
  | _, _, .sub h h1 h2 h3 => by simp only [LV.ren]; rw [← (hσ _ h).2] at *; exact .sub (hσ _ h).1 h1 h2 h3
theorem Cons.ren {σ : Nat → Nat} (hσ : ∀ i, i < N → σ i < N' ∧ ρ' (σ i) = ρ i) (hw : ∀ b o, ¬ O b → w.heap[b]? = some o → w'.heap[b]? = some o ∧ ¬ O' b) (hB : B' ≤ B) : ∀ {ss : List Sh} {ts : List LV} {cs : List Value}, Cons ρ N B w O ss ts cs → Cons ρ' N' B' w' O' ss (renL σ ts) cs
  | _, _, _, .nil => by simp only [renL]; exact .nil
  | _, _, _, .cons h e hs => by simp only [renL]; exact .cons (h.ren hσ hw hB) ((ren_shape σ _).trans e) (hs.ren hσ hw hB)
end
mutual
/-- Back to the names that the callee has. -/
theorem Con.unren {σ : Nat → Nat} {m : Nat} (hw : ∀ b o, ¬ O b → w.heap[b]? = some o → w'.heap[b]? = some o ∧ ¬ O' b) (hB : B' ≤ B) : ∀ {t : LV} {c : List Value}, t.under m → Con ρ N B w O (t.ren σ) c → Con (fun i => ρ (σ i)) m B' w' O' t c
  | .v x, _, _, h => by simp only [LV.ren] at h; cases h with | v h => exact .v h
  | .st ss ts, _, hb, h => by simp only [LV.ren] at h; simp only [LV.under] at hb; cases h with | st h => exact .st (Cons.unren hw hB hb h)
  | .arr n s xs, _, hb, h => by simp only [LV.ren] at h; simp only [LV.under] at hb; cases h with | arr h => exact .arr (Cons.unren hw hB hb h)
  | .vec f s xs, cs, hb, h => by
    simp only [LV.ren] at h
    simp only [LV.under] at hb
    generalize hy : renL σ xs = ys at h
    have hl := renL_len σ xs
    rw [hy] at hl
    cases h with
    | nil =>
      have : xs = [] := List.eq_nil_of_length_eq_zero (by rw [← hl]; rfl)
      subst this
      exact .nil
    | vec h1 h2 h3 h6 h4 h5 =>
      rw [← hy] at h5
      rw [renL_len] at h5
      rw [hl] at h1 ⊢
      exact .vec h1 h2 (hw _ _ h3 h4).2 (fun e => Nat.le_trans hB (h6 e)) (hw _ _ h3 h4).1 (Cons.unren hw hB hb h5)
  | .ip t, _, hb, h => by
    simp only [LV.ren] at h
    simp only [LV.under] at hb
    cases h with
    | ip h1 h2 h3 => rw [ren_shape] at h3; exact .ip (hw _ _ h1 h2).2 (hw _ _ h1 h2).1 (Con.unren hw hB hb h3)
  | .pt id s p, _, hb, h => by simp only [LV.ren] at h; simp only [LV.under] at hb; cases h with | pt h => exact .pt (ρ := fun i => ρ (σ i)) hb
  | .hd id, _, hb, h => by simp only [LV.ren] at h; simp only [LV.under] at hb; cases h with | hd h h' => exact .hd (ρ := fun i => ρ (σ i)) hb h'
  | .sub id s p l n, _, hb, h => by
    simp only [LV.ren] at h
    simp only [LV.under] at hb
    cases h with
    | sub0 h => exact .sub0 hb
    | sub h h1 h2 h3 => exact .sub (ρ := fun i => ρ (σ i)) hb h1 h2 h3
theorem Cons.unren {σ : Nat → Nat} {m : Nat} (hw : ∀ b o, ¬ O b → w.heap[b]? = some o → w'.heap[b]? = some o ∧ ¬ O' b) (hB : B' ≤ B) : ∀ {ts : List LV} {ss : List Sh} {cs : List Value}, underL m ts → Cons ρ N B w O ss (renL σ ts) cs → Cons (fun i => ρ (σ i)) m B' w' O' ss ts cs
  | [], _, _, _, h => by simp only [renL] at h; cases h; exact .nil
  | t :: ts, _, _, hb, h => by
    simp only [renL] at h
    simp only [underL] at hb
    cases h with
    | cons h1 h2 h3 => exact .cons (Con.unren hw hB hb.1 h1) ((ren_shape σ t).symm.trans h2) (Cons.unren hw hB hb.2 h3)
end
mutual
/-- A callee's view: none is new. -/
theorem Con.olden : ∀ {t : LV} {c : List Value}, Con ρ N B w O t c → Con ρ N B' w O t.old c
  | _, _, .v h => by simp only [LV.old]; exact .v h
  | _, _, .st h => by simp only [LV.old]; exact .st h.olden
  | _, _, .arr h => by simp only [LV.old]; exact .arr h.olden
  | _, _, .nil => by simp only [LV.old, oldL]; exact .nil
  | _, _, .vec h1 h2 h3 h6 h4 h5 => by
    simp only [LV.old]
    have h7 := h5.olden
    have h8 := oldL_len
    rw [← h8] at h1 h7 ⊢
    exact .vec h1 h2 h3 (fun e => by cases e) h4 h7
  | _, _, .ip h1 h2 h3 => by
    simp only [LV.old]
    have h4 := h3.olden
    rw [← old_shape] at h4
    exact .ip h1 h2 h4
  | _, _, .pt h => by simp only [LV.old]; exact .pt h
  | _, _, .hd h h' => by simp only [LV.old]; exact .hd h h'
  | _, _, .sub0 h => by simp only [LV.old]; exact .sub0 h
  | _, _, .sub h h1 h2 h3 => by simp only [LV.old]; exact .sub h h1 h2 h3
theorem Cons.olden : ∀ {ss : List Sh} {ts : List LV} {cs : List Value}, Cons ρ N B w O ss ts cs → Cons ρ N B' w O ss (oldL ts) cs
  | _, _, _, .nil => by simp only [oldL]; exact .nil
  | _, _, _, .cons h e hs => by simp only [oldL]; exact .cons h.olden ((old_shape _).trans e) hs.olden
end
mutual
/-- New slices lie in no elder block. -/
theorem Con.apart (hO : ∀ b, O' b → O b ∨ b < B) : ∀ {t : LV} {c : List Value}, t.new → Con ρ N B w O t c → Con ρ N B w O' t c
  | _, _, _, .v h => .v h
  | _, _, hn, .st h => by simp only [LV.new] at hn; exact .st (Cons.apart hO hn h)
  | _, _, hn, .arr h => by simp only [LV.new] at hn; exact .arr (Cons.apart hO hn h)
  | _, _, _, .nil => .nil
  | _, _, hn, .vec h1 h2 h3 h6 h4 h5 => by
    simp only [LV.new] at hn
    refine .vec h1 h2 (fun e => ?_) h6 h4 (Cons.apart hO hn.2 h5)
    rcases hO _ e with h | h
    · exact h3 h
    · have := h6 hn.1; omega
  | _, _, hn, .ip _ _ _ => by simp only [LV.new] at hn
  | _, _, _, .pt h => .pt h
  | _, _, _, .hd h h' => .hd h h'
  | _, _, _, .sub0 h => .sub0 h
  | _, _, _, .sub h h1 h2 h3 => .sub h h1 h2 h3
theorem Cons.apart (hO : ∀ b, O' b → O b ∨ b < B) : ∀ {ss : List Sh} {ts : List LV} {cs : List Value}, newL ts → Cons ρ N B w O ss ts cs → Cons ρ N B w O' ss ts cs
  | _, _, _, _, .nil => .nil
  | _, _, _, hn, .cons h e hs => by simp only [newL] at hn; exact .cons (Con.apart hO hn.1 h) e (Cons.apart hO hn.2 hs)
end
end Go.Proofs.Ytoimeebildcofaa
namespace Go.Proofs.Ytoimeebildcofaa
open Go.RowKit
set_option linter.unusedSimpArgs false
set_option linter.unusedVariables false
variable {P : Program} {ρ ρ' : Nat → Value} {N N' B B' : Nat} {w w' : World} {O O' : Nat → Prop} {R : Roots} {c : Ctx} {s : St} {a : Act} {o : Oper}

mutual
/-- Slices of roots that are not kept, as slices that are only read. -/
noncomputable def LV.fz (s : St) (b : Bool) (keep : List Nat) : LV → LV
  | .st ss ts => .st ss (fzL s b keep ts)
  | .hd id => if id ∈ keep then .hd id else match s.elems (.hd id) with | some (sh, xs) => .vec b sh xs | none => .hd id
  | .sub id S p l n => if id ∈ keep then .sub id S p l n else match s.elems (.sub id S p l n) with | some (sh, xs) => .vec b sh xs | none => .sub id S p l n
  | t => t
noncomputable def fzL (s : St) (b : Bool) (keep : List Nat) : List LV → List LV
  | [] => []
  | t :: ts => t.fz s b keep :: fzL s b keep ts
end
theorem fz_shape (s : St) (b : Bool) (keep : List Nat) (t : LV) : (t.fz s b keep).shape = t.shape := by
  cases t with
  | hd id => simp only [LV.fz]; split; exact rfl; split <;> rfl
  | sub id S p l n => simp only [LV.fz]; split; exact rfl; split <;> rfl
  | _ => simp [LV.fz, LV.shape]
/-- What is asked of the blocks of the roots that are not kept. -/
structure Frozen (c : Ctx) (ρ : Nat → Value) (s : St) (w : World) (b : Bool) (keep : List Nat) (O' : Nat → Prop) : Prop where
  sub : ∀ x o, ¬ Mine ρ s.roots x → w.heap[x]? = some o → ¬ O' x
  new : b = true → ∀ x, Mine ρ s.roots x → c.bb ≤ x
  out : ∀ id r, rootOf s.roots id = some r → id ∉ keep → ∀ x, owns (ρ id) x → ¬ O' x
theorem Sat.frozen_one (h : Sat c ρ s a w) {b : Bool} {keep : List Nat} (hf : Frozen c ρ s w b keep O') {id : Nat} {r : Root} (hr : rootOf s.roots id = some r) (hk : id ∉ keep) {t : LV} {v : Value} {sh : Sh} {xs : List LV}
    (hl : Lies ρ s.next c.bb w (Mine ρ s.roots) v sh xs) (hb : xs ≠ [] → ∀ bl off n cap, v = .slice (some ⟨bl, off, none⟩) n cap → owns (ρ id) bl) : Con ρ s.next c.bb w O' (.vec b sh xs) [v] := by
  have hw : ∀ x o, ¬ Mine ρ s.roots x → w.heap[x]? = some o → w.heap[x]? = some o ∧ ¬ O' x := fun x o h1 h2 => ⟨h2, hf.sub x o h1 h2⟩
  rcases hl with ⟨A, cc, rfl, rfl⟩ | ⟨bl, off, cap, cur, e, fr, rfl, h1, h2, h3, h4⟩
  · exact .nil
  · by_cases hx : xs = []
    · subst hx; exact .nil
    · have ho := hb hx _ _ _ _ rfl
      exact .vec h1 h2 (hf.out id r hr hk bl ho) (fun e => hf.new e bl ⟨_, rootOf_mem hr, ho⟩) h3 (h4.mono (fun _ _ => rfl) (Nat.le_refl _) hw)
theorem Sat.lies (h : Sat c ρ s a w) {t : LV} {cs : List Value} (hc : Con ρ s.next c.bb w (Mine ρ s.roots) t cs) {sh : Sh} {xs : List LV} (he : s.elems t = some (sh, xs)) {v : Value} (hv : cs = [v]) : Lies ρ s.next c.bb w (Mine ρ s.roots) v sh xs := by
  -- an act in which a slot has just this value
  have h' : Sat c ρ { s with env := [(0, .one t)], sz := 1 } { a with tmps := #[pack t.shape cs] } w := by
    refine ⟨h.rs, fun k x hx => ?_, rfl, h.only, h.mine, h.old, h.n0, h.defs⟩
    simp only [lk] at hx
    split at hx
    · rename_i e
      simp only [Option.some.injEq] at hx
      subst e
      subst hx
      exact ⟨_, ⟨cs, hc, rfl⟩, rfl⟩
    · cases hx
  have h1 := h'.elems (x := .tmp 0) (t := t) (by simp [St.ev, lk]) he
  have hsh : t.shape = .one := by
    cases t <;> first | rfl | (simp [St.elems] at he)
  have h2 : ({ a with tmps := #[pack t.shape cs] } : Act).eval (.tmp 0) = v := by
    rw [hsh, hv]
    rfl
  rw [h2] at h1
  exact h1
mutual
theorem Sat.fz (h : Sat c ρ s a w) {b : Bool} {keep : List Nat} (hf : Frozen c ρ s w b keep O') : ∀ {t : LV} {cs : List Value}, Con ρ s.next c.bb w (Mine ρ s.roots) t cs → Con ρ s.next c.bb w O' (t.fz s b keep) cs
  | .st ss ts, _, .st hc => by simp only [LV.fz]; exact .st (Sat.fzL h hf hc)
  | .hd id, _, hc => by
    have hm : Con ρ s.next c.bb w O' (.hd id) _ := hc.mono (fun _ _ => rfl) (Nat.le_refl _) (fun x o h1 h2 => ⟨h2, hf.sub x o h1 h2⟩)
    simp only [LV.fz]
    split
    · exact hm
    · rename_i hk
      split
      · rename_i sh xs he
        cases hc with
        | hd h1 h2 =>
          have he' := he
          simp only [St.elems] at he'
          split at he'
          · rename_i sh' xs' hr
            refine h.frozen_one (t := .hd id) hf hr hk (h.lies (.hd h1 h2) he rfl) fun hx bl off n cap hv => ?_
            obtain ⟨_, hok⟩ := h.rs.ok _ (rootOf_mem hr)
            simp only [Option.some.injEq, Prod.mk.injEq] at he'
            obtain ⟨rfl, rfl⟩ := he'
            rcases hok with ⟨s', A, e, _⟩ | ⟨b', cur, e, _, _, g3, _⟩
            · cases e; exact absurd rfl hx
            · have g4 := Root.handle_blk g3
              have g5 := (Root.handle_owns g3).1
              simp only at g4 g5
              rw [hv] at g4
              rw [← g4] at g5
              exact g5
          · cases he'
      · exact hm
  | .sub id S p l n, _, hc => by
    have hm : Con ρ s.next c.bb w O' (.sub id S p l n) _ := hc.mono (fun _ _ => rfl) (Nat.le_refl _) (fun x o h1 h2 => ⟨h2, hf.sub x o h1 h2⟩)
    simp only [LV.fz]
    split
    · exact hm
    · rename_i hk
      split
      · rename_i sh xs he
        have he' := he
        simp only [St.elems] at he'
        split at he'
        · rename_i r hr
          have hl : ∀ v, _ = [v] → Lies ρ s.next c.bb w (Mine ρ s.roots) v sh xs := fun v hv => h.lies hc he hv
          cases hc with
          | sub0 h1 =>
            have hx : xs = [] := by
              split at he'
              · split at he'
                · simp only [Option.ite_none_right_eq_some, Option.some.injEq, Prod.mk.injEq] at he'
                  rw [← he'.2.2]
                  simp
                · cases he'
              · cases he'
            subst hx
            exact .nil
          | sub h1 h2 h3 _ =>
            refine h.frozen_one (t := .sub id S p l n) hf hr hk (hl _ rfl) fun hx bl off n' cap' hv => ?_
            obtain ⟨_, hok⟩ := h.rs.ok _ (rootOf_mem hr)
            rcases hok with ⟨s', A, e, _⟩ | ⟨b', cur, e, _, _, g3, _⟩
            · exfalso
              simp only at e
              subst e
              split at he'
              · split at he'
                · rename_i m sh' xs' hg
                  simp only [Option.ite_none_right_eq_some, Option.some.injEq, Prod.mk.injEq] at he'
                  obtain ⟨⟨hln, hm'⟩, rfl, rfl⟩ := he'
                  cases p with
                  | nil => simp only [Root.tree, LV.get, Option.some.injEq, LV.arr.injEq] at hg; obtain ⟨rfl, _, rfl⟩ := hg; simp at hx
                  | cons i p => simp [Root.tree, LV.get, LV.kid] at hg
                · cases he'
              · cases he'
            · have g4 := Root.handle_blk g3
              have g5 := (Root.handle_owns g3).1
              simp only at g4 g5
              injection hv with hv1
              injection hv1 with hv2
              injection hv2 with hv3
              rw [← hv3, g4]
              exact g5
        · cases he'
      · exact hm
  | .v x, _, hc => by simp only [LV.fz]; exact hc.mono (fun _ _ => rfl) (Nat.le_refl _) (fun x o h1 h2 => ⟨h2, hf.sub x o h1 h2⟩)
  | .arr n sh xs, _, hc => by simp only [LV.fz]; exact hc.mono (fun _ _ => rfl) (Nat.le_refl _) (fun x o h1 h2 => ⟨h2, hf.sub x o h1 h2⟩)
  | .vec f sh xs, _, hc => by simp only [LV.fz]; exact hc.mono (fun _ _ => rfl) (Nat.le_refl _) (fun x o h1 h2 => ⟨h2, hf.sub x o h1 h2⟩)
  | .ip t, _, hc => by simp only [LV.fz]; exact hc.mono (fun _ _ => rfl) (Nat.le_refl _) (fun x o h1 h2 => ⟨h2, hf.sub x o h1 h2⟩)
  | .pt id S p, _, hc => by simp only [LV.fz]; exact hc.mono (fun _ _ => rfl) (Nat.le_refl _) (fun x o h1 h2 => ⟨h2, hf.sub x o h1 h2⟩)
theorem Sat.fzL (h : Sat c ρ s a w) {b : Bool} {keep : List Nat} (hf : Frozen c ρ s w b keep O') : ∀ {ss : List Sh} {ts : List LV} {cs : List Value}, Cons ρ s.next c.bb w (Mine ρ s.roots) ss ts cs → Cons ρ s.next c.bb w O' ss (Go.Proofs.Ytoimeebildcofaa.fzL s b keep ts) cs
  | _, _, _, .nil => by simp only [Go.Proofs.Ytoimeebildcofaa.fzL]; exact .nil
  | _, _, _, .cons h1 h2 h3 => by simp only [Go.Proofs.Ytoimeebildcofaa.fzL]; exact .cons (Sat.fz h hf h1) ((fz_shape s b keep _).trans h2) (Sat.fzL h hf h3)
end
end Go.Proofs.Ytoimeebildcofaa
namespace Go.Proofs.Ytoimeebildcofaa
open Go.RowKit
set_option linter.unusedSimpArgs false
set_option linter.unusedVariables false
variable {P : Program} {ρ ρ' : Nat → Value} {N N' B B' : Nat} {w w' : World} {O O' : Nat → Prop} {R : Roots} {c : Ctx} {s : St} {a : Act} {o : Oper}

/-- What a call leaves: the roots R' in the place of R, k of them new. -/
structure Gives (ρ : Nat → Value) (R : Roots) (k : Nat) (w : World) (ρ' : Nat → Value) (R' : Roots) (w' : World) : Prop where
  rs : SatR ρ' (R.length + k) w.heap.size w' R'
  old : ∀ i, i < R.length → ρ' i = ρ i
  only : Only (Mine ρ R) w w'
  mine : ∀ b, Mine ρ' R' b → Mine ρ R b ∨ w.heap.size ≤ b
/-- A function's contract: called with such values it comes back with such a result, or panics so. The roots that it takes are numbers 0, 1, ..; those that are new have the numbers behind. -/
def Fn (P : Program) (f : FuncId) (us : List LV) (R : Roots) (k : Nat) (Q : EV → Roots → Prop) (QP : List PanicEntry → Roots → Prop) : Prop :=
  isFn P f = true ∧ ∀ ρ w vs, SatR ρ R.length w.heap.size w R → Vals ρ R.length w.heap.size w (Mine ρ R) us vs → Calls P f vs.toArray w fun e w' => match e with
    | .returned v => ∃ ρ' r R', Q r R' ∧ Gives ρ R k w ρ' R' w' ∧ EVal ρ' (R.length + k) w.heap.size w' (Mine ρ' R') r v
    | .panicked ch => ∃ ρ' R', QP ch R' ∧ Gives ρ R k w ρ' R' w'
    | .outgrown => False
/-- .. where A holds when it is called. -/
def FnA (P : Program) (A : (Nat → Value) → World → Prop) (f : FuncId) (us : List LV) (R : Roots) (k : Nat) (Q : EV → Roots → Prop) (QP : List PanicEntry → Roots → Prop) : Prop :=
  isFn P f = true ∧ ∀ ρ w vs, SatR ρ R.length w.heap.size w R → A ρ w → Vals ρ R.length w.heap.size w (Mine ρ R) us vs → Calls P f vs.toArray w fun e w' => match e with
    | .returned v => ∃ ρ' r R', Q r R' ∧ Gives ρ R k w ρ' R' w' ∧ EVal ρ' (R.length + k) w.heap.size w' (Mine ρ' R') r v
    | .panicked ch => ∃ ρ' R', QP ch R' ∧ Gives ρ R k w ρ' R' w'
    | .outgrown => False
theorem Fn.fna {P : Program} {f : FuncId} {us : List LV} {R : Roots} {k : Nat} {Q : EV → Roots → Prop} {QP : List PanicEntry → Roots → Prop} (h : Fn P f us R k Q QP) : FnA P (fun _ _ => True) f us R k Q QP := ⟨h.1, fun ρ w vs h1 _ h2 => h.2 ρ w vs h1 h2⟩
theorem FnA.fn {P : Program} {f : FuncId} {us : List LV} {R : Roots} {k : Nat} {Q : EV → Roots → Prop} {QP : List PanicEntry → Roots → Prop} (h : FnA P (fun _ _ => True) f us R k Q QP) : Fn P f us R k Q QP := ⟨h.1, fun ρ w vs h1 h2 => h.2 ρ w vs h1 trivial h2⟩
def NoP (_ : List PanicEntry) (_ : Roots) : Prop := False
def xOf : List LV → EV
  | [u] => .one u
  | us => .tup us
def envOf : Nat → List LV → Env
  | _, [] => []
  | k, u :: us => (k, .one u) :: envOf (k + 1) us
theorem lk_envOf : ∀ {us : List LV} {k t : Nat} {x : EV}, lk (envOf k us) t = some x → k ≤ t ∧ ∃ u, us[t - k]? = some u ∧ x = .one u
  | [], k, t, x, h => by simp [envOf, lk] at h
  | u :: us, k, t, x, h => by
    simp only [envOf, lk] at h
    split at h
    · rename_i e
      simp only [Option.some.injEq] at h
      exact ⟨by omega, u, by simp [e], h.symm⟩
    · obtain ⟨h1, u', h2, h3⟩ := lk_envOf h
      exact ⟨by omega, u', by rw [show t - k = (t - (k + 1)) + 1 by omega, List.getElem?_cons_succ]; exact h2, h3⟩
theorem Vals.len : ∀ {ts : List LV} {vs : List Value}, Vals ρ N B w O ts vs → vs.length = ts.length
  | _, _, .nil => rfl
  | _, _, .cons _ h => by simp [h.len]
def EV.one? : EV → Option LV
  | .one u => some u
  | .fx _ u => some u
  | _ => none
/-- The results, one behind the other. -/
def vRes (P : Program) (s : St) : List ResultVar → (List LV → Prop) → Prop
  | [], K => K []
  | .tmp t :: rs, K => bo (s.ev (.tmp t)) fun u => vRes P s rs (fun us => K (u :: us))
  | .cell x t :: rs, K => vLoad P s t (.tmp x) (fun y _ => bo y.one? fun u => vRes P s rs (fun us => K (u :: us)))
theorem vLoad_run {t : TypeId} {x : Tmp} {K : EV → St → Prop} (h : vLoad P s t (.tmp x) K) (hs : Sat c ρ s a w) : ∃ v y, (do loadVar t (← asAddr (a.tmps.getD x undef)) : Sem Value).run P w = .ok v w ∧ EVal ρ s.next c.bb w (Mine ρ s.roots) y v ∧ K y s := by
  have he : a.eval (.tmp x) = a.tmps.getD x undef := rfl
  obtain ⟨ux, hx, h⟩ := bo_spec h
  unfold ldP at h
  split at h
  · rename_i id S p
    · obtain ⟨r, hr, h1, h2, h3⟩ := bo_spec h
      · obtain ⟨u, hu, h3⟩ := bo_spec h3
        obtain ⟨b, cur, e, g1, g2, g3, g4, g5, _⟩ := hs.at_ hr h2 hu
        obtain ⟨cs, hc, hv⟩ := hs.ev hx
        cases hc
        have hval : a.tmps.getD x undef = .pointer (some ⟨b, r.sh.off p, none⟩) := by rw [← he, hv, h1, ← g2]; rfl
        exact ⟨_, .one u, by simp only [hval, asAddr, Sem.run_bind, Sem.run_pure, Result.andThen_ok, run_loadVar_sh h3.1 g4.len (Con.range g1 rfl)], ⟨_, g4, rfl⟩, h3.2⟩
  · rename_i u
    obtain ⟨cs, hc, hv⟩ := hs.ev hx
    cases hc with
    | @ip _ b off cur e fr h1 h2 h3 =>
      have hval : a.tmps.getD x undef = .pointer (some ⟨b, off, none⟩) := hv
      exact ⟨_, .one u, by simp only [hval, asAddr, Sem.run_bind, Sem.run_pure, Result.andThen_ok, run_loadVar_sh h.1 h3.len (Con.range h2 rfl)], ⟨_, h3, rfl⟩, h.2⟩
  · exact h.elim
def resSem (tmps : Array Value) : ResultVar → Sem Value
  | .tmp t => pure (tmps.getD t undef)
  | .cell x t => do loadVar t (← asAddr (tmps.getD x undef))
theorem vRes_run (hs : Sat c ρ s a w) : ∀ {rs : List ResultVar} {K : List LV → Prop}, vRes P s rs K →
    ∃ us vs, (rs.mapM (resSem a.tmps)).run P w = .ok vs w ∧ Vals ρ s.next c.bb w (Mine ρ s.roots) us vs ∧ K us
  | [], K, h => ⟨[], [], by simp, .nil, h⟩
  | .tmp t :: rs, K, h => by
    simp only [vRes] at h
    · obtain ⟨u, hu, h⟩ := bo_spec h
      obtain ⟨us, vs, h1, h2, h3⟩ := vRes_run hs h
      exact ⟨u :: us, _ :: vs, by simp only [List.mapM_cons, resSem, Sem.run_bind, Sem.run_pure, Result.andThen_ok, h1]; rfl, .cons (hs.ev hu) h2, h3⟩
  | .cell x t :: rs, K, h => by
    simp only [vRes] at h
    obtain ⟨v, y, h1, h2, h3⟩ := vLoad_run h hs
    obtain ⟨u, hu, h3⟩ := bo_spec h3
    have h2 : Val ρ s.next c.bb w (Mine ρ s.roots) u v := by cases y <;> simp only [EV.one?, Option.some.injEq] at hu <;> first | (subst hu; exact h2) | (subst hu; exact h2.1) | cases hu
    · obtain ⟨us, vs, g1, g2, g3⟩ := vRes_run hs h3
      refine ⟨_ :: us, v :: vs, ?_, .cons h2 g2, g3⟩
      have h4 : (resSem a.tmps (.cell x t)).run P w = .ok v w := h1
      simp only [List.mapM_cons, Sem.run_bind, h4, Sem.run_pure, Result.andThen_ok, g1]
/-- At a return: the results and the roots that are handed out, under the contract's names (τ: from these to the walk's). -/
def RetNow (m k : Nat) (fresh : Bool) (Q : EV → Roots → Prop) (s : St) (us : List LV) : Prop :=
  (fresh = true → m = 0) ∧ s.ds = [] ∧ ∃ (τ : Nat → Nat) (rs : List LV) (R' : Roots), fzL s fresh (R'.map (fun y => τ y.1)) us = renL τ rs ∧ Q (xOf rs) R' ∧ underL (m + k) rs ∧ (R'.map (·.1)).Nodup ∧
    (∀ y ∈ R', y.1 < m + k ∧ rootOf s.roots (τ y.1) = some (y.2.ren τ) ∧ y.2.under (m + k)) ∧ (∀ i, i < m → τ i = i) ∧ (R'.map (fun y => τ y.1)).Nodup
/-- The same values and roots seen otherwise. -/
def Ghost (s : St) (us : List LV) (s' : St) (us' : List LV) : Prop :=
  ∀ (c : Ctx) (ρ : Nat → Value) (a : Act) (w : World) (vs : List Value), Sat c ρ s a w → Vals ρ s.next c.bb w (Mine ρ s.roots) us vs → ∃ ρ', Sat c ρ' s' a w ∧ Vals ρ' s'.next c.bb w (Mine ρ' s'.roots) us' vs
def RetTo (m k : Nat) (fresh : Bool) (Q : EV → Roots → Prop) (s : St) (us : List LV) : Prop := ∃ s' us', Ghost s us s' us' ∧ RetNow m k fresh Q s' us'
theorem RetNow.to {m k : Nat} {fresh : Bool} {Q : EV → Roots → Prop} {us : List LV} (h : RetNow m k fresh Q s us) : RetTo m k fresh Q s us := ⟨s, us, fun _ ρ _ _ _ h1 h2 => ⟨ρ, h1, h2⟩, h⟩
theorem RetTo.ghost {m k : Nat} {fresh : Bool} {Q : EV → Roots → Prop} {s' : St} {us us' : List LV} (hg : Ghost s us s' us') (h : RetTo m k fresh Q s' us') : RetTo m k fresh Q s us := by
  obtain ⟨s2, us2, h1, h2⟩ := h
  refine ⟨s2, us2, fun c ρ a w vs g1 g2 => ?_, h2⟩
  obtain ⟨ρ', g3, g4⟩ := hg c ρ a w vs g1 g2
  exact h1 c ρ' a w vs g3 g4
def PanTo (m k : Nat) (QP : List PanicEntry → Roots → Prop) (ch : List PanicEntry) (s : St) : Prop :=
  s.ds = [] ∧ ∃ (τ : Nat → Nat) (R' : Roots), QP ch R' ∧ (R'.map (·.1)).Nodup ∧
    (∀ y ∈ R', y.1 < m + k ∧ rootOf s.roots (τ y.1) = some (y.2.ren τ) ∧ y.2.under (m + k)) ∧ (∀ i, i < m → τ i = i) ∧ (R'.map (fun y => τ y.1)).Nodup
theorem Root.Ok.unren {σ : Nat → Nat} {m : Nat} {h : Value} {r : Root} (hr : (r.ren σ).Ok ρ N B w O h) (hb : r.under m) (hw : ∀ b o, ¬ O b → w.heap[b]? = some o → w.heap[b]? = some o ∧ ¬ O' b) : r.Ok (fun i => ρ (σ i)) m B w O' h := by
  rcases hr with ⟨s, A, e, hh⟩ | ⟨b, cur, e, h1, h2, h3, h4⟩
  · cases r with
    | box t => cases e
    | row sh xs =>
      simp only [Root.ren, Root.row.injEq] at e
      have : xs = [] := List.eq_nil_of_length_eq_zero (by rw [← renL_len σ xs, e.2]; rfl)
      subst this
      exact .inl ⟨sh, A, rfl, hh⟩
  · have hlen : (r.ren σ).tree.shape = r.tree.shape := by rw [Root.ren_tree, ren_shape]
    rw [hlen, Root.ren_tree] at h2
    refine .inr ⟨b, cur, e, h1, Con.unren hw (Nat.le_refl _) (Root.under_tree.1 hb) h2, ?_, ?_⟩
    · cases r with
      | box t => exact h3
      | row sh xs => simpa [Root.ren, Root.handle, renL_len] using h3
    · cases r with
      | box t => trivial
      | row sh xs => cases h <;> exact h4
theorem gives_of {k : Nat} {τ : Nat → Nat} {R' : Roots} (hs : Sat c ρ' s a w') (hc : c = ⟨w, Mine ρ R, ρ, R.length⟩) (h1 : (R'.map (·.1)).Nodup) (h2 : ∀ y ∈ R', y.1 < R.length + k ∧ rootOf s.roots (τ y.1) = some (y.2.ren τ) ∧ y.2.under (R.length + k))
    (h3 : ∀ i, i < R.length → τ i = i) (h4 : (R'.map (fun y => τ y.1)).Nodup) : Gives ρ R k w (fun i => ρ' (τ i)) R' w' ∧ ∀ b, Mine (fun i => ρ' (τ i)) R' b → Mine ρ' s.roots b := by
  have hM : ∀ b, Mine (fun i => ρ' (τ i)) R' b → Mine ρ' s.roots b := fun b ⟨y, hy, e⟩ => ⟨_, rootOf_mem (h2 y hy).2.1, e⟩
  have hbb : c.bb = w.heap.size := by rw [hc]; rfl
  refine ⟨⟨⟨fun y hy => ?_, ?_, h1⟩, fun i hi => ?_, ?_, fun b hb => ?_⟩, hM⟩
  · obtain ⟨g1, g2, g3⟩ := h2 y hy
    obtain ⟨f1, f2⟩ := hs.rs.ok _ (rootOf_mem g2)
    refine ⟨g1, ?_⟩
    rw [← hbb]
    exact Root.Ok.unren f2 g3 fun b o e1 e2 => ⟨e2, fun e3 => e1 (hM b e3)⟩
  · have key : ∀ (A : Roots), (∀ y ∈ A, y ∈ R') → (A.map (fun y => τ y.1)).Nodup → A.Pairwise fun x y => ∀ b, owns (ρ' (τ x.1)) b → ¬ owns (ρ' (τ y.1)) b := by
      intro A
      induction A with
      | nil => intro _ _; exact .nil
      | cons z A ih =>
        intro hA hn
        simp only [List.map_cons] at hn
        obtain ⟨n1, n2⟩ := List.nodup_cons.1 hn
        refine List.pairwise_cons.2 ⟨fun y hy => ?_, ih (fun y hy => hA y (List.mem_cons_of_mem _ hy)) n2⟩
        have q1 := rootOf_mem (h2 z (hA z List.mem_cons_self)).2.1
        have q2 := rootOf_mem (h2 y (hA y (List.mem_cons_of_mem _ hy))).2.1
        exact pairwise_of (P := fun i j => ∀ b, owns (ρ' i) b → ¬ owns (ρ' j) b) (fun i j h b h1 h2 => h b h2 h1) hs.rs.apart q1 q2 (fun e => n1 (by simp only at e; rw [e]; exact List.mem_map_of_mem (f := fun y : Nat × Root => τ y.1) hy))
    exact key R' (fun _ h => h) h4
  · show ρ' (τ i) = ρ i
    rw [h3 i hi]
    have := hs.old i (by rw [hc]; exact hi)
    rw [this, hc]
  · have := hs.only
    rw [hc] at this
    exact this
  · have := hs.mine b (hM b hb)
    rw [hc] at this
    exact this
theorem Vals.fzL (hs : Sat c ρ s a w) {b : Bool} {keep : List Nat} (hf : Frozen c ρ s w b keep O') : ∀ {us : List LV} {vs : List Value}, Vals ρ s.next c.bb w (Mine ρ s.roots) us vs → Vals ρ s.next c.bb w O' (Go.Proofs.Ytoimeebildcofaa.fzL s b keep us) vs
  | _, _, .nil => by simp only [Go.Proofs.Ytoimeebildcofaa.fzL]; exact .nil
  | _, _, .cons h h' => by
    simp only [Go.Proofs.Ytoimeebildcofaa.fzL]
    obtain ⟨cs, h1, h2⟩ := h
    exact .cons ⟨cs, hs.fz hf h1, by rw [fz_shape]; exact h2⟩ (Vals.fzL hs hf h')
theorem Vals.unren {σ : Nat → Nat} {m : Nat} (hw : ∀ b o, ¬ O b → w.heap[b]? = some o → w'.heap[b]? = some o ∧ ¬ O' b) (hB : B' ≤ B) : ∀ {us : List LV} {vs : List Value}, underL m us → Vals ρ N B w O (renL σ us) vs → Vals (fun i => ρ (σ i)) m B' w' O' us vs
  | [], vs, _, h => by simp only [renL] at h; cases h; exact .nil
  | u :: us, vs, hu, h => by
    simp only [renL] at h
    simp only [underL] at hu
    cases h with
    | cons h1 h2 =>
      obtain ⟨cs, g1, g2⟩ := h1
      exact .cons ⟨cs, Con.unren hw hB hu.1 g1, by rw [g2, ren_shape]⟩ (Vals.unren hw hB hu.2 h2)
theorem xOf_val : ∀ {us : List LV} {vs : List Value}, Vals ρ N B w O us vs → EVal ρ N B w O (xOf us) (if h : vs.toArray.size = 1 then vs.toArray[0] else .tuple vs.toArray)
  | _, _, .nil => ⟨[], .nil, rfl⟩
  | _, _, .cons h .nil => by simpa [xOf, EVal] using h
  | _, _, .cons h (.cons h1 h2) => by
    rw [dif_neg (by simp)]
    exact ⟨_, .cons h (.cons h1 h2), rfl⟩
/-- The exits of a body: what is to be shown at each. -/
def exitQ (P : Program) (fn : Func) (m k : Nat) (fresh : Bool) (Q : EV → Roots → Prop) (QP : List PanicEntry → Roots → Prop) : Exit → St → Prop
  | .normal, s => vRes P s fn.results.toList (RetTo m k fresh Q s)
  | .ret, s => vRes P s fn.results.toList (RetTo m k fresh Q s)
  | .panic ch, s => PanTo m k QP ch s
  | _, _ => False
theorem fnA_of {f : FuncId} {fn : Func} {cd : Code} {us : List LV} {k : Nat} {Q : EV → Roots → Prop} {QP : List PanicEntry → Roots → Prop} {A : (Nat → Value) → World → Prop} (env : Env) (fresh : Bool) (hf : P.funcs[f]? = some fn) (hb : fn.body = some cd) (hn : fn.name != "runtime.NumGoroutine") (hsz : us.length ≤ fn.ntmps)
    (he : ∀ ρ w vs, A ρ w → Vals ρ R.length w.heap.size w (Mine ρ R) us vs → ∀ t x, lk env t = some x → ∃ v, EVal ρ R.length w.heap.size w (Mine ρ R) x v ∧ vs[t]? = some v)
    (h : vc P cd (exitQ P fn R.length k fresh Q QP) ⟨env, R, R.length, fn.ntmps, []⟩) : FnA P A f us R k Q QP := by
  refine ⟨by simp only [isFn, hf, hb, hn]; rfl, fun ρ w vs hR hA hV => calls_of_wp hf hb ?_⟩
  have hvl := hV.len
  have hs : Sat ⟨w, Mine ρ R, ρ, R.length⟩ ρ ⟨env, R, R.length, fn.ntmps, []⟩ { tmps := vs.toArray ++ Array.replicate (fn.ntmps - vs.toArray.size) undef, defers := [] } w := by
    refine ⟨hR, fun t x hx => ?_, by simp; omega, Only.refl _ _, fun b hb => .inl hb, fun _ _ => rfl, Nat.le_refl _, rfl⟩
    obtain ⟨v, h2, h1⟩ := he ρ w vs hA hV t x hx
    refine ⟨v, h2, ?_⟩
    have hlt : t < vs.length := (List.getElem?_eq_some_iff.1 h1).1
    simp only [Array.getElem?_append, List.size_toArray, hlt, if_true]
    simpa using h1
  refine wp_mono (vc_sound cd _ _ h _ ρ _ w hs) fun e a' w' hq => ?_
  obtain ⟨ρ', s', hs', hq⟩ := hq
  have ret : Sat ⟨w, Mine ρ R, ρ, R.length⟩ ρ' s' a' w' → vRes P s' fn.results.toList (RetTo R.length k fresh Q s') → a'.defers = [] ∧ ∃ v, (results fn a'.tmps).run P w' = .ok v w' ∧ ∃ ρ' r R', Q r R' ∧ Gives ρ R k w ρ' R' w' ∧ EVal ρ' (R.length + k) w.heap.size w' (Mine ρ' R') r v := by
    intro hs' hq
    obtain ⟨us0, vs', h1, h2, s2, us2, hgh, hfr, hds, τ, rs, R', g1, g2, g3, g4, g5, g6, g7⟩ := vRes_run hs' hq
    obtain ⟨ρ2, hs2, h2⟩ := hgh _ _ _ _ _ hs' h2
    clear hs' hgh
    have hs' := hs2
    obtain ⟨f1, f2⟩ := gives_of hs' rfl g4 g5 g6 g7
    refine ⟨hs'.defs.trans hds, _, ?_, _, _, R', g2, f1, xOf_val (Vals.unren (fun b o e1 e2 => ⟨e2, e1⟩) (Nat.le_refl _) g3 (g1 ▸ Vals.fzL hs' (b := fresh) (keep := R'.map (fun y : Nat × Root => τ y.1)) (O' := Mine (fun i => ρ2 (τ i)) R') ⟨fun x o e1 e2 e3 => e1 (f2 x e3), fun hfre x hx => ?_, fun id r hr hk x hx hm => ?_⟩ h2))⟩
    · have he : results fn a'.tmps = (do let vs ← fn.results.mapM (resSem a'.tmps); pure (if h : vs.size = 1 then vs[0] else .tuple vs)) := by
        unfold results
        congr 1
      rw [he, Array.mapM_eq_mapM_toList]
      simp [h1]
    · have hm0 := hfr hfre
      have : R = [] := List.eq_nil_of_length_eq_zero hm0
      subst this
      rcases hs'.mine x hx with h3 | h3
      · obtain ⟨y, hy, _⟩ := h3; cases hy
      · exact h3
    · obtain ⟨y, hy, e⟩ := hm
      have q1 := rootOf_mem hr
      have q2 := rootOf_mem (g5 y hy).2.1
      exact pairwise_of (P := fun i j => ∀ b, owns (ρ2 i) b → ¬ owns (ρ2 j) b) (fun i j h b h1 h2 => h b h2 h1) hs'.rs.apart q1 q2 (fun e2 => hk (by simp only at e2; rw [e2]; exact List.mem_map_of_mem (f := fun y : Nat × Root => τ y.1) hy)) x hx e
  cases e with
  | normal => exact ret hs' hq
  | ret => exact ret hs' hq
  | panic ch =>
    obtain ⟨hds, τ, R', g2, g4, g5, g6, g7⟩ := hq
    have hs2 : Sat ⟨w, Mine ρ R, ρ, R.length⟩ ρ' { s' with env := [] } a' w' := hs'
    obtain ⟨f1, f2⟩ := gives_of hs2 rfl g4 g5 g6 g7
    exact ⟨hs2.defs.trans hds, _, R', g2, f1⟩
  | exit i => exact hq.elim
  | goto l => exact hq.elim
  | outgrown => exact hq.elim
theorem fn_of {f : FuncId} {fn : Func} {cd : Code} {us : List LV} {k : Nat} {Q : EV → Roots → Prop} {QP : List PanicEntry → Roots → Prop} (fresh : Bool) (hf : P.funcs[f]? = some fn) (hb : fn.body = some cd) (hn : fn.name != "runtime.NumGoroutine") (hsz : us.length ≤ fn.ntmps)
    (h : vc P cd (exitQ P fn R.length k fresh Q QP) ⟨envOf 0 us, R, R.length, fn.ntmps, []⟩) : Fn P f us R k Q QP :=
  FnA.fn (fnA_of (envOf 0 us) fresh hf hb hn hsz (fun ρ w vs _ hV t x hx => by
    obtain ⟨_, u, hu, rfl⟩ := lk_envOf hx
    rw [Nat.sub_zero] at hu
    obtain ⟨v, h1, h2⟩ := hV.get hu
    exact ⟨v, h2, h1⟩) h)
end Go.Proofs.Ytoimeebildcofaa
namespace Go.Proofs.Ytoimeebildcofaa
open Go.RowKit
set_option linter.unusedSimpArgs false
set_option linter.unusedVariables false
variable {P : Program} {ρ ρ' : Nat → Value} {N N' B B' : Nat} {w w' : World} {O O' : Nat → Prop} {R : Roots} {c : Ctx} {s : St} {a : Act} {o : Oper}

def EV.ren (σ : Nat → Nat) : EV → EV
  | .one t => .one (t.ren σ)
  | .tup ts => .tup (renL σ ts)
  | .un => .un
  | .fx L t => .fx L (t.ren σ)
def EV.new : EV → Prop
  | .one t => t.new
  | .tup ts => newL ts
  | .un => True
  | .fx _ _ => False
theorem Val.ren {σ : Nat → Nat} (hσ : ∀ i, i < N → σ i < N' ∧ ρ' (σ i) = ρ i) (hw : ∀ b o, ¬ O b → w.heap[b]? = some o → w'.heap[b]? = some o ∧ ¬ O' b) (hB : B' ≤ B) {t : LV} {v : Value} (h : Val ρ N B w O t v) : Val ρ' N' B' w' O' (t.ren σ) v := by
  obtain ⟨cs, h1, h2⟩ := h
  exact ⟨cs, h1.ren hσ hw hB, by rw [ren_shape]; exact h2⟩
theorem Vals.ren {σ : Nat → Nat} (hσ : ∀ i, i < N → σ i < N' ∧ ρ' (σ i) = ρ i) (hw : ∀ b o, ¬ O b → w.heap[b]? = some o → w'.heap[b]? = some o ∧ ¬ O' b) (hB : B' ≤ B) : ∀ {ts : List LV} {vs : List Value}, Vals ρ N B w O ts vs → Vals ρ' N' B' w' O' (renL σ ts) vs
  | _, _, .nil => by simp only [renL]; exact .nil
  | _, _, .cons h hs => by simp only [renL]; exact .cons (h.ren hσ hw hB) (hs.ren hσ hw hB)
theorem Val.apart (hO : ∀ b, O' b → O b ∨ b < B) {t : LV} {v : Value} (hn : t.new) (h : Val ρ N B w O t v) : Val ρ N B w O' t v := by
  obtain ⟨cs, h1, h2⟩ := h
  exact ⟨cs, Con.apart hO hn h1, h2⟩
theorem Vals.apart (hO : ∀ b, O' b → O b ∨ b < B) : ∀ {ts : List LV} {vs : List Value}, newL ts → Vals ρ N B w O ts vs → Vals ρ N B w O' ts vs
  | _, _, _, .nil => .nil
  | _, _, hn, .cons h hs => by simp only [newL] at hn; exact .cons (h.apart hO hn.1) (Vals.apart hO hn.2 hs)
theorem EVal.moved {σ : Nat → Nat} (hσ : ∀ i, i < N → σ i < N' ∧ ρ' (σ i) = ρ i) (hO : ∀ b, O' b → O b ∨ b < B) (hB : B' ≤ B) {x : EV} {v : Value} (hn : x.new) (h : EVal ρ N B w O x v) : EVal ρ' N' B' w O' (x.ren σ) v := by
  cases x with
  | one t => exact Val.ren hσ (fun b o h1 h2 => ⟨h2, h1⟩) hB (Val.apart hO hn h)
  | tup ts =>
    obtain ⟨vs, h1, h2⟩ := h
    exact ⟨vs, Vals.ren hσ (fun b o h1 h2 => ⟨h2, h1⟩) hB (Vals.apart hO hn h1), h2⟩
  | un => exact h
  | fx L t => exact hn.elim
theorem Root.Ok.moved {σ : Nat → Nat} (hσ : ∀ i, i < N → σ i < N' ∧ ρ' (σ i) = ρ i) (hO : ∀ b, O' b → O b ∨ b < B) (hB : B' ≤ B) {r : Root} {h : Value} (hn : r.new) (hr : r.Ok ρ N B w O h) : (r.ren σ).Ok ρ' N' B' w O' h := by
  rcases hr with ⟨sh, A, rfl, hh⟩ | ⟨b, cur, e, h1, h2, h3, h4⟩
  · exact .inl ⟨sh, A, by simp [Root.ren, renL], hh⟩
  · have hlen : (r.ren σ).tree.shape = r.tree.shape := by rw [Root.ren_tree, ren_shape]
    refine .inr ⟨b, cur, e, h1, ?_, ?_, ?_⟩
    · rw [hlen, Root.ren_tree]
      have hn' : r.tree.new := by cases r <;> simpa [Root.tree, LV.new, Root.new] using hn
      exact Con.ren hσ (fun b o h1 h2 => ⟨h2, h1⟩) hB (Con.apart hO hn' h2)
    · cases r with
      | box t => exact h3
      | row sh xs => simpa [Root.ren, Root.handle, renL_len] using h3
    · cases r with
      | box t => trivial
      | row sh xs => cases h <;> exact h4
theorem Vals.olden : ∀ {us : List LV} {vs : List Value}, Vals ρ N B w O us vs → Vals ρ N B' w O (oldL us) vs
  | _, _, .nil => by simp only [oldL]; exact .nil
  | _, _, .cons h h' => by
    simp only [oldL]
    obtain ⟨cs, h1, h2⟩ := h
    exact .cons ⟨cs, h1.olden, by rw [old_shape]; exact h2⟩ h'.olden
def Root.old : Root → Root
  | .box t => .box t.old
  | .row s xs => .row s (oldL xs)
theorem Root.Ok.olden {r : Root} {h : Value} (hr : r.Ok ρ N B w O h) : r.old.Ok ρ N B' w O h := by
  have ht : r.old.tree = r.tree.old := by cases r <;> simp [Root.old, Root.tree, LV.old, oldL_len]
  rcases hr with ⟨sh, A, rfl, hh⟩ | ⟨b, cur, e, h1, h2, h3, h4⟩
  · exact .inl ⟨sh, A, by simp [Root.old, oldL], hh⟩
  · refine .inr ⟨b, cur, e, h1, ?_, ?_, ?_⟩
    · rw [ht, old_shape]; exact h2.olden
    · cases r with
      | box t => exact h3
      | row sh xs => simpa [Root.old, Root.handle, oldL_len] using h3
    · cases r with
      | box t => trivial
      | row sh xs => cases h <;> exact h4
/-- The contract's names, as the caller has them. -/
def callNames (σ : Nat → Nat) (m n : Nat) (i : Nat) : Nat := if i < m then σ i else n + (i - m)
/-- The state behind a call. -/
def afterCall (s : St) (σ : Nat → Nat) (m k : Nat) (keep : List Nat) (R' : Roots) : St :=
  { s with roots := R'.map (fun y => (callNames σ m s.next y.1, y.2.ren (callNames σ m s.next))) ++ s.roots.filter (fun x => !keep.contains x.1), next := s.next + k }
/-- What a call leaves of what was there: M: the blocks of what it was handed. -/
structure Kin (M : Nat → Prop) (s : St) (ρ : Nat → Value) (w : World) (ρ' : Nat → Value) (s' : St) (w' : World) : Prop where
  old : ∀ i, i < s.next → ρ' i = ρ i
  only : Only M w w'
  mine : ∀ x ∈ s'.roots, s.next ≤ x.1 → ∀ b, owns (ρ' x.1) b → M b ∨ w.heap.size ≤ b
  ids : ∀ x ∈ s'.roots, x.1 < s.next → ∃ y ∈ s.roots, y.1 = x.1
theorem callX_of {f : FuncId} {uc us : List LV} {k : Nat} {Q : EV → Roots → Prop} {QP : List PanicEntry → Roots → Prop} {K : EV → St → Prop} {KP : List PanicEntry → St → Prop} {A : (Nat → Value) → World → Prop} (h : FnA P A f us R k Q QP) (σ : Nat → Nat) (hA : ∀ c ρ a w, Sat c ρ s a w → A (fun i => ρ (σ i)) w) (hids : R.map (·.1) = List.range R.length)
    (hR : ∀ y ∈ R, (rootOf s.roots (σ y.1)).map Root.old = some (y.2.ren σ) ∧ y.2.under R.length) (hinj : (R.map (fun y => σ y.1)).Nodup) (harg : oldL (fzL s false (R.map (fun y => σ y.1)) uc) = renL σ us) (hu : underL R.length us)
    (hK : ∀ r R', Q r R' → r.new ∧ (∀ y ∈ R', y.2.new) ∧ K (r.ren (callNames σ R.length s.next)) (afterCall s σ R.length k (R.map (fun y => σ y.1)) R'))
    (hKP : ∀ ch R', QP ch R' → (∀ y ∈ R', y.2.new) ∧ KP ch (afterCall s σ R.length k (R.map (fun y => σ y.1)) R')) : isFn P f = true ∧ ∀ c ρ a w vs, Sat c ρ s a w → Vals ρ s.next c.bb w (Mine ρ s.roots) uc vs → Calls P f vs.toArray w fun e w' => match e with
    | .returned v => ∃ ρ' s' r, Sat c ρ' s' a w' ∧ EVal ρ' s'.next c.bb w' (Mine ρ' s'.roots) r v ∧ s'.sz = s.sz ∧ K r s' ∧ Kin (Mine (fun i => ρ (σ i)) R) s ρ w ρ' s' w'
    | .panicked ch => ∃ ρ' s', Sat c ρ' s' a w' ∧ s'.sz = s.sz ∧ KP ch s'
    | .outgrown => False := by
  refine ⟨h.1, fun c ρ a w vs hs hV => ?_⟩
  have hmemR : ∀ i, i < R.length → ∃ y ∈ R, y.1 = i := fun i hi => by
    have : i ∈ R.map (·.1) := by rw [hids]; exact List.mem_range.2 hi
    obtain ⟨y, hy, e⟩ := List.mem_map.1 this
    exact ⟨y, hy, e⟩
  have hltR : ∀ y ∈ R, y.1 < R.length := fun y hy => by
    have : y.1 ∈ R.map (·.1) := List.mem_map_of_mem hy
    rw [hids] at this
    exact List.mem_range.1 this
  have hroot : ∀ y ∈ R, ∃ r0, (σ y.1, r0) ∈ s.roots ∧ r0.old = y.2.ren σ := fun y hy => by
    obtain ⟨r0, g1, g2⟩ := Option.map_eq_some_iff.1 (hR y hy).1
    exact ⟨r0, rootOf_mem g1, g2⟩
  have hMc : ∀ b, Mine (fun i => ρ (σ i)) R b → Mine ρ s.roots b := fun b ⟨y, hy, e⟩ => by
    obtain ⟨r0, g1, _⟩ := hroot y hy
    exact ⟨_, g1, e⟩
  have hσlt : ∀ i, i < R.length → σ i < s.next := fun i hi => by
    obtain ⟨y, hy, rfl⟩ := hmemR i hi
    obtain ⟨r0, g1, _⟩ := hroot y hy
    exact (hs.rs.ok _ g1).1
  have hap : ∀ x ∈ s.roots, x.1 ∉ R.map (fun y => σ y.1) → ∀ b, owns (ρ x.1) b → ¬ Mine (fun i => ρ (σ i)) R b := fun x hx hk b h1 ⟨y, hy, e⟩ => by
    obtain ⟨r0, g1, _⟩ := hroot y hy
    exact pairwise_of (P := fun i j => ∀ b, owns (ρ i) b → ¬ owns (ρ j) b) (fun i j h b h1 h2 => h b h2 h1) hs.rs.apart hx g1 (fun e2 => hk (by simp only at e2; rw [e2]; exact List.mem_map_of_mem (f := fun y : Nat × Root => σ y.1) hy)) b h1 e
  have hbb : c.bb ≤ w.heap.size := hs.only.size
  -- what the callee is handed
  have hRc : SatR (fun i => ρ (σ i)) R.length w.heap.size w R := by
    refine ⟨fun y hy => ⟨hltR y hy, ?_⟩, ?_, by rw [hids]; exact List.nodup_range⟩
    · obtain ⟨r0, g1, g2⟩ := hroot y hy
      have g3 := (hs.rs.ok _ g1).2.olden (B' := w.heap.size)
      rw [show (σ y.1, r0).2 = r0 from rfl, g2] at g3
      exact Root.Ok.unren (O' := Mine (fun i => ρ (σ i)) R) g3 (hR y hy).2 (fun b o e1 e2 => ⟨e2, fun e3 => e1 (hMc b e3)⟩)
    · have key : ∀ (A : Roots), (∀ y ∈ A, y ∈ R) → (A.map (fun y => σ y.1)).Nodup → A.Pairwise fun x y => ∀ b, owns (ρ (σ x.1)) b → ¬ owns (ρ (σ y.1)) b := by
        intro A
        induction A with
        | nil => intro _ _; exact .nil
        | cons z A ih =>
          intro hA hn
          simp only [List.map_cons] at hn
          obtain ⟨n1, n2⟩ := List.nodup_cons.1 hn
          refine List.pairwise_cons.2 ⟨fun y hy => ?_, ih (fun y hy => hA y (List.mem_cons_of_mem _ hy)) n2⟩
          obtain ⟨r1, q1, _⟩ := hroot z (hA z List.mem_cons_self)
          obtain ⟨r2, q2, _⟩ := hroot y (hA y (List.mem_cons_of_mem _ hy))
          exact pairwise_of (P := fun i j => ∀ b, owns (ρ i) b → ¬ owns (ρ j) b) (fun i j h b h1 h2 => h b h2 h1) hs.rs.apart q1 q2 (fun e => n1 (by simp only at e; rw [e]; exact List.mem_map_of_mem (f := fun y : Nat × Root => σ y.1) hy))
      exact key R (fun _ h => h) hinj
  have hVc : Vals (fun i => ρ (σ i)) R.length w.heap.size w (Mine (fun i => ρ (σ i)) R) us vs := by
    have g1 := Vals.fzL hs (b := false) (keep := R.map (fun y : Nat × Root => σ y.1)) (O' := Mine (fun i => ρ (σ i)) R) ⟨fun x o e1 e2 e3 => e1 (hMc x e3), (fun e => by cases e), fun id r hr hk x hx hm => hap _ (rootOf_mem hr) hk x hx hm⟩ hV
    have g2 := Vals.olden (B' := w.heap.size) g1
    rw [harg] at g2
    exact Vals.unren (fun b o e1 e2 => ⟨e2, e1⟩) (Nat.le_refl _) hu g2
  refine Calls.mono (h.2 _ w vs hRc (hA c ρ a w hs) hVc) fun e w' he => ?_
  -- the state behind it
  have main : ∀ ρc R', Gives (fun i => ρ (σ i)) R k w ρc R' w' → (∀ y ∈ R', y.2.new) → ∃ ρ', Sat c ρ' (afterCall s σ R.length k (R.map (fun y => σ y.1)) R') a w' ∧ Kin (Mine (fun i => ρ (σ i)) R) s ρ w ρ' (afterCall s σ R.length k (R.map (fun y => σ y.1)) R') w' ∧
      ∀ (x : EV) (v : Value), x.new → EVal ρc (R.length + k) w.heap.size w' (Mine ρc R') x v → EVal ρ' (s.next + k) c.bb w' (Mine ρ' (afterCall s σ R.length k (R.map (fun y => σ y.1)) R').roots) (x.ren (callNames σ R.length s.next)) v := by
    intro ρc R' hG hnew
    let ρ' : Nat → Value := fun j => if j < s.next then ρ j else ρc (R.length + (j - s.next))
    have hρ' : ∀ j, j < s.next → ρ' j = ρ j := fun j hj => if_pos hj
    have hσ' : ∀ i, i < R.length + k → callNames σ R.length s.next i < s.next + k ∧ ρ' (callNames σ R.length s.next i) = ρc i := fun i hi => by
      unfold callNames
      by_cases hlt : i < R.length
      · rw [if_pos hlt]
        have := hσlt i hlt
        exact ⟨by omega, by rw [hρ' _ this]; exact (hG.old i hlt).symm⟩
      · rw [if_neg hlt]
        refine ⟨by omega, ?_⟩
        show (if _ then _ else _) = _
        rw [if_neg (by omega)]
        congr 1
        omega
    have hkeep : ∀ x, x ∈ s.roots.filter (fun x => !(R.map (fun y : Nat × Root => σ y.1)).contains x.1) ↔ x ∈ s.roots ∧ x.1 ∉ R.map (fun y : Nat × Root => σ y.1) := fun x => by simp
    have hRO : ∀ b, Mine ρ' (afterCall s σ R.length k (R.map (fun y => σ y.1)) R').roots b ↔ Mine ρc R' b ∨ ∃ x ∈ s.roots, x.1 ∉ R.map (fun y => σ y.1) ∧ owns (ρ x.1) b := fun b => by
      constructor
      · rintro ⟨x, hx, e⟩
        rcases List.mem_append.1 hx with hx | hx
        · obtain ⟨y, hy, rfl⟩ := List.mem_map.1 hx
          simp only at e
          rw [(hσ' y.1 (hG.rs.ok y hy).1).2] at e
          exact .inl ⟨y, hy, e⟩
        · obtain ⟨h1, h2⟩ := (hkeep x).1 hx
          rw [hρ' _ (hs.rs.ok x h1).1] at e
          exact .inr ⟨x, h1, h2, e⟩
      · rintro (⟨y, hy, e⟩ | ⟨x, h1, h2, e⟩)
        · exact ⟨_, List.mem_append_left _ (List.mem_map_of_mem hy), by simp only; rw [(hσ' y.1 (hG.rs.ok y hy).1).2]; exact e⟩
        · exact ⟨x, List.mem_append_right _ ((hkeep x).2 ⟨h1, h2⟩), by rw [hρ' _ (hs.rs.ok x h1).1]; exact e⟩
    have hO1 : ∀ b, Mine ρ' (afterCall s σ R.length k (R.map (fun y => σ y.1)) R').roots b → Mine ρc R' b ∨ b < w.heap.size := fun b hb => by
      rcases (hRO b).1 hb with h1 | ⟨x, h1, _, h2⟩
      · exact .inl h1
      · exact .inr ((hs.rs.ok x h1).2.owns_lt h2)
    have hblk : ∀ b, b < w.heap.size → ¬ Mine (fun i => ρ (σ i)) R b → w'.heap[b]? = w.heap[b]? := fun b h1 h2 => hG.only.block b h1 h2
    have hmono : ∀ b o, ¬ Mine ρ s.roots b → w.heap[b]? = some o → w'.heap[b]? = some o ∧ ¬ Mine ρ' (afterCall s σ R.length k (R.map (fun y => σ y.1)) R').roots b := fun b o hn hb => by
      have hlt := (Array.getElem?_eq_some_iff.1 hb).1
      refine ⟨(hblk b hlt (fun e => hn (hMc b e))).trans hb, fun hm => ?_⟩
      rcases (hRO b).1 hm with h1 | ⟨x, h1, _, h2⟩
      · rcases hG.mine b h1 with h3 | h3
        · exact hn (hMc b h3)
        · omega
      · exact hn ⟨x, h1, h2⟩
    refine ⟨ρ', ⟨⟨fun x hx => ?_, ?_, ?_⟩, fun t x hx => ?_, hs.size, ?_, fun b hb => ?_, fun i hi => ?_, Nat.le_trans hs.n0 (Nat.le_add_right _ _), hs.defs⟩, ⟨hρ', hG.only, fun x hx hn b hb => ?_, fun x hx hn => ?_⟩, fun x v hn hx => EVal.moved hσ' hO1 hbb hn hx⟩
    · rcases List.mem_append.1 hx with hx | hx
      · obtain ⟨y, hy, rfl⟩ := List.mem_map.1 hx
        obtain ⟨g1, g2⟩ := hG.rs.ok y hy
        refine ⟨(hσ' y.1 g1).1, ?_⟩
        simp only
        rw [(hσ' y.1 g1).2]
        exact Root.Ok.moved hσ' hO1 hbb (hnew y hy) g2
      · obtain ⟨h1, h2⟩ := (hkeep x).1 hx
        obtain ⟨g1, g2⟩ := hs.rs.ok x h1
        refine ⟨Nat.lt_of_lt_of_le g1 (Nat.le_add_right _ _), ?_⟩
        rw [hρ' _ g1]
        exact g2.mono hρ' (Nat.le_add_right _ _) hmono (fun b hb => hblk b (g2.owns_lt hb) (hap x h1 h2 b hb))
    · refine List.pairwise_append.2 ⟨?_, ?_, ?_⟩
      · rw [List.pairwise_map]
        refine List.Pairwise.imp_of_mem ?_ hG.rs.apart
        intro x y hx hy hxy
        simp only
        rw [(hσ' x.1 (hG.rs.ok x hx).1).2, (hσ' y.1 (hG.rs.ok y hy).1).2]
        exact hxy
      · refine List.Pairwise.imp_of_mem ?_ (hs.rs.apart.filter _)
        intro x y hx hy hxy
        rw [hρ' _ (hs.rs.ok x ((hkeep x).1 hx).1).1, hρ' _ (hs.rs.ok y ((hkeep y).1 hy).1).1]
        exact hxy
      · intro x hx y hy b h1 h2
        obtain ⟨z, hz, rfl⟩ := List.mem_map.1 hx
        obtain ⟨g1, g2⟩ := (hkeep y).1 hy
        simp only at h1
        rw [(hσ' z.1 (hG.rs.ok z hz).1).2] at h1
        rw [hρ' _ (hs.rs.ok y g1).1] at h2
        rcases hG.mine b ⟨z, hz, h1⟩ with h3 | h3
        · exact hap y g1 g2 b h2 h3
        · have := (hs.rs.ok y g1).2.owns_lt h2
          omega
    · show ((R'.map (fun y => (callNames σ R.length s.next y.1, y.2.ren (callNames σ R.length s.next))) ++ s.roots.filter (fun x => !(R.map (fun y : Nat × Root => σ y.1)).contains x.1)).map (·.1)).Nodup
      rw [List.map_append, List.map_map]
      have hinj' : ∀ i j, i < R.length + k → j < R.length + k → callNames σ R.length s.next i = callNames σ R.length s.next j → i = j := by
        intro i j hi hj e
        unfold callNames at e
        have hσinj : ∀ i j, i < R.length → j < R.length → σ i = σ j → i = j := by
          intro i j hi hj e
          have h1 : R.map (fun y => σ y.1) = (List.range R.length).map σ := by rw [← hids, List.map_map]; rfl
          rw [h1] at hinj
          have h2 : (List.range R.length).Pairwise fun a b => σ a ≠ σ b := List.pairwise_map.1 hinj
          rw [List.pairwise_iff_getElem] at h2
          rcases Nat.lt_trichotomy i j with h | h | h
          · have h4 := h2 i j (by rw [List.length_range]; exact hi) (by rw [List.length_range]; exact hj) h
            rw [List.getElem_range, List.getElem_range] at h4
            exact absurd e h4
          · exact h
          · have h4 := h2 j i (by rw [List.length_range]; exact hj) (by rw [List.length_range]; exact hi) h
            rw [List.getElem_range, List.getElem_range] at h4
            exact absurd e.symm h4
        by_cases h1 : i < R.length <;> by_cases h2 : j < R.length
        · rw [if_pos h1, if_pos h2] at e; exact hσinj i j h1 h2 e
        · rw [if_pos h1, if_neg h2] at e; have := hσlt i h1; omega
        · rw [if_neg h1, if_pos h2] at e; have := hσlt j h2; omega
        · rw [if_neg h1, if_neg h2] at e; omega
      refine List.nodup_append.2 ⟨?_, hs.rs.ids.sublist (List.filter_sublist.map _), ?_⟩
      · have hids' := hG.rs.ids
        have : R'.map ((·.1) ∘ fun y => (callNames σ R.length s.next y.1, y.2.ren (callNames σ R.length s.next))) = (R'.map (·.1)).map (callNames σ R.length s.next) := by rw [List.map_map]; rfl
        rw [this]
        refine List.pairwise_map.2 (List.Pairwise.imp_of_mem ?_ hids')
        intro x y hx hy hne e
        obtain ⟨x', hx', rfl⟩ := List.mem_map.1 hx
        obtain ⟨y', hy', rfl⟩ := List.mem_map.1 hy
        exact hne (hinj' _ _ (hG.rs.ok x' hx').1 (hG.rs.ok y' hy').1 e)
      · intro x hx y hy e
        subst e
        obtain ⟨z, hz, rfl⟩ := List.mem_map.1 hx
        obtain ⟨q, hq, hqe⟩ := List.mem_map.1 hy
        obtain ⟨g1, g2⟩ := (hkeep q).1 hq
        simp only [Function.comp] at hqe
        have hql := (hs.rs.ok q g1).1
        rw [hqe] at hql g2
        unfold callNames at hql g2
        by_cases h1 : z.1 < R.length
        · rw [if_pos h1] at g2
          obtain ⟨y', hy', e'⟩ := hmemR z.1 h1
          exact g2 (by rw [← e']; exact List.mem_map_of_mem (f := fun y : Nat × Root => σ y.1) hy')
        · rw [if_neg h1] at hql
          omega
    · obtain ⟨v, h1, h2⟩ := hs.env t x hx
      exact ⟨v, h1.mono hρ' (Nat.le_add_right _ _) hmono, h2⟩
    · refine ⟨hG.only.os.trans hs.only.os, hG.only.tape.trans hs.only.tape, hG.only.output.trans hs.only.output, Nat.le_trans hs.only.size hG.only.size, fun b hb hn => ?_⟩
      refine (hblk b (Nat.lt_of_lt_of_le hb hs.only.size) (fun e => ?_)).trans (hs.only.block b hb hn)
      rcases hs.mine b (hMc b e) with h1 | h1
      · exact hn h1
      · omega
    · rcases (hRO b).1 hb with h1 | ⟨x, h1, _, h2⟩
      · rcases hG.mine b h1 with h3 | h3
        · exact hs.mine b (hMc b h3)
        · right
          have := hs.only.size
          omega
      · exact hs.mine b ⟨x, h1, h2⟩
    · rw [hρ' _ (Nat.lt_of_lt_of_le hi hs.n0)]
      exact hs.old i hi
    · rcases List.mem_append.1 hx with hx | hx
      · obtain ⟨y, hy, rfl⟩ := List.mem_map.1 hx
        simp only at hb
        rw [(hσ' y.1 (hG.rs.ok y hy).1).2] at hb
        exact hG.mine b ⟨y, hy, hb⟩
      · have := (hs.rs.ok x ((hkeep x).1 hx).1).1
        omega
    · rcases List.mem_append.1 hx with hx | hx
      · obtain ⟨y, hy, rfl⟩ := List.mem_map.1 hx
        simp only at hn ⊢
        unfold callNames at hn ⊢
        by_cases h1 : y.1 < R.length
        · rw [if_pos h1]
          obtain ⟨y', hy', e'⟩ := hmemR y.1 h1
          obtain ⟨r0, q1, _⟩ := hroot y' hy'
          exact ⟨_, q1, by rw [e']⟩
        · rw [if_neg h1] at hn
          omega
      · exact ⟨x, ((hkeep x).1 hx).1, rfl⟩
  cases e with
  | returned v =>
    obtain ⟨ρc, r, R', hq, hG, hv⟩ := he
    obtain ⟨g1, g2, g3⟩ := hK r R' hq
    obtain ⟨ρ', f1, f3, f2⟩ := main ρc R' hG g2
    exact ⟨ρ', _, _, f1, f2 r v g1 hv, rfl, g3, f3⟩
  | panicked ch =>
    obtain ⟨ρc, R', hq, hG⟩ := he
    obtain ⟨g2, g3⟩ := hKP ch R' hq
    obtain ⟨ρ', f1, _, f2⟩ := main ρc R' hG g2
    exact ⟨ρ', _, f1, rfl, g3⟩
  | outgrown => exact he.elim
theorem callTo_of {f : FuncId} {uc us : List LV} {k : Nat} {Q : EV → Roots → Prop} {QP : List PanicEntry → Roots → Prop} {K : EV → St → Prop} {KP : List PanicEntry → St → Prop} (h : Fn P f us R k Q QP) (σ : Nat → Nat) (hids : R.map (·.1) = List.range R.length)
    (hR : ∀ y ∈ R, (rootOf s.roots (σ y.1)).map Root.old = some (y.2.ren σ) ∧ y.2.under R.length) (hinj : (R.map (fun y => σ y.1)).Nodup) (harg : oldL (fzL s false (R.map (fun y => σ y.1)) uc) = renL σ us) (hu : underL R.length us)
    (hK : ∀ r R', Q r R' → r.new ∧ (∀ y ∈ R', y.2.new) ∧ K (r.ren (callNames σ R.length s.next)) (afterCall s σ R.length k (R.map (fun y => σ y.1)) R'))
    (hKP : ∀ ch R', QP ch R' → (∀ y ∈ R', y.2.new) ∧ KP ch (afterCall s σ R.length k (R.map (fun y => σ y.1)) R')) : CallTo P f uc s K KP := by
  obtain ⟨h1, h2⟩ := callX_of h.fna σ (fun _ _ _ _ _ => trivial) hids hR hinj harg hu hK hKP
  refine ⟨h1, fun c ρ a w vs hs hV => (h2 c ρ a w vs hs hV).mono fun e w' he => ?_⟩
  cases e with
  | returned v => obtain ⟨ρ', s', r, g1, g2, g3, g4, _⟩ := he; exact ⟨ρ', s', r, g1, g2, g3, g4⟩
  | panicked ch => exact he
  | outgrown => exact he
end Go.Proofs.Ytoimeebildcofaa
namespace Go.Proofs.Ytoimeebildcofaa
open Go.RowKit
set_option linter.unusedSimpArgs false
set_option linter.unusedVariables false
variable {P : Program} {ρ ρ' : Nat → Value} {N N' B B' : Nat} {w w' : World} {O O' : Nat → Prop} {R : Roots} {c : Ctx} {s : St} {a : Act} {o : Oper}

theorem wp_loopN {cd : Code} {Q : Exit → Act → World → Prop} (I : Nat → Act → World → Prop) (n : Nat) (h₀ : I n a w) (round : ∀ n a w, I n a w → cd.wp P (Exit.then (fun a' w' => ∃ m, m < n ∧ I m a' w') Q) a w) : (Code.loop cd).wp P Q a w := by
  intro b k cs
  have key : ∀ n a w, I n a w → ∃ e a' w', Q e a' w' ∧ Arrives P (lone (b.at a (.code cd :: .inLoop cd :: k)) cs w) b k cs e a' w' := by
    intro n
    induction n using Nat.strongRecOn with
    | _ n ih =>
      intro a w hI
      obtain ⟨e, a₁, w₁, hq, harr⟩ := round n a w hI b (.inLoop cd :: k) cs
      cases e with
      | normal =>
        obtain ⟨m, hm, hI₁⟩ := hq
        obtain ⟨e₂, a₂, w₂, hq₂, harr₂⟩ := ih m hm a₁ w₁ hI₁
        exact ⟨e₂, a₂, w₂, hq₂, .of_steps (Steps.trans harr (.one step_inLoop)) harr₂⟩
      | exit id => exact ⟨_, a₁, w₁, hq, .pass (x := .inLoop cd) rfl (fun _ _ => .inl (by simp)) harr⟩
      | goto l => exact ⟨_, a₁, w₁, hq, .pass (x := .inLoop cd) rfl (fun _ _ => .inl (by simp)) harr⟩
      | ret => exact ⟨_, a₁, w₁, hq, .pass (x := .inLoop cd) rfl (fun _ _ => .inl (by simp)) harr⟩
      | panic ch => exact ⟨_, a₁, w₁, hq, .pass (x := .inLoop cd) rfl (fun _ _ => .inl (by simp)) harr⟩
      | outgrown => exact ⟨_, a₁, w₁, hq, .pass (x := .inLoop cd) rfl (fun _ _ => .inl (by simp)) harr⟩
  obtain ⟨e, a', w', hq, harr⟩ := key n a w h₀
  exact ⟨e, a', w', hq, .of_steps (.one step_loop) harr⟩
/-- A loop: I n: what is known at its head, n rounds at most to come. -/
theorem cw_loop {cd : Code} {Q : Exit → St → Prop} (I : Nat → St → Prop) (n : Nat) (h0 : I n s) (round : ∀ n s, I n s → vc P cd (thenQ (fun s' => ∃ m, m < n ∧ I m s') Q) s) : CW P (.loop cd) Q s := by
  intro c ρ a w hs
  refine wp_loopN (fun n a w => ∃ ρ s, Sat c ρ s a w ∧ I n s) n ⟨ρ, s, hs, h0⟩ fun n a w ⟨ρ, s, hs, hI⟩ => wp_mono (vc_sound cd _ s (round n s hI) c ρ a w hs) fun e a' w' hq => ?_
  obtain ⟨ρ', s', h1, h2⟩ := hq
  cases e with
  | normal =>
    obtain ⟨m, hm, hI'⟩ := h2
    exact ⟨m, hm, ρ', s', h1, hI'⟩
  | _ => exact ⟨ρ', s', h1, h2⟩
/-- Less is known. -/
theorem cw_less {cd : Code} {Q : Exit → St → Prop} (e : Env) (he : ∀ t x, lk e t = some x → lk s.env t = some x) (h : CW P cd Q { s with env := e }) : CW P cd Q s :=
  fun c ρ a w hs => h c ρ a w (hs.less he)
theorem cw_mono {cd : Code} {Q Q' : Exit → St → Prop} (h : CW P cd Q s) (hq : ∀ e s, Q e s → Q' e s) : CW P cd Q' s :=
  fun c ρ a w hs => wp_mono (h c ρ a w hs) fun _ _ _ hx => hx.mono (hq _)
end Go.Proofs.Ytoimeebildcofaa
namespace Go.Proofs.Ytoimeebildcofaa
open Go.RowKit
set_option linter.unusedSimpArgs false
set_option linter.unusedVariables false
section
variable {P : Program} {us us' : List LV} {s s' : St} {f : FuncId} {cd : Code} {rs rs' : List ResultVar}
@[congr] theorem callTo_congr {K : EV → St → Prop} {KP : List PanicEntry → St → Prop} (h : us = us') (h' : s = s') : CallTo P f us s K KP = CallTo P f us' s' K KP := by rw [h, h']
@[congr] theorem cw_congr {Q : Exit → St → Prop} (h : s = s') : CW P cd Q s = CW P cd Q s' := by rw [h]
@[congr] theorem vRes_congr {K : List LV → Prop} (h : s = s') (h' : rs = rs') : vRes P s rs K = vRes P s' rs' K := by rw [h, h']
@[congr] theorem retTo_congr {m k : Nat} {b : Bool} {Q : EV → Roots → Prop} (h : s = s') (h' : us = us') : RetTo m k b Q s us = RetTo m k b Q s' us' := by rw [h, h']
@[congr] theorem panTo_congr {m k : Nat} {Q : List PanicEntry → Roots → Prop} {ch : List PanicEntry} (h : s = s') : PanTo m k Q ch s = PanTo m k Q ch s' := by rw [h]
@[congr] theorem vl_congr {ops l : List Oper} {K : St → Prop} {KP : List PanicEntry → St → Prop} (h : s = s') : vl P ops l s K KP = vl P ops l s' K KP := by rw [h]
@[congr] theorem vc_congr {Q : Exit → St → Prop} (h : s = s') : vc P cd Q s = vc P cd Q s' := by rw [h]
@[congr] theorem vOp_congr {op : Op} {K : EV → St → Prop} {KP : List PanicEntry → St → Prop} (h : s = s') : vOp P s op K KP = vOp P s' op K KP := by rw [h]
end
/-- Rules that are tried ahead of the parts: code. -/
abbrev LXcT : Prop := (∀ (P : Program) (Q : Exit → St → Prop) (s : St), vc P .skip Q s = Q .normal s) ∧
    (∀ (P : Program) (Q : Exit → St → Prop) (s : St), vc P .ret Q s = Q .ret s) ∧
    (∀ (P : Program) (Q : Exit → St → Prop) (s : St) (id : Nat), vc P (.exit id) Q s = Q (.exit id) s) ∧
    (∀ (P : Program) (Q : Exit → St → Prop) (s : St) (x y : Code), vc P (.seq x y) Q s = vc P x (thenQ (fun s' => vc P y Q s') Q) s) ∧
    (∀ (P : Program) (Q : Exit → St → Prop) (s : St) (x : Operand) (y z : Code), vc P (.cond x y z) Q s = bo ((s.ev x).bind LV.bool?) fun t => (t = true → vc P y Q s) ∧ (t = false → vc P z Q s)) ∧
    (∀ (P : Program) (Q : Exit → St → Prop) (s : St) (id : Nat) (x : Code), vc P (.block id x) Q s = vc P x (blockQ id Q) s) ∧
    (∀ (P : Program) (Q : Exit → St → Prop) (s : St) (x : Code), vc P (.scope x) Q s = vc P x (scopeQ Q) s) ∧
    (∀ (P : Program) (Q : Exit → St → Prop) (s : St) (id : Nat) (l : List Oper), vc P (.region id l.toArray false) Q s = vl P l l s (fun s' => Q .normal s') (fun ch s' => Q (.panic ch) s')) ∧
    (∀ (P : Program) (Q : Exit → St → Prop) (s : St) (id : Nat) (l : List Oper), vc P (.region id l.toArray true) Q s = CW P (.region id l.toArray true) Q s) ∧
    (∀ (P : Program) (Q : Exit → St → Prop) (s : St) (x : Code), vc P (.loop x) Q s = CW P (.loop x) Q s) ∧
    (∀ (K : St → Prop) (Q : Exit → St → Prop) (s : St), thenQ K Q .normal s = K s) ∧
    (∀ (K : St → Prop) (Q : Exit → St → Prop) (s : St), thenQ K Q .ret s = Q .ret s) ∧
    (∀ (K : St → Prop) (Q : Exit → St → Prop) (s : St) (i : Nat), thenQ K Q (.exit i) s = Q (.exit i) s) ∧
    (∀ (K : St → Prop) (Q : Exit → St → Prop) (s : St) (ch : List PanicEntry), thenQ K Q (.panic ch) s = Q (.panic ch) s) ∧
    (∀ (id : Nat) (Q : Exit → St → Prop) (s : St), blockQ id Q .normal s = Q .normal s) ∧
    (∀ (id : Nat) (Q : Exit → St → Prop) (s : St), blockQ id Q .ret s = Q .ret s) ∧
    (∀ (id i : Nat) (Q : Exit → St → Prop) (s : St), blockQ id Q (.exit i) s = if i = id then Q .normal s else Q (.exit i) s) ∧
    (∀ (id : Nat) (Q : Exit → St → Prop) (s : St) (ch : List PanicEntry), blockQ id Q (.panic ch) s = Q (.panic ch) s) ∧
    (∀ (Q : Exit → St → Prop) (s : St), scopeQ Q .normal s = Q .normal s) ∧
    (∀ (Q : Exit → St → Prop) (s : St), scopeQ Q .ret s = Q .ret s) ∧
    (∀ (Q : Exit → St → Prop) (s : St) (i : Nat), scopeQ Q (.exit i) s = Q (.exit i) s) ∧
    (∀ (Q : Exit → St → Prop) (s : St) (ch : List PanicEntry), scopeQ Q (.panic ch) s = Q (.panic ch) s) ∧
    (∀ (P : Program) (fn : Func) (m k : Nat) (fr : Bool) (Q : EV → Roots → Prop) (QP : List PanicEntry → Roots → Prop) (s : St), exitQ P fn m k fr Q QP .normal s = vRes P s fn.results.toList (RetTo m k fr Q s)) ∧
    (∀ (P : Program) (fn : Func) (m k : Nat) (fr : Bool) (Q : EV → Roots → Prop) (QP : List PanicEntry → Roots → Prop) (s : St), exitQ P fn m k fr Q QP .ret s = vRes P s fn.results.toList (RetTo m k fr Q s)) ∧
    (∀ (P : Program) (fn : Func) (m k : Nat) (fr : Bool) (Q : EV → Roots → Prop) (QP : List PanicEntry → Roots → Prop) (s : St) (ch : List PanicEntry), exitQ P fn m k fr Q QP (.panic ch) s = PanTo m k QP ch s)
theorem LXc : LXcT := by
  refine ⟨?_, ?_, ?_, ?_, ?_, ?_, ?_, ?_, ?_, ?_, ?_, ?_, ?_, ?_, ?_, ?_, ?_, ?_, ?_, ?_, ?_, ?_, ?_, ?_, ?_⟩ <;> intros <;> first | rfl | simp only [vc]
/-- Rules that are tried ahead of the parts: operations. -/
abbrev LXoT : Prop := (∀ (P : Program) (ops : List Oper) (s : St) (K : St → Prop) (KP : List PanicEntry → St → Prop), vl P ops [] s K KP = K s) ∧
    (∀ (P : Program) (ops rest : List Oper) (s : St) (K : St → Prop) (KP : List PanicEntry → St → Prop) (d : Option Tmp) (op : Op) (ty : TypeId) (pos : String) (af : Array Edge),
      vl P ops (⟨d, op, ty, pos, af, none⟩ :: rest) s K KP = (s.fit d ∧ vOp P s op (fun r s' => vl P ops rest (s'.set d r) K KP) KP)) ∧
    (∀ (P : Program) (ops rest : List Oper) (s : St) (K : St → Prop) (KP : List PanicEntry → St → Prop) (d : Option Tmp) (op : Op) (ty : TypeId) (pos : String) (af : Array Edge) (j : Nat) (want : Bool),
      vl P ops (⟨d, op, ty, pos, af, some (j, want)⟩ :: rest) s K KP = bo ((ops[j]?).bind (·.dst)) fun e => gd (lk s.env e) want (s.fit d ∧ vOp P s op (fun r s' => vl P ops rest (s'.set d r) K KP) KP) (s.fit d ∧ vl P ops rest (s.set d .un) K KP)) ∧
    (∀ (P : Program) (s : St) (K : EV → St → Prop) (KP : List PanicEntry → St → Prop) (x : Operand), vOp P s (.move x) K KP = bo (s.get x) fun u => K u s) ∧
    (∀ (P : Program) (s : St) (K : EV → St → Prop) (KP : List PanicEntry → St → Prop) (x : Operand), vOp P s (.assign x) K KP = bo (s.get x) fun u => K u s) ∧
    (∀ (P : Program) (s : St) (K : EV → St → Prop) (KP : List PanicEntry → St → Prop) (b x y : Operand), vOp P s (.pick b x y) K KP = bo ((s.ev b).bind LV.bool?) fun t => (t = true → bo (s.ev x) fun u => K (.one u) s) ∧ (t = false → bo (s.ev y) fun u => K (.one u) s)) ∧
    (∀ (P : Program) (s : St) (K : EV → St → Prop) (KP : List PanicEntry → St → Prop) (t : TypeId), vOp P s (.alloc t) K KP = bo (tz P t) fun z => K (.one (.pt s.next z.shape [])) { s with roots := (s.next, .box z) :: s.roots, next := s.next + 1 }) ∧
    (∀ (P : Program) (s : St) (K : EV → St → Prop) (KP : List PanicEntry → St → Prop) (t : TypeId) (x : Operand), vOp P s (.box t x) K KP = bo (s.ev x) fun u => K (.one (.pt s.next u.shape [])) { s with roots := (s.next, .box u) :: s.roots, next := s.next + 1 }) ∧
    (∀ (P : Program) (s : St) (K : EV → St → Prop) (KP : List PanicEntry → St → Prop) (t : TypeId) (x : Operand), vOp P s (.load t x) K KP = bo (s.ev x) fun u => ldP P s t K u) ∧
    (∀ (P : Program) (s : St) (K : EV → St → Prop) (KP : List PanicEntry → St → Prop) (t : TypeId) (x y : Operand), vOp P s (.store t x y) K KP = bo (s.ev y) fun u' => bo (s.ev x) fun u => stP P s t u' K u) ∧
    (∀ (P : Program) (s : St) (K : EV → St → Prop) (KP : List PanicEntry → St → Prop) (x : Operand), vOp P s (.nilCheck x) K KP = bo ((s.ev x).bind LV.ptr?) fun u => K (.one u) s) ∧
    (∀ (P : Program) (s : St) (K : EV → St → Prop) (KP : List PanicEntry → St → Prop) (op : BinOp) (t t' : TypeId) (x y : Operand), vOp P s (.binOp op t x y t') K KP = bo (s.ev x) fun u => bo (s.ev y) fun v => biP P s op t K u v) ∧
    (∀ (P : Program) (s : St) (K : EV → St → Prop) (KP : List PanicEntry → St → Prop) (op : UnOp) (t : TypeId) (x : Operand), vOp P s (.unOp op t x) K KP = bo ((s.ev x).bind LV.val?) fun u => bo (unB op u) fun r => K (.one (.v r)) s) ∧
    (∀ (P : Program) (s : St) (K : EV → St → Prop) (KP : List PanicEntry → St → Prop) (t : TypeId) (x : Operand) (k : Nat), vOp P s (.field t x k) K KP = bo (s.ev x) fun u => fdP P s t k K u) ∧
    (∀ (P : Program) (s : St) (K : EV → St → Prop) (KP : List PanicEntry → St → Prop) (t : TypeId) (x : Operand) (k : Nat), vOp P s (.fieldAddr t x k) K KP = bo (s.ev x) fun u => faP P s t k K u) ∧
    (∀ (P : Program) (s : St) (K : EV → St → Prop) (KP : List PanicEntry → St → Prop) (t : TypeId) (x y : Operand), vOp P s (.indexAddr t x y) K KP = bo (s.ev x) fun u => bo ((s.ev y).bind LV.int?) fun i => bo (tsl P t) fun q => iaP s q.2 i K u) ∧
    (∀ (P : Program) (s : St) (K : EV → St → Prop) (KP : List PanicEntry → St → Prop) (t : TypeId) (x y : Operand), vOp P s (.index t x y) K KP = bo (s.ev x) fun u => bo ((s.ev y).bind LV.int?) fun i => ixP P s t i K u) ∧
    (∀ (P : Program) (s : St) (K : EV → St → Prop) (KP : List PanicEntry → St → Prop) (x : Operand) (k : Nat), vOp P s (.extract x k) K KP = bo ((s.get x).bind EV.tup?) fun us => bo us[k]? fun u => K (.one u) s) ∧
    (∀ (P : Program) (s : St) (K : EV → St → Prop) (KP : List PanicEntry → St → Prop) (t : TypeId) (x : Operand) (lo hi mx : Option Operand), vOp P s (.slice t x lo hi mx) K KP = bo (s.ev x) fun u => slP P s t lo hi mx K u) ∧
    (∀ (P : Program) (s : St) (K : EV → St → Prop) (KP : List PanicEntry → St → Prop) (t : TypeId) (x y : Operand), vOp P s (.makeSlice t x y) K KP = vMake P s t x y K) ∧
    (∀ (P : Program) (s : St) (K : EV → St → Prop) (KP : List PanicEntry → St → Prop) (t : TypeId) (l : List (Nat × Operand)), vOp P s (.build t l.toArray) K KP = bo (tz P t) fun z => bo ((T P t).bind Sh.agg?) fun _ => bo (s.evs l) fun us => buildK z us fun t' => K (.one t') s) ∧
    (∀ (P : Program) (s : St) (K : EV → St → Prop) (KP : List PanicEntry → St → Prop) (t : TypeId) (n : Nat) (l : List (Nat × Operand)), vOp P s (.buildSlice t n l.toArray) K KP =
      bo (tsl P t) fun q => bo (s.evs l) fun us => n * q.2.shape.size ≤ 10000 ∧ buildK (.arr n q.2.shape (List.replicate n q.2)) us fun t' => rowK t' fun xs => K (.one (.hd s.next)) { s with roots := (s.next, .row q.2.shape xs) :: s.roots, next := s.next + 1 }) ∧
    (∀ (P : Program) (s : St) (K : EV → St → Prop) (KP : List PanicEntry → St → Prop) (src dst : TypeId) (x : Operand), vOp P s (.convert src dst x) K KP = bo (s.ev x) fun u => cvP P s src dst K u) ∧
    (∀ (P : Program) (s : St) (K : EV → St → Prop) (KP : List PanicEntry → St → Prop) (x : Operand) (t : TypeId), vOp P s (.call { callee := .builtin .len, args := #[x], argTypes := #[t] }) K KP = bo (s.ev x) fun u => lenP P s t K u) ∧
    (∀ (P : Program) (s : St) (K : EV → St → Prop) (KP : List PanicEntry → St → Prop) (x y : Operand) (t t' : TypeId), vOp P s (.call { callee := .builtin .copy, args := #[x, y], argTypes := #[t, t'] }) K KP = vCopy P s x y t K) ∧
    (∀ (P : Program) (s : St) (K : EV → St → Prop) (KP : List PanicEntry → St → Prop) (x y : Operand) (t t' : TypeId), vOp P s (.call { callee := .builtin .append, args := #[x, y], argTypes := #[t, t'] }) K KP = (t = t' ∧ vAppend P s x y t K)) ∧
    (∀ (P : Program) (s : St) (K : EV → St → Prop) (KP : List PanicEntry → St → Prop) (f : FuncId) (l : List Operand) (ts : Array TypeId), vOp P s (.call { callee := .value (.func f), args := l.toArray, argTypes := ts }) K KP = bo (s.evl l) fun us => CallTo P f us s K KP) ∧
    (∀ (t : LV) (K : LV → Prop), buildK t [] K = K t) ∧
    (∀ (t u : LV) (i : Nat) (r : List (Nat × LV)) (K : LV → Prop), buildK t ((i, u) :: r) K = bo (t.kid i) fun k => u.shape = k.shape ∧ buildK (t.setKid i u) r K) ∧
    (∀ (n : Nat) (sh : Sh) (xs : List LV) (K : List LV → Prop), rowK (.arr n sh xs) K = K xs)
theorem LXo : LXoT := by
  refine ⟨?_, ?_, ?_, ?_, ?_, ?_, ?_, ?_, ?_, ?_, ?_, ?_, ?_, ?_, ?_, ?_, ?_, ?_, ?_, ?_, ?_, ?_, ?_, ?_, ?_, ?_, ?_, ?_, ?_, ?_⟩ <;> intros <;> first | rfl | skip
  · rename_i t u i r K
    simp only [buildK]
    cases t.kid i <;> simp [bo]
/-- Rules that are tried ahead of the parts: what a value's form decides. -/
abbrev LXkT : Prop := (∀ (P : Program) (s : St) (t : TypeId) (K : EV → St → Prop) (id : Nat) (S : Sh) (p : List Nat), ldP P s t K (.pt id S p) = bo (rootOf s.roots id) fun r => r.sh = S ∧ r.Acc p ∧ bo (r.tree.get p) fun u => T P t = some u.shape ∧ K (.one u) s) ∧
    (∀ (P : Program) (s : St) (t : TypeId) (K : EV → St → Prop) (u : LV), ldP P s t K (.ip u) = (T P t = some u.shape ∧ K (.one u) s)) ∧
    (∀ (P : Program) (s : St) (t : TypeId) (u' : LV) (K : EV → St → Prop) (id : Nat) (S : Sh) (p : List Nat), stP P s t u' K (.pt id S p) = bo (rootOf s.roots id) fun r => r.sh = S ∧ r.Acc p ∧ bo (r.tree.get p) fun u => bo (r.tree.put p u') fun t' => u'.shape = u.shape ∧ T P t = some u.shape ∧ K .un { s with roots := rootPut s.roots id (r.with_ t') }) ∧
    (∀ (P : Program) (s : St) (t : TypeId) (k : Nat) (K : EV → St → Prop) (ss : List Sh) (ts : List LV), fdP P s t k K (.st ss ts) = (T P t = some (.st ss) ∧ bo ts[k]? fun u => K (.one u) s)) ∧
    (∀ (P : Program) (s : St) (t : TypeId) (k : Nat) (K : EV → St → Prop) (id : Nat) (S : Sh) (p : List Nat), faP P s t k K (.pt id S p) = bo ((T P t).bind Sh.fields) fun ss => S.at_ p = some (.st ss) ∧ bo ss[k]? fun sk => sk.size ≠ 0 ∧ K (.one (.pt id S (p ++ [k]))) s) ∧
    (∀ (P : Program) (s : St) (t : TypeId) (k : Nat) (K : EV → St → Prop) (ss : List Sh) (ts : List LV), faP P s t k K (.ip (.st ss ts)) = (T P t = some (.st ss) ∧ bo ss[k]? fun sk => sk.size ≠ 0 ∧ bo ts[k]? fun u => K (.one (.ip u)) s)) ∧
    (∀ (s : St) (z : LV) (i : Int) (K : EV → St → Prop) (id : Nat), iaP s z i K (.hd id) = bo (rootOf s.roots id) fun r => bo r.row? fun q => z.shape = q.1 ∧ 0 ≤ i ∧ i < q.2.length ∧ K (.one (.pt id (.arr 0 q.1) [i.toNat])) s) ∧
    (∀ (s : St) (z : LV) (i : Int) (K : EV → St → Prop) (f : Bool) (sh : Sh) (xs : List LV), iaP s z i K (.vec f sh xs) = (z.shape = sh ∧ 0 ≤ i ∧ bo xs[i.toNat]? fun u => K (.one (.ip u)) s)) ∧
    (∀ (P : Program) (s : St) (t : TypeId) (lo hi : Option Operand) (mx : Option Operand) (K : EV → St → Prop) (b : ByteArray), slP P s t lo hi mx K (.v (.string b)) = (mx = none ∧ P.underlying t = some .string ∧ bo (s.opt 0 lo) fun l => bo (s.opt b.size hi) fun h => 0 ≤ l ∧ l ≤ h ∧ h ≤ b.size ∧ K (.one (.v (.string (b.extract l.toNat h.toNat)))) s)) ∧
    (∀ (P : Program) (s : St) (t : TypeId) (lo hi : Option Operand) (mx : Option Operand) (K : EV → St → Prop) (f : Bool) (sh : Sh) (xs : List LV), slP P s t lo hi mx K (.vec f sh xs) = bo (tsl P t) fun q => bo (s.opt 0 lo) fun l => bo (s.opt xs.length hi) fun h => bo (s.opt xs.length mx) fun m => q.2.shape = sh ∧ (mx = none ∨ hi ≠ none) ∧ 0 ≤ l ∧ l ≤ h ∧ h ≤ m ∧ m ≤ xs.length ∧ K (.one (.vec f sh ((xs.take h.toNat).drop l.toNat))) s) ∧
    (∀ (P : Program) (s : St) (t : TypeId) (lo hi : Option Operand) (mx : Option Operand) (K : EV → St → Prop) (id : Nat), slP P s t lo hi mx K (.hd id) = bo (rootOf s.roots id) fun r => bo r.row? fun p => bo (tsl P t) fun q => bo (s.opt 0 lo) fun l => bo (s.opt p.2.length hi) fun h => bo (s.opt p.2.length mx) fun m =>
      q.2.shape = p.1 ∧ (mx = none ∨ hi ≠ none) ∧ 0 ≤ l ∧ l ≤ h ∧ h ≤ m ∧ m ≤ p.2.length ∧ K (.one (.sub id (.arr 0 p.1) [] l.toNat (h.toNat - l.toNat))) s) ∧
    (∀ (P : Program) (s : St) (src dst : TypeId) (K : EV → St → Prop) (k : IntKind) (n : Int), cvP P s src dst K (.v (.int k n)) = ((P.underlying src).isSome = true ∧ bo (tk P dst) fun k => K (.one (.v (.int k (k.wrap n)))) s)) ∧
    (∀ (P : Program) (s : St) (src dst : TypeId) (K : EV → St → Prop) (b : ByteArray), cvP P s src dst K (.v (.string b)) = ((P.underlying src).isSome = true ∧ P.underlying dst = some .string ∧ K (.one (.v (.string b))) s)) ∧
    (∀ (P : Program) (s : St) (src dst : TypeId) (K : EV → St → Prop) (id : Nat), cvP P s src dst K (.hd id) = (isBytes P src dst = true ∧ bo (s.elems (.hd id)) fun q => ∃ ns, q = (.one, ns.map byteLV) ∧ K (.one (.v (.string (strOfNums ns)))) s)) ∧
    (∀ (P : Program) (s : St) (t : TypeId) (K : EV → St → Prop) (b : ByteArray), lenP P s t K (.v (.string b)) = (P.underlying t = some .string ∧ K (.one (.v (.int .i64 b.size))) s)) ∧
    (∀ (P : Program) (s : St) (t : TypeId) (K : EV → St → Prop) (id : Nat), lenP P s t K (.hd id) = bo (tsl P t) fun _ => bo (s.elems (.hd id)) fun q => K (.one (.v (.int .i64 q.2.length))) s) ∧
    (∀ (P : Program) (s : St) (t : TypeId) (K : EV → St → Prop) (f : Bool) (sh : Sh) (xs : List LV), lenP P s t K (.vec f sh xs) = bo (tsl P t) fun _ => K (.one (.v (.int .i64 xs.length))) s) ∧
    (∀ (P : Program) (s : St) (t : TypeId) (K : EV → St → Prop) (id : Nat) (S : Sh) (p : List Nat) (l n : Nat), lenP P s t K (.sub id S p l n) = bo (tsl P t) fun _ => bo (s.elems (.sub id S p l n)) fun q => K (.one (.v (.int .i64 q.2.length))) s) ∧
    (∀ (P : Program) (s : St) (x y : Operand) (t : TypeId) (K : EV → St → Prop), vAppend P s x y t K = bo ((s.ev y).bind s.elems) fun q' => bo (s.ev x) fun u => apP P s t q' K u) ∧
    (∀ (P : Program) (s : St) (t : TypeId) (q' : Sh × List LV) (K : EV → St → Prop) (id : Nat), apP P s t q' K (.hd id) = bo (tsl P t) fun q => bo ((rootOf s.roots id).bind Root.row?) fun p =>
      q'.1 = p.1 ∧ q.2.shape = p.1 ∧ p.2.length + q'.2.length ≤ 1000000000 ∧ K (.one (.hd s.next)) { s with roots := (s.next, .row p.1 (p.2 ++ q'.2)) :: dropRoot s.roots id, next := s.next + 1 }) ∧
    (∀ (P : Program) (s : St) (t : TypeId) (q' : Sh × List LV) (K : EV → St → Prop) (A : Option Addr), apP P s t q' K (.v (.slice A 0 0)) = bo (tsl P t) fun q => q.2.shape = q'.1 ∧ q'.2.length ≤ 1000000000 ∧ K (.one (.hd (s.next + 1))) { s with roots := (s.next + 1, .row q'.1 q'.2) :: s.roots, next := s.next + 2 }) ∧
    (∀ (P : Program) (s : St) (x y : Operand) (t : TypeId) (K : EV → St → Prop), vCopy P s x y t K = bo ((s.ev y).bind s.elems) fun q' => bo (s.ev x) fun u => cpP P s t q' K u) ∧
    (∀ (P : Program) (s : St) (t : TypeId) (q' : Sh × List LV) (K : EV → St → Prop) (id : Nat), cpP P s t q' K (.hd id) = bo (tsl P t) fun q => bo (s.row? id) fun p => q'.1 = p.1 ∧ q.2.shape = p.1 ∧
      K (.one (.v (.int .i64 (min q'.2.length p.2.length : Nat)))) { s with roots := rootPut s.roots id (.row p.1 (q'.2.take (min q'.2.length p.2.length) ++ p.2.drop (min q'.2.length p.2.length))) }) ∧
    (∀ (P : Program) (s : St) (t : TypeId) (q' : Sh × List LV) (K : EV → St → Prop) (id : Nat) (sh : Sh) (l n : Nat), cpP P s t q' K (.sub id (.arr 0 sh) [] l n) = bo (tsl P t) fun q => bo (s.row? id) fun p => q'.1 = p.1 ∧ q.2.shape = p.1 ∧ sh = p.1 ∧ l + n ≤ p.2.length ∧
      K (.one (.v (.int .i64 (min q'.2.length n : Nat)))) { s with roots := rootPut s.roots id (.row p.1 (p.2.take l ++ q'.2.take (min q'.2.length n) ++ p.2.drop (l + min q'.2.length n))) }) ∧
    (∀ (P : Program) (s : St) (t : TypeId) (x y : Operand) (K : EV → St → Prop), vMake P s t x y K = bo (tsl P t) fun q => bo ((s.ev x).bind LV.int?) fun l => bo ((s.ev y).bind LV.int?) fun m => 0 ≤ l ∧ l ≤ m ∧ m ≤ 1000000000 ∧ K (.one (.hd s.next)) { s with roots := (s.next, .row q.2.shape (List.replicate l.toNat q.2)) :: s.roots, next := s.next + 1 })
theorem LXk : LXkT := by
  refine ⟨?_, ?_, ?_, ?_, ?_, ?_, ?_, ?_, ?_, ?_, ?_, ?_, ?_, ?_, ?_, ?_, ?_, ?_, ?_, ?_, ?_, ?_, ?_, ?_, ?_⟩ <;> intros <;> rfl
/-- Rules that are tried behind the parts. -/
abbrev LXsT : Prop := (∀ {α : Type} (a : α) (f : α → Prop), bo (some a) f = f a) ∧
    (∀ (s : St) (t : Tmp), s.get (.tmp t) = lk s.env t) ∧
    (∀ (s : St) (v : Value), s.get (.const v) = (s.ev (.const v)).map EV.one) ∧
    (∀ (s : St) (t : Tmp), s.ev (.tmp t) = (lk s.env t).bind EV.one?) ∧
    (∀ (s : St) (k : IntKind) (n : Int), s.ev (.const (.int k n)) = some (.v (.int k n))) ∧
    (∀ (s : St) (b : Bool), s.ev (.const (.bool b)) = some (.v (.bool b))) ∧
    (∀ (s : St) (b : ByteArray), s.ev (.const (.string b)) = some (.v (.string b))) ∧
    (∀ (s : St) (A : Option Addr) (n c : Nat), s.ev (.const (.slice A n c)) = some (.v (.slice A n c))) ∧
    (∀ (s : St) (A : Option Addr), s.ev (.const (.pointer A)) = some (.v (.pointer A))) ∧
    (∀ (s : St) (f : FuncId), s.ev (.func f) = some (.v (.func (.func f) #[] #[]))) ∧
    (∀ (u : LV), EV.one? (.one u) = some u) ∧
    (∀ (us : List LV), EV.tup? (.tup us) = some us) ∧
    (∀ (t : Nat) (k : Nat) (v : EV) (e : Env), lk ((k, v) :: e) t = if t = k then some v else lk e t) ∧
    (∀ (e : Env) (R : Roots) (n z : Nat) (ds : List Deferred) (d : Nat) (x : EV), St.set ⟨e, R, n, z, ds⟩ (some d) x = ⟨(d, x) :: e, R, n, z, ds⟩) ∧
    (∀ (s : St) (x : EV), St.set s none x = s) ∧
    (∀ (s : St) (d : Nat), St.fit s (some d) = (d < s.sz)) ∧
    (∀ (s : St), St.fit s none = True) ∧
    (∀ (b : Bool), LV.bool? (.v (.bool b)) = some b) ∧
    (∀ (k : IntKind) (i : Int), LV.int? (.v (.int k i)) = some i) ∧
    (∀ (x : Value), LV.val? (.v x) = some x) ∧
    (∀ (b : ByteArray), LV.str? (.v (.string b)) = some b) ∧
    (∀ (id : Nat), LV.hd? (.hd id) = some id) ∧
    (∀ (id : Nat) (S : Sh) (p : List Nat), LV.ptr? (.pt id S p) = some (.pt id S p)) ∧
    (∀ (u : LV), LV.ptr? (.ip u) = some (.ip u)) ∧
    (∀ (sh : Sh) (xs : List LV), Root.row? (.row sh xs) = some (sh, xs)) ∧
    (∀ (t : LV), Root.sh (.box t) = t.shape) ∧
    (∀ (sh : Sh) (xs : List LV), Root.sh (.row sh xs) = .arr 0 sh) ∧
    (∀ (t : LV), Root.tree (.box t) = t) ∧
    (∀ (sh : Sh) (xs : List LV), Root.tree (.row sh xs) = .arr xs.length sh xs) ∧
    (∀ (t t' : LV), Root.with_ (.box t) t' = .box t') ∧
    (∀ (sh sh' : Sh) (n : Nat) (xs ys : List LV), Root.with_ (.row sh xs) (.arr n sh' ys) = .row sh ys) ∧
    (∀ (t : LV) (p : List Nat), Root.Acc (.box t) p = True) ∧
    (∀ (sh : Sh) (xs : List LV) (p : List Nat), Root.Acc (.row sh xs) p = (p ≠ [])) ∧
    (∀ (i k : Nat) (r : Root) (R : Roots), rootOf ((k, r) :: R) i = if i = k then some r else rootOf R i) ∧
    (∀ (i k : Nat) (r r' : Root) (R : Roots), rootPut ((k, r) :: R) i r' = if i = k then (k, r') :: R else (k, r) :: rootPut R i r') ∧
    (∀ (i : Nat), dropRoot [] i = []) ∧
    (∀ (i k : Nat) (r : Root) (R : Roots), dropRoot ((k, r) :: R) i = if k = i then dropRoot R i else (k, r) :: dropRoot R i) ∧
    (∀ (t : LV), t.get [] = some t) ∧
    (∀ (t : LV) (i : Nat) (p : List Nat), t.get (i :: p) = (t.kid i).bind (·.get p)) ∧
    (∀ (t u : LV), t.put [] u = some u) ∧
    (∀ (t u : LV) (i : Nat) (p : List Nat), t.put (i :: p) u = (t.kid i).bind fun k => (k.put p u).map (t.setKid i)) ∧
    (∀ (ss : List Sh) (ts : List LV) (i : Nat), LV.kid (.st ss ts) i = ts[i]?) ∧
    (∀ (n : Nat) (sh : Sh) (ts : List LV) (i : Nat), LV.kid (.arr n sh ts) i = ts[i]?) ∧
    (∀ (ss : List Sh) (ts : List LV) (i : Nat) (u : LV), LV.setKid (.st ss ts) i u = .st ss (ts.set i u)) ∧
    (∀ (n : Nat) (sh : Sh) (ts : List LV) (i : Nat) (u : LV), LV.setKid (.arr n sh ts) i u = .arr n sh (ts.set i u)) ∧
    (∀ (x : Value), LV.shape (.v x) = .one) ∧
    (∀ (ss : List Sh) (ts : List LV), LV.shape (.st ss ts) = .st ss) ∧
    (∀ (n : Nat) (sh : Sh) (ts : List LV), LV.shape (.arr n sh ts) = .arr n sh) ∧
    (∀ (f : Bool) (sh : Sh) (ts : List LV), LV.shape (.vec f sh ts) = .one) ∧
    (∀ (id : Nat), LV.shape (.hd id) = .one) ∧
    (∀ (id : Nat) (S : Sh) (p : List Nat), LV.shape (.pt id S p) = .one) ∧
    (∀ (u : LV), LV.shape (.ip u) = .one) ∧
    (∀ (id : Nat) (S : Sh) (p : List Nat) (l n : Nat), LV.shape (.sub id S p l n) = .one) ∧
    (∀ (ss : List Sh), Sh.fields (.st ss) = some ss) ∧
    (∀ (S : Sh), S.at_ [] = some S) ∧
    (∀ (S : Sh) (i : Nat) (p : List Nat), S.at_ (i :: p) = (S.kid i).bind fun k => k.2.at_ p) ∧
    (∀ (ss : List Sh) (i : Nat), Sh.kid (.st ss) i = ss[i]?.map (fun s => (Sh.sizes (ss.take i), s))) ∧
    (∀ (n : Nat) (s : Sh) (i : Nat), Sh.kid (.arr n s) i = some (i * s.size, s)) ∧
    (Sh.size .one = 1) ∧
    (∀ (ss : List Sh), Sh.size (.st ss) = Sh.sizes ss) ∧
    (∀ (n : Nat) (s : Sh), Sh.size (.arr n s) = n * s.size) ∧
    (Sh.sizes [] = 0) ∧
    (∀ (s : Sh) (ss : List Sh), Sh.sizes (s :: ss) = s.size + Sh.sizes ss) ∧
    (∀ (s : St), s.evs [] = some []) ∧
    (∀ (s : St) (i : Nat) (x : Operand) (r : List (Nat × Operand)), s.evs ((i, x) :: r) = (s.ev x).bind fun u => (s.evs r).map fun us => (i, u) :: us) ∧
    (∀ (s : St), s.evl [] = some []) ∧
    (∀ (s : St) (x : Operand) (r : List Operand), s.evl (x :: r) = (s.ev x).bind fun u => (s.evl r).map fun us => u :: us) ∧
    (∀ (s : St) (d : Int), s.opt d none = some d) ∧
    (∀ (s : St) (d : Int) (x : Operand), s.opt d (some x) = (s.ev x).bind LV.int?) ∧
    (∀ (P : Program) (s : St) (K : List LV → Prop), vRes P s [] K = K []) ∧
    (∀ (P : Program) (s : St) (t : Tmp) (rs : List ResultVar) (K : List LV → Prop), vRes P s (.tmp t :: rs) K = bo (s.ev (.tmp t)) fun u => vRes P s rs (fun us => K (u :: us))) ∧
    (∀ (P : Program) (s : St) (x t : Nat) (rs : List ResultVar) (K : List LV → Prop), vRes P s (.cell x t :: rs) K = bo (s.ev (.tmp x)) fun u => ldP P s t (fun y _ => bo y.one? fun u => vRes P s rs (fun us => K (u :: us))) u) ∧
    (∀ (s : St) (f : Bool) (sh : Sh) (xs : List LV), s.elems (.vec f sh xs) = some (sh, xs)) ∧
    (∀ (s : St) (id : Nat), s.elems (.hd id) = (rootOf s.roots id).bind Root.row?) ∧
    (∀ (k : Nat), envOf k [] = []) ∧
    (∀ (k : Nat) (u : LV) (us : List LV), envOf k (u :: us) = (k, .one u) :: envOf (k + 1) us)
theorem LXs : LXsT := by
  refine ⟨?_, ?_, ?_, ?_, ?_, ?_, ?_, ?_, ?_, ?_, ?_, ?_, ?_, ?_, ?_, ?_, ?_, ?_, ?_, ?_, ?_, ?_, ?_, ?_, ?_, ?_, ?_, ?_, ?_, ?_, ?_, ?_, ?_, ?_, ?_, ?_, ?_, ?_, ?_, ?_, ?_, ?_, ?_, ?_, ?_, ?_, ?_, ?_, ?_, ?_, ?_, ?_, ?_, ?_, ?_, ?_, ?_, ?_, ?_, ?_, ?_, ?_, ?_, ?_, ?_, ?_, ?_, ?_, ?_, ?_, ?_, ?_, ?_, ?_, ?_, ?_⟩ <;> intros <;> first | rfl | skip
  · rename_i s t; simp only [St.ev]; cases lk s.env t with
    | none => rfl
    | some u => cases u <;> rfl
  · rename_i i k r R
    by_cases h : k = i <;> simp [dropRoot, List.filter_cons, h]
  · rename_i s i x r; simp only [St.evs]; cases s.ev x <;> cases s.evs r <;> rfl
  · rename_i s x r; simp only [St.evl]; cases s.ev x <;> cases s.evl r <;> rfl
  · rename_i s d x; simp only [St.opt]; cases h : s.ev x with
    | none => rfl
    | some u => cases u <;> first | rfl | (rename_i v; cases v <;> rfl)
  · rename_i s id; simp only [St.elems]; cases rootOf s.roots id with
    | none => rfl
    | some r => cases r <;> rfl
end Go.Proofs.Ytoimeebildcofaa
namespace Go.Proofs.Ytoimeebildcofaa
open Go.RowKit
set_option linter.unusedSimpArgs false
set_option linter.unusedVariables false
variable {P : Program} {ρ ρ' : Nat → Value} {N N' B B' : Nat} {w w' : World} {O O' : Nat → Prop} {R : Roots} {c : Ctx} {s : St} {a : Act} {o : Oper}

mutual
theorem ren_id {σ : Nat → Nat} : ∀ {t : LV}, t.under 0 → t.ren σ = t
  | .v _, _ => by simp only [LV.ren]
  | .st _ ts, h => by simp only [LV.ren, LV.under] at *; rw [renL_id h]
  | .arr _ _ xs, h => by simp only [LV.ren, LV.under] at *; rw [renL_id h]
  | .vec _ _ xs, h => by simp only [LV.ren, LV.under] at *; rw [renL_id h]
  | .ip t, h => by simp only [LV.ren, LV.under] at *; rw [ren_id h]
  | .pt _ _ _, h => by simp only [LV.under] at h; omega
  | .hd _, h => by simp only [LV.under] at h; omega
  | .sub _ _ _ _ _, h => by simp only [LV.under] at h; omega
theorem renL_id {σ : Nat → Nat} : ∀ {ts : List LV}, underL 0 ts → renL σ ts = ts
  | [], _ => by simp only [renL]
  | t :: ts, h => by simp only [renL, underL] at *; rw [ren_id h.1, renL_id h.2]
end
def EV.under0 : EV → Prop
  | .one t => t.under 0
  | .tup ts => underL 0 ts
  | .un => True
  | .fx _ _ => False
theorem EV.ren_id {σ : Nat → Nat} {x : EV} (h : x.under0) : x.ren σ = x := by
  cases x with
  | one t => simp only [EV.ren]; rw [Go.Proofs.Ytoimeebildcofaa.ren_id h]
  | tup ts => simp only [EV.ren]; rw [renL_id h]
  | un => rfl
  | fx L t => exact h.elim
/-- A function that only reckons: such values give such a result. -/
def PF (P : Program) (f : FuncId) (us : List LV) (x : EV) : Prop := Fn P f us [] 0 (fun r R' => r = x ∧ R' = []) NoP
theorem ret_pure {us rs : List LV} {x : EV} (hds : s.ds = []) (hf : fzL s true [] us = rs) (hu : underL 0 rs) (hx : xOf rs = x) : RetTo 0 0 true (fun r R' => r = x ∧ R' = []) s us :=
  RetNow.to ⟨fun _ => rfl, hds, id, rs, [], by rw [renL_id hu]; exact hf, ⟨hx, rfl⟩, hu, .nil, (fun y hy => by cases hy), (fun i hi => by omega), .nil⟩
/-- A pure function whose result has such a property. -/
def PFs (P : Program) (f : FuncId) (us : List LV) (Q : EV → Prop) : Prop := Fn P f us [] 0 (fun r R' => Q r ∧ R' = []) NoP
theorem ret_pures {us rs : List LV} {Q : EV → Prop} (hds : s.ds = []) (hf : fzL s true [] us = rs) (hu : underL 0 rs) (hx : Q (xOf rs)) : RetTo 0 0 true (fun r R' => Q r ∧ R' = []) s us :=
  RetNow.to ⟨fun _ => rfl, hds, id, rs, [], by rw [renL_id hu]; exact hf, ⟨hx, rfl⟩, hu, .nil, (fun y hy => by cases hy), (fun i hi => by omega), .nil⟩
theorem afterCall_pure (s : St) (σ : Nat → Nat) : afterCall s σ 0 0 [] [] = s := by
  obtain ⟨e, R, n, z, ds⟩ := s
  simp [afterCall]
theorem callTo_pures {f : FuncId} {uc us : List LV} {Q : EV → Prop} {K : EV → St → Prop} {KP : List PanicEntry → St → Prop} (h : PFs P f us Q) (harg : oldL (fzL s false [] uc) = us) (hu : underL 0 us) (hx : ∀ x, Q x → x.under0 ∧ x.new ∧ K x s) : CallTo P f uc s K KP := by
  refine callTo_of h id rfl (fun y hy => by cases hy) .nil (by rw [renL_id hu]; exact harg) hu (fun r R' hq => ?_) (fun ch R' hq => hq.elim)
  obtain ⟨hq, rfl⟩ := hq
  obtain ⟨h1, h2, h3⟩ := hx r hq
  refine ⟨h2, (fun y hy => by cases hy), ?_⟩
  rw [EV.ren_id h1]
  show K r (afterCall s id 0 0 [] [])
  rw [afterCall_pure s id]
  exact h3
theorem callTo_pure {f : FuncId} {uc us : List LV} {x : EV} {K : EV → St → Prop} {KP : List PanicEntry → St → Prop} (h : PF P f us x) (harg : oldL (fzL s false [] uc) = us) (hu : underL 0 us) (h1 : x.under0) (h2 : x.new) (hK : K x s) : CallTo P f uc s K KP :=
  callTo_pures (Q := fun y => y = x) h harg hu fun y e => by subst e; exact ⟨h1, h2, hK⟩
mutual
/-- Cells that are known without memory. -/
def LV.plain : LV → Option (List Value)
  | .v x => if x.oneCell' then some [x] else none
  | .st ss ts => plainL ss ts
  | _ => none
def plainL : List Sh → List LV → Option (List Value)
  | [], [] => some []
  | s :: ss, t :: ts => match t.plain, plainL ss ts with | some c, some cs => (match s, t.shape with | .one, .one => some (c ++ cs) | _, _ => none) | _, _ => none
  | _, _ => none
end
mutual
theorem Con.plain : ∀ {t : LV} {c c' : List Value}, t.plain = some c' → Con ρ N B w O t c → c = c'
  | .v x, _, _, h, .v h1 => by simp only [LV.plain, h1, if_true, Option.some.injEq] at h; exact h
  | .st ss ts, _, _, h, .st hc => by simp only [LV.plain] at h; exact Cons.plain h hc
theorem Cons.plain : ∀ {ss : List Sh} {ts : List LV} {c c' : List Value}, plainL ss ts = some c' → Cons ρ N B w O ss ts c → c = c'
  | [], [], _, _, h, .nil => by simpa [plainL] using h.symm
  | s :: ss, t :: ts, _, _, h, .cons h1 h2 h3 => by
    simp only [plainL] at h
    split at h
    · rename_i c cs e1 e2
      split at h
      · simp only [Option.some.injEq] at h
        rw [← h, Con.plain e1 h1, Cons.plain e2 h3]
      · cases h
    · cases h
end
theorem sh_one {sh : Sh} (h : (match sh with | .one => true | _ => false) = true) : sh = .one := by cases sh <;> first | rfl | cases h
mutual
theorem plain_con : ∀ {t : LV} {c : List Value}, t.plain = some c → Con ρ N B w O t c
  | .v x, _, h => by
    simp only [LV.plain] at h
    split at h
    · rename_i h1
      simp only [Option.some.injEq] at h
      subst h
      exact .v h1
    · cases h
  | .st ss ts, _, h => by simp only [LV.plain] at h; exact .st (plain_cons h)
theorem plain_cons : ∀ {ss : List Sh} {ts : List LV} {c : List Value}, plainL ss ts = some c → Cons ρ N B w O ss ts c
  | [], [], _, h => by simp only [plainL, Option.some.injEq] at h; subst h; exact .nil
  | s :: ss, t :: ts, _, h => by
    simp only [plainL] at h
    split at h
    · rename_i c cs e1 e2
      split at h
      · rename_i e3
        simp only [Option.some.injEq] at h
        subst h
        exact .cons (plain_con e1) e3 (plain_cons e2)
      · cases h
    · cases h
end
/-- Values that are known without memory. -/
def plainVs : List LV → Option (List Value)
  | [] => some []
  | t :: ts => match t.plain, plainVs ts with | some c, some vs => some (pack t.shape c :: vs) | _, _ => none
theorem Vals.plain : ∀ {us : List LV} {vs vs' : List Value}, plainVs us = some vs' → Vals ρ N B w O us vs → vs = vs'
  | [], _, _, h, .nil => by simpa [plainVs] using h.symm
  | t :: ts, _, _, h, .cons h1 h2 => by
    simp only [plainVs] at h
    split at h
    · rename_i c vs e1 e2
      simp only [Option.some.injEq] at h
      obtain ⟨cs, g1, g2⟩ := h1
      rw [← h, Vals.plain e2 h2, g2, Con.plain e1 g1]
    · cases h
theorem plain_vals : ∀ {us : List LV} {vs : List Value}, plainVs us = some vs → Vals ρ N B w O us vs
  | [], _, h => by simp only [plainVs, Option.some.injEq] at h; subst h; exact .nil
  | t :: ts, _, h => by
    simp only [plainVs] at h
    split at h
    · rename_i c vs e1 e2
      simp only [Option.some.injEq] at h
      subst h
      exact .cons ⟨c, plain_con e1, rfl⟩ (plain_vals e2)
    · cases h
/-- From a contract over worlds. -/
theorem pf_of_calls {f : FuncId} {us : List LV} {vs : List Value} {x : EV} {v : Value} (hf : isFn P f = true) (hu : plainVs us = some vs) (hx : ∀ (ρ : Nat → Value) (N B : Nat) (w : World) (O : Nat → Prop), EVal ρ N B w O x v)
    (h : ∀ w, Calls P f vs.toArray w fun e w' => e = .returned v ∧ Below w.heap.size w w') : PF P f us x := by
  refine ⟨hf, fun ρ w vs' hR hV => ?_⟩
  have := hV.plain hu
  subst this
  refine (h w).mono fun e w' he => ?_
  obtain ⟨rfl, hb⟩ := he
  exact ⟨ρ, x, [], ⟨rfl, rfl⟩, ⟨⟨(fun y hy => by cases hy), .nil, .nil⟩, fun _ _ => rfl, Only.of_below hb, (fun b ⟨y, hy, _⟩ => by cases hy)⟩, hx _ _ _ _ _⟩
/-- Rules for what is handed on and handed out. -/
theorem LXr : (∀ (s : St) (b : Bool) (k : List Nat), fzL s b k [] = []) ∧
    (∀ (s : St) (b : Bool) (k : List Nat) (t : LV) (ts : List LV), fzL s b k (t :: ts) = t.fz s b k :: fzL s b k ts) ∧
    (∀ (s : St) (b : Bool) (k : List Nat) (x : Value), LV.fz s b k (.v x) = .v x) ∧
    (∀ (s : St) (b : Bool) (k : List Nat) (ss : List Sh) (ts : List LV), LV.fz s b k (.st ss ts) = .st ss (fzL s b k ts)) ∧
    (∀ (s : St) (b : Bool) (k : List Nat) (n : Nat) (sh : Sh) (ts : List LV), LV.fz s b k (.arr n sh ts) = .arr n sh ts) ∧
    (∀ (s : St) (b f : Bool) (k : List Nat) (sh : Sh) (ts : List LV), LV.fz s b k (.vec f sh ts) = .vec f sh ts) ∧
    (∀ (s : St) (b : Bool) (k : List Nat) (t : LV), LV.fz s b k (.ip t) = .ip t) ∧
    (∀ (s : St) (b : Bool) (k : List Nat) (id : Nat) (S : Sh) (p : List Nat), LV.fz s b k (.pt id S p) = .pt id S p) ∧
    (oldL [] = []) ∧ (∀ (t : LV) (ts : List LV), oldL (t :: ts) = t.old :: oldL ts) ∧
    (∀ (x : Value), LV.old (.v x) = .v x) ∧ (∀ (ss : List Sh) (ts : List LV), LV.old (.st ss ts) = .st ss (oldL ts)) ∧
    (∀ (n : Nat) (sh : Sh) (ts : List LV), LV.old (.arr n sh ts) = .arr n sh (oldL ts)) ∧
    (∀ (f : Bool) (sh : Sh) (ts : List LV), LV.old (.vec f sh ts) = .vec false sh (oldL ts)) ∧
    (∀ (id : Nat) (S : Sh) (p : List Nat), LV.old (.pt id S p) = .pt id S p) ∧ (∀ (id : Nat), LV.old (.hd id) = .hd id) ∧ (∀ (t : LV), LV.old (.ip t) = .ip t.old) ∧
    (∀ (m : Nat), underL m [] = True) ∧ (∀ (m : Nat) (t : LV) (ts : List LV), underL m (t :: ts) = (t.under m ∧ underL m ts)) ∧
    (∀ (m : Nat) (x : Value), LV.under m (.v x) = True) ∧ (∀ (m : Nat) (ss : List Sh) (ts : List LV), LV.under m (.st ss ts) = underL m ts) ∧
    (∀ (m n : Nat) (sh : Sh) (ts : List LV), LV.under m (.arr n sh ts) = underL m ts) ∧ (∀ (m : Nat) (f : Bool) (sh : Sh) (ts : List LV), LV.under m (.vec f sh ts) = underL m ts) ∧
    (∀ (m id : Nat) (S : Sh) (p : List Nat), LV.under m (.pt id S p) = (id < m)) ∧ (∀ (m id : Nat), LV.under m (.hd id) = (id < m)) ∧
    (newL [] = True) ∧ (∀ (t : LV) (ts : List LV), newL (t :: ts) = (t.new ∧ newL ts)) ∧
    (∀ (x : Value), LV.new (.v x) = True) ∧ (∀ (ss : List Sh) (ts : List LV), LV.new (.st ss ts) = newL ts) ∧ (∀ (n : Nat) (sh : Sh) (ts : List LV), LV.new (.arr n sh ts) = newL ts) ∧
    (∀ (f : Bool) (sh : Sh) (ts : List LV), LV.new (.vec f sh ts) = (f = true ∧ newL ts)) ∧ (∀ (id : Nat), LV.new (.hd id) = True) ∧ (∀ (id : Nat) (S : Sh) (p : List Nat), LV.new (.pt id S p) = True) ∧
    (∀ (t : LV), EV.under0 (.one t) = t.under 0) ∧ (∀ (ts : List LV), EV.under0 (.tup ts) = underL 0 ts) ∧ (∀ (t : LV), EV.new (.one t) = t.new) ∧ (∀ (ts : List LV), EV.new (.tup ts) = newL ts) ∧
    (∀ (t : LV), xOf [t] = .one t) ∧ (xOf [] = .tup []) ∧ (∀ (t u : LV) (ts : List LV), xOf (t :: u :: ts) = .tup (t :: u :: ts)) ∧
    (∀ (s : St) (b : Bool) (id : Nat), LV.fz s b [] (.hd id) = match (rootOf s.roots id).bind Root.row? with | some q => .vec b q.1 q.2 | none => .hd id) := by
  refine ⟨?_, ?_, ?_, ?_, ?_, ?_, ?_, ?_, ?_, ?_, ?_, ?_, ?_, ?_, ?_, ?_, ?_, ?_, ?_, ?_, ?_, ?_, ?_, ?_, ?_, ?_, ?_, ?_, ?_, ?_, ?_, ?_, ?_, ?_, ?_, ?_, ?_, ?_, ?_, ?_, ?_⟩ <;> intros <;> first | rfl | simp only [fzL, LV.fz, oldL, LV.old, underL, LV.under, newL, LV.new, EV.under0, EV.new, xOf] | skip
  simp only [LV.fz, List.not_mem_nil, if_false, St.elems]
  rename_i s b id
  cases rootOf s.roots id with
  | none => rfl
  | some r => cases r <;> rfl
end Go.Proofs.Ytoimeebildcofaa
namespace Go.Proofs.Ytoimeebildcofaa
open Go.RowKit
set_option linter.unusedSimpArgs false
set_option linter.unusedVariables false
variable {P : Program} {ρ ρ' : Nat → Value} {N N' B B' : Nat} {w w' : World} {O O' : Nat → Prop} {R : Roots} {c : Ctx} {s : St} {a : Act} {o : Oper} {K : EV → St → Prop}

/-- The roots from number n0 on are new since a world of so many blocks. -/
structure Reg (n0 ws : Nat) (ρ : Nat → Value) (s : St) (w : World) : Prop where
  new : ∀ x ∈ s.roots, n0 ≤ x.1 → ∀ b, owns (ρ x.1) b → ws ≤ b
  size : ws ≤ w.heap.size
/-- A call that leaves what was there as it was. -/
def CallP (P : Program) (f : FuncId) (us : List LV) (s : St) (n0 : Nat) (K : EV → St → Prop) : Prop :=
  isFn P f = true ∧ ∀ c ρ a w ws vs, Sat c ρ s a w → Reg n0 ws ρ s w → Vals ρ s.next c.bb w (Mine ρ s.roots) us vs → Calls P f vs.toArray w fun e w' => match e with
    | .returned v => ∃ ρ' s' r, Sat c ρ' s' a w' ∧ EVal ρ' s'.next c.bb w' (Mine ρ' s'.roots) r v ∧ s'.sz = s.sz ∧ K r s' ∧ Reg n0 ws ρ' s' w' ∧ Only (fun b => ws ≤ b) w w'
    | _ => False
/-- .. of a function that takes no roots. -/
theorem callP_new {n0 k : Nat} {f : FuncId} {uc us : List LV} {Q : EV → Roots → Prop} {K : EV → St → Prop} (h : Fn P f us [] k Q NoP) (harg : oldL (fzL s false [] uc) = us) (hu : underL 0 us)
    (hK : ∀ r R', Q r R' → r.new ∧ (∀ y ∈ R', y.2.new) ∧ K (r.ren (callNames id 0 s.next)) (afterCall s id 0 k [] R')) : CallP P f uc s n0 K := by
  obtain ⟨h1, h2⟩ := callX_of (K := K) (KP := fun _ _ => False) (s := s) h.fna id (fun _ _ _ _ _ => trivial) rfl (fun y hy => by cases hy) .nil (by rw [renL_id hu]; exact harg) hu hK (fun ch R' hq => hq.elim)
  refine ⟨h1, fun c ρ a w ws vs hs hr hV => (h2 c ρ a w vs hs hV).mono fun e w' he => ?_⟩
  cases e with
  | returned v =>
    obtain ⟨ρ', s', r, g1, g2, g3, g4, g5⟩ := he
    refine ⟨ρ', s', r, g1, g2, g3, g4, ⟨fun x hx hn b hb => ?_, Nat.le_trans hr.size g5.only.size⟩, g5.only.mono fun k hk ⟨y, hy, _⟩ => (by cases hy)⟩
    rcases Nat.lt_or_ge x.1 s.next with hlt | hge
    · obtain ⟨y, hy, e⟩ := g5.ids x hx hlt
      rw [g5.old _ hlt] at hb
      exact hr.new y hy (by rw [e]; exact hn) b (by rw [e]; exact hb)
    · rcases g5.mine x hx hge b hb with ⟨y, hy, _⟩ | h3
      · cases hy
      · exact Nat.le_trans hr.size h3
  | panicked ch => obtain ⟨_, _, _, _, hf⟩ := he; exact hf.elim
  | outgrown => exact he.elim
theorem callP_of {n0 : Nat} {f : FuncId} {uc us : List LV} {Q : EV → Prop} {K : EV → St → Prop} (h : PFs P f us Q) (harg : oldL (fzL s false [] uc) = us) (hu : underL 0 us) (hx : ∀ x, Q x → x.under0 ∧ x.new ∧ K x s) : CallP P f uc s n0 K :=
  callP_new h harg hu fun r R' ⟨hq, e⟩ => by
    subst e
    obtain ⟨h1, h2, h3⟩ := hx r hq
    refine ⟨h2, (fun y hy => by cases hy), ?_⟩
    rw [EV.ren_id h1, afterCall_pure s id]
    exact h3
theorem callP_pure {n0 : Nat} {f : FuncId} {uc us : List LV} {x : EV} {K : EV → St → Prop} (h : PF P f us x) (harg : oldL (fzL s false [] uc) = us) (hu : underL 0 us) (h1 : x.under0) (h2 : x.new) (hK : K x s) : CallP P f uc s n0 K :=
  callP_of (Q := fun y => y = x) h harg hu fun y e => by subst e; exact ⟨h1, h2, hK⟩
/-- A world in which all is as it was is as good. -/
theorem Sat.world (h : Sat c ρ s a w) (hw : Only (fun _ => False) w w') : Sat c ρ s a w' := by
  have hk : ∀ b o, ¬ Mine ρ s.roots b → w.heap[b]? = some o → w'.heap[b]? = some o ∧ ¬ Mine ρ s.roots b := fun b o hn hb => ⟨(hw.block b (Array.getElem?_eq_some_iff.1 hb).1 id).trans hb, hn⟩
  refine ⟨⟨fun x hx => ⟨(h.rs.ok x hx).1, (h.rs.ok x hx).2.mono (fun _ _ => rfl) (Nat.le_refl _) hk (fun b hb => hw.block b ((h.rs.ok x hx).2.owns_lt hb) id)⟩, h.rs.apart, h.rs.ids⟩, fun t x hx => ?_, h.size, h.only.trans (hw.mono (fun _ _ hf => hf.elim)), h.mine, h.old, h.n0, h.defs⟩
  obtain ⟨v, h1, h2⟩ := h.env t x hx
  exact ⟨v, h1.mono (fun _ _ => rfl) (Nat.le_refl _) hk, h2⟩
/-- An operation that leaves what was there as it was. -/
def DoesA (P : Program) (o : Oper) (s : St) (n0 : Nat) (K : EV → St → Prop) : Prop :=
  ∀ c ρ a w ws, Sat c ρ s a w → Reg n0 ws ρ s w → ∃ n v w' ρ' s' x, (execOp a.eval o).run P w = .ok n w' ∧ (n = .value v ∨ n = .skip ∧ v = undef) ∧ Sat c ρ' s' a w' ∧ EVal ρ' s'.next c.bb w' (Mine ρ' s'.roots) x v ∧ s'.sz = s.sz ∧ K x s' ∧ Reg n0 ws ρ' s' w' ∧ Only (fun b => ws ≤ b) w w'
theorem DoesM.doesA {m : Prop} {n0 : Nat} (h : DoesM m P o s K) : DoesA P o s n0 K :=
  fun c ρ a w ws hs hr => let ⟨v, x, h1, h2, h3⟩ := h c ρ a w hs; ⟨_, v, w, ρ, s, x, h1 w (fun _ _ _ => rfl), .inl rfl, hs, h2, rfl, h3, hr, Only.refl _ _⟩
theorem Reg.grow {n0 ws : Nat} {r : Root} (h : Reg n0 ws ρ s w) (hs : Sat c ρ s a w) (h1 : ∀ i, i ≠ s.next → ρ' i = ρ i) (h2 : ∀ b, owns (ρ' s.next) b → w.heap.size ≤ b) (hz : w.heap.size ≤ w'.heap.size) :
    Reg n0 ws ρ' { s with roots := (s.next, r) :: s.roots, next := s.next + 1 } w' := by
  refine ⟨fun x hx hn b hb => ?_, Nat.le_trans h.size hz⟩
  rcases List.mem_cons.1 hx with rfl | hx
  · exact Nat.le_trans h.size (h2 b hb)
  · rw [h1 _ (Nat.ne_of_lt (hs.rs.ok x hx).1)] at hb
    exact h.new x hx hn b hb
theorem alloc_only {o : Obj} {S : Nat → Prop} : Only S w (w.alloc o) := (Only.refl _ _).alloc _
theorem alloc_size' {o : Obj} : w.heap.size ≤ (w.alloc o).heap.size := (alloc_only (S := fun _ => False)).size
def vStoreA (P : Program) (s : St) (n0 : Nat) (t : TypeId) (x y : Operand) (K : EV → St → Prop) : Prop :=
  bo (s.ev y) fun u' => bo (s.ev x) fun u => bo (match u with | .pt id _ _ => some id | _ => none) fun id => n0 ≤ id ∧ stP P s t u' K u
theorem vAlloc_doesA {n0 : Nat} {t : TypeId} (ho : o.op = .alloc t) (h : vAlloc P s t K) : DoesA P o s n0 K := fun c ρ a w ws hs hr => by
  obtain ⟨z, hz, hk⟩ := bo_spec h
  obtain ⟨i, v, sh, h1, h2, h3, h4, h5⟩ := tz_spec hz
  obtain ⟨ρ', g1, g2, g3, g4⟩ := hs.newBox (e := t) (h5 ρ s.next c.bb w (Mine ρ s.roots))
  refine ⟨_, _, _, ρ', _, _, ?_, .inl rfl, g1, g2, rfl, hk, hr.grow hs g3 g4 alloc_size', alloc_only⟩
  unfold execOp
  simp [ho, Instr.alloc, zeroValue, typeInfo, h1, h2, newVar, newRow, newObj, Sem.run]
theorem vBox_doesA {n0 : Nat} {t : TypeId} {x : Operand} (ho : o.op = .box t x) (h : vBox s x K) : DoesA P o s n0 K := fun c ρ a w ws hs hr => by
  obtain ⟨u, hx, hk⟩ := bo_spec h
  obtain ⟨cs, hc, hv⟩ := hs.ev hx
  obtain ⟨ρ', g1, g2, g3, g4⟩ := hs.newBox (e := t) hc
  refine ⟨_, _, _, ρ', _, _, ?_, .inl rfl, g1, g2, rfl, hk, hr.grow hs g3 g4 alloc_size', alloc_only⟩
  have hcells := pack_cells hc
  unfold execOp
  have : (pack u.shape cs).cells = cs.toArray := Array.toList_inj.1 (by rw [hcells])
  simp [ho, hv, Instr.box, newVar, newRow, newObj, Sem.run, this]
theorem vStore_doesA {n0 : Nat} {t : TypeId} {x y : Operand} (ho : o.op = .store t x y) (h : vStoreA P s n0 t x y K) : DoesA P o s n0 K := fun c ρ a w ws hs hr => by
  obtain ⟨u', hy, h⟩ := bo_spec h
  obtain ⟨u, hx, h⟩ := bo_spec h
  obtain ⟨id, hid, hn, h⟩ := bo_spec h
  unfold stP at h
  split at h
  · rename_i id' S p _
    simp only [Option.some.injEq] at hid
    subst hid
    obtain ⟨r, hrt, h1, h2, h3⟩ := bo_spec h
    obtain ⟨v, hv, h4⟩ := bo_spec h3
    obtain ⟨t', ht', h5, h6, h7⟩ := bo_spec h4
    obtain ⟨b, cur, e, q1, q2, q3, _⟩ := hs.at_ hrt h2 hv
    obtain ⟨cu, hcu, hvu⟩ := hs.ev hy
    obtain ⟨f1, f2⟩ := hs.store hrt h2 hv ht' h5 hcu
    obtain ⟨w', g1, g2⟩ := does_store (K := fun _ _ => True) t x y ho hx hy hrt h1 h2 hv ht' h5 h6 trivial c ρ a w hs
    have hws : ws ≤ b := hr.new _ (rootOf_mem hrt) hn b q3
    -- the world behind the store
    obtain ⟨cs, hc, hval⟩ := hs.ev hx
    cases hc
    have hval' : a.eval x = .pointer (some ⟨blkOf (ρ id'), r.sh.off p, none⟩) := by rw [hval, h1]; rfl
    obtain ⟨i, d, e1, e2, e3, e4⟩ := tsh_info h6
    have hcells := pack_cells hcu
    have hsz : (pack u'.shape cu).cells.size = i.size := by rw [← Array.length_toList, hcells, hcu.len, h5, e3]
    have hrun := run_storeCells_cells (P := P) (blkOf (ρ id')) (r.sh.off p) cu 0 w (fun j hj => by simpa using (f1 j hj).1) (fun j hj => by simpa using (f1 j hj).2) hcu.ones
    simp only [Nat.add_zero] at hrun
    have hrun' : (execOp a.eval o).run P w = .ok .skip (w.setCells (blkOf (ρ id')) (r.sh.off p) cu) := by
      unfold execOp
      simp [ho, hval', hvu, Instr.storeAt, Instr.sureAddr, storeVar, sizeOf, typeInfo, e1, hsz, hcells, hrun]
    refine ⟨_, undef, _, ρ, _, .un, hrun', .inr ⟨rfl, rfl⟩, f2, rfl, rfl, h7, ⟨fun y hy hny b hb => ?_, by rw [size_setCells]; exact hr.size⟩, only_setCells _ _ _ _ (Only.refl _ _) (.inl (by rw [q2]; exact hws))⟩
    have hids : y.1 ∈ (rootPut s.roots id' (r.with_ t')).map (·.1) := List.mem_map_of_mem hy
    rw [rootPut_ids] at hids
    obtain ⟨z, hz, e⟩ := List.mem_map.1 hids
    have e' : z.1 = y.1 := e
    exact hr.new z hz (by rw [e']; exact hny) b (by rw [e']; exact hb)
  · exact h.elim
theorem vBuildSlice_doesA {n0 : Nat} {t : TypeId} {len : Nat} {parts : Array (Nat × Operand)} (ho : o.op = .buildSlice t len parts) (h : vBuildSlice P s t len parts K) : DoesA P o s n0 K := fun c ρ a w ws hs hr => by
  obtain ⟨⟨e, z⟩, ht, h⟩ := bo_spec h
  obtain ⟨us, he, hlen, hk⟩ := bo_spec h
  obtain ⟨f1, i, zv, f2, f3, f4, f5, f6, f7, f8, f9, f10⟩ := tsl_spec ht
  simp only at hlen hk
  have hcz : Con ρ s.next c.bb w (Mine ρ s.roots) (.arr len z.shape (List.replicate len z)) (madeCells zv.cells (len * zv.cells.size)).toList := by
    rw [madeCells_toList zv.cells (by omega)]
    exact .arr (cons_rep (f10 ρ s.next c.bb w (Mine ρ s.roots)) len)
  obtain ⟨t', cells', e1, e2, e3, e4⟩ := fill_con (place := fun i => some (i * z.shape.size, z.shape.size)) hs he hcz (fun t' i k e hk' o' ho' => by
    rw [e] at ho'
    replace ho' : some (i * z.shape.size, z.shape) = some (o', k.shape) := ho'
    generalize k.shape = sk at *
    cases ho'
    rfl) hk
  have hfill : Instr.fill (fun j => some (j * i.size, i.size)) (madeCells zv.cells (len * i.size)) (parts.map fun (i, x) => (i, a.eval x)).toList = some cells' := by
    rw [f4, ← f6]
    rw [← f6] at e1
    rw [Array.toList_map]
    exact e1
  obtain ⟨xs, rfl⟩ : ∃ xs, t' = .arr len z.shape xs := by
    cases t' <;> simp only [LV.shape] at e3 <;> first | cases e3; exact ⟨_, rfl⟩ | cases e3
  have hrun : (Instr.buildSlice t len (parts.map fun (i, x) => (i, a.eval x))).run P w = .ok (.slice (some ⟨w.heap.size, 0, none⟩) len len) (w.alloc (.cells cells' e)) := by
    by_cases h0 : len * i.size = 0
    · unfold Instr.buildSlice
      have hf : Instr.fill (fun j => some (j * i.size, i.size)) #[] (parts.toList.map fun x => (x.1, a.eval x.2)) = some cells' := by
        have : madeCells zv.cells (len * i.size) = #[] := by rw [h0]; simp [madeCells, Array.range_zero']
        rw [← this]
        rw [Array.toList_map] at hfill
        exact hfill
      simp [run_underlying f1, sizeOf, typeInfo, f2, h0, hf, newRow, newObj, Sem.run, Array.range_zero']
    · exact run_buildSlice w t e len _ cells' i zv f1 f2 f3 (by rw [f4]; omega) h0 hfill
  cases e2 with
  | arr e2 =>
    have hn := e2.num
    rw [List.length_replicate] at hn
    have hl := e2.len
    rw [Sh.sizes_replicate] at hl
    obtain ⟨ρ', g1, g2, g3, g4⟩ := hs.newRow (sh := z.shape) (xs := xs) (cs := cells'.toList) (spare := []) (cap := len) (e := e) (by rw [hn]; exact e2) (by omega) (by rw [hl]; simp) (by have := Nat.le_mul_of_pos_right len f9; omega)
    rw [List.append_nil, hn] at g2
    rw [List.append_nil] at g1
    simp only [Array.toArray_toList] at g1 g2
    refine ⟨_, _, _, ρ', _, .one (.hd s.next), ?_, .inl rfl, g1, g2, rfl, e4, hr.grow hs g3 g4 alloc_size', alloc_only⟩
    unfold execOp
    simp only [ho, hrun, Sem.run_bind, Result.andThen_ok]
    rfl
/-- What is to be shown of an operation ahead of the last ones. -/
def vopA (P : Program) (s : St) (n0 : Nat) (op : Op) (K : EV → St → Prop) : Prop :=
  match op with
  | .alloc t => vAlloc P s t K
  | .box _ x => vBox s x K
  | .store t x y => vStoreA P s n0 t x y K
  | .buildSlice t len parts => vBuildSlice P s t len parts K
  | op => vopR P s op K
theorem vopA_does {n0 : Nat} (h : vopA P s n0 o.op K) : DoesA P o s n0 K := by
  unfold vopA at h
  split at h
  case h_1 t ho => exact vAlloc_doesA ho h
  case h_2 t x ho => exact vBox_doesA ho h
  case h_3 t x y ho => exact vStore_doesA ho h
  case h_4 t len parts ho => exact vBuildSlice_doesA ho h
  case h_5 => exact (vopR_does h).doesA
def vA (P : Program) (s : St) (n0 : Nat) (op : Op) (K : EV → St → Prop) : Prop :=
  match op with
  | .call { callee := .value (.func f), args := args, argTypes := _ } => bo (s.evl args.toList) fun us => CallP P f us s n0 K
  | op => vopA P s n0 op K
/-- The last operations of a plan. -/
def vLast (P : Program) (ops : List Oper) : Plan Oper → St → (St → Prop) → (List PanicEntry → St → Prop) → Prop
  | .done, s, K, _ => K s
  | .one o .pure p, s, K, KP => vg ops o s (fun s => s.fit o.dst ∧ vopP P s o.op fun r s' => vLast P ops p (s'.set o.dst r) K KP) (fun s => vLast P ops p s K KP)
  | .one o .last p, s, K, KP => vl P ops [o] s (fun s' => vLast P ops p s' K KP) KP
  | .both p q, s, K, KP => vLast P ops p s K KP ∧ vLast P ops q s K KP
  | _, _, _, _ => False
/-- A plan, reckoned out. ph: nothing has been done yet but reads. -/
def vPlan (P : Program) (ops : List Oper) (n0 : Nat) : Bool → Plan Oper → St → (St → Prop) → (List PanicEntry → St → Prop) → Prop
  | _, .done, s, K, _ => K s
  | ph, .one o .load p, s, K, KP => ph = true ∧ vg ops o s (fun s => s.fit o.dst ∧ vopR P s o.op fun r s' => vPlan P ops n0 ph p (s'.set o.dst r) K KP) (fun s => vPlan P ops n0 ph p s K KP)
  | ph, .one o .pure p, s, K, KP => vg ops o s (fun s => s.fit o.dst ∧ vopP P s o.op fun r s' => vPlan P ops n0 ph p (s'.set o.dst r) K KP) (fun s => vPlan P ops n0 ph p s K KP)
  | _, .one o .act p, s, K, KP => vg ops o s (fun s => s.fit o.dst ∧ vA P s n0 o.op fun r s' => vPlan P ops n0 false p (s'.set o.dst r) K KP) (fun s => vPlan P ops n0 false p s K KP)
  | _, .one o .last p, s, K, KP => vl P ops [o] s (fun s' => vLast P ops p s' K KP) KP
  | ph, .both p q, s, K, KP => vPlan P ops n0 ph p s K KP ∧ vPlan P ops n0 ph q s K KP
theorem fit_set {s' : St} {d d' : Option Tmp} {x : EV} (h : s.fit d) (e : s'.sz = s.sz) : s'.fit d := by unfold St.fit at *; rw [e]; exact h
section
variable {ops : Array Oper} {KK : St → Prop} {KP : List PanicEntry → St → Prop} {Q : Exit → Act → World → Prop} {S : World → Prop}
theorem vLast_sound (c : Ctx) (hN : ∀ ρ s a w, Sat c ρ s a w → KK s → Q .normal a w) (hP : ∀ ρ s a w ch, Sat c ρ s a w → KP ch s → Q (.panic ch) a w) :
    ∀ (p : Plan Oper) (s : St) (ρ : Nat → Value) (a : Act) (w : World), vLast P ops.toList p s KK KP → Sat c ρ s a w → wpPlan P ops Q S p a w
  | .done, s, ρ, a, w, h, hs => by simp only [vLast] at h; exact hN ρ s a w hs h
  | .one o .pure p, s, ρ, a, w, h, hs => by
    simp only [vLast] at h
    simp only [wpPlan]
    rcases vg_cases h hs with ⟨hw, hf, h⟩ | ⟨hw, hf, h⟩
    · rw [if_pos hw]
      obtain ⟨v, x, h1, h2, h3⟩ := vopP_does (md := False) h c ρ a w hs
      exact ⟨v, fun w' => h1 w' (fun e => e.elim), vLast_sound c hN hP p _ ρ _ w h3 (hs.put hf h2)⟩
    · rw [if_neg hw]
      exact vLast_sound c hN hP p _ ρ _ w h (hs.put hf (x := .un) (v := undef) rfl)
  | .one o .last p, s, ρ, a, w, h, hs => by
    simp only [vLast] at h
    simp only [wpPlan]
    exact vl_sound (Q := fun e a' w' => match e with | .normal => wpPlan P ops Q S p a' w' | e => Q e a' w') c (fun ρ s a w h1 h2 => vLast_sound c hN hP p s ρ a w h2 h1) (fun ρ s a w ch h1 h2 => hP ρ s a w ch h1 h2) [o] s ρ a w h hs
  | .one o .load p, s, ρ, a, w, h, hs => by simp only [vLast] at h
  | .one o .act p, s, ρ, a, w, h, hs => by simp only [vLast] at h
  | .both p q, s, ρ, a, w, h, hs => by
    simp only [vLast] at h
    exact ⟨vLast_sound c hN hP p s ρ a w h.1 hs, vLast_sound c hN hP q s ρ a w h.2 hs⟩
theorem vPlan_sound {n0 : Nat} {ws : World} (c : Ctx) (hN : ∀ ρ s a w, Sat c ρ s a w → KK s → Q .normal a w) (hP : ∀ ρ s a w ch, Sat c ρ s a w → KP ch s → Q (.panic ch) a w) :
    ∀ (p : Plan Oper) (ph : Bool) (s : St) (ρ : Nat → Value) (a : Act) (w : World), vPlan P ops.toList n0 ph p s KK KP → Sat c ρ s a w → Reg n0 ws.heap.size ρ s w → Only (fun _ => False) ws w → (ph = true → w = ws) → wpPlan P ops Q (fun w' => Only (fun _ => False) ws w') p a w
  | .done, ph, s, ρ, a, w, h, hs, hr, ho, hph => by simp only [vPlan] at h; exact hN ρ s a w hs h
  | .one o .load p, ph, s, ρ, a, w, h, hs, hr, ho, hph => by
    simp only [vPlan] at h
    obtain ⟨hp, h⟩ := h
    have hw0 := hph hp
    simp only [wpPlan]
    rcases vg_cases h hs with ⟨hw, hf, h⟩ | ⟨hw, hf, h⟩
    · rw [if_pos hw]
      obtain ⟨v, x, h1, h2, h3⟩ := vopR_does h c ρ a w hs
      exact ⟨v, fun w' hS => h1 w' fun _ k hk => by subst hw0; exact hS.block k hk id, ho, vPlan_sound c hN hP p ph _ ρ _ w h3 (hs.put hf h2) (by cases o.dst <;> exact ⟨hr.new, hr.size⟩) ho hph⟩
    · rw [if_neg hw]
      exact vPlan_sound c hN hP p ph _ ρ _ w h (hs.put hf (x := .un) (v := undef) rfl) (by cases o.dst <;> exact ⟨hr.new, hr.size⟩) ho hph
  | .one o .pure p, ph, s, ρ, a, w, h, hs, hr, ho, hph => by
    simp only [vPlan] at h
    simp only [wpPlan]
    rcases vg_cases h hs with ⟨hw, hf, h⟩ | ⟨hw, hf, h⟩
    · rw [if_pos hw]
      obtain ⟨v, x, h1, h2, h3⟩ := vopP_does (md := False) h c ρ a w hs
      exact ⟨v, fun w' => h1 w' (fun e => e.elim), vPlan_sound c hN hP p ph _ ρ _ w h3 (hs.put hf h2) (by cases o.dst <;> exact ⟨hr.new, hr.size⟩) ho hph⟩
    · rw [if_neg hw]
      exact vPlan_sound c hN hP p ph _ ρ _ w h (hs.put hf (x := .un) (v := undef) rfl) (by cases o.dst <;> exact ⟨hr.new, hr.size⟩) ho hph
  | .one o .act p, ph, s, ρ, a, w, h, hs, hr, ho, hph => by
    simp only [vPlan] at h
    simp only [wpPlan]
    have ih := vPlan_sound (n0 := n0) (ws := ws) c hN hP p false
    rcases vg_cases h hs with ⟨hw, hf, h⟩ | ⟨hw, hf, h⟩
    · refine wpList_now hw fun K' hK' => ?_
      have cont : ∀ s' ρ' a' w', Sat c ρ' s' a' w' → vPlan P ops.toList n0 false p s' KK KP → Reg n0 ws.heap.size ρ' s' w' → Only (fun _ => False) ws w' → K' a' w' := fun s' ρ' a' w' h1 h2 h3 h4 => hK' _ _ ⟨h4, ih s' ρ' a' w' h2 h1 h3 h4 (fun e => by cases e)⟩
      unfold vA at h
      split at h
      · rename_i f args ts hop
        obtain ⟨us, hus, g1, g2⟩ := bo_spec h
        have g3 := g2 c ρ a w _ _ hs hr (hs.evl hus)
        unfold Oper.wp execOp
        simp only [hop, resolve, Deferred.ofValue, Act.eval, invoke, Sem.run_bind, Sem.run_pure, Result.andThen_ok, callFunc_run g1]
        rw [Oper.upon_enter]
        have hA : ∀ A : Array Value, A = (List.map a.eval args.toList).toArray → Calls P f A w _ := fun A e => by rw [e]; exact g3
        refine Calls.mono (hA _ (by apply Array.ext'; simp)) fun e w' he => ?_
        cases e with
        | returned v =>
          obtain ⟨ρ', s', r, h1, h2, h3, h4, h5, h8⟩ := he
          have hon : Only (fun _ => False) ws w' := ⟨h8.os.trans ho.os, h8.tape.trans ho.tape, h8.output.trans ho.output, Nat.le_trans ho.size h8.size, fun k hk _ => (h8.block k (Nat.lt_of_lt_of_le hk ho.size) (by omega)).trans (ho.block k hk id)⟩
          exact cont _ ρ' _ w' (h1.put (d := o.dst) (fit_set (d' := none) (x := .un) hf h3) h2) h4 (by cases o.dst <;> exact ⟨h5.new, h5.size⟩) hon
        | panicked ch => exact he.elim
        | outgrown => exact he.elim
      · obtain ⟨n, v, w', ρ', s', x, h1, h2, h3, h4, h5, h6, h7, h8⟩ := vopA_does h c ρ a w _ hs hr
        have hon : Only (fun _ => False) ws w' := ⟨h8.os.trans ho.os, h8.tape.trans ho.tape, h8.output.trans ho.output, Nat.le_trans ho.size h8.size, fun k hk _ => (h8.block k (Nat.lt_of_lt_of_le hk ho.size) (by omega)).trans (ho.block k hk id)⟩
        have h9 := cont _ ρ' _ w' (h3.put (d := o.dst) (fit_set (d' := none) (x := .un) hf h5) h4) h6 (by cases o.dst <;> exact ⟨h7.new, h7.size⟩) hon
        unfold Oper.wp
        rw [h1]
        rcases h2 with rfl | ⟨rfl, rfl⟩
        · exact h9
        · exact h9
    · refine wpList_step fun K' hK' => ?_
      rw [if_neg hw]
      exact hK' _ _ ⟨ho, ih _ ρ _ w h (hs.put hf (x := .un) (v := undef) rfl) (by cases o.dst <;> exact ⟨hr.new, hr.size⟩) ho (fun e => by cases e)⟩
  | .one o .last p, ph, s, ρ, a, w, h, hs, hr, ho, hph => by
    simp only [vPlan] at h
    simp only [wpPlan]
    exact vl_sound (Q := fun e a' w' => match e with | .normal => wpPlan P ops Q (fun w' => Only (fun _ => False) ws w') p a' w' | e => Q e a' w') c (fun ρ s a w h1 h2 => vLast_sound c hN hP p s ρ a w h2 h1) (fun ρ s a w ch h1 h2 => hP ρ s a w ch h1 h2) [o] s ρ a w h hs
  | .both p q, ph, s, ρ, a, w, h, hs, hr, ho, hph => by
    simp only [vPlan] at h
    exact ⟨vPlan_sound c hN hP p ph s ρ a w h.1 hs hr ho hph, vPlan_sound c hN hP q ph s ρ a w h.2 hs hr ho hph⟩
end
theorem Sat.drew (h : Sat c ρ s a w) : Sat c ρ s a w.drew := h.world (Only.refl _ w).drew
/-- A region that draws its order, by a plan. -/
theorem cw_plan {Q : Exit → St → Prop} {id : Nat} {l : List Oper} (ds : List Nat) (p : Plan Nat) (hm : P.follows .mixedOrders = true) (hB : planOk l ds p = true) (h : vPlan P l s.next true (p.pick l) s (fun s' => Q .normal s') (fun ch s' => Q (.panic ch) s')) :
    CW P (.region id l.toArray true) Q s := by
  intro c ρ a w hs
  refine wp_region_plan (S := fun w' => Only (fun _ => False) w.drew w') ds p hm hB (fun ch a d v w hq => ?_) ?_
  · obtain ⟨ρ', s', h1, h2⟩ := hq
    refine ⟨ρ', s', ?_, h2⟩
    have h3 : Sat c ρ' { s' with env := [] } (Act.put a d v) w := h1
    exact ⟨h3.rs, fun t x hx => by simp [lk] at hx, by rw [← h3.size, act_put_size], h3.only, h3.mine, h3.old, h3.n0, by rw [← h3.defs, act_put_defers]⟩
  · have hs' := hs.drew
    exact vPlan_sound (ops := l.toArray) (n0 := s.next) (ws := w.drew) c (fun ρ s a w h1 h2 => ⟨ρ, s, h1, h2⟩) (fun ρ s a w ch h1 h2 => ⟨ρ, s, h1.bare, h2⟩) (p.pick l) true s ρ a w.drew h hs' ⟨fun x hx hn => absurd (hs.rs.ok x hx).1 (by omega), Nat.le_refl _⟩ (Only.refl _ _) (fun _ => rfl)
end Go.Proofs.Ytoimeebildcofaa
namespace Go.Proofs.Ytoimeebildcofaa
open Go.RowKit
set_option linter.unusedSimpArgs false
set_option linter.unusedVariables false
section
variable {P : Program} {us us' : List LV} {s s' : St} {f : FuncId} {n0 : Nat} {op : Op}
@[congr] theorem callP_congr {n0 : Nat} {K : EV → St → Prop} (h : us = us') (h' : s = s') : CallP P f us s n0 K = CallP P f us' s' n0 K := by rw [h, h']
@[congr] theorem vPlan_congr {ops : List Oper} {ph : Bool} {p p' : Plan Oper} {K : St → Prop} {KP : List PanicEntry → St → Prop} (h : s = s') (h' : p = p') : vPlan P ops n0 ph p s K KP = vPlan P ops n0 ph p' s' K KP := by rw [h, h']
@[congr] theorem vLast_congr {ops : List Oper} {p : Plan Oper} {K : St → Prop} {KP : List PanicEntry → St → Prop} (h : s = s') : vLast P ops p s K KP = vLast P ops p s' K KP := by rw [h]
@[congr] theorem vA_congr {K : EV → St → Prop} (h : s = s') : vA P s n0 op K = vA P s' n0 op K := by rw [h]
@[congr] theorem vopR_congr {K : EV → St → Prop} (h : s = s') : vopR P s op K = vopR P s' op K := by rw [h]
@[congr] theorem vopP_congr {K : EV → St → Prop} (h : s = s') : vopP P s op K = vopP P s' op K := by rw [h]
end
def LV.ptId? : LV → Option Nat
  | .pt id _ _ => some id
  | _ => none
abbrev LXdT : Prop := (∀ (P : Program) (s : St) (K : EV → St → Prop) (x : Operand), vopP P s (.move x) K = bo (s.get x) fun u => K u s) ∧
    (∀ (P : Program) (s : St) (K : EV → St → Prop) (x : Operand), vopP P s (.assign x) K = bo (s.get x) fun u => K u s) ∧
    (∀ (P : Program) (s : St) (K : EV → St → Prop) (b x y : Operand), vopP P s (.pick b x y) K = bo ((s.ev b).bind LV.bool?) fun t => (t = true → bo (s.ev x) fun u => K (.one u) s) ∧ (t = false → bo (s.ev y) fun u => K (.one u) s)) ∧
    (∀ (P : Program) (s : St) (K : EV → St → Prop) (x : Operand), vopP P s (.nilCheck x) K = bo ((s.ev x).bind LV.ptr?) fun u => K (.one u) s) ∧
    (∀ (P : Program) (s : St) (K : EV → St → Prop) (op : BinOp) (t t' : TypeId) (x y : Operand), vopP P s (.binOp op t x y t') K = bo (s.ev x) fun u => bo (s.ev y) fun v => biP P s op t K u v) ∧
    (∀ (P : Program) (s : St) (K : EV → St → Prop) (op : UnOp) (t : TypeId) (x : Operand), vopP P s (.unOp op t x) K = bo ((s.ev x).bind LV.val?) fun u => bo (unB op u) fun r => K (.one (.v r)) s) ∧
    (∀ (P : Program) (s : St) (K : EV → St → Prop) (t : TypeId) (x : Operand) (k : Nat), vopP P s (.field t x k) K = bo (s.ev x) fun u => fdP P s t k K u) ∧
    (∀ (P : Program) (s : St) (K : EV → St → Prop) (t : TypeId) (x : Operand) (k : Nat), vopP P s (.fieldAddr t x k) K = bo (s.ev x) fun u => faP P s t k K u) ∧
    (∀ (P : Program) (s : St) (K : EV → St → Prop) (t : TypeId) (x y : Operand), vopP P s (.indexAddr t x y) K = bo (s.ev x) fun u => bo ((s.ev y).bind LV.int?) fun i => bo (tsl P t) fun q => iaP s q.2 i K u) ∧
    (∀ (P : Program) (s : St) (K : EV → St → Prop) (t : TypeId) (x y : Operand), vopP P s (.index t x y) K = bo (s.ev x) fun u => bo ((s.ev y).bind LV.int?) fun i => ixP P s t i K u) ∧
    (∀ (P : Program) (s : St) (K : EV → St → Prop) (x : Operand) (k : Nat), vopP P s (.extract x k) K = bo ((s.get x).bind EV.tup?) fun us => bo us[k]? fun u => K (.one u) s) ∧
    (∀ (P : Program) (s : St) (K : EV → St → Prop) (t : TypeId) (x : Operand) (lo hi mx : Option Operand), vopP P s (.slice t x lo hi mx) K = bo (s.ev x) fun u => slP P s t lo hi mx K u) ∧
    (∀ (P : Program) (s : St) (K : EV → St → Prop) (t : TypeId) (l : List (Nat × Operand)), vopP P s (.build t l.toArray) K = bo (tz P t) fun z => bo ((T P t).bind Sh.agg?) fun _ => bo (s.evs l) fun us => buildK z us fun t' => K (.one t') s) ∧
    (∀ (P : Program) (s : St) (K : EV → St → Prop) (x : Operand) (t : TypeId), vopP P s (.call { callee := .builtin .len, args := #[x], argTypes := #[t] }) K = bo (s.ev x) fun u => lenP P s t K u) ∧
    (∀ (P : Program) (s : St) (K : EV → St → Prop) (x : Operand), vopR P s (.move x) K = bo (s.get x) fun u => K u s) ∧
    (∀ (P : Program) (s : St) (K : EV → St → Prop) (x : Operand), vopR P s (.assign x) K = bo (s.get x) fun u => K u s) ∧
    (∀ (P : Program) (s : St) (K : EV → St → Prop) (b x y : Operand), vopR P s (.pick b x y) K = bo ((s.ev b).bind LV.bool?) fun t => (t = true → bo (s.ev x) fun u => K (.one u) s) ∧ (t = false → bo (s.ev y) fun u => K (.one u) s)) ∧
    (∀ (P : Program) (s : St) (K : EV → St → Prop) (x : Operand), vopR P s (.nilCheck x) K = bo ((s.ev x).bind LV.ptr?) fun u => K (.one u) s) ∧
    (∀ (P : Program) (s : St) (K : EV → St → Prop) (op : BinOp) (t t' : TypeId) (x y : Operand), vopR P s (.binOp op t x y t') K = bo (s.ev x) fun u => bo (s.ev y) fun v => biP P s op t K u v) ∧
    (∀ (P : Program) (s : St) (K : EV → St → Prop) (op : UnOp) (t : TypeId) (x : Operand), vopR P s (.unOp op t x) K = bo ((s.ev x).bind LV.val?) fun u => bo (unB op u) fun r => K (.one (.v r)) s) ∧
    (∀ (P : Program) (s : St) (K : EV → St → Prop) (t : TypeId) (x : Operand) (k : Nat), vopR P s (.field t x k) K = bo (s.ev x) fun u => fdP P s t k K u) ∧
    (∀ (P : Program) (s : St) (K : EV → St → Prop) (t : TypeId) (x : Operand) (k : Nat), vopR P s (.fieldAddr t x k) K = bo (s.ev x) fun u => faP P s t k K u) ∧
    (∀ (P : Program) (s : St) (K : EV → St → Prop) (t : TypeId) (x y : Operand), vopR P s (.indexAddr t x y) K = bo (s.ev x) fun u => bo ((s.ev y).bind LV.int?) fun i => bo (tsl P t) fun q => iaP s q.2 i K u) ∧
    (∀ (P : Program) (s : St) (K : EV → St → Prop) (t : TypeId) (x y : Operand), vopR P s (.index t x y) K = bo (s.ev x) fun u => bo ((s.ev y).bind LV.int?) fun i => ixP P s t i K u) ∧
    (∀ (P : Program) (s : St) (K : EV → St → Prop) (x : Operand) (k : Nat), vopR P s (.extract x k) K = bo ((s.get x).bind EV.tup?) fun us => bo us[k]? fun u => K (.one u) s) ∧
    (∀ (P : Program) (s : St) (K : EV → St → Prop) (t : TypeId) (x : Operand) (lo hi mx : Option Operand), vopR P s (.slice t x lo hi mx) K = bo (s.ev x) fun u => slP P s t lo hi mx K u) ∧
    (∀ (P : Program) (s : St) (K : EV → St → Prop) (t : TypeId) (l : List (Nat × Operand)), vopR P s (.build t l.toArray) K = bo (tz P t) fun z => bo ((T P t).bind Sh.agg?) fun _ => bo (s.evs l) fun us => buildK z us fun t' => K (.one t') s) ∧
    (∀ (P : Program) (s : St) (K : EV → St → Prop) (x : Operand) (t : TypeId), vopR P s (.call { callee := .builtin .len, args := #[x], argTypes := #[t] }) K = bo (s.ev x) fun u => lenP P s t K u) ∧
    (∀ (P : Program) (s : St) (K : EV → St → Prop) (t : TypeId) (x : Operand), vopR P s (.load t x) K = bo (s.ev x) fun u => ldP P s t K u) ∧
    (∀ (P : Program) (s : St) (K : EV → St → Prop) (src dst : TypeId) (x : Operand), vopR P s (.convert src dst x) K = bo (s.ev x) fun u => cvP P s src dst K u) ∧
    (∀ (P : Program) (s : St) (K : EV → St → Prop) (n0 : Nat) (x : Operand), vA P s n0 (.move x) K = bo (s.get x) fun u => K u s) ∧
    (∀ (P : Program) (s : St) (K : EV → St → Prop) (n0 : Nat) (x : Operand), vA P s n0 (.assign x) K = bo (s.get x) fun u => K u s) ∧
    (∀ (P : Program) (s : St) (K : EV → St → Prop) (n0 : Nat) (b x y : Operand), vA P s n0 (.pick b x y) K = bo ((s.ev b).bind LV.bool?) fun t => (t = true → bo (s.ev x) fun u => K (.one u) s) ∧ (t = false → bo (s.ev y) fun u => K (.one u) s)) ∧
    (∀ (P : Program) (s : St) (K : EV → St → Prop) (n0 : Nat) (x : Operand), vA P s n0 (.nilCheck x) K = bo ((s.ev x).bind LV.ptr?) fun u => K (.one u) s) ∧
    (∀ (P : Program) (s : St) (K : EV → St → Prop) (n0 : Nat) (op : BinOp) (t t' : TypeId) (x y : Operand), vA P s n0 (.binOp op t x y t') K = bo (s.ev x) fun u => bo (s.ev y) fun v => biP P s op t K u v) ∧
    (∀ (P : Program) (s : St) (K : EV → St → Prop) (n0 : Nat) (op : UnOp) (t : TypeId) (x : Operand), vA P s n0 (.unOp op t x) K = bo ((s.ev x).bind LV.val?) fun u => bo (unB op u) fun r => K (.one (.v r)) s) ∧
    (∀ (P : Program) (s : St) (K : EV → St → Prop) (n0 : Nat) (t : TypeId) (x : Operand) (k : Nat), vA P s n0 (.field t x k) K = bo (s.ev x) fun u => fdP P s t k K u) ∧
    (∀ (P : Program) (s : St) (K : EV → St → Prop) (n0 : Nat) (t : TypeId) (x : Operand) (k : Nat), vA P s n0 (.fieldAddr t x k) K = bo (s.ev x) fun u => faP P s t k K u) ∧
    (∀ (P : Program) (s : St) (K : EV → St → Prop) (n0 : Nat) (t : TypeId) (x y : Operand), vA P s n0 (.indexAddr t x y) K = bo (s.ev x) fun u => bo ((s.ev y).bind LV.int?) fun i => bo (tsl P t) fun q => iaP s q.2 i K u) ∧
    (∀ (P : Program) (s : St) (K : EV → St → Prop) (n0 : Nat) (t : TypeId) (x y : Operand), vA P s n0 (.index t x y) K = bo (s.ev x) fun u => bo ((s.ev y).bind LV.int?) fun i => ixP P s t i K u) ∧
    (∀ (P : Program) (s : St) (K : EV → St → Prop) (n0 : Nat) (x : Operand) (k : Nat), vA P s n0 (.extract x k) K = bo ((s.get x).bind EV.tup?) fun us => bo us[k]? fun u => K (.one u) s) ∧
    (∀ (P : Program) (s : St) (K : EV → St → Prop) (n0 : Nat) (t : TypeId) (x : Operand) (lo hi mx : Option Operand), vA P s n0 (.slice t x lo hi mx) K = bo (s.ev x) fun u => slP P s t lo hi mx K u) ∧
    (∀ (P : Program) (s : St) (K : EV → St → Prop) (n0 : Nat) (t : TypeId) (l : List (Nat × Operand)), vA P s n0 (.build t l.toArray) K = bo (tz P t) fun z => bo ((T P t).bind Sh.agg?) fun _ => bo (s.evs l) fun us => buildK z us fun t' => K (.one t') s) ∧
    (∀ (P : Program) (s : St) (K : EV → St → Prop) (n0 : Nat) (x : Operand) (t : TypeId), vA P s n0 (.call { callee := .builtin .len, args := #[x], argTypes := #[t] }) K = bo (s.ev x) fun u => lenP P s t K u) ∧
    (∀ (P : Program) (s : St) (K : EV → St → Prop) (n0 : Nat) (t : TypeId) (x : Operand), vA P s n0 (.load t x) K = bo (s.ev x) fun u => ldP P s t K u) ∧
    (∀ (P : Program) (s : St) (K : EV → St → Prop) (n0 : Nat) (src dst : TypeId) (x : Operand), vA P s n0 (.convert src dst x) K = bo (s.ev x) fun u => cvP P s src dst K u) ∧
    (∀ (P : Program) (s : St) (K : EV → St → Prop) (n0 : Nat) (t : TypeId), vA P s n0 (.alloc t) K = bo (tz P t) fun z => K (.one (.pt s.next z.shape [])) { s with roots := (s.next, .box z) :: s.roots, next := s.next + 1 }) ∧
    (∀ (P : Program) (s : St) (K : EV → St → Prop) (n0 : Nat) (t : TypeId) (x : Operand), vA P s n0 (.box t x) K = bo (s.ev x) fun u => K (.one (.pt s.next u.shape [])) { s with roots := (s.next, .box u) :: s.roots, next := s.next + 1 }) ∧
    (∀ (P : Program) (s : St) (K : EV → St → Prop) (n0 : Nat) (t : TypeId) (x y : Operand), vA P s n0 (.store t x y) K = bo (s.ev y) fun u' => bo (s.ev x) fun u => bo u.ptId? fun id => n0 ≤ id ∧ stP P s t u' K u) ∧
    (∀ (P : Program) (s : St) (K : EV → St → Prop) (n0 : Nat) (t : TypeId) (n : Nat) (l : List (Nat × Operand)), vA P s n0 (.buildSlice t n l.toArray) K = bo (tsl P t) fun q => bo (s.evs l) fun us => n * q.2.shape.size ≤ 10000 ∧ buildK (.arr n q.2.shape (List.replicate n q.2)) us fun t' => rowK t' fun xs => K (.one (.hd s.next)) { s with roots := (s.next, .row q.2.shape xs) :: s.roots, next := s.next + 1 }) ∧
    (∀ (P : Program) (s : St) (K : EV → St → Prop) (n0 : Nat) (f : FuncId) (l : List Operand) (ts : Array TypeId), vA P s n0 (.call { callee := .value (.func f), args := l.toArray, argTypes := ts }) K = bo (s.evl l) fun us => CallP P f us s n0 K) ∧
    (∀ (P : Program) (ops : List Oper) (n0 : Nat) (ph : Bool) (p : Plan Oper) (s : St) (K : St → Prop) (KP : List PanicEntry → St → Prop) (d : Option Tmp) (op : Op) (ty : TypeId) (pos : String) (af : Array Edge), vPlan P ops n0 ph (.one ⟨d, op, ty, pos, af, none⟩ .load p) s K KP = (ph = true ∧ s.fit d ∧ vopR P s op fun r s' => vPlan P ops n0 ph p (s'.set d r) K KP)) ∧
    (∀ (P : Program) (ops : List Oper) (n0 : Nat) (ph : Bool) (p : Plan Oper) (s : St) (K : St → Prop) (KP : List PanicEntry → St → Prop) (d : Option Tmp) (op : Op) (ty : TypeId) (pos : String) (af : Array Edge) (j : Nat) (want : Bool), vPlan P ops n0 ph (.one ⟨d, op, ty, pos, af, some (j, want)⟩ .load p) s K KP = (ph = true ∧ bo ((ops[j]?).bind (·.dst)) fun e => gd (lk s.env e) want (s.fit d ∧ vopR P s op fun r s' => vPlan P ops n0 ph p (s'.set d r) K KP) (s.fit d ∧ vPlan P ops n0 ph p (s.set d .un) K KP))) ∧
    (∀ (P : Program) (ops : List Oper) (n0 : Nat) (ph : Bool) (p : Plan Oper) (s : St) (K : St → Prop) (KP : List PanicEntry → St → Prop) (d : Option Tmp) (op : Op) (ty : TypeId) (pos : String) (af : Array Edge), vPlan P ops n0 ph (.one ⟨d, op, ty, pos, af, none⟩ .pure p) s K KP = (s.fit d ∧ vopP P s op fun r s' => vPlan P ops n0 ph p (s'.set d r) K KP)) ∧
    (∀ (P : Program) (ops : List Oper) (n0 : Nat) (ph : Bool) (p : Plan Oper) (s : St) (K : St → Prop) (KP : List PanicEntry → St → Prop) (d : Option Tmp) (op : Op) (ty : TypeId) (pos : String) (af : Array Edge) (j : Nat) (want : Bool), vPlan P ops n0 ph (.one ⟨d, op, ty, pos, af, some (j, want)⟩ .pure p) s K KP = (bo ((ops[j]?).bind (·.dst)) fun e => gd (lk s.env e) want (s.fit d ∧ vopP P s op fun r s' => vPlan P ops n0 ph p (s'.set d r) K KP) (s.fit d ∧ vPlan P ops n0 ph p (s.set d .un) K KP))) ∧
    (∀ (P : Program) (ops : List Oper) (n0 : Nat) (ph : Bool) (p : Plan Oper) (s : St) (K : St → Prop) (KP : List PanicEntry → St → Prop) (d : Option Tmp) (op : Op) (ty : TypeId) (pos : String) (af : Array Edge), vPlan P ops n0 ph (.one ⟨d, op, ty, pos, af, none⟩ .act p) s K KP = (s.fit d ∧ vA P s n0 op fun r s' => vPlan P ops n0 false p (s'.set d r) K KP)) ∧
    (∀ (P : Program) (ops : List Oper) (n0 : Nat) (ph : Bool) (p : Plan Oper) (s : St) (K : St → Prop) (KP : List PanicEntry → St → Prop) (d : Option Tmp) (op : Op) (ty : TypeId) (pos : String) (af : Array Edge) (j : Nat) (want : Bool), vPlan P ops n0 ph (.one ⟨d, op, ty, pos, af, some (j, want)⟩ .act p) s K KP = (bo ((ops[j]?).bind (·.dst)) fun e => gd (lk s.env e) want (s.fit d ∧ vA P s n0 op fun r s' => vPlan P ops n0 false p (s'.set d r) K KP) (s.fit d ∧ vPlan P ops n0 false p (s.set d .un) K KP))) ∧
    (∀ (P : Program) (ops : List Oper) (n0 : Nat) (ph : Bool) (o : Oper) (p : Plan Oper) (s : St) (K : St → Prop) (KP : List PanicEntry → St → Prop), vPlan P ops n0 ph (.one o .last p) s K KP = vl P ops [o] s (fun s' => vLast P ops p s' K KP) KP) ∧
    (∀ (P : Program) (ops : List Oper) (n0 : Nat) (ph : Bool) (p q : Plan Oper) (s : St) (K : St → Prop) (KP : List PanicEntry → St → Prop), vPlan P ops n0 ph (.both p q) s K KP = (vPlan P ops n0 ph p s K KP ∧ vPlan P ops n0 ph q s K KP)) ∧
    (∀ (P : Program) (ops : List Oper) (n0 : Nat) (ph : Bool) (s : St) (K : St → Prop) (KP : List PanicEntry → St → Prop), vPlan P ops n0 ph .done s K KP = K s) ∧
    (∀ (P : Program) (ops : List Oper) (s : St) (K : St → Prop) (KP : List PanicEntry → St → Prop), vLast P ops .done s K KP = K s) ∧
    (∀ (P : Program) (ops : List Oper) (o : Oper) (p : Plan Oper) (s : St) (K : St → Prop) (KP : List PanicEntry → St → Prop), vLast P ops (.one o .last p) s K KP = vl P ops [o] s (fun s' => vLast P ops p s' K KP) KP) ∧
    (∀ (P : Program) (ops : List Oper) (p q : Plan Oper) (s : St) (K : St → Prop) (KP : List PanicEntry → St → Prop), vLast P ops (.both p q) s K KP = (vLast P ops p s K KP ∧ vLast P ops q s K KP)) ∧
    (∀ (P : Program) (ops : List Oper) (p : Plan Oper) (s : St) (K : St → Prop) (KP : List PanicEntry → St → Prop) (d : Option Tmp) (op : Op) (ty : TypeId) (pos : String) (af : Array Edge), vLast P ops (.one ⟨d, op, ty, pos, af, none⟩ .pure p) s K KP = (s.fit d ∧ vopP P s op fun r s' => vLast P ops p (s'.set d r) K KP))
theorem LXd : LXdT := by
  refine ⟨?_, ?_, ?_, ?_, ?_, ?_, ?_, ?_, ?_, ?_, ?_, ?_, ?_, ?_, ?_, ?_, ?_, ?_, ?_, ?_, ?_, ?_, ?_, ?_, ?_, ?_, ?_, ?_, ?_, ?_, ?_, ?_, ?_, ?_, ?_, ?_, ?_, ?_, ?_, ?_, ?_, ?_, ?_, ?_, ?_, ?_, ?_, ?_, ?_, ?_, ?_, ?_, ?_, ?_, ?_, ?_, ?_, ?_, ?_, ?_, ?_, ?_, ?_, ?_⟩ <;> intros <;> first | rfl | (simp only [vPlan, vLast, vg]; done) | skip
abbrev LXeT : Prop := (∀ (l : List Oper) (i : Nat) (k : Kind) (p : Plan Nat), Plan.pick l (.one i k p) = Option.elim l[i]? .done (fun o => .one o k (p.pick l))) ∧ (∀ (l : List Oper), Plan.pick l .done = .done) ∧ (∀ (l : List Oper) (p q : Plan Nat), Plan.pick l (.both p q) = .both (p.pick l) (q.pick l)) ∧
    (∀ (id : Nat) (S : Sh) (p : List Nat), LV.ptId? (.pt id S p) = some id)
theorem LXe : LXeT := ⟨fun l i k p => by simp only [Plan.pick]; cases l[i]? <;> rfl, fun _ => rfl, fun _ _ _ => rfl, fun _ _ _ => rfl⟩
abbrev LXwT : Prop := (∀ (P : Program) (s : St) (K : EV → St → Prop) (src dst : TypeId) (x : Operand), vopP P s (.convert src dst x) K = bo (s.ev x) fun u => cvI P s src dst K u) ∧
    (∀ (P : Program) (s : St) (K : EV → St → Prop) (src dst : TypeId) (k : IntKind) (n : Int), cvI P s src dst K (.v (.int k n)) = ((P.underlying src).isSome = true ∧ bo (tk P dst) fun k => K (.one (.v (.int k (k.wrap n)))) s))
theorem LXw : LXwT := ⟨fun _ _ _ _ _ _ => rfl, fun _ _ _ _ _ _ _ => rfl⟩
abbrev LXxT : Prop := (∀ (P : Program) (s : St) (t : TypeId) (i : Int) (K : EV → St → Prop) (b : ByteArray), ixP P s t i K (.v (.string b)) = (P.underlying t = some .string ∧ 0 ≤ i ∧ bo b[i.toNat]? fun u => K (.one (.v (.int .u8 u.toNat))) s)) ∧
    (∀ (P : Program) (s : St) (t : TypeId) (i : Int) (K : EV → St → Prop) (n : Nat) (sh : Sh) (xs : List LV), ixP P s t i K (.arr n sh xs) = (T P t = some (.arr n sh) ∧ 0 ≤ i ∧ bo xs[i.toNat]? fun u => K (.one u) s)) ∧
    (∀ (ss : List Sh), Sh.agg? (.st ss) = some ()) ∧ (∀ (n : Nat) (sh : Sh), Sh.agg? (.arr n sh) = some ())
theorem LXx : LXxT := ⟨fun _ _ _ _ _ _ => rfl, fun _ _ _ _ _ _ _ _ => rfl, fun _ => rfl, fun _ _ => rfl⟩
abbrev LXzT : Prop := (∀ (P : Program) (s : St) (op : BinOp) (t : TypeId) (K : EV → St → Prop) (u v : Value), biP P s op t K (.v u) (.v v) = bo (binP P op t u v) fun r => K (.one (.v r)) s) ∧
    (∀ (P : Program) (s : St) (op : BinOp) (t : TypeId) (K : EV → St → Prop) (ss ss' : List Sh) (us vs : List LV), biP P s op t K (.st ss us) (.st ss' vs) = ((op = .eql ∨ op = .neq) ∧ bo (eqS P t) fun gs => bo (eqL gs us vs) fun r => K (.one (.v (.bool (if op = .eql then r else !r)))) s)) ∧
    (eqL [] [] [] = some true) ∧
    (∀ (gs : List Tag) (us vs : List LV) (k : IntKind) (x y : Int), eqL (.i :: gs) (.v (.int k x) :: us) (.v (.int k y) :: vs) = (eqL gs us vs).map (fun r => x == y && r)) ∧
    (∀ (gs : List Tag) (us vs : List LV) (x y : Bool), eqL (.b :: gs) (.v (.bool x) :: us) (.v (.bool y) :: vs) = (eqL gs us vs).map (fun r => x == y && r)) ∧
    (∀ (gs : List Tag) (us vs : List LV) (x y : ByteArray), eqL (.s :: gs) (.v (.string x) :: us) (.v (.string y) :: vs) = (eqL gs us vs).map (fun r => x.toList == y.toList && r))
theorem LXz : LXzT :=
  ⟨fun _ _ _ _ _ _ _ => rfl, fun _ _ _ _ _ _ _ _ _ => rfl, rfl, fun _ _ _ _ _ _ => by simp [eqL], fun _ _ _ _ _ => rfl, fun _ _ _ _ _ => rfl⟩
/-- What follows a call or a loop is kept as it is (simp goes into no argument on which another's type leans). -/
structure Lock {α : Sort 1} (a : α) : Type where
def CallTo' (P : Program) (f : FuncId) (us : List LV) (s : St) (K : EV → St → Prop) (KP : List PanicEntry → St → Prop) (_ : Lock K) (_ : Lock KP) : Prop := CallTo P f us s K KP
def CallP' (P : Program) (f : FuncId) (us : List LV) (s : St) (n0 : Nat) (K : EV → St → Prop) (_ : Lock K) : Prop := CallP P f us s n0 K
def CW' (P : Program) (cd : Code) (Q : Exit → St → Prop) (s : St) (_ : Lock cd) (_ : Lock Q) : Prop := CW P cd Q s
abbrev LXqT : Prop := (∀ (P : Program) (f : FuncId) (us : List LV) (s : St) (K : EV → St → Prop) (KP : List PanicEntry → St → Prop), CallTo P f us s K KP = CallTo' P f us s K KP ⟨⟩ ⟨⟩) ∧
    (∀ (P : Program) (f : FuncId) (us : List LV) (s : St) (n0 : Nat) (K : EV → St → Prop), CallP P f us s n0 K = CallP' P f us s n0 K ⟨⟩) ∧
    (∀ (P : Program) (cd : Code) (Q : Exit → St → Prop) (s : St), CW P cd Q s = CW' P cd Q s ⟨⟩ ⟨⟩)
theorem LXq : LXqT := ⟨fun _ _ _ _ _ _ => rfl, fun _ _ _ _ _ _ => rfl, fun _ _ _ _ => rfl⟩
abbrev LXgT : Prop := (∀ (w : Bool) (p q : Prop), gd (some .un) w p q = q) ∧ (∀ (b w : Bool) (p q : Prop), gd (some (.one (.v (.bool b)))) w p q = ((b = w → p) ∧ (b = (!w) → q)))
theorem LXg : LXgT := ⟨fun _ _ _ => rfl, fun _ _ _ _ => rfl⟩
/-- Two ways, kept as they are till the test is known. -/
def Br (b : Bool) (p q : Prop) (_ : Lock p) (_ : Lock q) : Prop := (b = true → p) ∧ (b = false → q)
theorem br_intro {b : Bool} {p q : Prop} {l : Lock p} {l' : Lock q} (h : b = true → p) (h' : b = false → q) : Br b p q l l' := ⟨h, h'⟩
abbrev LXbrT : Prop := (∀ (b : Bool) (p q : Prop), ((b = true → p) ∧ (b = false → q)) = Br b p q ⟨⟩ ⟨⟩) ∧ (∀ (b : Bool) (p q : Prop), ((b = true → p) ∧ (b = (!true) → q)) = Br b p q ⟨⟩ ⟨⟩) ∧
    (∀ (b : Bool) (p q : Prop), ((b = false → p) ∧ (b = (!false) → q)) = Br b q p ⟨⟩ ⟨⟩) ∧ (∀ (p q : Prop) (l : Lock p) (l' : Lock q), Br true p q l l' = p) ∧ (∀ (p q : Prop) (l : Lock p) (l' : Lock q), Br false p q l l' = q)
theorem LXbr : LXbrT := by
  refine ⟨fun _ _ _ => rfl, fun _ _ _ => rfl, fun b p q => ?_, fun p q _ _ => ?_, fun p q _ _ => ?_⟩
  · exact propext ⟨fun h => ⟨h.2, h.1⟩, fun h => ⟨h.2, h.1⟩⟩
  · simp [Br]
  · simp [Br]
def dstAt : List Oper → Nat → Option Tmp
  | [], _ => none
  | o :: _, 0 => o.dst
  | _ :: l, n + 1 => dstAt l n
theorem dstAt_eq : ∀ (l : List Oper) (j : Nat), (l[j]?).bind (fun o => o.dst) = dstAt l j
  | [], _ => rfl
  | _ :: _, 0 => rfl
  | _ :: l, n + 1 => by rw [List.getElem?_cons_succ]; exact dstAt_eq l n
abbrev LXjT : Prop := (∀ (l : List Oper) (j : Nat), (l[j]?).bind (fun o => o.dst) = dstAt l j) ∧ (∀ (o : Oper) (l : List Oper) (n : Nat), dstAt (o :: l) (n + 1) = dstAt l n) ∧
    (∀ (d : Option Tmp) (op : Op) (ty : TypeId) (pos : String) (af : Array Edge) (g : Option (Nat × Bool)) (l : List Oper), dstAt (⟨d, op, ty, pos, af, g⟩ :: l) 0 = d)
theorem LXj : LXjT := ⟨dstAt_eq, fun _ _ _ => rfl, fun _ _ _ _ _ _ _ => rfl⟩
theorem pick_one {l : List Oper} {i : Nat} {k : Kind} {p : Plan Nat} {o : Oper} (h : l[i]? = some o) : Plan.pick l (.one i k p) = .one o k (p.pick l) := by simp only [Plan.pick, h]
end Go.Proofs.Ytoimeebildcofaa
namespace Go.Proofs.Ytoimeebildcofaa
open Go.RowKit
set_option linter.unusedSimpArgs false
set_option linter.unusedVariables false
/-- Sums and tests. -/
abbrev LXbT : Prop := (∀ (P : Program) (t : TypeId) (k : IntKind) (a b : Int), binP P .add t (.int k a) (.int k b) = some (.int k (k.wrap (a + b)))) ∧
    (∀ (P : Program) (t : TypeId) (k : IntKind) (a b : Int), binP P .sub t (.int k a) (.int k b) = some (.int k (k.wrap (a - b)))) ∧
    (∀ (P : Program) (t : TypeId) (k : IntKind) (a b : Int), binP P .mul t (.int k a) (.int k b) = some (.int k (k.wrap (a * b)))) ∧
    (∀ (P : Program) (t : TypeId) (k : IntKind) (a b : Int), binP P .and t (.int k a) (.int k b) = some (.int k (k.wrap (BitVec.ofInt k.bits a &&& BitVec.ofInt k.bits b).toNat))) ∧
    (∀ (P : Program) (t : TypeId) (k : IntKind) (a b : Int), binP P .or t (.int k a) (.int k b) = some (.int k (k.wrap (BitVec.ofInt k.bits a ||| BitVec.ofInt k.bits b).toNat))) ∧
    (∀ (P : Program) (t : TypeId) (k : IntKind) (a b : Int), binP P .xor t (.int k a) (.int k b) = some (.int k (k.wrap (BitVec.ofInt k.bits a ^^^ BitVec.ofInt k.bits b).toNat))) ∧
    (∀ (P : Program) (t : TypeId) (k : IntKind) (a b : Int), binP P .andNot t (.int k a) (.int k b) = some (.int k (k.wrap (BitVec.ofInt k.bits a &&& ~~~BitVec.ofInt k.bits b).toNat))) ∧
    (∀ (P : Program) (t : TypeId) (k : IntKind) (a b : Int), binP P .eql t (.int k a) (.int k b) = some (.bool (a == b))) ∧
    (∀ (P : Program) (t : TypeId) (k : IntKind) (a b : Int), binP P .neq t (.int k a) (.int k b) = some (.bool (a != b))) ∧
    (∀ (P : Program) (t : TypeId) (k : IntKind) (a b : Int), binP P .lss t (.int k a) (.int k b) = some (.bool (decide (a < b)))) ∧
    (∀ (P : Program) (t : TypeId) (k : IntKind) (a b : Int), binP P .leq t (.int k a) (.int k b) = some (.bool (decide (a ≤ b)))) ∧
    (∀ (P : Program) (t : TypeId) (k : IntKind) (a b : Int), binP P .gtr t (.int k a) (.int k b) = some (.bool (decide (a > b)))) ∧
    (∀ (P : Program) (t : TypeId) (k : IntKind) (a b : Int), binP P .geq t (.int k a) (.int k b) = some (.bool (decide (a ≥ b)))) ∧
    (∀ (P : Program) (t : TypeId) (k : IntKind) (a b : Int), binP P .quo t (.int k a) (.int k b) = if b = 0 then none else some (.int k (k.wrap (a.tdiv b)))) ∧
    (∀ (P : Program) (t : TypeId) (k : IntKind) (a b : Int), binP P .rem t (.int k a) (.int k b) = if b = 0 then none else some (.int k (a.tmod b))) ∧
    (∀ (P : Program) (t : TypeId) (k : IntKind) (a b : Int) (k' : IntKind), binP P .shl t (.int k a) (.int k' b) = if b < 0 then none else some (.int k (k.wrap (a * 2 ^ (min b.toNat k.bits))))) ∧
    (∀ (P : Program) (t : TypeId) (k : IntKind) (a b : Int) (k' : IntKind), binP P .shr t (.int k a) (.int k' b) = if b < 0 then none else some (.int k (a.fdiv (2 ^ (min b.toNat k.bits))))) ∧
    (∀ (P : Program) (t : TypeId) (x y : ByteArray), binP P .eql t (.string x) (.string y) = some (.bool (x.toList == y.toList))) ∧
    (∀ (P : Program) (t : TypeId) (x y : ByteArray), binP P .neq t (.string x) (.string y) = some (.bool (!(x.toList == y.toList)))) ∧
    (∀ (P : Program) (t : TypeId) (x y : ByteArray), binP P .add t (.string x) (.string y) = if x.size + y.size ≤ 9223372036854775807 then some (.string (x ++ y)) else none) ∧
    (∀ (P : Program) (t : TypeId) (x y : Bool), binP P .eql t (.bool x) (.bool y) = if isBoolT P t = true then some (.bool (x == y)) else none) ∧
    (∀ (P : Program) (t : TypeId) (x y : Bool), binP P .neq t (.bool x) (.bool y) = if isBoolT P t = true then some (.bool (!(x == y))) else none) ∧
    (∀ (b : Bool), unB .not (.bool b) = some (.bool (!b)))
theorem LXb : LXbT := by
  refine ⟨?_, ?_, ?_, ?_, ?_, ?_, ?_, ?_, ?_, ?_, ?_, ?_, ?_, ?_, ?_, ?_, ?_, ?_, ?_, ?_, ?_, ?_, ?_⟩ <;> intros <;> first | rfl | simp [binP, binB, intOp, shOp, strOp, unB]
abbrev LXiT : Prop := (∀ p : Prop, (false = true → p) = True) ∧ (∀ p : Prop, (true = true → p) = p) ∧ (∀ p : Prop, (true = false → p) = True) ∧ (∀ p : Prop, (false = false → p) = p)
theorem LXi : LXiT := by
  refine ⟨?_, ?_, ?_, ?_⟩ <;> intro p <;> simp
/-- Rows by their numbers; numbers that need no wrap. -/
abbrev LXtT : Prop := (∀ (s : St) (id : Nat), s.row? id = (rootOf s.roots id).bind Root.row?') ∧ (∀ (sh : Sh) (xs : List LV), Root.row?' (.row sh xs) = some (sh, xs))
theorem LXt : LXtT := ⟨fun _ _ => rfl, fun _ _ => rfl⟩
abbrev LXvT : Prop := (∀ (x : LV), List.replicate 1 x = [x])
theorem LXv : LXvT := fun _ => rfl
open Classical in
noncomputable def subOf (S : Sh) (p : List Nat) (l n : Nat) (r : Root) : Option (Sh × List LV) := if r.sh = S then (match r.tree.get p with | some (.arr m sh xs) => if l + n ≤ m ∧ m = xs.length then some (sh, (xs.drop l).take n) else none | _ => none) else none
open Classical in
abbrev LXuT : Prop := (∀ (s : St) (id : Nat) (S : Sh) (p : List Nat) (l n : Nat), s.elems (.sub id S p l n) = (rootOf s.roots id).bind (subOf S p l n)) ∧
    (∀ (sh s' : Sh) (l n : Nat) (xs : List LV), subOf (.arr 0 sh) [] l n (.row s' xs) = if s' = sh ∧ l + n ≤ xs.length then some (s', (xs.drop l).take n) else none)
theorem LXu : LXuT := by
  refine ⟨fun s id S p l n => ?_, fun sh s' l n xs => ?_⟩
  · simp only [St.elems]
    cases rootOf s.roots id <;> rfl
  · simp only [subOf, Root.sh, Root.tree, LV.get, and_true, Sh.arr.injEq, true_and]
    by_cases h1 : s' = sh
    · subst h1
      simp
    · simp [h1]
theorem wi64 {n : Int} (h : decide (-9223372036854775808 ≤ n) = true) (h' : decide (n ≤ 9223372036854775807) = true) : IntKind.i64.wrap n = n := by
  have := of_decide_eq_true h
  have := of_decide_eq_true h'
  simp [IntKind.wrap, IntKind.bits, IntKind.signed]
  omega
theorem wu64 {n : Int} (h : decide (0 ≤ n) = true) (h' : decide (n ≤ 18446744073709551615) = true) : IntKind.u64.wrap n = n := by
  have := of_decide_eq_true h
  have := of_decide_eq_true h'
  simp [IntKind.wrap, IntKind.bits, IntKind.signed]
  omega
def lkAll (e' : Env) : Env → Prop
  | [] => True
  | (k, v) :: e => lk e' k = some v ∧ lkAll e' e
theorem lk_all {e' : Env} : ∀ {e : Env}, lkAll e' e → ∀ t x, lk e t = some x → lk e' t = some x
  | [], _, t, x, h => by simp [lk] at h
  | (k, v) :: e, hA, t, x, h => by
    simp only [lk] at h
    split at h
    · rename_i e1
      simp only [Option.some.injEq] at h
      subst h
      subst e1
      exact hA.1
    · exact lk_all hA.2 t x h
theorem lkAll_nil (e' : Env) : lkAll e' [] = True := rfl
theorem lkAll_cons (e' e : Env) (k : Nat) (v : EV) : lkAll e' ((k, v) :: e) = (lk e' k = some v ∧ lkAll e' e) := rfl
/-- Only these slots are known from here on. -/
theorem cw_keep {P : Program} {cd : Code} {Q : Exit → St → Prop} (e : Env) {e' : Env} {R : Roots} {n z : Nat} {ds : List Deferred} (he : lkAll e' e) (h : CW P cd Q ⟨e, R, n, z, ds⟩) : CW P cd Q ⟨e', R, n, z, ds⟩ := cw_less e (lk_all he) h
mutual
/-- A value without roots, of which all is new. -/
def LV.free : LV → Bool
  | .v _ => true
  | .st _ ts => freeL ts
  | .arr _ _ ts => freeL ts
  | .vec f _ ts => f && freeL ts
  | _ => false
def freeL : List LV → Bool
  | [] => true
  | t :: ts => t.free && freeL ts
end
mutual
theorem LV.free_spec (m : Nat) : ∀ {t : LV}, t.free = true → t.under m ∧ t.new
  | .v _, _ => by simp only [LV.under, LV.new, and_self]
  | .st _ ts, h => by simp only [LV.free] at h; simp only [LV.under, LV.new]; exact freeL_spec m h
  | .arr _ _ ts, h => by simp only [LV.free] at h; simp only [LV.under, LV.new]; exact freeL_spec m h
  | .vec f _ ts, h => by simp only [LV.free, Bool.and_eq_true] at h; simp only [LV.under, LV.new]; exact ⟨(freeL_spec m h.2).1, h.1, (freeL_spec m h.2).2⟩
theorem freeL_spec (m : Nat) : ∀ {ts : List LV}, freeL ts = true → underL m ts ∧ newL ts
  | [], _ => by simp only [underL, newL, and_self]
  | t :: ts, h => by
    simp only [freeL, Bool.and_eq_true] at h
    simp only [underL, newL]
    exact ⟨⟨(LV.free_spec m h.1).1, (freeL_spec m h.2).1⟩, (LV.free_spec m h.1).2, (freeL_spec m h.2).2⟩
end
theorem freeL_map {α : Type} (f : α → LV) (xs : List α) (h : ∀ x, (f x).free = true) : freeL (xs.map f) = true := by
  induction xs with
  | nil => rfl
  | cons x xs ih => simp only [List.map_cons, freeL, h, ih, Bool.and_self]
mutual
/-- A value without roots. -/
def LV.low : LV → Bool
  | .v _ => true
  | .st _ ts => lowL ts
  | .arr _ _ ts => lowL ts
  | .vec _ _ ts => lowL ts
  | .ip t => t.low
  | _ => false
def lowL : List LV → Bool
  | [] => true
  | t :: ts => t.low && lowL ts
end
mutual
theorem LV.low_spec (m : Nat) : ∀ {t : LV}, t.low = true → t.under m
  | .v _, _ => by simp only [LV.under]
  | .st _ ts, h => by simp only [LV.low] at h; simp only [LV.under]; exact lowL_spec m h
  | .arr _ _ ts, h => by simp only [LV.low] at h; simp only [LV.under]; exact lowL_spec m h
  | .vec f _ ts, h => by simp only [LV.low] at h; simp only [LV.under]; exact lowL_spec m h
  | .ip t, h => by simp only [LV.low] at h; simp only [LV.under]; exact LV.low_spec m h
theorem lowL_spec (m : Nat) : ∀ {ts : List LV}, lowL ts = true → underL m ts
  | [], _ => by simp only [underL]
  | t :: ts, h => by
    simp only [lowL, Bool.and_eq_true] at h
    simp only [underL]
    exact ⟨LV.low_spec m h.1, lowL_spec m h.2⟩
end
theorem lowL_map {α : Type} (f : α → LV) (xs : List α) (h : ∀ x, (f x).low = true) : lowL (xs.map f) = true := by
  induction xs with
  | nil => rfl
  | cons x xs ih => simp only [List.map_cons, lowL, h, ih, Bool.and_self]
def EV.free : EV → Bool
  | .one t => t.free
  | .tup ts => freeL ts
  | .un => true
  | .fx _ _ => false
theorem EV.free_spec {x : EV} (h : x.free = true) : x.under0 ∧ x.new := by
  cases x with
  | one t => exact LV.free_spec 0 h
  | tup ts => exact freeL_spec 0 h
  | un => exact ⟨trivial, trivial⟩
  | fx L t => cases h
section
variable {P : Program} {s : St} {f : FuncId}
theorem callTo_f {uc us : List LV} {x : EV} {K : EV → St → Prop} {KP : List PanicEntry → St → Prop} (h : PF P f us x) (harg : oldL (fzL s false [] uc) = us) (hu : lowL us = true) (h1 : x.free = true) (hK : K x s) : CallTo P f uc s K KP :=
  callTo_pure h harg (lowL_spec 0 hu) (EV.free_spec h1).1 (EV.free_spec h1).2 hK
theorem callTo_fs {uc us : List LV} {Q : EV → Prop} {K : EV → St → Prop} {KP : List PanicEntry → St → Prop} (h : PFs P f us Q) (harg : oldL (fzL s false [] uc) = us) (hu : lowL us = true) (hx : ∀ x, Q x → x.free = true ∧ K x s) : CallTo P f uc s K KP :=
  callTo_pures h harg (lowL_spec 0 hu) fun x hq => ⟨(EV.free_spec (hx x hq).1).1, (EV.free_spec (hx x hq).1).2, (hx x hq).2⟩
theorem callP_f {n0 : Nat} {uc us : List LV} {x : EV} {K : EV → St → Prop} (h : PF P f us x) (harg : oldL (fzL s false [] uc) = us) (hu : lowL us = true) (h1 : x.free = true) (hK : K x s) : CallP P f uc s n0 K :=
  callP_pure h harg (lowL_spec 0 hu) (EV.free_spec h1).1 (EV.free_spec h1).2 hK
theorem callP_fs {n0 : Nat} {uc us : List LV} {Q : EV → Prop} {K : EV → St → Prop} (h : PFs P f us Q) (harg : oldL (fzL s false [] uc) = us) (hu : lowL us = true) (hx : ∀ x, Q x → x.free = true ∧ K x s) : CallP P f uc s n0 K :=
  callP_of h harg (lowL_spec 0 hu) fun x hq => ⟨(EV.free_spec (hx x hq).1).1, (EV.free_spec (hx x hq).1).2, (hx x hq).2⟩
theorem ret_f {us rs : List LV} {x : EV} (hds : s.ds = []) (hf : fzL s true [] us = rs) (hu : lowL rs = true) (hx : xOf rs = x) : RetTo 0 0 true (fun r R' => r = x ∧ R' = []) s us := ret_pure hds hf (lowL_spec 0 hu) hx
theorem ret_fs {us rs : List LV} {Q : EV → Prop} (hds : s.ds = []) (hf : fzL s true [] us = rs) (hu : lowL rs = true) (hx : Q (xOf rs)) : RetTo 0 0 true (fun r R' => Q r ∧ R' = []) s us := ret_pures hds hf (lowL_spec 0 hu) hx
end
mutual
theorem low_ren {σ : Nat → Nat} : ∀ {t : LV}, t.low = true → t.ren σ = t
  | .v _, _ => by simp only [LV.ren]
  | .st _ ts, h => by simp only [LV.ren, LV.low] at *; rw [lowL_ren h]
  | .arr _ _ xs, h => by simp only [LV.ren, LV.low] at *; rw [lowL_ren h]
  | .vec _ _ xs, h => by simp only [LV.ren, LV.low] at *; rw [lowL_ren h]
  | .ip t, h => by simp only [LV.ren, LV.low] at *; rw [low_ren h]
theorem lowL_ren {σ : Nat → Nat} : ∀ {ts : List LV}, lowL ts = true → renL σ ts = ts
  | [], _ => by simp only [renL]
  | t :: ts, h => by simp only [renL, lowL, Bool.and_eq_true] at *; rw [low_ren h.1, lowL_ren h.2]
end
/-- A row of the call's own is handed out. -/
theorem ret_row {s : St} {id : Nat} {sh : Sh} {xs : List LV} {Q : EV → Roots → Prop} (hds : s.ds = []) (hr : rootOf s.roots id = some (.row sh xs)) (hx : lowL xs = true) (hQ : Q (.one (.hd 0)) [(0, .row sh xs)]) : RetTo 0 1 true Q s [.hd id] :=
  RetNow.to ⟨fun _ => rfl, hds, fun _ => id, [.hd 0], [(0, .row sh xs)], by simp [fzL, LV.fz, renL, LV.ren], hQ, by simp [underL, LV.under], by simp, fun y hy => by
    rw [List.mem_singleton.1 hy]
    refine ⟨by omega, ?_, ?_⟩
    · simp only [Root.ren, lowL_ren hx]; exact hr
    · simp only [Root.under]; exact lowL_spec _ hx, fun i hi => by omega, by simp⟩
theorem Vals.set {ρ : Nat → Value} {N B : Nat} {w : World} {O : Nat → Prop} : ∀ {us : List LV} {vs : List Value} {i : Nat} {u u' : LV}, Vals ρ N B w O us vs → us[i]? = some u → (∀ v, Val ρ N B w O u v → Val ρ N B w O u' v) → Vals ρ N B w O (us.set i u') vs
  | _, _, 0, u, u', .cons h h', e, hh => by simp only [List.getElem?_cons_zero, Option.some.injEq] at e; subst e; exact .cons (hh _ h) h'
  | _, _, i + 1, u, u', .cons h h', e, hh => by simp only [List.getElem?_cons_succ] at e; exact .cons h (h'.set e hh)
/-- A slice without elements is as good as one that is only read. -/
theorem Ghost.nil {s : St} {us : List LV} (i : Nat) {A : Option Addr} {c : Nat} (f : Bool) (sh : Sh) (h : us[i]? = some (.v (.slice A 0 c))) : Ghost s us s (us.set i (.vec f sh [])) :=
  fun c ρ a w vs hs hv => ⟨ρ, hs, hv.set h fun v ⟨cs, h1, h2⟩ => by cases h1; exact ⟨_, .nil, h2⟩⟩
/-- .. and as a row of the call's own. -/
theorem Ghost.row {s : St} {us : List LV} (i : Nat) {A : Option Addr} (sh : Sh) (h : us[i]? = some (.v (.slice A 0 0))) : Ghost s us { s with roots := (s.next, .row sh []) :: s.roots, next := s.next + 1 } (us.set i (.hd s.next)) :=
  fun c ρ a w vs hs hv => by
    obtain ⟨h1, h2⟩ := hs.asRow A sh
    refine ⟨_, h1, ?_⟩
    have hv' : Vals (upd ρ s.next (.slice A 0 0)) (s.next + 1) c.bb w (Mine (upd ρ s.next (.slice A 0 0)) ((s.next, .row sh []) :: s.roots)) us vs := by
      obtain ⟨vs', e1, e2⟩ := h2 (.tup us) (.tuple vs.toArray) ⟨vs, hv, rfl⟩
      have : vs = vs' := by simpa using e2
      rw [this]; exact e1
    exact hv'.set h fun v ⟨cs, h1, h2⟩ => by cases h1; exact ⟨_, .hd (Nat.lt_succ_self _) (by rw [upd_self]; rfl), by rw [upd_self]; exact h2⟩
/-- The first elements of a row, by themselves: the row is given up. -/
theorem Ghost.trim {s : St} {us : List LV} (i : Nat) {id n : Nat} {sh : Sh} {xs : List LV} (h : us[i]? = some (.sub id (.arr 0 sh) [] 0 n)) (hr : rootOf s.roots id = some (.row sh xs)) (hn : n ≤ xs.length) :
    Ghost s us { s with roots := (s.next, .row sh (xs.take n)) :: dropRoot s.roots id, next := s.next + 1 } (us.set i (.hd s.next)) :=
  fun c ρ a w vs hs hv => by
    obtain ⟨hlt, hok⟩ := hs.rs.ok _ (rootOf_mem hr)
    obtain ⟨v, e1, e2⟩ := hv.get h
    have hlt' : ∀ x ∈ s.roots, x.1 < s.next := fun x hx => (hs.rs.ok x hx).1
    have main : (∀ b, owns v b → owns (ρ id) b) ∧ v.oneCell' = true ∧ ((∀ t cs, Con ρ s.next c.bb w (Mine ρ s.roots) t cs → Con (upd ρ s.next v) (s.next + 1) c.bb w (Mine (upd ρ s.next v) ((s.next, .row sh (xs.take n)) :: dropRoot s.roots id)) t cs) →
        (Root.row sh (xs.take n)).Ok (upd ρ s.next v) (s.next + 1) c.bb w (Mine (upd ρ s.next v) ((s.next, .row sh (xs.take n)) :: dropRoot s.roots id)) v) := by
      obtain ⟨cs, hc, hvv⟩ := e2
      have zero : ∀ A, v = .slice A 0 0 → n = 0 → (∀ b, owns v b → owns (ρ id) b) ∧ v.oneCell' = true ∧ ((∀ t cs, Con ρ s.next c.bb w (Mine ρ s.roots) t cs → Con (upd ρ s.next v) (s.next + 1) c.bb w (Mine (upd ρ s.next v) ((s.next, .row sh (xs.take n)) :: dropRoot s.roots id)) t cs) →
        (Root.row sh (xs.take n)).Ok (upd ρ s.next v) (s.next + 1) c.bb w (Mine (upd ρ s.next v) ((s.next, .row sh (xs.take n)) :: dropRoot s.roots id)) v) := fun A e en => by
        subst e
        subst en
        exact ⟨fun b hb => by cases A <;> simp [owns] at hb, rfl, fun _ => .inl ⟨sh, A, by simp, rfl⟩⟩
      cases hc with
      | sub0 _ => exact zero _ hvv rfl
      | @sub _ _ _ _ _ cap _ h1 h2 h3 =>
        have hv1 : v = .slice (some ⟨blkOf (ρ id), 0, none⟩) n cap := by simpa [pack, LV.shape, Sh.isAgg, Sh.off, Sh.kid] using hvv
        have h3 := h3 rfl
        rcases hok with ⟨s', A, e, hh⟩ | ⟨b, cur, e', g1, g2, ⟨cap', q1, q2, q3, q4⟩, g4⟩
        · cases e
          simp only at hh
          rw [hh] at h3
          have : cap = 0 := by simp only [capOf] at h3; omega
          subst this
          obtain rfl : n = 0 := by omega
          exact zero _ hv1 rfl
        · simp only at q1
          rw [q1] at h3 hv1 g4
          have h3' : cap ≤ cap' := by simp only [capOf] at h3; omega
          have hb : blkOf (.slice (some ⟨b, 0, none⟩) xs.length cap') = b := rfl
          rw [hb] at hv1
          rcases Nat.eq_zero_or_pos cap with rfl | hcap
          · obtain rfl : n = 0 := by omega
            exact zero _ hv1 rfl
          · subst hv1
            refine ⟨fun x hx => by rw [q1]; exact ⟨hx.1, q3⟩, rfl, fun hm => .inr ⟨b, cur, e', g1, ?_, ⟨cap, by rw [List.length_take, Nat.min_eq_left hn], by rw [List.length_take, Nat.min_eq_left hn]; exact h1, hcap, h2⟩, ?_⟩⟩
            · refine hm _ _ ?_
              cases g2 with
              | arr g2 =>
                simp only [Root.tree, LV.shape, Sh.size, List.length_take, Nat.min_eq_left hn] at g2 ⊢
                have a1 := cons_take g2 n hn
                rw [List.take_take, Nat.min_eq_left (Nat.mul_le_mul_right _ hn)] at a1
                exact .arr a1
            · exact Nat.le_trans (Nat.mul_le_mul_right _ h3') g4
    obtain ⟨hown, hone, hokn⟩ := main
    refine ⟨_, hs.swap (rootOf_mem hr) (fun b hb => .inr (hown b hb)) (Only.refl _ _) hokn, ?_⟩
    have hmono : Vals (upd ρ s.next v) (s.next + 1) c.bb w (Mine (upd ρ s.next v) ((s.next, .row sh (xs.take n)) :: dropRoot s.roots id)) us vs := hv.mono (fun i hi => upd_lt hi) (Nat.le_succ _) fun b o hb ho => ⟨ho, fun hm => by
      rcases mine_cons.1 hm with h1 | ⟨x, hx, h1⟩
      · rw [upd_self] at h1
        exact hb ⟨_, rootOf_mem hr, hown b h1⟩
      · rw [upd_lt (hlt' x (mem_dropRoot.1 hx).1)] at h1
        exact hb ⟨x, (mem_dropRoot.1 hx).1, h1⟩⟩
    have : ∀ {us : List LV} {vs : List Value} {i : Nat} {u : LV}, Vals (upd ρ s.next v) (s.next + 1) c.bb w (Mine (upd ρ s.next v) ((s.next, .row sh (xs.take n)) :: dropRoot s.roots id)) us vs → us[i]? = some u → vs[i]? = some v → Vals (upd ρ s.next v) (s.next + 1) c.bb w (Mine (upd ρ s.next v) ((s.next, .row sh (xs.take n)) :: dropRoot s.roots id)) (us.set i (.hd s.next)) vs := by
      intro us
      induction us with
      | nil => intro vs i u _ h; simp at h
      | cons t ts ih =>
        intro vs i u hV h hvi
        cases hV with
        | cons h1 h2 =>
          cases i with
          | zero =>
            simp only [List.getElem?_cons_zero, Option.some.injEq] at hvi
            rw [hvi]
            exact .cons ⟨[v], by have := Con.hd (ρ := upd ρ s.next v) (N := s.next + 1) (B := c.bb) (w := w) (O := Mine (upd ρ s.next v) ((s.next, .row sh (xs.take n)) :: dropRoot s.roots id)) (Nat.lt_succ_self s.next) (by rw [upd_self]; exact hone); rwa [upd_self] at this, rfl⟩ h2
          | succ i =>
            simp only [List.getElem?_cons_succ] at h hvi
            exact .cons h1 (ih h2 h hvi)
    exact this hmono h e1
end Go.Proofs.Ytoimeebildcofaa
namespace Go.Proofs.Ytoimeebildcofaa
open Go.RowKit
set_option linter.unusedSimpArgs false
set_option linter.unusedVariables false
variable {P : Program} {ρ ρ' : Nat → Value} {N N' B B' : Nat} {w w' : World} {O O' : Nat → Prop} {α β : Type}
structure Flat (lv : α → LV) (cells : α → List Value) (sh : Sh) : Prop where
  shape : ∀ x, (lv x).shape = sh
  plain : ∀ x, (lv x).plain = some (cells x)
variable {lv : α → LV} {cells : α → List Value} {sh : Sh}
theorem Flat.len (h : Flat lv cells sh) (x : α) : (cells x).length = sh.size := by
  have := (plain_con (ρ := fun _ => undef) (N := 0) (B := 0) (w := default) (O := fun _ => False) (h.plain x)).len
  rw [this, h.shape]
theorem Flat.lens (h : Flat lv cells sh) (xs : List α) : ∀ c ∈ xs.map cells, c.length = sh.size := fun c hc => by
  obtain ⟨x, _, rfl⟩ := List.mem_map.1 hc
  exact h.len x
theorem Flat.flatten (h : Flat lv cells sh) : ∀ {xs : List α} {n : Nat} {cs : List Value}, Cons ρ N B w O (List.replicate n sh) (xs.map lv) cs → cs = (xs.map cells).flatten
  | [], _, _, hc => by
    generalize List.replicate _ sh = ss at hc
    cases hc
    rfl
  | x :: xs, 0, _, hc => by simp only [List.replicate_zero, List.map_cons] at hc; cases hc
  | x :: xs, n + 1, _, hc => by
    simp only [List.replicate_succ, List.map_cons] at hc
    cases hc with
    | cons h1 _ h3 =>
      simp only [List.map_cons, List.flatten_cons]
      rw [Con.plain (h.plain x) h1, h.flatten h3]
theorem Flat.cons (h : Flat lv cells sh) : ∀ (xs : List α), Cons ρ N B w O (List.replicate xs.length sh) (xs.map lv) (xs.map cells).flatten
  | [] => .nil
  | x :: xs => by
    simp only [List.length_cons, List.replicate_succ, List.map_cons, List.flatten_cons]
    exact .cons (plain_con (h.plain x)) (h.shape x) (h.cons xs)
/-- A slice that is only read, of flat structs, as a row of cells. -/
theorem Flat.row (h : Flat lv cells sh) {f : Bool} {xs : List α} {v : Value} (hv : Val ρ N B w O (.vec f sh (xs.map lv)) v) : ∃ L, Row sh.size v (xs.map cells) L ∧ Holds w L := by
  obtain ⟨cs, hc, hval⟩ := hv
  generalize ht : LV.vec f sh (xs.map lv) = t at hc
  cases hc <;> try (cases ht; done)
  · rename_i A c
    have hx : xs = [] := by
      have : xs.map lv = [] := by injection ht
      exact List.map_eq_nil_iff.1 this
    subst hx
    exact ⟨[], ⟨by simp, .inl ⟨rfl, rfl, A, c, hval.trans (by cases ht; rfl)⟩⟩, fun p hp => by cases hp⟩
  · rename_i b off cap cur e fr h1 h2 h3 h6 h4 h5
    cases ht
    rw [List.length_map] at h1 h5
    have h7 := h.flatten h5
    refine ⟨[(b, .cells cur e fr)], ⟨h.lens xs, .inr ⟨b, off, cap, cur, e, fr, ?_, by rw [List.length_map]; exact h1, rfl, h2, fun i j u hu => ?_⟩⟩, fun p hp => by rw [List.mem_singleton.1 hp]; exact h4⟩
    · rw [hval, List.length_map, List.length_map]; rfl
    · have := flatten_at (h.lens xs) hu
      rw [← h7, List.getElem?_take] at this
      split at this
      · rw [List.getElem?_drop, Array.getElem?_toList] at this
        rw [← this, Nat.add_assoc]
      · cases this
/-- A row of the call's own, of flat structs, as a root. -/
theorem Flat.root (h : Flat lv cells sh) {base e sz : Nat} (hsz : sz = sh.size) {v : Value} {xs : List α} {M : Blocks} (ho : Own base e sz v (xs.map cells) M) (hM : Holds w' M) (hb : Below base w w') (hbase : base = w.heap.size) :
    ∃ ρ', Gives ρ [] 1 w ρ' [(0, .row sh (xs.map lv))] w' ∧ EVal ρ' 1 w.heap.size w' (Mine ρ' [(0, .row sh (xs.map lv))]) (.one (.hd 0)) v := by
  subst hsz
  subst hbase
  have hon : Only (Mine ρ []) w w' := (Only.of_below hb).mono fun _ _ hk => absurd hk id
  have fin : ∀ (hvone : v.oneCell' = true), (Root.row sh (xs.map lv)).Ok (fun _ => v) 1 w.heap.size w' (Mine (fun _ => v) [(0, .row sh (xs.map lv))]) v → (∀ b, owns v b → w.heap.size ≤ b) →
      ∃ ρ', Gives ρ [] 1 w ρ' [(0, .row sh (xs.map lv))] w' ∧ EVal ρ' 1 w.heap.size w' (Mine ρ' [(0, .row sh (xs.map lv))]) (.one (.hd 0)) v := fun hvone hok hnew =>
    ⟨fun _ => v, ⟨⟨fun x hx => by rw [List.mem_singleton.1 hx]; exact ⟨Nat.lt_succ_self 0, hok⟩, List.pairwise_singleton _ _, by simp⟩, fun i hi => by simp at hi, hon, fun b ⟨x, hx, hbx⟩ => .inr (hnew b hbx)⟩, ⟨[v], .hd (ρ := fun _ => v) (Nat.lt_succ_self 0) hvone, rfl⟩⟩
  obtain ⟨_, ho⟩ := ho
  rcases ho with ⟨rfl, hx, rfl⟩ | ⟨b, cap, cur, rfl, h1, h2, h3, h4, rfl, h5⟩
  · have : xs = [] := List.map_eq_nil_iff.1 hx
    subst this
    exact fin rfl (.inl ⟨sh, none, rfl, rfl⟩) (fun b hb => by simp [owns] at hb)
  · rw [List.length_map] at h2 h5
    have hblk := hM _ (List.mem_singleton.2 rfl)
    rcases Nat.eq_zero_or_pos cap with rfl | hcap
    · have : xs = [] := List.eq_nil_of_length_eq_zero (by omega)
      subst this
      exact fin rfl (.inl ⟨sh, _, rfl, rfl⟩) (fun b hb => by simp [owns] at hb)
    · refine fin rfl (.inr ⟨b, cur, e, hblk, ?_, ⟨cap, by simp, by simpa using h2, hcap, h3⟩, h4⟩) (fun x hx => by rw [← hx.1]; exact h1)
      simp only [Root.tree, LV.shape, Sh.size, List.length_map]
      rw [h5]
      have := h.cons (ρ := fun _ => .slice (some ⟨b, 0, none⟩) (List.map cells xs).length cap) (N := 1) (B := w.heap.size) (w := w') (O := Mine (fun _ => .slice (some ⟨b, 0, none⟩) (List.map cells xs).length cap) [(0, .row sh (xs.map lv))]) xs
      exact .arr (by rw [List.length_map] at *; exact this)
/-- A contract over worlds is one over roots: the arguments' values are taken apart by the user. -/
theorem pfs_of {f : FuncId} {us : List LV} {Q : EV → Prop} (hf : isFn P f = true)
    (h : ∀ ρ w vs O, Vals ρ 0 w.heap.size w O us vs → Calls P f vs.toArray w fun e w' => ∃ v r, e = .returned v ∧ (∀ ρ' O', EVal ρ' 0 w.heap.size w' O' r v) ∧ Q r ∧ Below w.heap.size w w') : PFs P f us Q :=
  ⟨hf, fun ρ w vs _ hV => (h ρ w vs _ hV).mono fun e w' ⟨v, r, he, h1, h2, h3⟩ => by
    subst he
    exact ⟨ρ, r, [], ⟨h2, rfl⟩, ⟨⟨(fun y hy => by cases hy), .nil, .nil⟩, fun _ _ => rfl, Only.of_below h3, (fun b ⟨y, hy, _⟩ => by cases hy)⟩, h1 _ _⟩⟩
theorem pf_of {f : FuncId} {us : List LV} {x : EV} (hf : isFn P f = true)
    (h : ∀ ρ w vs O, Vals ρ 0 w.heap.size w O us vs → Calls P f vs.toArray w fun e w' => ∃ v, e = .returned v ∧ (∀ ρ' O', EVal ρ' 0 w.heap.size w' O' x v) ∧ Below w.heap.size w w') : PF P f us x :=
  pfs_of hf fun ρ w vs O hV => (h ρ w vs O hV).mono fun e w' ⟨v, he, h1, h3⟩ => ⟨v, x, he, h1, rfl, h3⟩
theorem fn_own_of {f : FuncId} {us : List LV} {xs : List α} {e sz : Nat} (hl : Flat lv cells sh) (hsz : sz = sh.size) (hf : isFn P f = true)
    (h : ∀ ρ w vs O, Vals ρ 0 w.heap.size w O us vs → Calls P f vs.toArray w fun x w' => ∃ v M, x = .returned v ∧ Own w.heap.size e sz v (xs.map cells) M ∧ Holds w' M ∧ Below w.heap.size w w') :
    Fn P f us [] 1 (fun r R' => r = .one (.hd 0) ∧ R' = [(0, .row sh (xs.map lv))]) NoP :=
  ⟨hf, fun ρ w vs _ hV => (h ρ w vs _ hV).mono fun x w' ⟨v, M, he, h1, h2, h3⟩ => by
    subst he
    obtain ⟨ρ', g1, g2⟩ := hl.root (ρ := ρ) hsz h1 h2 h3 rfl
    exact ⟨ρ', _, _, ⟨rfl, rfl⟩, g1, g2⟩⟩
theorem Vals.inv1 {O : Nat → Prop} {t : LV} {ts : List LV} {vs : List Value} (h : Vals ρ N B w O (t :: ts) vs) : ∃ v vs', vs = v :: vs' ∧ Val ρ N B w O t v ∧ Vals ρ N B w O ts vs' := by
  cases h with
  | cons h1 h2 => exact ⟨_, _, rfl, h1, h2⟩
theorem Vals.inv0 {O : Nat → Prop} {vs : List Value} (h : Vals ρ N B w O [] vs) : vs = [] := by cases h; rfl
theorem Val.inv {O : Nat → Prop} {x v : Value} (h : Val ρ N B w O (.v x) v) : v = x := by
  obtain ⟨cs, h1, h2⟩ := h
  cases h1
  exact h2
theorem Val.flat {O : Nat → Prop} (h : Flat lv cells sh) {x : α} {v : Value} (hv : Val ρ N B w O (lv x) v) : v = pack sh (cells x) := by
  obtain ⟨cs, h1, h2⟩ := hv
  rw [h2, Con.plain (h.plain x) h1, h.shape]
end Go.Proofs.Ytoimeebildcofaa
namespace Go.Proofs.Ytoimeebildcofaa
open Go.RowKit
set_option linter.unusedSimpArgs false
set_option linter.unusedVariables false
variable {P : Program} {ρ ρ' : Nat → Value} {N N' B B' : Nat} {w w' : World} {O O' : Nat → Prop} {c : Ctx} {s s' s0 : St} {a : Act}
def Canon (s s' : St) : Prop := ∀ (c : Ctx) (ρ : Nat → Value) (a : Act) (w : World), Sat c ρ s a w → ∃ ρ', Sat c ρ' s' a w
theorem Canon.refl (s : St) : Canon s s := fun _ ρ _ _ h => ⟨ρ, h⟩
theorem Canon.trans (h : Canon s s') (h' : Canon s' s0) : Canon s s0 := fun c ρ a w hs => by
  obtain ⟨ρ', h1⟩ := h c ρ a w hs
  exact h' c ρ' a w h1
theorem Sat.sub (h : Sat c ρ s a w) {R' : Roots} (hR : R'.Sublist s.roots) : Sat c ρ { s with roots := R' } a w := by
  have hM : ∀ b, Mine ρ R' b → Mine ρ s.roots b := fun b ⟨x, hx, e⟩ => ⟨x, hR.subset hx, e⟩
  have hk : ∀ b o, ¬ Mine ρ s.roots b → w.heap[b]? = some o → w.heap[b]? = some o ∧ ¬ Mine ρ R' b := fun b o h1 h2 => ⟨h2, fun h3 => h1 (hM b h3)⟩
  refine ⟨⟨fun x hx => ?_, h.rs.apart.sublist hR, h.rs.ids.sublist (hR.map _)⟩, fun t x hx => ?_, h.size, h.only, fun b hb => h.mine b (hM b hb), h.old, h.n0, h.defs⟩
  · obtain ⟨h1, h2⟩ := h.rs.ok x (hR.subset hx)
    exact ⟨h1, h2.mono (fun _ _ => rfl) (Nat.le_refl _) hk (fun _ _ => rfl)⟩
  · obtain ⟨v, h1, h2⟩ := h.env t x hx
    exact ⟨v, h1.mono (fun _ _ => rfl) (Nat.le_refl _) hk, h2⟩
/-- Only these slots and roots are known from here on. -/
theorem Canon.drop {e E : Env} {R R' : Roots} {n z : Nat} {ds : List Deferred} (hE : lkAll e E) (hR : R'.Sublist R) : Canon ⟨e, R, n, z, ds⟩ ⟨E, R', n, z, ds⟩ := fun c ρ a w h =>
  ⟨ρ, (h.sub hR).less (lk_all hE)⟩
theorem Canon.slotRow {t : Nat} {A : Option Addr} (sh : Sh) (ht : lk s.env t = some (.one (.v (.slice A 0 0)))) : Canon s (asRowK s t sh) := fun c ρ a w h => ⟨_, h.slotRow sh ht⟩
theorem cw_canon {cd : Code} {Q : Exit → St → Prop} (hc : Canon s s') (h : CW P cd Q s') : CW P cd Q s := fun c ρ a w hs => by
  obtain ⟨ρ', h1⟩ := hc c ρ a w hs
  exact h c ρ' a w h1
/-- A loop, each round seen otherwise. -/
theorem cw_loopc {cd : Code} {Q : Exit → St → Prop} (I : Nat → St → Prop) (n : Nat) (h0 : ∃ s0, Canon s s0 ∧ I n s0) (round : ∀ n s, I n s → vc P cd (thenQ (fun s' => ∃ m, m < n ∧ ∃ s0, Canon s' s0 ∧ I m s0) Q) s) : CW P (.loop cd) Q s := by
  intro c ρ a w hs
  obtain ⟨s0, hc, h0⟩ := h0
  obtain ⟨ρ0, hs0⟩ := hc c ρ a w hs
  refine wp_loopN (fun n a w => ∃ ρ s, Sat c ρ s a w ∧ I n s) n ⟨ρ0, s0, hs0, h0⟩ fun n a w ⟨ρ, s, hs, hI⟩ => wp_mono (vc_sound cd _ s (round n s hI) c ρ a w hs) fun e a' w' hq => ?_
  obtain ⟨ρ', s', h1, h2⟩ := hq
  cases e with
  | normal =>
    obtain ⟨m, hm, s1, hc1, hI'⟩ := h2
    obtain ⟨ρ1, hs1⟩ := hc1 c ρ' _ _ h1
    exact ⟨m, hm, ρ1, s1, hs1, hI'⟩
  | _ => exact ⟨ρ', s', h1, h2⟩
/-- What holds behind a part of the code, seen otherwise. -/
theorem cw_cut {cd : Code} {Q : Exit → St → Prop} (J : St → Prop) (h : CW P cd (fun e s' => match e with | .normal => ∃ s0, Canon s' s0 ∧ J s0 | _ => False) s) (hq : ∀ s0, J s0 → Q .normal s0) : CW P cd Q s := fun c ρ a w hs =>
  wp_mono (h c ρ a w hs) fun e a' w' hx => by
    obtain ⟨ρ', s', h1, h2⟩ := hx
    cases e with
    | normal =>
      obtain ⟨s0, hc, hJ⟩ := h2
      obtain ⟨ρ1, h3⟩ := hc c ρ' _ _ h1
      exact ⟨ρ1, s0, h3, hq s0 hJ⟩
    | _ => exact h2.elim
/-- An elder number beside the next ones. -/
theorem elder {T n : Nat} (h : T < n) : (T = n) = False ∧ (n = T) = False ∧ (∀ k, (T = n + k) = False) ∧ ∀ k, (n + k = T) = False := by
  refine ⟨?_, ?_, fun k => ?_, fun k => ?_⟩ <;> simp <;> omega
theorem ne_false {a b : Nat} (h : a ≠ b) : (a = b) = False ∧ (b = a) = False := ⟨by simp [h], by simp [h.symm]⟩
/-- A return of a function that has written over the one row that it took. -/
theorem ret_put {us rs : List LV} {sh : Sh} {xs : List LV} {Q : EV → Roots → Prop} (hds : s.ds = []) (hr : rootOf s.roots 0 = some (.row sh xs)) (hx : lowL xs = true) (hf : fzL s false [0] us = rs) (hu : lowL rs = true) (hQ : Q (xOf rs) [(0, .row sh xs)]) : RetTo 1 0 false Q s us :=
  RetNow.to ⟨(fun h => by cases h), hds, id, rs, [(0, .row sh xs)], by rw [lowL_ren hu]; exact hf, hQ, lowL_spec 1 hu, by simp, fun y hy => by
    rw [List.mem_singleton.1 hy]
    refine ⟨by omega, ?_, ?_⟩
    · simp only [Root.ren, lowL_ren hx]; exact hr
    · simp only [Root.under]; exact lowL_spec _ hx, fun i hi => rfl, by simp⟩
mutual
theorem free_low : ∀ {t : LV}, t.free = true → t.low = true
  | .v _, _ => rfl
  | .st _ ts, h => by simp only [LV.free, LV.low] at *; exact freeL_low h
  | .arr _ _ ts, h => by simp only [LV.free, LV.low] at *; exact freeL_low h
  | .vec _ _ ts, h => by simp only [LV.free, LV.low, Bool.and_eq_true] at *; exact freeL_low h.2
theorem freeL_low : ∀ {ts : List LV}, freeL ts = true → lowL ts = true
  | [], _ => rfl
  | t :: ts, h => by simp only [freeL, lowL, Bool.and_eq_true] at *; exact ⟨free_low h.1, freeL_low h.2⟩
end
/-- A call that gives a row of its own. -/
theorem callTo_row {f : FuncId} {uc us : List LV} {sh : Sh} {xs : List LV} {K : EV → St → Prop} {KP : List PanicEntry → St → Prop} (h : Fn P f us [] 1 (fun x R' => x = .one (.hd 0) ∧ R' = [(0, .row sh xs)]) NoP) (harg : oldL (fzL s false [] uc) = us) (hu : lowL us = true) (hx : freeL xs = true)
    (hK : K (.one (.hd s.next)) { s with roots := (s.next, .row sh xs) :: s.roots, next := s.next + 1 }) : CallTo P f uc s K KP := by
  refine callTo_of h id rfl (fun y hy => by cases hy) .nil (by rw [renL_id (lowL_spec 0 hu)]; exact harg) (lowL_spec 0 hu) (fun r R' hq => ?_) (fun ch R' hq => hq.elim)
  obtain ⟨rfl, rfl⟩ := hq
  refine ⟨by simp only [EV.new, LV.new], fun y hy => by rw [List.mem_singleton.1 hy]; exact (freeL_spec 0 hx).2, ?_⟩
  have e1 : EV.ren (callNames id ([] : Roots).length s.next) (.one (.hd 0)) = .one (.hd s.next) := by simp [EV.ren, LV.ren, callNames]
  have e2 : afterCall s id 0 1 [] [(0, .row sh xs)] = { s with roots := (s.next, .row sh xs) :: s.roots, next := s.next + 1 } := by
    simp only [afterCall, List.map_cons, List.map_nil, Root.ren, callNames, Nat.lt_irrefl, if_false, Nat.sub_self, Nat.add_zero]
    rw [lowL_ren (freeL_low hx)]
    simp
  rw [e1]
  show K _ (afterCall s id 0 1 [] [(0, .row sh xs)])
  rw [e2]
  exact hK
theorem callP_row {n0 : Nat} {f : FuncId} {uc us : List LV} {sh : Sh} {xs : List LV} {K : EV → St → Prop} (h : Fn P f us [] 1 (fun x R' => x = .one (.hd 0) ∧ R' = [(0, .row sh xs)]) NoP) (harg : oldL (fzL s false [] uc) = us) (hu : lowL us = true) (hx : freeL xs = true)
    (hK : K (.one (.hd s.next)) { s with roots := (s.next, .row sh xs) :: s.roots, next := s.next + 1 }) : CallP P f uc s n0 K := by
  refine callP_new h harg (lowL_spec 0 hu) (fun r R' hq => ?_)
  obtain ⟨rfl, rfl⟩ := hq
  refine ⟨by simp only [EV.new, LV.new], fun y hy => by rw [List.mem_singleton.1 hy]; exact (freeL_spec 0 hx).2, ?_⟩
  have e1 : EV.ren (callNames id 0 s.next) (.one (.hd 0)) = .one (.hd s.next) := by simp [EV.ren, LV.ren, callNames]
  have e2 : afterCall s id 0 1 [] [(0, .row sh xs)] = { s with roots := (s.next, .row sh xs) :: s.roots, next := s.next + 1 } := by
    simp only [afterCall, List.map_cons, List.map_nil, Root.ren, callNames, Nat.lt_irrefl, if_false, Nat.sub_self, Nat.add_zero]
    rw [lowL_ren (freeL_low hx)]
    simp
  rw [e1, e2]
  exact hK
/-- A call that writes over one row that it takes. -/
theorem callTo_upd {f : FuncId} {uc us : List LV} {sh : Sh} {xs ys : List LV} {y : EV} {K : EV → St → Prop} {KP : List PanicEntry → St → Prop} (id : Nat) (h : Fn P f us [(0, .row sh xs)] 0 (fun x R' => x = y ∧ R' = [(0, .row sh ys)]) NoP) (hr : rootOf s.roots id = some (.row sh xs)) (hxo : oldL xs = xs) (hx : lowL xs = true)
    (harg : oldL (fzL s false [id] uc) = renL (fun _ => id) us) (hu : underL 1 us) (hy : freeL ys = true) (hyf : y.free = true) (hK : K y { s with roots := (id, .row sh ys) :: dropRoot s.roots id }) : CallTo P f uc s K KP := by
  refine callTo_of h (fun _ => id) rfl (fun z hz => ?_) (by simp) harg hu (fun r R' hq => ?_) (fun ch R' hq => hq.elim)
  · rw [List.mem_singleton.1 hz]
    simp only [hr, Option.map_some, Root.old, Root.ren, hxo, lowL_ren hx, Root.under]
    exact ⟨trivial, lowL_spec _ hx⟩
  · obtain ⟨rfl, rfl⟩ := hq
    refine ⟨(EV.free_spec hyf).2, fun z hz => by rw [List.mem_singleton.1 hz]; exact (freeL_spec 0 hy).2, ?_⟩
    rw [EV.ren_id (EV.free_spec hyf).1]
    have e2 : afterCall s (fun _ => id) 1 0 [id] [(0, .row sh ys)] = { s with roots := (id, .row sh ys) :: dropRoot s.roots id } := by
      simp only [afterCall, List.map_cons, List.map_nil, Root.ren, callNames, Nat.add_zero]
      rw [lowL_ren (freeL_low hy)]
      simp only [dropRoot, Nat.zero_lt_one, if_true, List.cons_append, List.nil_append]
      congr 2
      apply List.filter_congr
      intro x _
      by_cases h : x.1 = id <;> simp [h]
    show K _ (afterCall s (fun _ => id) 1 0 [id] [(0, .row sh ys)])
    rw [e2]
    exact hK
section
variable {α : Type} {lv : α → LV} {cells : α → List Value} {sh : Sh}
mutual
theorem plain_free : ∀ {t : LV} {c : List Value}, t.plain = some c → t.free = true ∧ t.old = t
  | .v x, _, _ => ⟨rfl, rfl⟩
  | .st ss ts, _, h => by
    simp only [LV.plain] at h
    obtain ⟨h1, h2⟩ := plainL_free h
    simp only [LV.free, LV.old, h2]
    exact ⟨h1, trivial⟩
theorem plainL_free : ∀ {ss : List Sh} {ts : List LV} {c : List Value}, plainL ss ts = some c → freeL ts = true ∧ oldL ts = ts
  | [], [], _, _ => ⟨rfl, rfl⟩
  | s :: ss, t :: ts, _, h => by
    simp only [plainL] at h
    split at h
    · rename_i c cs e1 e2
      obtain ⟨h1, h2⟩ := plain_free e1
      obtain ⟨h3, h4⟩ := plainL_free e2
      simp only [freeL, oldL, h1, h2, h3, h4, Bool.and_self, and_self]
    · cases h
end
/-- A row of cells is a slice that is only read. -/
theorem Flat.val (h : Flat lv cells sh) {xs : List α} {v : Value} {L : Blocks} (hR : Row sh.size v (xs.map cells) L) (hL : Holds w L) : Val ρ N B w (fun _ => False) (.vec false sh (xs.map lv)) v := by
  obtain ⟨h1, h2⟩ := hR
  rcases h2 with ⟨hx, _, A, c, rfl⟩ | ⟨b, off, cap, cur, e, fr, rfl, h3, rfl, h4, h5⟩
  · have : xs = [] := List.map_eq_nil_iff.1 hx
    subst this
    exact ⟨_, .nil, rfl⟩
  · rw [List.length_map] at h3
    have hblk := hL _ (List.mem_singleton.2 rfl)
    have hc : Con ρ N B w (fun _ => False) (.vec false sh (xs.map lv)) [.slice (some ⟨b, off, none⟩) (xs.map lv).length cap] := by
      refine .vec (by rw [List.length_map]; exact h3) h4 id (fun e => by cases e) hblk ?_
      have hfl := length_flatten_of h1
      rw [List.length_map] at hfl
      have : (cur.toList.drop off).take ((xs.map lv).length * sh.size) = (xs.map cells).flatten := by
        rw [List.length_map]
        apply List.ext_getElem?
        intro j
        by_cases hj : j < xs.length * sh.size
        · rw [List.getElem?_take, if_pos hj, List.getElem?_drop, Array.getElem?_toList]
          have hs0 : 0 < sh.size := by rcases Nat.eq_zero_or_pos sh.size with e0 | e0; · rw [e0] at hj; omega
                                       · exact e0
          have hi : j / sh.size < xs.length := (Nat.div_lt_iff_lt_mul hs0).2 hj
          have hm : j % sh.size < sh.size := Nat.mod_lt _ hs0
          have hlen : (cells xs[j / sh.size]).length = sh.size := h.len _
          have hu : ((xs.map cells)[j / sh.size]?.bind (·[j % sh.size]?)) = some (cells xs[j / sh.size])[j % sh.size] := by
            rw [List.getElem?_map, List.getElem?_eq_getElem hi]
            simp only [Option.map_some, Option.bind_some]
            exact List.getElem?_eq_getElem (by omega)
          have a1 := h5 _ _ _ hu
          have a2 := flatten_at h1 hu
          have e1 : j / sh.size * sh.size + j % sh.size = j := by rw [Nat.mul_comm]; exact Nat.div_add_mod j sh.size
          rw [e1] at a2
          rw [Nat.add_assoc, e1] at a1
          rw [a1, a2]
        · rw [List.getElem?_eq_none (by rw [List.length_take]; omega), List.getElem?_eq_none (by omega)]
      rw [this, List.length_map]
      exact h.cons xs
    exact ⟨_, hc, by simp [pack, LV.shape, Sh.isAgg]⟩
theorem Flat.old (h : Flat lv cells sh) (xs : List α) : oldL (xs.map lv) = xs.map lv := by
  rw [oldL_map]
  exact List.map_congr_left fun x _ => (plain_free (h.plain x)).2
theorem Flat.free (h : Flat lv cells sh) (xs : List α) : freeL (xs.map lv) = true := freeL_map lv xs fun x => (plain_free (h.plain x)).1
theorem Flat.low (h : Flat lv cells sh) (xs : List α) : lowL (xs.map lv) = true := freeL_low (h.free xs)
end
end Go.Proofs.Ytoimeebildcofaa
namespace Go.Proofs.Ytoimeebildcofaa
open Go.RowKit
set_option linter.unusedSimpArgs false
set_option linter.unusedVariables false
theorem LXp : LXiT ∧ LXqT ∧ LXjT ∧ LXcT ∧ LXoT ∧ LXkT ∧ LXdT := ⟨LXi, LXq, LXj, LXc, LXo, LXk, LXd⟩
theorem LXa : LXeT ∧ LXsT ∧ LXgT ∧ LXbT ∧ LXtT ∧ LXuT ∧ LXvT ∧ LXwT ∧ LXxT ∧ LXzT ∧ (∀ e' : Env, lkAll e' [] = True) ∧ (∀ (e' e : Env) (k : Nat) (v : EV), lkAll e' ((k, v) :: e) = (lk e' k = some v ∧ lkAll e' e)) :=
  ⟨LXe, LXs, LXg, LXb, LXt, LXu, LXv, LXw, LXx, LXz, lkAll_nil, fun e' e k v => lkAll_cons e' e k v⟩
theorem LXm : (∀ p : Prop, (True ∧ p) = p) ∧ (∀ p : Prop, (p ∧ True) = p) ∧ (∀ {α : Type} {h : Decidable True} (x y : α), (if True then x else y) = x) ∧ (∀ {α : Type} {h : Decidable False} (x y : α), (if False then x else y) = y) ∧
    (∀ {α : Type} (a : α) (l m : List α), a :: l ++ m = a :: (l ++ m)) ∧ (∀ {α : Type} (l : List α), [] ++ l = l) ∧ (∀ {α : Type} (a b : α), (a ≠ b) = ¬a = b) ∧ ((¬False) = True) ∧
    (∀ h : Decidable True, @decide True h = true) ∧ (∀ h : Decidable False, @decide False h = false) ∧ (∀ (p : Prop) [Decidable p], (decide p = true) = p) ∧ (∀ (p : Prop) [Decidable p], (decide p = false) = ¬p) ∧ (∀ p : Prop, (False → p) = True) ∧ (∀ p : Prop, (True → p) = p) ∧
    (∀ {α β : Type} (a : α) (f : α → Option β), (some a).bind f = f a) ∧ (∀ {α β : Type} (a : α) (f : α → β), (some a).map f = some (f a)) ∧ (∀ {α β : Type} (x : β) (f : α → β) (a : α), (some a).elim x f = f a) ∧
    (∀ {α : Type} (a : α) (l : List α), (a :: l)[0]? = some a) ∧ (∀ {α : Type} (a : α) (l : List α) (i : Nat), (a :: l)[i + 1]? = l[i]?) ∧ (∀ {α : Type} (a b : α) (l : List α), (a :: l).set 0 b = b :: l) ∧ (∀ {α : Type} (a b : α) (l : List α) (n : Nat), (a :: l).set (n + 1) b = a :: l.set n b) ∧
    (∀ {α : Type}, ([] : List α).length = 0) ∧ (∀ {α : Type} (a : α) (l : List α), (a :: l).length = l.length + 1) := by
  refine ⟨?_, ?_, ?_, ?_, ?_, ?_, ?_, ?_, ?_, ?_, ?_, ?_, ?_, ?_, ?_, ?_, ?_, ?_, ?_, ?_, ?_, ?_, ?_⟩ <;> intros <;> simp
theorem LXn' : (∀ n : Nat, (n < 0) = False) ∧ (∀ n : Nat, (0 < n.succ) = True) ∧ (∀ n : Nat, (n ≤ n) = True) ∧ (∀ n : Nat, (n < n) = False) ∧ (∀ n : Nat, (0 ≤ n) = True) ∧ (∀ {α : Type} (a : α), (a = a) = True) ∧ (∀ p : Prop, (p ∧ p) = p) ∧
    (∀ {α : Type} (a b : α) (l m : List α), (a :: l = b :: m) = (a = b ∧ l = m)) ∧ ((!true) = false) ∧ ((!false) = true) := by
  refine ⟨?_, ?_, ?_, ?_, ?_, ?_, ?_, ?_, ?_, ?_⟩ <;> intros <;> simp
end Go.Proofs.Ytoimeebildcofaa
