/- Draws by roots: a reader of bytes is a variable of the caller's; its bytes are facts in a slot. No condition. -/
import Derived.Test.YtoimeebildcofaaLxBase
namespace Go.Proofs.Ytoimeebildcofaa
open Go.RowKit
set_option linter.unusedSimpArgs false
set_option linter.unusedVariables false
abbrev shRd : Sh := .st [.one, .one]
def rdv (sl : Value) (p : Nat) : LV := .st [.one, .one] [.v sl, .v (.int .i64 p)]
structure RdOk (sl : Value) (L : Blocks) : Prop where
  one : sl.oneCell' = true
  row : ∃ vs : List Int, Row 1 sl (vs.map byteCell) L ∧ ∀ v, v ∈ vs → 0 ≤ v ∧ v ≤ 255
def Facts (L : Blocks) (R : Roots) (ρ : Nat → Value) (w : World) : Prop := ∀ p, p ∈ L → ¬ Mine ρ R p.1 ∧ w.heap[p.1]? = some p.2
/-- A function that draws from a reader (its first argument), at most c times. -/
def Dr (P : Program) (f : FuncId) (us : List LV) (k c : Nat) (Q : EV → Roots → Prop) : Prop :=
  ∀ (sl : Value) (L : Blocks) (p : Nat), RdOk sl L → p + c ≤ 1099511627776 →
    FnA P (fun ρ w => Facts L [(0, .box (rdv sl p))] ρ w) f (.pt 0 shRd [] :: us) [(0, .box (rdv sl p))] k (fun x R' => ∃ p' T, p' ≤ p + c ∧ R' = (0, .box (rdv sl p')) :: T ∧ Q x T) NoP
abbrev Dr0 (P : Program) (f : FuncId) (us : List LV) (c : Nat) (Q : EV → Prop) : Prop := Dr P f us 0 c (fun x T => Q x ∧ T = [])
abbrev Dr1 (P : Program) (f : FuncId) (us : List LV) (c : Nat) {α : Type} (sh : Sh) (lv : α → LV) (q : List α → Prop) : Prop := Dr P f us 1 c (fun x T => x = .one (.hd 1) ∧ ∃ ws, q ws ∧ T = [(1, .row sh (ws.map lv))])
theorem Sat.perm {c : Ctx} {ρ : Nat → Value} {s : St} {a : Act} {w : World} (h : Sat c ρ s a w) {R' : Roots} (hR : s.roots.Perm R') : Sat c ρ { s with roots := R' } a w := by
  have hM : ∀ b, Mine ρ R' b ↔ Mine ρ s.roots b := fun b => ⟨fun ⟨x, hx, e⟩ => ⟨x, hR.mem_iff.2 hx, e⟩, fun ⟨x, hx, e⟩ => ⟨x, hR.mem_iff.1 hx, e⟩⟩
  have hk : ∀ b o, ¬ Mine ρ s.roots b → w.heap[b]? = some o → w.heap[b]? = some o ∧ ¬ Mine ρ R' b := fun b o h1 h2 => ⟨h2, fun h3 => h1 ((hM b).1 h3)⟩
  refine ⟨⟨fun x hx => ?_, (hR.pairwise_iff (fun {x y} hxy b h1 h2 => hxy b h2 h1)).1 h.rs.apart, (hR.map _).nodup_iff.1 h.rs.ids⟩, fun t x hx => ?_, h.size, h.only, fun b hb => h.mine b ((hM b).1 hb), h.old, h.n0, h.defs⟩
  · obtain ⟨h1, h2⟩ := h.rs.ok x (hR.mem_iff.2 hx)
    exact ⟨h1, h2.mono (fun _ _ => rfl) (Nat.le_refl _) hk (fun _ _ => rfl)⟩
  · obtain ⟨v, h1, h2⟩ := h.env t x hx
    exact ⟨v, h1.mono (fun _ _ => rfl) (Nat.le_refl _) hk, h2⟩
/-- The same, the two roots that stay in the other order. -/
theorem Canon.dropSwap {e E : Env} {R : Roots} {x y : Nat × Root} {n z : Nat} {ds : List Deferred} (hE : lkAll e E) (hR : [x, y].Sublist R) : Canon ⟨e, R, n, z, ds⟩ ⟨E, [y, x], n, z, ds⟩ := fun _ ρ _ _ h =>
  ⟨ρ, ((h.sub hR).less (lk_all hE)).perm (List.Perm.swap y x [])⟩
theorem Canon.dropPerm {e E : Env} {R R1 R' : Roots} {n z : Nat} {ds : List Deferred} (hE : lkAll e E) (hR : R1.Sublist R) (hp : R1.Perm R') : Canon ⟨e, R, n, z, ds⟩ ⟨E, R', n, z, ds⟩ := fun _ ρ _ _ h =>
  ⟨ρ, ((h.sub hR).less (lk_all hE)).perm hp⟩
section
variable {P : Program} {s : St} {f : FuncId} {us uc : List LV} {k c p : Nat} {sl : Value} {L : Blocks} {Q : EV → Roots → Prop}
theorem dr_of {fn : Func} {cd : Code} (hf : P.funcs[f]? = some fn) (hb : fn.body = some cd) (hn : fn.name != "runtime.NumGoroutine") (hsz : us.length + 1 ≤ fn.ntmps)
    (h : ∀ (sl : Value) (L : Blocks) (p : Nat), RdOk sl L → p + c ≤ 1099511627776 → vc P cd (exitQ P fn 1 k false (fun x R' => ∃ p' T, p' ≤ p + c ∧ R' = (0, .box (rdv sl p')) :: T ∧ Q x T) NoP) ⟨(0, .fx L (.pt 0 shRd [])) :: envOf 1 us, [(0, .box (rdv sl p))], 1, fn.ntmps, []⟩) : Dr P f us k c Q := by
  intro sl L p hrd hp
  refine fnA_of (R := [(0, .box (rdv sl p))]) ((0, .fx L (.pt 0 shRd [])) :: envOf 1 us) false hf hb hn hsz (fun ρ w vs hA hV t x hx => ?_) (h sl L p hrd hp)
  cases hV with
  | cons h1 h2 =>
    simp only [lk] at hx
    split at hx
    · rename_i e
      simp only [Option.some.injEq] at hx
      subst e hx
      exact ⟨_, ⟨h1, fun q hq => hA q hq⟩, rfl⟩
    · obtain ⟨ht, u, hu, rfl⟩ := lk_envOf hx
      obtain ⟨v, g1, g2⟩ := h2.get hu
      exact ⟨v, g2, by rw [show t = (t - 1) + 1 by omega, List.getElem?_cons_succ]; exact g1⟩
theorem LXfx : (∀ (L : List (Nat × Obj)) (u : LV), EV.one? (.fx L u) = some u) ∧
    (∀ (s : St) (b : Bool) (g id : Nat), LV.fz s b [g] (.hd id) = if id = g then .hd id else match (rootOf s.roots id).bind Root.row? with | some q => .vec b q.1 q.2 | none => .hd id) := by
  refine ⟨fun _ _ => rfl, fun s b g id => ?_⟩
  simp only [LV.fz, List.mem_singleton, St.elems]
  split
  · rfl
  · cases rootOf s.roots id with
    | none => rfl
    | some r => cases r <;> rfl
/-- Such a call. -/
theorem callTo_dr {K : EV → St → Prop} {KP : List PanicEntry → St → Prop} (g t : Nat) (h : Dr P f us k c Q) (hrd : RdOk sl L) (u : LV) (hL : lk s.env t = some (.fx L u)) (hr : rootOf s.roots g = some (.box (rdv sl p))) (hp : p + c ≤ 1099511627776)
    (harg : oldL (fzL s false [g] uc) = .pt g shRd [] :: us) (hu : lowL us = true)
    (hK : ∀ p' x T, p' ≤ p + c → Q x T → x.new ∧ (∀ y ∈ T, y.2.new) ∧ K (x.ren (callNames (fun _ => g) 1 s.next)) { s with roots := (g, .box (rdv sl p')) :: (T.map (fun y => (callNames (fun _ => g) 1 s.next y.1, y.2.ren (callNames (fun _ => g) 1 s.next))) ++ dropRoot s.roots g), next := s.next + k }) : CallTo P f uc s K KP := by
  have h1 := h sl L p hrd hp
  have hmain := callX_of (K := K) (KP := fun _ _ => False) (s := s) (uc := uc) h1 (fun _ => g) (fun c ρ a w hs => ?_) rfl (fun z hz => ?_) (by simp) (us := .pt 0 shRd [] :: us) ?_ ?_ (fun r R' hq => ?_) (fun ch R' hq => hq.elim)
  · refine ⟨hmain.1, fun c ρ a w vs hs hV => (hmain.2 c ρ a w vs hs hV).mono fun e w' he => ?_⟩
    cases e with
    | returned v => obtain ⟨ρ', s', r, g1, g2, g3, g4, _⟩ := he; exact ⟨ρ', s', r, g1, g2, g3, g4⟩
    | panicked ch => obtain ⟨_, _, _, _, hf⟩ := he; exact hf.elim
    | outgrown => exact he
  · intro q hq
    obtain ⟨v, ⟨_, h2⟩, _⟩ := hs.env t _ hL
    refine ⟨fun ⟨y, hy, hb⟩ => (h2 q hq).1 ⟨_, rootOf_mem hr, ?_⟩, (h2 q hq).2⟩
    exact hb
  · rw [List.mem_singleton.1 hz]
    simp only [hr, Option.map_some, Root.old, Root.ren, rdv, LV.old, LV.ren, oldL, renL, Root.under, LV.under, underL, and_self]
  · show oldL (fzL s false [g] uc) = _
    rw [harg]
    simp only [renL, LV.ren]
    rw [lowL_ren hu]
  · simp only [underL, LV.under, List.length_singleton, Nat.zero_lt_one, true_and]
    exact lowL_spec _ hu
  · obtain ⟨p', T, hp', rfl, hq⟩ := hq
    obtain ⟨k1, k2, k3⟩ := hK p' r T hp' hq
    refine ⟨k1, fun y hy => ?_, ?_⟩
    · rcases List.mem_cons.1 hy with rfl | hy
      · simp only [Root.new, rdv, LV.new, newL, and_self]
      · exact k2 y hy
    · have e2 : afterCall s (fun _ => g) 1 k [g] ((0, .box (rdv sl p')) :: T) = { s with roots := (g, .box (rdv sl p')) :: (T.map (fun y => (callNames (fun _ => g) 1 s.next y.1, y.2.ren (callNames (fun _ => g) 1 s.next))) ++ dropRoot s.roots g), next := s.next + k } := by
        simp only [afterCall, List.map_cons, Root.ren, rdv, LV.ren, renL, callNames, Nat.zero_lt_one, if_true, List.cons_append]
        congr 3
        simp only [dropRoot]
        apply List.filter_congr
        intro x _
        by_cases h : x.1 = g <;> simp [h]
      show K _ (afterCall s (fun _ => g) 1 k [g] ((0, .box (rdv sl p')) :: T))
      rw [e2]
      exact k3
theorem callTo_dr0 {Q : EV → Prop} {K : EV → St → Prop} {KP : List PanicEntry → St → Prop} (g t : Nat) (h : Dr0 P f us c Q) (hrd : RdOk sl L) (u : LV) (hL : lk s.env t = some (.fx L u)) (hr : rootOf s.roots g = some (.box (rdv sl p))) (hp : p + c ≤ 1099511627776)
    (harg : oldL (fzL s false [g] uc) = .pt g shRd [] :: us) (hu : lowL us = true)
    (hK : ∀ p' x, p' ≤ p + c → Q x → x.free = true ∧ K x { s with roots := (g, .box (rdv sl p')) :: dropRoot s.roots g }) : CallTo P f uc s K KP :=
  callTo_dr g t h hrd u hL hr hp harg hu fun p' x T hp' hq => by
    obtain ⟨hq, rfl⟩ := hq
    obtain ⟨k1, k2⟩ := hK p' x hp' hq
    refine ⟨(EV.free_spec k1).2, (fun y hy => by cases hy), ?_⟩
    rw [EV.ren_id (EV.free_spec k1).1]
    exact k2
theorem callTo_drE {Q : EV → Prop} {K : EV → St → Prop} {KP : List PanicEntry → St → Prop} (g t : Nat) (h : Dr0 P f us c Q) (hrd : RdOk sl L) (u : LV) (hL : lk s.env t = some (.fx L u))
    (harg : oldL (fzL s false [g] uc) = .pt g shRd [] :: us) (hu : lowL us = true)
    (hK : ∃ p, rootOf s.roots g = some (.box (rdv sl p)) ∧ p + c ≤ 1099511627776 ∧ ∀ p' x, p' ≤ p + c → Q x → x.free = true ∧ K x { s with roots := (g, .box (rdv sl p')) :: dropRoot s.roots g }) : CallTo P f uc s K KP := by
  obtain ⟨p, hr, hp, hK⟩ := hK
  exact callTo_dr0 g t h hrd u hL hr hp harg hu hK
theorem callTo_dr1 {α : Type} {sh : Sh} {lv : α → LV} {q : List α → Prop} {K : EV → St → Prop} {KP : List PanicEntry → St → Prop} (g t : Nat) (h : Dr1 P f us c sh lv q) (hrd : RdOk sl L) (u : LV) (hL : lk s.env t = some (.fx L u)) (hr : rootOf s.roots g = some (.box (rdv sl p))) (hp : p + c ≤ 1099511627776)
    (harg : oldL (fzL s false [g] uc) = .pt g shRd [] :: us) (hu : lowL us = true) (hx : ∀ ws : List α, freeL (ws.map lv) = true)
    (hK : ∀ p' ws, p' ≤ p + c → q ws → K (.one (.hd s.next)) { s with roots := (g, .box (rdv sl p')) :: (s.next, .row sh (ws.map lv)) :: dropRoot s.roots g, next := s.next + 1 }) : CallTo P f uc s K KP :=
  callTo_dr g t h hrd u hL hr hp harg hu fun p' x T hp' hq => by
    obtain ⟨rfl, ws, hq, rfl⟩ := hq
    refine ⟨by simp only [EV.new, LV.new], fun y hy => by rw [List.mem_singleton.1 hy]; exact (freeL_spec 0 (hx ws)).2, ?_⟩
    have := hK p' ws hp' hq
    have e1 : EV.ren (callNames (fun _ => g) 1 s.next) (.one (.hd 1)) = .one (.hd s.next) := by simp [EV.ren, LV.ren, callNames]
    rw [e1]
    simp only [List.map_cons, List.map_nil, Root.ren, callNames, Nat.lt_irrefl, if_false, Nat.sub_self, Nat.add_zero, List.cons_append, List.nil_append]
    rw [lowL_ren (freeL_low (hx ws))]
    exact this
theorem callTo_drE1 {α : Type} {sh : Sh} {lv : α → LV} {q : List α → Prop} {K : EV → St → Prop} {KP : List PanicEntry → St → Prop} (g t : Nat) (h : Dr1 P f us c sh lv q) (hrd : RdOk sl L) (u : LV) (hL : lk s.env t = some (.fx L u))
    (harg : oldL (fzL s false [g] uc) = .pt g shRd [] :: us) (hu : lowL us = true) (hx : ∀ ws : List α, freeL (ws.map lv) = true)
    (hK : ∃ p, rootOf s.roots g = some (.box (rdv sl p)) ∧ p + c ≤ 1099511627776 ∧ ∀ p' ws, p' ≤ p + c → q ws → K (.one (.hd s.next)) { s with roots := (g, .box (rdv sl p')) :: (s.next, .row sh (ws.map lv)) :: dropRoot s.roots g, next := s.next + 1 }) : CallTo P f uc s K KP := by
  obtain ⟨p, hr, hp, hK⟩ := hK
  exact callTo_dr1 g t h hrd u hL hr hp harg hu hx hK
theorem rdv_ren (σ : Nat → Nat) (sl : Value) (p : Nat) : (Root.box (rdv sl p)).ren σ = .box (rdv sl p) := rfl
/-- A draw's return. -/
theorem ret_dr0 {rs : List LV} {p' : Nat} {Q : EV → Prop} (hds : s.ds = []) (hr : rootOf s.roots 0 = some (.box (rdv sl p'))) (hf : fzL s false [0] us = rs) (hu : lowL rs = true) (hp : p' ≤ p + c) (hQ : Q (xOf rs)) :
    RetTo 1 0 false (fun x R' => ∃ p' T, p' ≤ p + c ∧ R' = (0, .box (rdv sl p')) :: T ∧ Q x ∧ T = []) s us :=
  RetNow.to ⟨(fun h => by cases h), hds, id, rs, [(0, .box (rdv sl p'))], by rw [lowL_ren hu]; exact hf, ⟨p', [], hp, rfl, hQ, rfl⟩, lowL_spec 1 hu, by simp, fun y hy => by
    rw [List.mem_singleton.1 hy]
    exact ⟨by omega, hr, by simp only [Root.under, rdv, LV.under, underL, and_self]⟩, fun i hi => rfl, by simp⟩
theorem ret_dr1 {α : Type} {sh : Sh} {lv : α → LV} {q : List α → Prop} {id' p' : Nat} {ws : List α} (hds : s.ds = []) (hr : rootOf s.roots 0 = some (.box (rdv sl p'))) (hr1 : rootOf s.roots id' = some (.row sh (ws.map lv))) (hne : id' ≠ 0) (hx : lowL (ws.map lv) = true) (hp : p' ≤ p + c) (hQ : q ws) :
    RetTo 1 1 false (fun x R' => ∃ p' T, p' ≤ p + c ∧ R' = (0, .box (rdv sl p')) :: T ∧ x = .one (.hd 1) ∧ ∃ ws, q ws ∧ T = [(1, .row sh (ws.map lv))]) s [.hd id'] :=
  RetNow.to ⟨(fun h => by cases h), hds, (fun i => if i = 0 then 0 else id'), [.hd 1], [(0, .box (rdv sl p')), (1, .row sh (ws.map lv))], by simp [fzL, LV.fz, renL, LV.ren], ⟨p', _, hp, rfl, rfl, ws, hQ, rfl⟩, by simp [underL, LV.under], by simp, fun y hy => by
    rcases List.mem_cons.1 hy with rfl | hy
    · exact ⟨by omega, hr, by simp only [Root.under, rdv, LV.under, underL, and_self]⟩
    · rw [List.mem_singleton.1 hy]
      refine ⟨by omega, ?_, ?_⟩
      · simp only [Root.ren, lowL_ren hx]
        exact hr1
      · simp only [Root.under]
        exact lowL_spec _ hx, fun i hi => by rw [show i = 0 by omega]; rfl, by simp; exact fun h => hne h.symm⟩
theorem ret_drE1 {α : Type} {sh : Sh} {lv : α → LV} {q : List α → Prop} {id' : Nat} (hds : s.ds = []) (hne : id' ≠ 0)
    (h : ∃ p' ws, rootOf s.roots 0 = some (.box (rdv sl p')) ∧ rootOf s.roots id' = some (.row sh (ws.map lv)) ∧ p' ≤ p + c ∧ lowL (ws.map lv) = true ∧ q ws) :
    RetTo 1 1 false (fun x R' => ∃ p' T, p' ≤ p + c ∧ R' = (0, .box (rdv sl p')) :: T ∧ x = .one (.hd 1) ∧ ∃ ws, q ws ∧ T = [(1, .row sh (ws.map lv))]) s [.hd id'] := by
  obtain ⟨p', ws, h1, h2, h3, h4, h5⟩ := h
  exact ret_dr1 hds h1 h2 hne h4 h3 h5
end
end Go.Proofs.Ytoimeebildcofaa
