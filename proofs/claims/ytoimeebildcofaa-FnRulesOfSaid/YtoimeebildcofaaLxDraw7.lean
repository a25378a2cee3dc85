/- Draws by old contracts as draws by roots; the draw of tables. -/
import Derived.Test.YtoimeebildcofaaLxDraw1
import Derived.Test.YtoimeebildcofaaDraws4
namespace Go.Proofs.Ytoimeebildcofaa
open Go.RowKit Go.Proofs.YtoimeebildcofaaW.PrintLast
theorem dr_of_calls {f : FuncId} {c : Nat} {Q : EV → Prop} (hf : isFn Try.prog f = true)
    (h : ∀ (w : World) (g : Nat) (s : Value) (bs : List Int) (L : Blocks) (k : Nat), Rd w g s bs L k → k + c ≤ 1099511627776 → Calls Try.prog f #[.pointer (some ⟨g, 0, none⟩)] w fun e w' => ∃ v x, e = .returned v ∧ Q x ∧ (∀ ρ' N B w O, EVal ρ' N B w O x v) ∧ (∃ k', k' ≤ k + c ∧ Rd w' g s bs L k') ∧ Only (· = g) w w') :
    Dr0 Try.prog f [] c Q := by
  intro sl L p hrd hp
  refine ⟨hf, fun ρ w vs hR hF hV => ?_⟩
  obtain ⟨v, vs, rfl, h1, h2⟩ := hV.inv1
  obtain rfl := h2.inv0
  obtain ⟨hlt, hok⟩ := hR.ok _ List.mem_cons_self
  rcases hok with ⟨_, _, e, _⟩ | ⟨b, cur, e, q1, q2, q3, q4⟩
  · cases e
  have hρ : ρ 0 = .pointer (some ⟨b, 0, none⟩) := q3
  have hv : v = .pointer (some ⟨b, 0, none⟩) := by
    obtain ⟨cs, hc, hv⟩ := h1
    cases hc
    rw [hv]
    show pack _ [_] = _
    simp only [hρ]
    rfl
  subst hv
  obtain ⟨bs, hrow, hsm⟩ := hrd.row
  have hcur : cur[0]? = some sl ∧ cur[1]? = some (.int .i64 p) ∧ 2 ≤ cur.size := by
    simp only [Root.tree, rdv] at q2
    cases q2 with
    | st h5 =>
      generalize hl : List.take (LV.st [Sh.one, Sh.one] [LV.v sl, LV.v (Value.int IntKind.i64 ↑p)]).shape.size cur.toList = cs at h5
      cases h5 with
      | cons k1 k2 k3 =>
        cases k1
        cases k3 with
        | cons k4 k5 k6 =>
          cases k4
          cases k6
          have hl' : List.take 2 cur.toList = [sl, .int .i64 p] := hl
          have e0 := congrArg (·[0]?) hl'
          have e1 := congrArg (·[1]?) hl'
          have e2 := congrArg List.length hl'
          simp [List.getElem?_take] at e0 e1 e2
          exact ⟨e0, e1, by omega⟩
  have hM : Mine ρ [(0, .box (rdv sl p))] b := ⟨_, List.mem_cons_self, by rw [hρ]; rfl⟩
  refine (h w b sl bs L p ⟨⟨cur, e, q1, hcur.1, hcur.2.1, hcur.2.2⟩, hrow, fun q hq => (hF q hq).2, fun q hq e => (hF q hq).1 (e ▸ hM), hsm⟩ (by omega)).mono fun e' w' ⟨x', v', he, hq, hx, ⟨k', hk', hc⟩, ho⟩ => ?_
  subst he
  obtain ⟨cur', e2, g1, g2, g3, g4⟩ := hc.heap
  have hmine : ∀ b', Mine ρ [(0, .box (rdv sl k'))] b' ↔ b' = b := fun b' => by
    constructor
    · rintro ⟨y, hy, hb⟩
      rw [List.mem_singleton.1 hy] at hb
      simp only [hρ] at hb
      exact hb.symm
    · rintro rfl
      exact ⟨_, List.mem_cons_self, by rw [hρ]; rfl⟩
  have hmine0 : ∀ b', Mine ρ [(0, .box (rdv sl p))] b' ↔ b' = b := fun b' => by
    constructor
    · rintro ⟨y, hy, hb⟩
      rw [List.mem_singleton.1 hy] at hb
      simp only [hρ] at hb
      exact hb.symm
    · rintro rfl
      exact hM
  refine ⟨ρ, v', [(0, .box (rdv sl k'))], ⟨k', [], hk', rfl, hq, rfl⟩, ⟨⟨fun y hy => ?_, List.pairwise_singleton _ _, by simp⟩, fun _ _ => rfl, ho.mono fun k _ hk => (hmine0 k).2 hk, fun b' hb' => .inl ((hmine0 b').2 ((hmine b').1 hb'))⟩, hx _ _ _ _ _⟩
  rw [List.mem_singleton.1 hy]
  refine ⟨by simp, .inr ⟨b, cur', e2, g1, ?_, hρ, trivial⟩⟩
  have hl : List.take 2 cur'.toList = [sl] ++ [Value.int .i64 ((k' : Nat) : Int)] := by
    apply List.ext_getElem?
    intro j
    rcases j with _ | _ | j
    · simp [List.getElem?_take, g2]
    · simp [List.getElem?_take, g3]
    · rw [List.getElem?_eq_none (by rw [List.length_take]; omega), List.getElem?_eq_none (by simp)]
  simp only [Root.tree, rdv]
  show Con _ _ _ _ _ _ (List.take 2 cur'.toList)
  rw [hl]
  exact .st (.cons (.v hrd.one) rfl (.cons (cs := []) (.v rfl) rfl .nil))
/-- A table as it is handed on, its rows not looked into. -/
structure Tab where
  kind : Int
  size : Int
  most : Int
  keys : Value
  slots : Value
abbrev shTab : Sh := .st [.one, .one, .one, .one, .one]
def Tab.lv (t : Tab) : LV := .st [.one, .one, .one, .one, .one] [.v (.int .i64 t.kind), .v (.int .i64 t.size), .v (.int .i64 t.most), .v t.keys, .v t.slots]
theorem l20Table_dr : Dr0 Try.prog 84 [] 1000 (fun x => ∃ t : Tab, x = .one t.lv) := by
  refine dr_of_calls (by kernel_rfl) fun w g s bs L k R hk => ?_
  refine (l20Table_calls w g s bs L k R (by omega)).mono fun e w' ⟨u, kv, sv, he, _, ⟨M1, M2, hO⟩, ⟨k', hk', hR⟩, ho⟩ => ?_
  obtain ⟨A1, n1, c1, rfl⟩ := hO.1.row.slice
  obtain ⟨A2, n2, c2, rfl⟩ := hO.2.1.row.slice
  exact ⟨_, .one (Tab.lv ⟨u.kind, u.size, u.most, .slice A1 n1 c1, .slice A2 n2 c2⟩), he, ⟨_, rfl⟩, fun ρ' N B w O => ⟨_, .st (.cons (.v rfl) rfl (.cons (.v rfl) rfl (.cons (.v rfl) rfl (.cons (.v rfl) rfl (.cons (cs := []) (.v rfl) rfl .nil))))), rfl⟩, ⟨k', by omega, hR⟩, ho⟩
theorem flat_tab (ts : List Tab) : freeL (ts.map Tab.lv) = true := freeL_map Tab.lv ts (fun _ => rfl)
theorem low_tab (ts : List Tab) : lowL (ts.map Tab.lv) = true := lowL_map Tab.lv ts (fun _ => rfl)
end Go.Proofs.Ytoimeebildcofaa
