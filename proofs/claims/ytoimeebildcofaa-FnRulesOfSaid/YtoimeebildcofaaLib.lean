/- Words that the walks of this seat share: which blocks hold what, rows that are read, rows of the call's own, what an append and a store leave. Plain lemmas; no condition. -/
import Derived.WalkKit
import Derived.Below
import Derived.Deep.Draws
import Derived.Deep.LoopGhost
import Derived.Deep.QuietTactic
import Derived.BigQuiet
import Derived.Outline
import Derived.WalkLawsBesides
import Derived.WalkSpells
import Derived.Maps.AppendAt
import Derived.Lib.Hide
import Derived.OwnWalk
import Derived.Deep.MidRow
import Derived.Laws.EntriesVeiled
import Derived.Laws.OwnMore
import Derived.Laws.MakeOwn
import Derived.StillTailTactics
import Derived.Lib.QuietBelow
namespace Go.Proofs.Ytoimeebildcofaa
open Go.RowKit

/-- Blocks and what they hold. -/
abbrev Blocks := List (Nat × Obj)
def Holds (w : World) (L : Blocks) : Prop := ∀ p, p ∈ L → w.heap[p.1]? = some p.2

/-- No block is in both. -/
def Apart (M N : Blocks) : Prop := ∀ p ∈ M, ∀ q ∈ N, p.1 ≠ q.1
/-- The blocks of L. -/
def Blk (L : Blocks) (x : Nat) : Prop := ∃ p ∈ L, p.1 = x
/-- From w to w' no elder block has changed but those of S. -/
structure Only (S : Nat → Prop) (w w' : World) : Prop where
  os : w'.os = w.os
  tape : w'.tape = w.tape
  output : w'.output = w.output
  size : w.heap.size ≤ w'.heap.size
  block : ∀ k, k < w.heap.size → ¬ S k → w'.heap[k]? = w.heap[k]?
theorem Only.refl (S : Nat → Prop) (w : World) : Only S w w := ⟨rfl, rfl, rfl, Nat.le_refl _, fun _ _ _ => rfl⟩
theorem Only.trans {S : Nat → Prop} {a b c : World} (h : Only S a b) (k : Only S b c) : Only S a c :=
  ⟨k.os.trans h.os, k.tape.trans h.tape, k.output.trans h.output, Nat.le_trans h.size k.size, fun i hi hn => (k.block i (Nat.lt_of_lt_of_le hi h.size) hn).trans (h.block i hi hn)⟩
theorem Only.mono {S T : Nat → Prop} {a b : World} (h : Only S a b) (hs : ∀ k, k < a.heap.size → S k → T k) : Only T a b :=
  ⟨h.os, h.tape, h.output, h.size, fun i hi hn => h.block i hi (fun hS => hn (hs i hi hS))⟩
theorem Only.of_below {S : Nat → Prop} {a b : World} (h : Below a.heap.size a b) : Only S a b := ⟨h.os, h.tape, h.output, h.size, fun i hi _ => h.block i hi⟩
theorem Only.below {S : Nat → Prop} {B : Nat} {a b c : World} (hb : Below B a b) (hB : B ≤ b.heap.size) (h : Only S b c) (hS : ∀ k, S k → B ≤ k) : Below B a c :=
  hb.trans ⟨h.os, h.tape, h.output, h.size, fun i hi => h.block i (by omega) (fun hs => by have := hS i hs; omega)⟩
theorem Only.alloc {S : Nat → Prop} {a b : World} (h : Only S a b) (o : Obj) : Only S a (b.alloc o) :=
  h.trans (Only.of_below ((Below.refl _ _).alloc (Nat.le_refl _) o))
theorem Only.drewN {S : Nat → Prop} {a b : World} (h : Only S a b) (n : Nat) : Only S a (b.drewN n) := ⟨h.os, h.tape, h.output, h.size, h.block⟩
theorem Only.drew {S : Nat → Prop} {a b : World} (h : Only S a b) : Only S a b.drew := ⟨h.os, h.tape, h.output, h.size, h.block⟩
theorem Only.setCell {S : Nat → Prop} {a b : World} (h : Only S a b) {p : Addr} (hp : S p.block ∨ a.heap.size ≤ p.block) (u : Value) : Only S a (b.setCell p u) :=
  ⟨h.os, h.tape, h.output, by simpa [World.setCell] using h.size, fun i hi hn => by
    rw [Below.heap_setCell b p u i (by rintro rfl; rcases hp with hp | hp; exact hn hp; omega)]
    exact h.block i hi hn⟩
theorem Only.then_below {S : Nat → Prop} {a b c : World} (h : Only S a b) (k : Below b.heap.size b c) : Only S a c := h.trans (Only.of_below k)
theorem Only.size' {S : Nat → Prop} {a b : World} (h : Only S a b) : a.heap.size ≤ b.heap.size := h.size

theorem below_drewN' {B : Nat} {a b : World} (h : Below B a b) (n : Nat) : Below B a (b.drewN n) := ⟨h.os, h.tape, h.output, h.size, h.block⟩
theorem below_trans' {B : Nat} {a b c : World} (h : Below B a b) (hB : B ≤ b.heap.size) (k : Below b.heap.size b c) : Below B a c := h.trans (k.mono hB)

theorem Holds.nil (w : World) : Holds w [] := fun _ h => by cases h
theorem Holds.app {w : World} {L M : Blocks} : Holds w (L ++ M) ↔ Holds w L ∧ Holds w M :=
  ⟨fun h => ⟨fun p hp => h p (List.mem_append_left _ hp), fun p hp => h p (List.mem_append_right _ hp)⟩, fun h p hp => (List.mem_append.1 hp).elim (h.1 p) (h.2 p)⟩
theorem Holds.lt {w : World} {L : Blocks} (h : Holds w L) {p : Nat × Obj} (hp : p ∈ L) : p.1 < w.heap.size := (Array.getElem?_eq_some_iff.1 (h p hp)).1
theorem Holds.only {S : Nat → Prop} {w w' : World} {L : Blocks} (h : Holds w L) (o : Only S w w') (hd : ∀ p, p ∈ L → ¬ S p.1) : Holds w' L := fun p hp => (o.block p.1 (h.lt hp) (hd p hp)).trans (h p hp)
theorem Holds.below {w w' : World} {L : Blocks} (h : Holds w L) (hb : Below w.heap.size w w') : Holds w' L := fun p hp => (hb.block p.1 (h.lt hp)).trans (h p hp)
theorem Holds.below' {B : Nat} {w w' : World} {L : Blocks} (h : Holds w L) (hb : Below B w w') (hB : ∀ p, p ∈ L → p.1 < B) : Holds w' L := fun p hp => (hb.block p.1 (hB p hp)).trans (h p hp)
theorem Holds.alloc {w : World} {L : Blocks} (h : Holds w L) (o : Obj) : Holds (w.alloc o) L := h.below ((Below.refl _ _).alloc (Nat.le_refl _) o)
theorem Holds.drewN {w : World} {L : Blocks} (h : Holds w L) (n : Nat) : Holds (w.drewN n) L := h
theorem Holds.one {w : World} {b : Nat} {o : Obj} (h : w.heap[b]? = some o) : Holds w [(b, o)] := fun p hp => by rw [List.mem_singleton.1 hp]; exact h
theorem Holds.get {w : World} {b : Nat} {o : Obj} (h : Holds w [(b, o)]) : w.heap[b]? = some o := h (b, o) (by simp)
theorem Holds.cell {w : World} {b : Nat} {cur : Array Value} {e : TypeId} {fr : Nat × Nat} (h : Holds w [(b, .cells cur e fr)]) {i : Nat} {u : Value} (hu : cur[i]? = some u) : w.cell? ⟨b, i, none⟩ = some u := by
  have := h.get
  simp [World.cell?, this, hu]
theorem Holds.mem {w : World} {L : Blocks} (h : Holds w L) {M : Blocks} (hs : ∀ p, p ∈ M → p ∈ L) : Holds w M := fun p hp => h p (hs p hp)

/-- The slice v reads css, each of sz cells, in the blocks L. -/
def Row (sz : Nat) (v : Value) (css : List (List Value)) (L : Blocks) : Prop :=
  (∀ c ∈ css, c.length = sz) ∧ ((css = [] ∧ L = [] ∧ ∃ A c, v = .slice A 0 c) ∨
  ∃ b off cap cur e fr, v = .slice (some ⟨b, off, none⟩) css.length cap ∧ css.length ≤ cap ∧ L = [(b, .cells cur e fr)] ∧ cap ≤ 9223372036854775807 ∧
    ∀ i j u, (css[i]?.bind (·[j]?)) = some u → cur[off + i * sz + j]? = some u)

/-- The slice v is the call's own, has css, in the blocks L (one, or none), from base on; the block may be longer. -/
def Own (base e sz : Nat) (v : Value) (css : List (List Value)) (L : Blocks) : Prop :=
  (∀ c ∈ css, c.length = sz) ∧ ((v = .slice none 0 0 ∧ css = [] ∧ L = []) ∨
  ∃ b cap cur, v = .slice (some ⟨b, 0, none⟩) css.length cap ∧ base ≤ b ∧ css.length ≤ cap ∧ cap ≤ 9223372036854775807 ∧ cap * sz ≤ cur.size ∧
    L = [(b, .cells cur e (0, 0))] ∧ cur.toList.take (css.length * sz) = css.flatten)

theorem length_flatten_of {css : List (List Value)} {sz : Nat} (h : ∀ c ∈ css, c.length = sz) : css.flatten.length = css.length * sz := by
  induction css with
  | nil => simp
  | cons c cs ih =>
    rw [List.flatten_cons, List.length_append, h c (by simp), ih (fun c hc => h c (by simp [hc])), List.length_cons, Nat.add_mul]
    omega
theorem flatten_at {css : List (List Value)} {sz : Nat} (h : ∀ c ∈ css, c.length = sz) {i j : Nat} {u : Value} (hu : (css[i]?.bind (·[j]?)) = some u) : css.flatten[i * sz + j]? = some u := by
  induction css generalizing i with
  | nil => simp at hu
  | cons c cs ih =>
    have hc := h c (by simp)
    rw [List.flatten_cons]
    cases i with
    | zero =>
      simp only [List.getElem?_cons_zero, Option.bind_some] at hu
      have hj : j < c.length := (List.getElem?_eq_some_iff.1 hu).1
      rw [Nat.zero_mul, Nat.zero_add, List.getElem?_append_left hj]
      exact hu
    | succ i =>
      simp only [List.getElem?_cons_succ] at hu
      have := ih (fun c hc => h c (by simp [hc])) hu
      rw [List.getElem?_append_right (by rw [hc, Nat.add_mul]; omega), hc, ← this]
      congr 1
      rw [Nat.add_mul]
      omega

theorem Own.row {base e sz : Nat} {v : Value} {css : List (List Value)} {L : Blocks} (h : Own base e sz v css L) : Row sz v css L := by
  obtain ⟨h0, ⟨rfl, rfl, rfl⟩ | ⟨b, cap, cur, rfl, hb, hl, hm, hs, rfl, ht⟩⟩ := h
  · exact ⟨h0, .inl ⟨rfl, rfl, _, _, rfl⟩⟩
  · refine ⟨h0, .inr ⟨b, 0, cap, cur, e, (0, 0), rfl, hl, rfl, hm, fun i j u hu => ?_⟩⟩
    have h1 := flatten_at h0 hu
    rw [← ht, List.getElem?_take] at h1
    split at h1
    · rw [Nat.zero_add, ← Array.getElem?_toList]; exact h1
    · cases h1
theorem Own.nil (base e sz : Nat) : Own base e sz (.slice none 0 0) [] [] := ⟨by simp, .inl ⟨rfl, rfl, rfl⟩⟩
theorem Own.lower {base base' e sz : Nat} {v : Value} {css : List (List Value)} {L : Blocks} (h : Own base e sz v css L) (hb : base' ≤ base) : Own base' e sz v css L := by
  obtain ⟨h0, h | ⟨b, cap, cur, h1, h2, h3⟩⟩ := h
  · exact ⟨h0, .inl h⟩
  · exact ⟨h0, .inr ⟨b, cap, cur, h1, by omega, h3⟩⟩
theorem Own.base {base e sz : Nat} {v : Value} {css : List (List Value)} {L : Blocks} (h : Own base e sz v css L) : ∀ p, p ∈ L → base ≤ p.1 := by
  obtain ⟨h0, ⟨rfl, rfl, rfl⟩ | ⟨b, cap, cur, rfl, hb, hl, hm, hs, rfl, ht⟩⟩ := h
  · simp
  · simpa using hb
theorem Own.nodup {base e sz : Nat} {v : Value} {css : List (List Value)} {L : Blocks} (h : Own base e sz v css L) : (L.map (·.1)).Nodup := by
  obtain ⟨h0, ⟨rfl, rfl, rfl⟩ | ⟨b, cap, cur, rfl, hb, hl, hm, hs, rfl, ht⟩⟩ := h <;> simp
theorem Row.lens {sz : Nat} {v : Value} {css : List (List Value)} {L : Blocks} (h : Row sz v css L) : ∃ A c, v = .slice A css.length c ∧ css.length ≤ 9223372036854775807 := by
  obtain ⟨h0, ⟨rfl, rfl, A, c, rfl⟩ | ⟨b, off, cap, cur, e, fr, rfl, hl, rfl, hm, _⟩⟩ := h
  · exact ⟨A, c, rfl, by simp⟩
  · exact ⟨_, _, rfl, by omega⟩

theorem wpList_now {P : Program} {ops : Array Oper} {Q : Exit → Act → World → Prop} {a : Act} {w : World} {rest : List Oper} {o : Oper} (hg : Region.wanted o (yielded ops a.tmps) = true)
    (h : ∀ K : Act → World → Prop, (∀ a w, wpList P ops Q rest a w → K a w) → o.wp P a w K Q) : wpList P ops Q (o :: rest) a w :=
  wpList_step fun K hK => by rw [if_pos hg]; exact h K hK
/-- What 'append(v, news...)' comes to, v the call's own, news read anywhere. -/
theorem run_append_own' {P : Program} (w : World) (base : Nat) (t ty e : TypeId) (i : TypeInfo) (z : Value) (sz bytes : Nat) (ht : P.underlying t = some (.slice e)) (hi : P.info? e = some i) (hz : i.zero = some z)
    (hsize : i.size = sz) (hby : i.bytes = bytes) (hzs : z.cells.size = sz) (hsz : 0 < sz) (v : Value) (css : List (List Value)) (L : Blocks) (ho : Own base e sz v css L) (hH : Holds w L)
    (a : Addr) (m c : Nat) (news : List (List Value)) (hn : ∀ c ∈ news, c.length = sz) (hm : news.length = m) (hnews : ∀ j u, news.flatten[j]? = some u → w.cell? (a.add j) = some u) (h1 : ∀ u ∈ news.flatten, u.oneCell' = true)
    (hbytes : (css.length + m) * bytes ≤ 140737488355328) (hb0 : 0 < bytes) (hbase : base ≤ w.heap.size) :
    ∃ v' w' L', (Builtin.append_ #[t, t] ty #[v, .slice (some a) m c]).run P w = .ok v' w' ∧ Own base e sz v' (css ++ news) L' ∧ Holds w' L' ∧ Only (fun k => ∃ p ∈ L, p.1 = k) w w' ∧ (L'.map (·.1) = L.map (·.1) ∨ ∃ o, L' = [(w.heap.size, o)]) := by
  subst hsize
  subst hby
  have hle : css.length + m ≤ 140737488355328 := Nat.le_trans (Nat.le_mul_of_pos_right _ hb0) hbytes
  have hnl : news.flatten.length = m * i.size := by rw [length_flatten_of hn, hm]
  have hcl : css.flatten.length = css.length * i.size := length_flatten_of ho.1
  have hall : ∀ c ∈ css ++ news, c.length = i.size := fun c hc => (List.mem_append.1 hc).elim (ho.1 c) (hn c)
  have hlen : (css ++ news).length = css.length + m := by rw [List.length_append, hm]
  have hfl : (css ++ news).flatten = css.flatten ++ news.flatten := List.flatten_append
  have grown : ∀ old, Own base e i.size (.slice (some ⟨w.heap.size, 0, none⟩) (css.length + m) (grownCap w (css.length + m) old e)) (css ++ news)
      [(w.heap.size, .cells (css.flatten.toArray ++ news.flatten.toArray ++ Builtin.zeroCells z.cells (grownCap w (css.length + m) old e - (css.length + m))) e (0, 0))] := fun old => by
    have hge := grownCap_ge w (css.length + m) old e
    have hcm := grownCap_le_maxLen w (css.length + m) old e (by simp only [maxLen]; omega)
    simp only [maxLen] at hcm
    refine ⟨hall, .inr ⟨_, _, _, by rw [hlen], hbase, by rw [hlen]; exact hge, hcm, ?_, rfl, ?_⟩⟩
    · simp only [Array.size_append, List.size_toArray, size_zeroCells, hzs, hcl, hnl, ← Nat.add_mul]
      exact Nat.mul_le_mul_right _ (by omega)
    · simp only [Array.toList_append]
      rw [hfl, hlen, Nat.add_mul, ← hcl, ← hnl, ← List.length_append, List.take_append_of_le_length (by simp)]
      exact List.take_length
  have onlyN : ∀ (X : Obj), Only (fun k => ∃ p ∈ L, p.1 = k) w (w.drew.alloc X) := fun X => ((Only.refl _ w).drew).alloc X
  obtain ⟨h0, ⟨rfl, rfl, rfl⟩ | ⟨b, cap, cur, rfl, hb, hl, hmx, hs, rfl, htk⟩⟩ := ho
  · by_cases hm0 : m = 0
    · subst hm0
      obtain rfl := List.eq_nil_of_length_eq_zero hm
      refine ⟨.slice none 0 0, w, [], ?_, Own.nil _ _ _, Holds.nil _, Only.refl _ _, .inl rfl⟩
      simp [Builtin.append_, run_underlying ht, sizeOf, typeInfo, hi, Builtin.lenOf, Builtin.firstCells, loadCells, loadCellsFrom]
    · have hr := run_append_nil (P := P) w t ty e i z ht hi hz a m c news.flatten hnl hnews (by omega) (by simp at hle; omega) (by have hb := hbytes; simp only [List.length_nil, Nat.zero_add] at hb; omega)
      have hg := grown 0
      simp only [List.length_nil, Nat.zero_add, List.nil_append, List.flatten_nil] at hg hr onlyN ⊢
      rw [show (([] : List Value).toArray ++ news.flatten.toArray) = news.flatten.toArray from by simp] at hg
      exact ⟨_, _, _, hr, hg, Holds.one (heap_alloc_new w.drew _), onlyN _, .inr ⟨_, rfl⟩⟩
  · have hg : w.heap[b]? = some (.cells cur e (0, 0)) := hH.get
    by_cases hroom : css.length + m ≤ cap
    · have hfit : css.length * i.size + news.flatten.length ≤ cur.size := by rw [hnl, ← Nat.add_mul]; exact Nat.le_trans (Nat.mul_le_mul_right _ hroom) hs
      have hr := run_append_room (P := P) w t ty e i ht hi b css.length cap cur hg a m c news.flatten hnl hnews h1 hroom hfit
      refine ⟨_, _, [(b, .cells (cur.toList.take (css.length * i.size) ++ news.flatten ++ cur.toList.drop (css.length * i.size + news.flatten.length)).toArray e (0, 0))], hr, ⟨hall, .inr ⟨b, cap, _, by rw [hlen], hb, by rw [hlen]; exact hroom, hmx, ?_, rfl, ?_⟩⟩, Holds.one (setRow_heap w b cur _ e _ hg), ⟨rfl, rfl, rfl, by simp, fun k _ hk => setRow_other w b k _ (fun e => hk ⟨_, List.mem_singleton.2 rfl, e.symm⟩)⟩, .inl rfl⟩
      · simp only [List.size_toArray, List.length_append, List.length_take, List.length_drop, Array.length_toList]
        omega
      · rw [htk, hfl, hlen, Nat.add_mul, ← hcl, ← hnl, ← List.length_append]
        exact List.take_left
    · have holds : ∀ j u, css.flatten[j]? = some u → w.cell? ((⟨b, 0, none⟩ : Addr).add j) = some u := fun j u hu => by
        rw [← htk, List.getElem?_take] at hu
        split at hu
        · rw [Addr.add_mid, Nat.zero_add]
          exact hH.cell (by rw [← Array.getElem?_toList]; exact hu)
        · cases hu
      have hr := run_append_grow (P := P) w t ty e i z ht hi hz ⟨b, 0, none⟩ css.length cap css.flatten hcl holds a m c news.flatten hnl hnews (by omega) (by omega) (growslice_fits (by omega) hbytes)
      exact ⟨_, _, _, hr, grown cap, Holds.one (heap_alloc_new w.drew _), onlyN _, .inr ⟨_, rfl⟩⟩

section
variable {P : Program} {w : World} {ops : Array Oper} {rest : List Oper} {o : Oper} {a : Act} {Q : Exit → Act → World → Prop}
/-- 'append(s, xs...)' in a walk. -/
theorem wpList_append' (hgd : Region.wanted o (yielded ops a.tmps) = true) (s x : Operand) (t : TypeId) (ho : o.op = .call { callee := .builtin .append, args := #[s, x], argTypes := #[t, t] })
    (base e : Nat) (i : TypeInfo) (z : Value) (sz bytes : Nat) (ht : P.underlying t = some (.slice e)) (hi : P.info? e = some i) (hz : i.zero = some z)
    (hsize : i.size = sz) (hby : i.bytes = bytes) (hzs : z.cells.size = sz) (hsz : 0 < sz) (v : Value) (css : List (List Value)) (L : Blocks) (hs : a.eval s = v) (hown : Own base e sz v css L) (hH : Holds w L)
    (ad : Addr) (m c : Nat) (news : List (List Value)) (hx : a.eval x = .slice (some ad) m c) (hn : ∀ c ∈ news, c.length = sz) (hm : news.length = m) (hnews : ∀ j u, news.flatten[j]? = some u → w.cell? (ad.add j) = some u) (h1 : ∀ u ∈ news.flatten, u.oneCell' = true)
    (hbytes : (css.length + m) * bytes ≤ 140737488355328) (hb0 : 0 < bytes) (hbase : base ≤ w.heap.size)
    (h : ∀ v' w' L', Own base e sz v' (css ++ news) L' → Holds w' L' → Only (fun k => ∃ p ∈ L, p.1 = k) w w' → (L'.map (·.1) = L.map (·.1) ∨ ∃ o, L' = [(w.heap.size, o)]) → wpList P ops Q rest (a.put o.dst v') w') :
    wpList P ops Q (o :: rest) a w := by
  refine wpList_now hgd fun K hK => ?_
  obtain ⟨v', w', L', hr, h2, h3, h4, h5⟩ := run_append_own' (P := P) w base t o.type e i z sz bytes ht hi hz hsize hby hzs hsz v css L hown hH ad m c news hn hm hnews h1 hbytes hb0 hbase
  unfold Oper.wp execOp
  simp only [ho, resolve, invoke, builtin, Sem.run_bind, Sem.run_pure, Result.andThen_ok, List.map_toArray, List.map_cons, List.map_nil, hs, hx, hr]
  exact hK _ _ (h v' w' L' h2 h3 h4 h5)
end

section
variable {P : Program} {ops : Array Oper} {rest : List Oper} {o : Oper} {a : Act} {Q : Exit → Act → World → Prop} {W : World}
/-- An arm is tried at the operation that writes slot N alone; at a store through slot p alone. -/
theorem gate_dst {N : Tmp} (_hN : o.dst = some N) (h : wpList P ops Q (o :: rest) a W) : wpList P ops Q (o :: rest) a W := h
theorem gate_store {t : TypeId} {p : Tmp} {v : Operand} (_ho : o.op = .store t (.tmp p) v) (h : wpList P ops Q (o :: rest) a W) : wpList P ops Q (o :: rest) a W := h
end
section
variable {P : Program} {w : World} {ops : Array Oper} {rest : List Oper} {o : Oper} {a : Act} {Q : Exit → Act → World → Prop}
/-- A value of whatever cells goes into the cells from offset off of block b on. -/
theorem wpList_put (hgd : Region.wanted o (yielded ops a.tmps) = true) (ty : TypeId) (x y : Operand) (ho : o.op = .store ty x y) (b off : Nat) (cs : List Value) (hx : a.eval x = .pointer (some ⟨b, off, none⟩)) (hy : (a.eval y).cells.toList = cs)
    (ht : w.there b off cs.length) (hi : (P.info? ty).map (·.size) = some cs.length) (h1 : cs.all (·.oneCell') = true) (h : wpList P ops Q rest (a.put o.dst undef) (w.setCells b off cs)) : wpList P ops Q (o :: rest) a w := by
  subst hy
  refine wpList_now hgd fun K hK => ?_
  have hr := run_storeCells_cells (P := P) b off (a.eval y).cells.toList 0 w (fun j hj => by simpa using (ht j (by simpa using hj)).1) (fun j hj => by simpa using (ht j (by simpa using hj)).2) (List.all_eq_true.1 h1)
  simp only [Nat.add_zero] at hr
  have hv : (storeVar ty ⟨b, off, none⟩ (a.eval y)).run P w = .ok () (w.setCells b off (a.eval y).cells.toList) := by
    cases hq : P.info? ty with
    | none => simp [hq] at hi
    | some i =>
      have hs : (a.eval y).cells.size = i.size := by simp [hq] at hi; omega
      simp [storeVar, sizeOf, typeInfo, hq, hs, hr]
  unfold Oper.wp execOp
  simp only [ho, hx, Instr.storeAt, Instr.sureAddr, Sem.run_bind, Sem.run_pure, Result.andThen_ok, hv]
  exact hK _ _ h
theorem wpList_conv (hgd : Region.wanted o (yielded ops a.tmps) = true) (src dst : TypeId) (x : Operand) (ho : o.op = .convert src dst x) (v u : Value) (hx : a.eval x = v) (hr : (convert src dst v).run P w = .ok u w) (h : wpList P ops Q rest (a.put o.dst u) w) :
    wpList P ops Q (o :: rest) a w := by
  refine wpList_now hgd fun K hK => ?_
  unfold Oper.wp execOp
  simp only [ho, Sem.run_bind, Sem.run_pure, Result.andThen_ok, hx, hr]
  exact hK _ _ h
end
theorem info_of {P : Program} {e : Nat} {z : Value} {sz bytes : Nat} (h : (P.info? e).map (fun i => (i.zero, i.size, i.bytes)) = some (some z, sz, bytes)) : ∃ i, P.info? e = some i ∧ i.zero = some z ∧ i.size = sz ∧ i.bytes = bytes := by
  obtain ⟨i, hi, hh⟩ := Option.map_eq_some_iff.1 h
  simp only [Prod.mk.injEq] at hh
  exact ⟨i, hi, hh.1, hh.2.1, hh.2.2⟩
theorem ret_of {v v' : Value} (h : v = v') : Ending.returned v = .returned v' := by rw [h]
theorem bool_of {a b : Bool} (h : a = b) : Ending.returned (.bool a) = .returned (.bool b) := by rw [h]
theorem int_of {a b : Int} (h : a = b) : Ending.returned (.int .i64 a) = .returned (.int .i64 b) := by rw [h]
/-- The cells of block b are cur, and stay so but from o on, where cs is stored. -/
theorem heap_setCells {b : Nat} {e : TypeId} : ∀ (vs : List Value) (o : Nat) (cur : Array Value) (w : World), w.heap[b]? = some (.cells cur e (0, 0)) → o + vs.length ≤ cur.size →
    (w.setCells b o vs).heap[b]? = some (.cells (cur.toList.take o ++ vs ++ cur.toList.drop (o + vs.length)).toArray e (0, 0))
  | [], o, cur, w, h, _ => by
    simp only [World.setCells, List.append_nil, List.length_nil, Nat.add_zero, List.take_append_drop, Array.toArray_toList]
    exact h
  | v :: vs, o, cur, w, h, hl => by
    have h1 := heap_setCell_same w b o cur e v h
    simp only [List.length_cons] at hl
    have h2 := heap_setCells vs (o + 1) (cur.setIfInBounds o v) (w.setCell ⟨b, o, none⟩ v) h1 (by simp; omega)
    rw [World.setCells, h2]
    congr 3
    apply List.ext_getElem?
    intro i
    have hs : (cur.setIfInBounds o v).toList = cur.toList.set o v := by simp
    rw [hs]
    simp only [List.append_assoc, List.getElem?_append, List.length_take, List.length_set, Array.length_toList, List.getElem?_take, List.getElem?_set, List.getElem?_drop, List.length_cons, List.cons_append, List.getElem?_cons]
    repeat' split
    all_goals first | rfl | omega | (congr 1; omega) | skip
    all_goals (try simp_all)
    all_goals (try omega)

/-- The cells of a block that was just laid. -/
theorem cells_new (w : World) (xs : Array Value) (t : TypeId) : ∀ j u, [xs.toList].flatten[j]? = some u → (w.alloc (.cells xs t)).cell? ((⟨w.heap.size, 0, none⟩ : Addr).add j) = some u := fun j u hu => by
  rw [Addr.add_mid, Nat.zero_add, cell_of_row _ _ _ xs t (0, 0) (heap_alloc_new w _), ← Array.getElem?_toList]
  simpa using hu
theorem below_alloc' {w W : World} (h : Below w.heap.size w W) (o : Obj) : Below w.heap.size w (W.alloc o) := h.alloc h.size o
theorem only_setCells {S : Nat → Prop} {b : Nat} : ∀ (vs : List Value) (o : Nat) (a w : World), Only S a w → (S b ∨ a.heap.size ≤ b) → Only S a (w.setCells b o vs)
  | [], _, _, _, h, _ => h
  | v :: vs, o, a, w, h, hb => by
    rw [World.setCells]
    exact only_setCells vs (o + 1) a _ (h.setCell (p := ⟨b, o, none⟩) hb v) hb
theorem size_setCells {b : Nat} : ∀ (vs : List Value) (o : Nat) (w : World), (w.setCells b o vs).heap.size = w.heap.size
  | [], _, _ => rfl
  | v :: vs, o, w => by
    rw [World.setCells, size_setCells vs]
    simp [World.setCell]
/-- Block b has room for n elements; the first ones are css. -/
def Fill (w : World) (b e sz n : Nat) (css : List (List Value)) : Prop :=
  ∃ cur, w.heap[b]? = some (.cells cur e (0, 0)) ∧ cur.size = n * sz ∧ css.length ≤ n ∧ (∀ c ∈ css, c.length = sz) ∧ cur.toList.take (css.length * sz) = css.flatten
theorem Fill.lt {w : World} {b e sz n : Nat} {css : List (List Value)} (h : Fill w b e sz n css) : b < w.heap.size := by
  obtain ⟨cur, h1, _⟩ := h
  exact (Array.getElem?_eq_some_iff.1 h1).1
theorem Fill.move {w w' : World} {b e sz n : Nat} {css : List (List Value)} (h : Fill w b e sz n css) (hb : w'.heap[b]? = w.heap[b]?) : Fill w' b e sz n css := by
  obtain ⟨cur, h1, h2⟩ := h
  exact ⟨cur, hb.trans h1, h2⟩
theorem Fill.below {w w' : World} {b e sz n : Nat} {css : List (List Value)} (h : Fill w b e sz n css) (hb : Below w.heap.size w w') : Fill w' b e sz n css := h.move (hb.block b h.lt)
theorem Fill.there {w : World} {b e sz n : Nat} {css : List (List Value)} (h : Fill w b e sz n css) (hl : css.length < n) : w.there b (css.length * sz) sz := by
  obtain ⟨cur, h1, h2, _⟩ := h
  intro j hj
  have : css.length * sz + j < cur.size := by
    rw [h2]
    have := Nat.mul_le_mul_right sz hl
    rw [Nat.succ_mul] at this
    omega
  exact ⟨by simp [World.cell?, h1, this], frozen_of_row w b _ cur e h1⟩
theorem Fill.store {w : World} {b e sz n : Nat} {css : List (List Value)} (h : Fill w b e sz n css) (hl : css.length < n) {c : List Value} (hc : c.length = sz) : Fill (w.setCells b (css.length * sz) c) b e sz n (css ++ [c]) := by
  obtain ⟨cur, h1, h2, h3, h4, h5⟩ := h
  have hfit : css.length * sz + c.length ≤ cur.size := by
    rw [h2, hc]
    have := Nat.mul_le_mul_right sz hl
    rw [Nat.succ_mul] at this
    omega
  refine ⟨_, heap_setCells c (css.length * sz) cur w h1 hfit, ?_, by simp; omega, fun x hx => (List.mem_append.1 hx).elim (h4 x) (fun hx => by rw [List.mem_singleton.1 hx]; exact hc), ?_⟩
  · simp only [List.size_toArray, List.length_append, List.length_take, List.length_drop, Array.length_toList]
    omega
  · rw [List.length_append, List.length_singleton, Nat.succ_mul, List.flatten_append, List.flatten_singleton, h5, ← hc]
    have : css.flatten.length = css.length * c.length := by rw [length_flatten_of h4, hc]
    rw [← this, ← List.length_append]
    exact List.take_left
theorem Fill.own {w : World} {b e sz n : Nat} {css : List (List Value)} (h : Fill w b e sz n css) (hl : css.length = n) {base : Nat} (hb : base ≤ b) (hn : n ≤ 9223372036854775807) :
    ∃ L, Own base e sz (.slice (some ⟨b, 0, none⟩) n n) css L ∧ Holds w L ∧ L.map (·.1) = [b] := by
  obtain ⟨cur, h1, h2, h3, h4, h5⟩ := h
  exact ⟨_, ⟨h4, .inr ⟨b, n, cur, by rw [hl], hb, by omega, hn, by omega, rfl, h5⟩⟩, Holds.one h1, rfl⟩
theorem Fill.of_owns {w : World} {b e sz n base : Nat} {cs : List Value} (h : w.ownsRow base e sz (.slice (some ⟨b, 0, none⟩) n n) n cs) : Fill w b e sz n [] := by
  rcases h.2 with ⟨h', _⟩ | ⟨g, cap, cur, h', _, hh, _, _, hs, _⟩
  · cases h'
  · injection h' with h1 h2 h3
    injection h1 with h1
    injection h1 with h1
    subst h1
    subst h3
    exact ⟨cur, hh, hs, by simp, by simp, by simp⟩
/-- An element of a row of the call's own: where it lies, and what a store there leaves. -/
theorem Own.at_ {base e sz n c : Nat} {A : Option Addr} {css : List (List Value)} {L : Blocks} (h : Own base e sz (.slice A n c) css L) {k : Nat} (hk : k < css.length) :
    ∃ b, A = some ⟨b, 0, none⟩ ∧ base ≤ b ∧ L.map (·.1) = [b] ∧ ∀ w, Holds w L → w.there b (k * sz) sz ∧
      ∀ d : List Value, d.length = sz → ∃ L', Own base e sz (.slice A n c) (css.set k d) L' ∧ Holds (w.setCells b (k * sz) d) L' ∧ L'.map (·.1) = [b] := by
  obtain ⟨h0, ⟨_, rfl, _⟩ | ⟨b, cap, cur, hv, hb, hl, hm, hs, rfl, ht⟩⟩ := h
  · cases hk
  · injection hv with h1 h2 h3
    subst h1 h2 h3
    have hkl : k * sz + sz ≤ css.length * sz := by
      have := Nat.mul_le_mul_right sz (Nat.succ_le_of_lt hk)
      rw [Nat.succ_mul] at this
      exact this
    have hcl : css.length * sz ≤ cur.size := Nat.le_trans (Nat.mul_le_mul_right _ hl) hs
    refine ⟨b, rfl, hb, rfl, fun w H => ⟨fun j hj => ?_, fun d hd => ?_⟩⟩
    · have hlt : k * sz + j < cur.size := by omega
      exact ⟨by simp [World.cell?, H.get, hlt], frozen_of_row w b _ cur e H.get⟩
    · refine ⟨_, ⟨fun c' hc' => ?_, .inr ⟨b, c, (cur.toList.take (k * sz) ++ d ++ cur.toList.drop (k * sz + d.length)).toArray, by rw [List.length_set], hb, by rw [List.length_set]; exact hl, hm, ?_, rfl, ?_⟩⟩, Holds.one (heap_setCells d (k * sz) cur w H.get (by omega)), rfl⟩
      · rcases List.mem_or_eq_of_mem_set hc' with h | h
        · exact h0 _ h
        · rw [h, hd]
      · simp only [List.size_toArray, List.length_append, List.length_take, List.length_drop, Array.length_toList]
        omega
      · have e1 : css.set k d = css.take k ++ [d] ++ css.drop (k + 1) := by
          rw [List.set_eq_take_append_cons_drop, if_pos hk]
          simp
        have e2 : (css.take k).flatten.length = k * sz := by
          rw [length_flatten_of (sz := sz) (fun c hc => h0 c (List.mem_of_mem_take hc)), List.length_take, Nat.min_eq_left (by omega)]
        have e3 : css.flatten = (css.take k).flatten ++ css[k] ++ (css.drop (k + 1)).flatten := by
          have h := congrArg List.flatten (List.take_append_drop k css)
          rw [List.drop_eq_getElem_cons hk, List.flatten_append, List.flatten_cons, ← List.append_assoc] at h
          exact h.symm
        have e4 : css[k].length = sz := h0 _ (List.getElem_mem hk)
        rw [List.length_set, e1]
        simp only [List.flatten_append, List.flatten_singleton]
        have e5 : cur.toList.take (k * sz) = (css.take k).flatten := by
          have h5 := congrArg (List.take (k * sz)) ht
          rw [List.take_take, Nat.min_eq_left (by omega), e3, List.append_assoc, List.take_left' e2] at h5
          exact h5
        have e6 : (cur.toList.drop (k * sz + sz)).take (css.length * sz - (k * sz + sz)) = (css.drop (k + 1)).flatten := by
          have h6 := congrArg (List.drop (k * sz + sz)) ht
          rw [List.drop_take, e3, List.drop_left' (by rw [List.length_append, e2, e4])] at h6
          exact h6
        rw [e5, hd, ← e6]
        generalize (css.take k).flatten = X at *
        rw [List.append_assoc, List.append_assoc, List.take_append, List.take_of_length_le (by rw [e2]; omega), List.take_append, List.take_of_length_le (by rw [e2]; omega), e2, hd]
        congr 3
        omega
/-- n marks, from the k-th on. -/
def marksOf {β : Type} (f : Nat → β) (k n : Nat) : List β := (List.range n).map (fun i => f (k + i))
theorem marksOf_len {β : Type} (f : Nat → β) (k n : Nat) : (marksOf f k n).length = n := by simp [marksOf]
theorem marksOf_get {β : Type} (f : Nat → β) {k n i : Nat} (h : i < n) : (marksOf f k n)[i]? = some (f (k + i)) := by simp [marksOf, h]
theorem marks_zero {β : Type} (f : Nat → β) (k : Nat) (ss : List β) : marksOf f k 0 ++ ss.drop 0 = ss := by simp [marksOf]
theorem marks_set {β : Type} (f : Nat → β) (k : Nat) (ss : List β) (j : Nat) (hj : j < ss.length) : (marksOf f k j ++ ss.drop j).set j (f (k + j)) = marksOf f k (j + 1) ++ ss.drop (j + 1) := by
  rw [List.set_append_right _ _ (by rw [marksOf_len]; omega), marksOf_len, Nat.sub_self, List.drop_eq_getElem_cons hj, List.set_cons_zero, marksOf, marksOf, List.range_succ, List.map_append]
  simp
def strCell (s : ByteArray) : List Value := [.string s]
def byteCell (v : Int) : List Value := [.int .u8 v]
def intCell (v : Int) : List Value := [.int .i64 v]
/-- A row that was just laid: in a block of its own. -/
theorem row_new (w : World) (xs : Array Value) (e : TypeId) (n : Nat) (css : List (List Value)) (h : css.length = n) (hn : n ≤ 9223372036854775807) (h1 : ∀ c ∈ css, c.length = 1) (hx : xs.toList = css.flatten) :
    Row 1 (.slice (some ⟨w.heap.size, 0, none⟩) n n) css [(w.heap.size, .cells xs e (0, 0))] ∧ Holds (w.alloc (.cells xs e)) [(w.heap.size, .cells xs e (0, 0))] :=
  ⟨⟨h1, .inr ⟨_, 0, n, xs, e, (0, 0), by rw [h], by omega, rfl, hn, fun i j u hu => by
    have := flatten_at h1 hu
    rw [← hx] at this
    rw [Nat.zero_add, ← Array.getElem?_toList]
    exact this⟩⟩, Holds.one (heap_alloc_new w _)⟩
theorem bnext {w b c : World} (h : Below w.heap.size w b) (k : Below b.heap.size b c) : Below w.heap.size w c := below_trans' h h.size k
theorem below_of_grown {w w' : World} (h : w.grownBy w' none) : Below w.heap.size w w' := ⟨h.os, h.tape, h.output, h.size, fun k hk => h.block k hk (by simp)⟩

/-- A row that is read: its k-th element, wherever the row lies. -/
theorem Row.at_ {sz n c : Nat} {A : Option Addr} {css : List (List Value)} {L : Blocks} {w : World} (h : Row sz (.slice A n c) css L) (H : Holds w L) {k : Nat} {cs : List Value} (hk : css[k]? = some cs) :
    ∃ b o, A = some ⟨b, o, none⟩ ∧ w.rangeAt b (o + k * sz) cs := by
  obtain ⟨h0, ⟨rfl, rfl, _⟩ | ⟨b, off, cap, cur, e, fr, hv, hl, rfl, hm, hc⟩⟩ := h
  · simp at hk
  · injection hv with h1 h2 h3
    exact ⟨b, off, h1, fun j u hu => H.cell (hc k j u (by rw [hk]; exact hu))⟩
theorem Row.len {sz n c : Nat} {A : Option Addr} {css : List (List Value)} {L : Blocks} (h : Row sz (.slice A n c) css L) : css.length = n ∧ n ≤ c ∧ n ≤ 9223372036854775807 ∨ css = [] ∧ n = 0 := by
  obtain ⟨h0, ⟨rfl, rfl, A', c', hv⟩ | ⟨b, off, cap, cur, e, fr, hv, hl, rfl, hm, hc⟩⟩ := h
  · injection hv with h1 h2 h3
    exact .inr ⟨rfl, h2⟩
  · injection hv with h1 h2 h3
    subst h2
    subst h3
    exact .inl ⟨rfl, hl, by omega⟩
theorem Row.len' {sz n c : Nat} {A : Option Addr} {css : List (List Value)} {L : Blocks} (h : Row sz (.slice A n c) css L) : css.length = n ∧ n ≤ 9223372036854775807 := by
  rcases h.len with ⟨h1, _, h2⟩ | ⟨rfl, rfl⟩
  · exact ⟨h1, h2⟩
  · simp
theorem Row.slice {sz : Nat} {v : Value} {css : List (List Value)} {L : Blocks} (h : Row sz v css L) : ∃ A n c, v = .slice A n c := by
  obtain ⟨A, c, rfl, _⟩ := h.lens
  exact ⟨A, _, c, rfl⟩
theorem Row.take {sz n c m : Nat} {A : Option Addr} {css : List (List Value)} {L : Blocks} (h : Row sz (.slice A n c) css L) (hm : m ≤ n) (h0 : 0 < m) : Row sz (.slice A m c) (css.take m) L := by
  obtain ⟨h1, ⟨rfl, rfl, A', c', hv⟩ | ⟨b, off, cap, cur, e, fr, hv, hl, rfl, hx, hc⟩⟩ := h
  · injection hv with h1 h2 h3
    omega
  · injection hv with h2 h3 h4
    subst h3 h4
    have hlen : (css.take m).length = m := by simp; omega
    refine ⟨fun c hc => h1 c (List.mem_of_mem_take hc), .inr ⟨b, off, c, cur, e, fr, by rw [hlen, h2], by omega, rfl, hx, fun i j u hu => hc i j u ?_⟩⟩
    rw [List.getElem?_take] at hu
    split at hu
    · exact hu
    · simp at hu
/-- 'string(b)' of bytes of the call's own. -/
theorem Own.text {P : Program} {base e : Nat} {v : Value} {zs : List Int} {L : Blocks} {w : World} (h : Own base e 1 v (zs.map byteCell) L) (H : Holds w L) (src dst u8 : TypeId) (hs : P.underlying src = some (.slice u8)) (he : P.underlying u8 = some (.int .u8)) (hd : P.underlying dst = some .string) :
    ∃ x : ByteArray, x.size = zs.length ∧ (convert src dst v).run P w = .ok (.string x) w := by
  obtain ⟨h0, ⟨rfl, hz, _⟩ | ⟨b, cap, cur, rfl, hb, hl, hm, hs', rfl, ht⟩⟩ := h
  · obtain rfl : zs = [] := by simpa using hz
    exact ⟨_, rfl, run_convert_bytes_nil w src u8 hs he 0 0 dst hd⟩
  · simp only [List.length_map] at *
    refine ⟨_, strOfNums_size zs, run_convert_bytes_arg w src u8 hs he b 0 zs.length cap zs rfl (fun i hi => ?_) dst hd⟩
    have h1 := flatten_at h0 (i := i) (j := 0) (u := .int .u8 (zs.getD i 0)) (by simp [List.getElem?_eq_getElem hi, byteCell, List.getD])
    rw [← ht, List.getElem?_take] at h1
    split at h1
    · refine H.cell ?_
      rw [Nat.zero_add, ← Array.getElem?_toList]
      simpa using h1
    · cases h1
/-- 'append(v, x...)', x a row of any length, none too. -/
theorem run_append_zero {P : Program} (w : World) (t ty e : TypeId) (i : TypeInfo) (ht : P.underlying t = some (.slice e)) (hi : P.info? e = some i) (B A : Option Addr) (l cap c : Nat) (hl : l ≤ cap) :
    (Builtin.append_ #[t, t] ty #[.slice B l cap, .slice A 0 c]).run P w = .ok (.slice B l cap) w := by
  cases A <;> cases B <;> simp [Builtin.append_, run_underlying ht, sizeOf, typeInfo, hi, Builtin.lenOf, Builtin.firstCells, loadCells, loadCellsFrom, storeCells, hl]
section
variable {P : Program} {w : World} {ops : Array Oper} {rest : List Oper} {o : Oper} {a : Act} {Q : Exit → Act → World → Prop}
theorem wpList_append_row (hgd : Region.wanted o (yielded ops a.tmps) = true) (s x : Operand) (t : TypeId) (ho : o.op = .call { callee := .builtin .append, args := #[s, x], argTypes := #[t, t] })
    (base e : Nat) (i : TypeInfo) (z : Value) (sz bytes : Nat) (ht : P.underlying t = some (.slice e)) (hi : P.info? e = some i) (hz : i.zero = some z)
    (hsize : i.size = sz) (hby : i.bytes = bytes) (hzs : z.cells.size = sz) (hsz : 0 < sz) (v : Value) (css : List (List Value)) (L : Blocks) (hs : a.eval s = v) (hown : Own base e sz v css L) (hH : Holds w L)
    (u : Value) (news : List (List Value)) (M : Blocks) (hx : a.eval x = u) (hr : Row sz u news M) (hM : Holds w M) (h1 : ∀ u ∈ news.flatten, u.oneCell' = true)
    (hbytes : (css.length + news.length) * bytes ≤ 140737488355328) (hb0 : 0 < bytes) (hbase : base ≤ w.heap.size)
    (h : ∀ v' w' L', Own base e sz v' (css ++ news) L' → Holds w' L' → Only (Blk L) w w' → (L'.map (·.1) = L.map (·.1) ∨ ∃ o, L' = [(w.heap.size, o)]) → wpList P ops Q rest (a.put o.dst v') w') :
    wpList P ops Q (o :: rest) a w := by
  refine wpList_now hgd fun K hK => ?_
  have main : ∃ v' w' L', (Builtin.append_ #[t, t] o.type #[v, u]).run P w = .ok v' w' ∧ Own base e sz v' (css ++ news) L' ∧ Holds w' L' ∧ Only (Blk L) w w' ∧ (L'.map (·.1) = L.map (·.1) ∨ ∃ o, L' = [(w.heap.size, o)]) := by
    obtain ⟨h0, ⟨rfl, rfl, A, c, rfl⟩ | ⟨b, off, cap, cur, e', fr, rfl, hl, rfl, hm, hc⟩⟩ := hr
    · obtain ⟨B, l, cap, rfl, hlc⟩ : ∃ B l cap, v = .slice B l cap ∧ l ≤ cap := by
        obtain ⟨_, ⟨rfl, _⟩ | ⟨b, cap, cur, rfl, _, hl, _⟩⟩ := hown
        · exact ⟨_, _, _, rfl, Nat.le_refl _⟩
        · exact ⟨_, _, _, rfl, hl⟩
      exact ⟨_, w, L, run_append_zero w t o.type e i ht hi B A l cap c hlc, by rw [List.append_nil]; exact hown, hH, Only.refl _ _, .inl rfl⟩
    · refine run_append_own' (P := P) w base t o.type e i z sz bytes ht hi hz hsize hby hzs hsz v css L hown hH ⟨b, off, none⟩ news.length cap news h0 rfl (fun j u hu => ?_) h1 hbytes hb0 hbase
      have hj : j < news.length * sz := by have := (List.getElem?_eq_some_iff.1 hu).1; rwa [length_flatten_of h0] at this
      have hd : j / sz < news.length := Nat.div_lt_of_lt_mul (by rw [Nat.mul_comm]; exact hj)
      have hcl : (news[j / sz]).length = sz := h0 _ (List.getElem_mem hd)
      have hml := Nat.mod_lt j hsz
      have h2 : (news[j / sz]?.bind (·[j % sz]?)) = some (news[j / sz][j % sz]) := by
        rw [List.getElem?_eq_getElem hd, Option.bind_some, List.getElem?_eq_getElem (by omega)]
      have h3 := flatten_at h0 h2
      have hjd : j / sz * sz + j % sz = j := by rw [Nat.mul_comm]; exact Nat.div_add_mod j sz
      rw [hjd, hu] at h3
      have h4 := hM.cell (hc (j / sz) (j % sz) _ h2)
      rw [Addr.add_mid, show off + j = off + j / sz * sz + j % sz by omega, h4, h3]
  obtain ⟨v', w', L', hr, h2, h3, h4, h5⟩ := main
  unfold Oper.wp execOp
  simp only [ho, resolve, invoke, builtin, Sem.run_bind, Sem.run_pure, Result.andThen_ok, List.map_toArray, List.map_cons, List.map_nil, hs, hx, hr]
  exact hK _ _ (h v' w' L' h2 h3 h4 h5)
end
theorem setCells_more (w : World) (b o : Nat) (u v : Value) (vs : List Value) : w.setCells b o (u :: v :: vs) = (w.setCells b o [u]).setCells b (o + 1) (v :: vs) := rfl
theorem holds_new {w : World} {o : Obj} {k : Nat} (h : k = w.heap.size) : Holds (w.alloc o) [(k, o)] := by subst h; exact Holds.one (heap_alloc_new w o)
theorem there_put {w : World} {b o : Nat} {b' o' : Nat} {u : Value} (h : w.there b o 1) : (w.setCells b' o' [u]).there b o 1 := World.there_setCells h _ _ _
end Go.Proofs.Ytoimeebildcofaa
