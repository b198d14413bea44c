/-
  The plain law of layer 40: what it is that two graphs go together.
-/
import Derived.Test.YtfgkfjmbjopfgaaGsC4
set_option linter.unusedVariables false
set_option linter.unusedSimpArgs false
namespace Go.Abs
open Go

/-- The next one by a label. -/
def Ev.nx (x : Ev) (c : Nat) : Nat := (x.next.getD (min c (x.next.length - 1)) 0).toNat
/-- The event behind StSkip, with all costs, in less than so many turns. -/
def chase (l : List Ev) : Nat → Nat → Option (Nat × Int)
  | 0, _ => none
  | f + 1, i => match l[i]? with
    | none => none
    | some x => bif x.s.kind == 0 then (chase l f (x.nx 0)).map fun r => (r.1, x.s.cost + r.2) else some (i, x.s.cost)
/-- What is behind. -/
def Beh (l : List Ev) (i : Nat) (r : Option (Nat × Int)) : Prop :=
  match r with
  | some r => ∃ f, chase l f i = some r
  | none => ∀ f, chase l f i = none

theorem chase_mono {l : List Ev} : ∀ {f g i : Nat} {r : Nat × Int}, chase l f i = some r → f ≤ g → chase l g i = some r := by
  intro f
  induction f with
  | zero => intro g i r h; simp [chase] at h
  | succ f ih =>
    intro g i r h hg
    obtain ⟨g, rfl⟩ : ∃ k, g = k + 1 := ⟨g - 1, by omega⟩
    simp only [chase] at h ⊢
    split at h
    · cases h
    · rename_i x hx
      cases hk : x.s.kind == 0
      · simp only [hk, cond_false] at h ⊢; exact h
      · simp only [hk, cond_true, Option.map_eq_some_iff] at h ⊢
        obtain ⟨q, h1, h2⟩ := h
        exact ⟨q, ih h1 (by omega), h2⟩
theorem Beh.unique {l : List Ev} {i : Nat} {r q : Option (Nat × Int)} (h1 : Beh l i r) (h2 : Beh l i q) : r = q := by
  cases r with
  | none => cases q with
    | none => rfl
    | some q => obtain ⟨f, h⟩ := h2; rw [h1 f] at h; cases h
  | some r => cases q with
    | none => obtain ⟨f, h⟩ := h1; rw [h2 f] at h; cases h
    | some q =>
      obtain ⟨f, h⟩ := h1; obtain ⟨g, h'⟩ := h2
      have a := chase_mono h (Nat.le_max_left f g)
      have b := chase_mono h' (Nat.le_max_right f g)
      rw [a] at b; exact b
theorem Beh.total (l : List Ev) (i : Nat) : ∃ r, Beh l i r := by
  by_cases h : ∃ r f, chase l f i = some r
  · obtain ⟨r, f, h⟩ := h; exact ⟨some r, f, h⟩
  · refine ⟨none, fun f => ?_⟩
    cases e : chase l f i with
    | none => rfl
    | some r => exact (h ⟨r, f, e⟩).elim
/-- What comes of one that is no StSkip. -/
theorem Beh.stop {l : List Ev} {i : Nat} {x : Ev} (hx : l[i]? = some x) (hk : (x.s.kind == 0) = false) : Beh l i (some (i, x.s.cost)) := ⟨1, by simp [chase, hx, hk]⟩
theorem Beh.skip {l : List Ev} {i : Nat} {x : Ev} {r : Option (Nat × Int)} (hx : l[i]? = some x) (hk : (x.s.kind == 0) = true) (h : Beh l (x.nx 0) r) : Beh l i (r.map fun q => (q.1, x.s.cost + q.2)) := by
  cases r with
  | none =>
    intro f
    cases f with
    | zero => rfl
    | succ f => simp [chase, hx, hk, h f]
  | some r =>
    obtain ⟨f, h⟩ := h
    exact ⟨f + 1, by simp [chase, hx, hk, h]⟩
/-- Where it ends there is an event, and no StSkip. -/
theorem chase_end {l : List Ev} : ∀ {f i : Nat} {r : Nat × Int}, chase l f i = some r → ∃ x, l[r.1]? = some x ∧ (x.s.kind == 0) = false := by
  intro f
  induction f with
  | zero => intro i r h; simp [chase] at h
  | succ f ih =>
    intro i r h
    simp only [chase] at h
    split at h
    · cases h
    · rename_i x hx
      cases hk : x.s.kind == 0
      · simp only [hk, cond_false, Option.some.injEq] at h
        subst h
        exact ⟨x, hx, hk⟩
      · simp only [hk, cond_true, Option.map_eq_some_iff] at h
        obtain ⟨q, h1, h2⟩ := h
        subst h2
        have h3 := ih h1
        exact h3
theorem Beh.at_end {l : List Ev} {i : Nat} {r : Nat × Int} (h : Beh l i (some r)) : ∃ x, l[r.1]? = some x ∧ (x.s.kind == 0) = false := by
  obtain ⟨f, h⟩ := h; exact chase_end h

/-! ### Of a way over StSkip -/

/-- From one to another, over StSkip alone: the places on the way, and the costs. -/
inductive Way (l : List Ev) : Nat → List Nat → Int → Nat → Prop
  | nil (i : Nat) : Way l i [] 0 i
  | snoc {i j : Nat} {vs : List Nat} {c : Int} {x : Ev} (h : Way l i vs c j) (hx : l[j]? = some x) (hk : (x.s.kind == 0) = true) : Way l i (vs ++ [j]) (c + x.s.cost) (x.nx 0)
theorem Way.beh {l : List Ev} {i j : Nat} {vs : List Nat} {c : Int} (h : Way l i vs c j) {r : Option (Nat × Int)} (hr : Beh l j r) : Beh l i (r.map fun q => (q.1, c + q.2)) := by
  induction h generalizing r with
  | nil => cases r <;> simpa using hr
  | snoc h hx hk ih =>
    have := ih (Beh.skip hx hk hr)
    cases r with
    | none => exact this
    | some r => simpa [Int.add_assoc] using this
/-- It has come to one that it met: a spin. -/
theorem Way.split {l : List Ev} {i j : Nat} {vs : List Nat} {c : Int} (h : Way l i vs c j) {k : Nat} (hk : k ∈ vs) : ∃ us d, us ≠ [] ∧ Way l k us d j := by
  induction h with
  | nil => cases hk
  | @snoc j vs c x h hx hk2 ih =>
    rcases List.mem_append.1 hk with h1 | h1
    · obtain ⟨us, d, hu, hw⟩ := ih h1
      exact ⟨us ++ [j], d + x.s.cost, by simp, .snoc hw hx hk2⟩
    · have : k = j := by simpa using h1
      subst this
      exact ⟨[] ++ [k], 0 + x.s.cost, by simp, .snoc (.nil k) hx hk2⟩
theorem Way.chase {l : List Ev} {i j : Nat} {vs : List Nat} {c : Int} (h : Way l i vs c j) : ∀ {f : Nat} {r : Nat × Int}, chase l f i = some r → ∃ g q, g + vs.length = f ∧ chase l g j = some q := by
  induction h with
  | nil => intro f r h; exact ⟨f, r, by simp, h⟩
  | @snoc j vs c x h hx hk ih =>
    intro f r hf
    obtain ⟨g, q, hg, hq⟩ := ih hf
    cases g with
    | zero => simp [Go.Abs.chase] at hq
    | succ g =>
      simp only [Go.Abs.chase, hx, hk, cond_true, Option.map_eq_some_iff] at hq
      obtain ⟨p, h1, h2⟩ := hq
      exact ⟨g, p, by simp; omega, h1⟩
theorem Way.spin {l : List Ev} {k : Nat} {us : List Nat} {d : Int} (h : Way l k us d k) (hu : us ≠ []) : Beh l k none := by
  intro f
  induction f using Nat.strongRecOn with
  | ind f ih =>
    cases e : Go.Abs.chase l f k with
    | none => rfl
    | some r =>
      obtain ⟨g, q, hg, hq⟩ := h.chase e
      have : 0 < us.length := List.length_pos_iff.2 hu
      rw [ih g (by omega)] at hq; cases hq
theorem Way.again {l : List Ev} {i j : Nat} {vs : List Nat} {c : Int} (h : Way l i vs c j) (hj : j ∈ vs) : Beh l i none := by
  obtain ⟨us, d, hu, hw⟩ := h.split hj
  exact h.beh (hw.spin hu)
theorem Way.mem {l : List Ev} {i j : Nat} {vs : List Nat} {c : Int} (h : Way l i vs c j) : ∀ k ∈ vs, k < l.length := by
  induction h with
  | nil => intro k hk; cases hk
  | @snoc j vs c x h hx hk2 ih =>
    intro k hk
    rcases List.mem_append.1 hk with h1 | h1
    · exact ih k h1
    · have : k = j := by simpa using h1
      subst this
      exact (List.getElem?_eq_some_iff.1 hx).1

/-- So many below a number, no two alike, are no more than it. -/
theorem nodup_len : ∀ (n : Nat) (l : List Nat), l.Nodup → (∀ x ∈ l, x < n) → l.length ≤ n := by
  intro n
  induction n with
  | zero => intro l _ h; cases l with
    | nil => simp
    | cons x l => exact absurd (h x (by simp)) (by omega)
  | succ n ih =>
    intro l hd h
    by_cases hm : n ∈ l
    · have := ih (l.erase n) (hd.erase n) (fun x hx => by
        have h1 := h x (List.mem_of_mem_erase hx)
        have h2 : x ≠ n := by intro e; subst e; exact (List.Nodup.not_mem_erase hd) hx
        omega)
      rw [List.length_erase_of_mem hm] at this
      omega
    · have := ih l hd (fun x hx => by
        have h1 := h x hx
        have h2 : x ≠ n := by intro e; subst e; exact hm hx
        omega)
      omega
/-- A way of more than all events met one again. -/
theorem Way.long {l : List Ev} {i j : Nat} {vs : List Nat} {c : Int} (h : Way l i vs c j) (hl : l.length < vs.length) : Beh l i none := by
  have key : ∀ {i j : Nat} {vs : List Nat} {c : Int}, Way l i vs c j → vs.Nodup ∨ Beh l i none := by
    intro i j vs c h
    induction h with
    | nil => exact .inl (by simp)
    | @snoc j vs c x h hx hk ih =>
      rcases ih with ih | ih
      · by_cases hm : j ∈ vs
        · exact .inr (h.again hm)
        · refine .inl ?_
          rw [List.nodup_append]
          exact ⟨ih, by simp, fun a ha b hb e => by simp at hb; subst hb; subst e; exact hm ha⟩
      · exact .inr ih
  rcases key h with hd | hs
  · have := nodup_len _ _ hd h.mem
    omega
  · exact hs

/-! ### Two graphs -/

/-- An input of a block's call like another one. -/
def Ar.same (a b : Ar) : Bool := a.field == b.field && a.e.same b.e
/-- The same statement, of those without statements, but for its cost. -/
def St.one (x y : St) : Bool := x.kind == y.kind && x.n == y.n && x.m == y.m && x.e.same y.e && x.i.same y.i && all2 Ex.same x.l y.l && all2 Ar.same x.args y.args

/-- A pair that is met. -/
inductive Meets (a b : List Ev) : Nat → Nat → Prop
  | first : Meets a b 0 0
  | next {i k j m : Nat} {n o : Int} {x y : Ev} {c : Nat} (h : Meets a b i k) (ha : Beh a i (some (j, n))) (hb : Beh b k (some (m, o))) (hx : a[j]? = some x) (hy : b[m]? = some y) (hc : c < max x.next.length y.next.length) : Meets a b (x.nx c) (y.nx c)
/-- A pair of events that go together. -/
def Fits (a b : List Ev) (i k : Nat) : Prop := (Beh a i none ∧ Beh b k none) ∨ ∃ j m n x y, Beh a i (some (j, n)) ∧ Beh b k (some (m, n)) ∧ a[j]? = some x ∧ b[m]? = some y ∧ x.s.one y.s = true
/-- Two graphs that go together. -/
def Goes (a b : List Ev) : Prop := right a = true ∧ right b = true ∧ ∀ i k, Meets a b i k → Fits a b i k

mutual
theorem Ex.same_symm (a b : Ex) : a.same b = b.same a := by
  cases a with
  | mk o t n m l => cases b with
    | mk o2 t2 n2 m2 l2 =>
      rw [Ex.same, Ex.same, sameL_symm l l2, Bool.beq_comm (a := o), Bool.beq_comm (a := t), Bool.beq_comm (a := n), Bool.beq_comm (a := m)]
theorem sameL_symm (l k : List Ex) : sameL l k = sameL k l := by
  cases l with
  | nil => cases k <;> rfl
  | cons x l => cases k with
    | nil => rfl
    | cons y k => rw [sameL, sameL, Ex.same_symm x y, sameL_symm l k]
end
mutual
theorem Ex.same_self (a : Ex) : a.same a = true := by
  cases a with
  | mk o t n m l => simp [Ex.same, sameL_self l]
theorem sameL_self (l : List Ex) : sameL l l = true := by
  cases l with
  | nil => rfl
  | cons x l => simp [sameL, Ex.same_self x, sameL_self l]
end
theorem all2_symm {α : Type} {f : α → α → Bool} (hf : ∀ x y, f x y = f y x) : ∀ (l k : List α), all2 f l k = all2 f k l
  | [], [] => rfl
  | [], _ :: _ => rfl
  | _ :: _, [] => rfl
  | x :: l, y :: k => by rw [all2, all2, hf, all2_symm hf l k]
theorem all2_self {α : Type} {f : α → α → Bool} (hf : ∀ x, f x x = true) : ∀ (l : List α), all2 f l l = true
  | [] => rfl
  | x :: l => by rw [all2, hf, all2_self hf l]; rfl
theorem Ar.same_symm (a b : Ar) : a.same b = b.same a := by rw [Ar.same, Ar.same, Ex.same_symm, Bool.beq_comm (a := a.field)]
theorem St.one_symm (x y : St) : x.one y = y.one x := by
  rw [St.one, St.one, Bool.beq_comm (a := x.kind), Bool.beq_comm (a := x.n), Bool.beq_comm (a := x.m), Ex.same_symm x.e, Ex.same_symm x.i, all2_symm Ex.same_symm x.l, all2_symm Ar.same_symm x.args]
theorem St.one_self (x : St) : x.one x = true := by
  simp [St.one, Ex.same_self, all2_self Ex.same_self, all2_self (f := Ar.same) (fun a => by simp [Ar.same, Ex.same_self])]
theorem Meets.symm {a b : List Ev} {i k : Nat} (h : Meets a b i k) : Meets b a k i := by
  induction h with
  | first => exact .first
  | next h ha hb hx hy hc ih => exact .next ih hb ha hy hx (by omega)
theorem Goes.symm {a b : List Ev} (h : Goes a b) : Goes b a := by
  obtain ⟨h1, h2, h3⟩ := h
  refine ⟨h2, h1, fun i k hm => ?_⟩
  rcases h3 k i hm.symm with ⟨p, q⟩ | ⟨j, m, n, x, y, p1, p2, p3, p4, p5⟩
  · exact .inl ⟨q, p⟩
  · exact .inr ⟨m, j, n, y, x, p2, p1, p4, p3, by rw [St.one_symm]; exact p5⟩
theorem Goes.comm {a b : List Ev} : Goes a b ↔ Goes b a := ⟨Goes.symm, Goes.symm⟩
theorem Meets.self {a : List Ev} {i k : Nat} (h : Meets a a i k) : i = k := by
  induction h with
  | first => rfl
  | next h ha hb hx hy hc ih =>
    subst ih
    have := ha.unique hb
    injection this with this
    injection this with h1 h2
    subst h1
    rw [hx] at hy; injection hy with hy; subst hy; rfl
theorem Goes.refl {a : List Ev} (h : right a = true) : Goes a a := by
  refine ⟨h, h, fun i k hm => ?_⟩
  have := hm.self
  subst this
  obtain ⟨r, hr⟩ := Beh.total a i
  cases r with
  | none => exact .inl ⟨hr, hr⟩
  | some r =>
    obtain ⟨x, hx, _⟩ := hr.at_end
    exact .inr ⟨r.1, r.1, r.2, x, x, hr, hr, hx, hx, St.one_self _⟩
theorem Goes.self {a : List Ev} : Goes a a ↔ right a = true := ⟨fun h => h.1, Goes.refl⟩

/-! ### Right graphs -/

theorem right_at {l : List Ev} (h : right l = true) {i : Nat} {x : Ev} (hx : l[i]? = some x) : Ev.right l.length x = true := by
  rw [right, Bool.and_eq_true, List.all_eq_true] at h
  exact h.1 x (List.mem_of_getElem? hx)
theorem right_pos {l : List Ev} (h : right l = true) : 0 < l.length := by
  rw [right, Bool.and_eq_true, decide_eq_true_eq] at h
  exact h.2
theorem Ev.right_next {m : Nat} {x : Ev} (h : Ev.right m x = true) : ∀ k ∈ x.next, 0 ≤ k ∧ k < m := by
  simp only [Ev.right, Bool.and_eq_true, List.all_eq_true, decide_eq_true_eq] at h
  exact h.2
theorem Ev.right_kind {m : Nat} {x : Ev} (h : Ev.right m x = true) : kindOk x.s.kind x.next.length = true := by
  simp only [Ev.right, Bool.and_eq_true] at h
  exact h.1.2
theorem Ev.right_bare {m : Nat} {x : Ev} (h : Ev.right m x = true) : x.s.body = [] ∧ x.s.els = [] ∧ x.s.arms = [] := by
  simp only [Ev.right, Bool.and_eq_true, List.isEmpty_iff] at h
  exact ⟨h.1.1.1.1, h.1.1.1.2, h.1.1.2⟩
/-- The next one is there. -/
theorem Ev.nx_at {m : Nat} {x : Ev} (h : Ev.right m x = true) {c : Nat} (hc : 0 < x.next.length) : ∃ k : Nat, x.next[min c (x.next.length - 1)]? = some (k : Int) ∧ x.nx c = k ∧ k < m := by
  have hl : min c (x.next.length - 1) < x.next.length := by omega
  obtain ⟨y, hy⟩ : ∃ y, x.next[min c (x.next.length - 1)]? = some y := ⟨_, List.getElem?_eq_getElem hl⟩
  have := Ev.right_next h y (List.mem_of_getElem? hy)
  refine ⟨y.toNat, ?_, ?_, by omega⟩
  · rw [hy]; congr 1; omega
  · rw [Ev.nx, List.getD_eq_getElem?_getD, hy]; rfl
theorem Ev.one_next {m : Nat} {x : Ev} (h : Ev.right m x = true) (hk : (x.s.kind == 0) = true) : x.next.length = 1 := by
  have := Ev.right_kind h
  simp only [beq_iff_eq] at hk
  simp [kindOk, hk] at this
  exact this
/-- Like statements have next ones, both or none. -/
theorem Ev.both_next {m n : Nat} {x y : Ev} (h : Ev.right m x = true) (h2 : Ev.right n y = true) (ho : x.s.one y.s = true) : (0 < x.next.length ∧ 0 < y.next.length) ∨ (x.next.length = 0 ∧ y.next.length = 0) := by
  have a := Ev.right_kind h
  have b := Ev.right_kind h2
  have e : x.s.kind = y.s.kind := by simp [St.one] at ho; exact ho.1.1.1.1.1.1
  rw [e] at a
  simp only [kindOk, Bool.or_eq_true, Bool.and_eq_true, beq_iff_eq, decide_eq_true_eq] at a b
  omega
theorem Meets.lt {a b : List Ev} (ha : right a = true) (hb : right b = true) (hf : ∀ i k, Meets a b i k → Fits a b i k) {i k : Nat} (h : Meets a b i k) : i < a.length ∧ k < b.length := by
  induction h with
  | first => exact ⟨right_pos ha, right_pos hb⟩
  | @next i k j m n o x y c h h1 h2 hx hy hc ih =>
    rcases hf _ _ h with ⟨p, _⟩ | ⟨j', m', n', x', y', p1, p2, p3, p4, p5⟩
    · have := h1.unique p; cases this
    · have e1 := h1.unique p1; injection e1 with e1; injection e1 with e1 _; subst e1
      have e2 := h2.unique p2; injection e2 with e2; injection e2 with e2 _; subst e2
      rw [hx] at p3; injection p3 with p3; subst p3
      rw [hy] at p4; injection p4 with p4; subst p4
      have rx := right_at ha hx
      have ry := right_at hb hy
      rcases Ev.both_next rx ry p5 with ⟨q1, q2⟩ | ⟨q1, q2⟩
      · obtain ⟨k1, _, e1, l1⟩ := Ev.nx_at rx (c := c) q1
        obtain ⟨k2, _, e2, l2⟩ := Ev.nx_at ry (c := c) q2
        exact ⟨by omega, by omega⟩
      · omega
end Go.Abs
