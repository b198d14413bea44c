/-
  Regions whose order is drawn: operations that may change places.
-/
import Derived.Test.YtfgkfjmbjopfgaaAbsFn
import Derived.Orders
set_option linter.unusedVariables false
set_option linter.unusedSimpArgs false
namespace Go.Abs
open Go

def AVal.opds : AVal → List Opd
  | .mv x | .un _ x | .fld x _ _ _ | .fa x _ | .ld x _ _ | .ldf x _ _ | .ldl x _ _ | .nc x | .len x | .lens x | .ext x _ | .conv _ x | .mlen x => [x]
  | .pick c a b => [c, a, b]
  | .bin _ x y | .beq _ x y | .ia x y _ | .iaf x y _ | .iaa x y _ _ | .ix x y _ _ _ | .ixs x y | .mx x y | .mn x y | .lookup _ x y _ | .lookupOk _ x y _ => [x, y]
  | .build _ ps => ps.map (·.2.2)
  | .mkf _ cs => cs
  | .slc x lo hi _ | .slcs x lo hi => x :: (lo.toList ++ hi.toList)

def AOp.opds : AOp → List Opd
  | .val _ _ x => x.opds
  | .box _ _ x _ | .hbox _ _ x _ => [x]
  | .bsl _ _ _ _ _ ps => ps.map (·.2.2)
  | .mks _ _ n c _ _ _ => [n, c]
  | .st _ x v _ => [x, v]
  | .app _ _ x y _ _ | .cpy _ _ x y _ => [x, y]
  | .mkm _ _ => []
  | .mup _ _ m k v => [m, k, v]
  | .men _ _ _ m k _ => [m, k]
  | .mst _ m s v => [m, s, v]
  | .call _ _ _ as | .pcall _ _ _ as => as
  | .callv _ _ f as => f :: as

/-- The slots that an operation reads. -/
def AOp.reads (o : AOp) : List Nat := (o.opds.filterMap fun | .t n => some n | _ => none) ++ (match o.guard with | some (t, _) => [t] | none => [])

theorem ev_ne {e : List V} {d : Nat} {v : V} {x : Opd} (h : x ≠ .t d) : ev (e.set d v) x = ev e x := by
  cases x with
  | c v => rfl
  | t n =>
    have hne : d ≠ n := fun e => h (by rw [e])
    simp [ev, List.getElem?_set_ne hne]

theorem reads_ne {o : AOp} {d : Nat} (h : d ∉ o.reads) : ∀ x ∈ o.opds, x ≠ .t d := by
  intro x hx e
  subst e
  apply h
  simp only [AOp.reads, List.mem_append, List.mem_filterMap]
  exact .inl ⟨_, hx, rfl⟩

theorem fill_cong {e e2 : List V} : ∀ (ps : List (Nat × Nat × Opd)) (cs : List V), (∀ x ∈ ps.map (·.2.2), ev e x = ev e2 x) → fill e cs ps = fill e2 cs ps
  | [], _, _ => rfl
  | (off, n, x) :: ps, cs, h => by
    have hx : ev e x = ev e2 x := h x (by simp)
    simp only [fill, hx]
    split
    · split
      · exact fill_cong ps _ (fun y hy => h y (by simp at hy ⊢; exact .inr hy))
      · rfl
    · rfl

theorem bound_cong {e e2 : List V} {o : Option Opd} {d : Nat} (h : ∀ x ∈ o.toList, ev e x = ev e2 x) : bound e o d = bound e2 o d := by
  cases o with
  | none => rfl
  | some x => simp only [bound, h x (by simp)]

theorem eval_cong {e e2 : List V} {bx : List (Option (Nat × List V))} {h : Heap} (x : AVal) (hx : ∀ y ∈ x.opds, ev e y = ev e2 y) : x.eval e bx h = x.eval e2 bx h := by
  cases x with
  | build zero ps => simp only [AVal.eval, fill_cong ps zero hx]
  | mkf f cs =>
    simp only [AVal.eval]
    congr 2
    exact List.map_congr_left fun y hy => hx y hy
  | slc x lo hi esz =>
    have h1 : ev e x = ev e2 x := hx x (by simp [AVal.opds])
    have h2 : ∀ d, bound e lo d = bound e2 lo d := fun d => bound_cong fun y hy => hx y (by simp [AVal.opds] at hy ⊢; exact .inr (.inl hy))
    have h3 : ∀ d, bound e hi d = bound e2 hi d := fun d => bound_cong fun y hy => hx y (by simp [AVal.opds] at hy ⊢; exact .inr (.inr hy))
    simp only [AVal.eval, h1, h2, h3]
  | slcs x lo hi =>
    have h1 : ev e x = ev e2 x := hx x (by simp [AVal.opds])
    have h2 : ∀ d, bound e lo d = bound e2 lo d := fun d => bound_cong fun y hy => hx y (by simp [AVal.opds] at hy ⊢; exact .inr (.inl hy))
    have h3 : ∀ d, bound e hi d = bound e2 hi d := fun d => bound_cong fun y hy => hx y (by simp [AVal.opds] at hy ⊢; exact .inr (.inr hy))
    simp only [AVal.eval, h1, h2, h3]
  | _ =>
    simp only [AVal.opds, List.mem_cons, List.not_mem_nil, or_false, forall_eq_or_imp, forall_eq] at hx
    simp only [AVal.eval, hx]

/-- What reads neither boxes nor the heap. -/
def AVal.envOnly : AVal → Bool
  | .ld .. | .ldl .. | .ia .. | .slc .. | .lookup .. | .lookupOk .. | .mlen .. => false
  | _ => true

theorem eval_env {e : List V} {bx bx2 : List (Option (Nat × List V))} {h h2 : Heap} {x : AVal} (hx : x.envOnly = true) : x.eval e bx h = x.eval e bx2 h2 := by
  cases x <;> first | rfl | (simp [AVal.envOnly] at hx)

theorem map_ev {e e2 : List V} {as : List Opd} (h : ∀ x ∈ as, ev e x = ev e2 x) : as.map (ev e) = as.map (ev e2) := List.map_congr_left fun x hx => h x hx

theorem storeOf_put {s : S} {d : Nat} {v p x : V} {n : Nat} : storeOf { s with env := s.env.set d v } p x n = (storeOf s p x n).map fun s => { s with env := s.env.set d v } := by
  unfold storeOf
  split
  · simp only []; split
    · split <;> rfl
    · rfl
  · simp only []; split
    · split
      · split <;> rfl
      · rfl
    · rfl
  · rfl

/-- A slot laid before an operation that doesn't touch it, or behind it. -/
theorem run_put {C : Call} (o : AOp) (s : S) (d : Nat) (v : V) (Q : S → Prop) (h1 : ∀ x ∈ o.opds, x ≠ .t d) (h2 : o.dst ≠ some d) :
    o.run C { s with env := s.env.set d v } Q = o.run C s (fun s1 => Q { s1 with env := s1.env.set d v }) := by
  have he : ∀ x ∈ o.opds, ev (s.env.set d v) x = ev s.env x := fun x hx => ev_ne (h1 x hx)
  have hput : ∀ (d2 : Option Nat) (u : V) (s : S), d2 ≠ some d → ({ s with env := s.env.set d v } : S).put d2 u = { s.put d2 u with env := (s.put d2 u).env.set d v } := by
    intro d2 u s hd
    cases d2 with
    | none => rfl
    | some d2 =>
      have : d ≠ d2 := fun e => hd (by rw [e])
      simp only [S.put, List.set_comm _ _ this]
  have hset : ∀ (d2 : Nat) (u : V), o.dst = some d2 → (s.env.set d v).set d2 u = (s.env.set d2 u).set d v := by
    intro d2 u hd
    have : d ≠ d2 := fun e => h2 (by rw [hd, e])
    exact List.set_comm _ _ this
  cases o with
  | val g d2 x =>
    simp only [AOp.run]
    rw [eval_cong x he]
    cases x.eval s.env s.bx s.h with
    | none => rfl
    | some u => exact congrArg Q (hput d2 u s h2)
  | box g d2 x n =>
    simp only [AOp.run, he x (by simp [AOp.opds])]
    cases cellsOf (ev s.env x) with
    | none => rfl
    | some cs => simp only [hset d2 _ rfl]
  | hbox g d2 x n =>
    simp only [AOp.run, he x (by simp [AOp.opds])]
    cases cellsOf (ev s.env x) with
    | none => rfl
    | some cs => simp only [hset d2 _ rfl]
  | bsl g d2 sz len zero ps =>
    simp only [AOp.run]
    rw [fill_cong ps _ he]
    cases fill s.env _ ps with
    | none => rfl
    | some cs => simp only [hset d2 _ rfl]
  | mks g d2 n c sz bytes zero =>
    simp only [AOp.run, he n (by simp [AOp.opds]), he c (by simp [AOp.opds]), hset d2 _ rfl]
  | st g x y n =>
    simp only [AOp.run, he x (by simp [AOp.opds]), he y (by simp [AOp.opds]), storeOf_put]
    cases storeOf s (ev s.env x) (ev s.env y) n <;> rfl
  | app g d2 x y sz bytes =>
    simp only [AOp.run, he x (by simp [AOp.opds]), he y (by simp [AOp.opds]), hset d2 _ rfl]
  | cpy g d2 x y sz =>
    simp only [AOp.run, he x (by simp [AOp.opds]), he y (by simp [AOp.opds])]
    have hp := fun (h : Heap) u => hput d2 u { s with h := h } h2
    simp only at hp
    simp only [hp]
  | mkm g d2 => simp only [AOp.run, hset d2 _ rfl]
  | mup g ks m k x =>
    simp only [AOp.run, he m (by simp [AOp.opds]), he k (by simp [AOp.opds]), he x (by simp [AOp.opds])]
  | men g d2 ks m k zero =>
    simp only [AOp.run, he m (by simp [AOp.opds]), he k (by simp [AOp.opds]), hset d2 _ rfl]
  | mst g m st x =>
    simp only [AOp.run, he m (by simp [AOp.opds]), he st (by simp [AOp.opds]), he x (by simp [AOp.opds])]
  | call g d2 f as =>
    have hm : as.map (ev (s.env.set d v)) = as.map (ev s.env) := map_ev fun x hx => he x hx
    have hq : (fun r h => Q (({ env := s.env.set d v, bx := s.bx, h := h } : S).put d2 r)) = fun r h => Q { ({ s with h := h } : S).put d2 r with env := (({ s with h := h } : S).put d2 r).env.set d v } := by
      funext r h; exact congrArg Q (hput d2 r { s with h := h } h2)
    simp only [AOp.run, hm]
    exact congrArg (callOk C f (as.map (ev s.env)) s.h) hq
  | pcall g d2 f as =>
    have hm : as.map (ev (s.env.set d v)) = as.map (ev s.env) := map_ev fun x hx => he x hx
    have hq : (fun r h => Q (({ env := s.env.set d v, bx := s.bx, h := h } : S).put d2 r)) = fun r h => Q { ({ s with h := h } : S).put d2 r with env := (({ s with h := h } : S).put d2 r).env.set d v } := by
      funext r h; exact congrArg Q (hput d2 r { s with h := h } h2)
    simp only [AOp.run, hm]
    exact congrArg (callPure C f (as.map (ev s.env)) s.h) hq
  | callv g d2 f as =>
    have hf := he f (by simp [AOp.opds])
    have hm := map_ev (e := s.env.set d v) (e2 := s.env) (as := as) (fun x hx => he x (by simp [AOp.opds, hx]))
    have hq : (fun r h => Q (({ env := s.env.set d v, bx := s.bx, h := h } : S).put d2 r)) = fun r h => Q { ({ s with h := h } : S).put d2 r with env := (({ s with h := h } : S).put d2 r).env.set d v } := by
      funext r h; exact congrArg Q (hput d2 r { s with h := h } h2)
    simp only [AOp.run, hf, hm]
    cases ev s.env f <;> try rfl
    simp only []
    exact congrArg (callOk C _ _ s.h) hq

/-! ### What an operation comes to -/

/-- An operation's value, where it is one that only reads; whether it is carried out at all. -/
def AOp.isVal : AOp → Bool
  | .val .. => true
  | _ => false

/-- Slots that an operation doesn't lay stay. -/
theorem run_env {C : Call} (hC : Sub C C) (o : AOp) (s : S) {Q : S → Prop} (h : o.run C s Q) : o.run C s fun s1 => (∀ t : Nat, o.dst ≠ some t → s1.env[t]? = s.env[t]?) ∧ Q s1 := by
  have hp : ∀ (d : Option Nat) (u : V) (s1 : S), s1.env = s.env → ∀ t : Nat, d ≠ some t → (s1.put d u).env[t]? = s.env[t]? := by
    intro d u s1 he t ht
    cases d with
    | none => simp [S.put, he]
    | some d =>
      have : d ≠ t := fun e => ht (by rw [e])
      simp [S.put, he, List.getElem?_set_ne this]
  have hs : ∀ (d : Nat) (u : V), ∀ t : Nat, some d ≠ some t → (s.env.set d u)[t]? = s.env[t]? := by
    intro d u t ht
    have : d ≠ t := fun e => ht (by rw [e])
    simp [List.getElem?_set_ne this]
  cases o with
  | val g d x => simp only [AOp.run] at h ⊢; split at h <;> first | exact ⟨hp d _ s rfl, h⟩ | exact h.elim
  | box g d x n => simp only [AOp.run] at h ⊢; split at h <;> first | exact ⟨h.1, h.2.1, fun g => ⟨hs d _, h.2.2 g⟩⟩ | exact h.elim
  | hbox g d x n => simp only [AOp.run] at h ⊢; split at h <;> first | exact ⟨h.1, fun id hid => ⟨hs d _, h.2 id hid⟩⟩ | exact h.elim
  | bsl g d sz len zero parts => simp only [AOp.run] at h ⊢; split at h <;> first | exact fun id hid => ⟨hs d _, h id hid⟩ | exact h.elim
  | mks g d n c sz bytes zero =>
    simp only [AOp.run] at h ⊢; split at h <;> first | exact h.elim | skip
    exact ⟨h.1, h.2.1, h.2.2.1, h.2.2.2.1, fun id hid => ⟨hs d _, h.2.2.2.2 id hid⟩⟩
  | st g x v n =>
    simp only [AOp.run] at h ⊢; split at h <;> first | exact h.elim | skip
    rename_i s2 hs2
    refine ⟨fun t _ => ?_, h⟩
    unfold storeOf at hs2
    split at hs2
    · split at hs2
      · split at hs2
        · simp at hs2; subst hs2; rfl
        · cases hs2
      · cases hs2
    · split at hs2
      · split at hs2
        · split at hs2
          · simp at hs2; subst hs2; rfl
          · cases hs2
        · cases hs2
      · cases hs2
    · cases hs2
  | app g d x y sz bytes =>
    simp only [AOp.run] at h ⊢
    split at h <;> first | exact h.elim | skip
    refine ⟨h.1, ?_⟩
    replace h := h.2
    split at h <;> first | exact h.elim | skip
    · rcases h with h | h
      · exact .inl ⟨h.1, h.2.1, fun id hid => ⟨hs d _, h.2.2 id hid⟩⟩
      · exact .inr ⟨h.1, hs d _, h.2⟩
    · split at h <;> first | exact h.elim | skip
      exact ⟨h.1, h.2.1, h.2.2.1, fun id2 h2 h3 => ⟨hs d _, h.2.2.2 id2 h2 h3⟩⟩
  | cpy g d x y sz =>
    simp only [AOp.run] at h ⊢
    split at h <;> first | exact h.elim | skip
    · split at h <;> first | exact h.elim | skip
      refine ⟨h.1, h.2.1, ?_⟩
      replace h := h.2.2
      split at h <;> first | exact h.elim | skip
      exact ⟨h.1, hp d _ _ rfl, h.2⟩
    · split at h <;> first | exact h.elim | exact ⟨h.1, hp d _ s rfl, h.2⟩
  | mkm g d => exact fun id hid => ⟨hs d _, h id hid⟩
  | mup g ks m key v =>
    simp only [AOp.run] at h ⊢
    split at h <;> first | exact h.elim | skip
    split at h <;> first | exact h.elim | skip
    refine ⟨h.1, ?_⟩
    replace h := h.2
    split at h <;> first | exact h.elim | exact ⟨fun _ _ => by first | rfl | trivial, h⟩
  | men g d ks m key zero =>
    simp only [AOp.run] at h ⊢
    split at h <;> first | exact h.elim | skip
    split at h <;> first | exact h.elim | skip
    refine ⟨h.1, ?_⟩
    replace h := h.2
    split at h
    · split at h <;> first | exact h.elim | exact ⟨hs d _, h⟩
    · exact ⟨hs d _, h⟩
    · exact h.elim
  | mst g m stp v =>
    simp only [AOp.run] at h ⊢
    split at h <;> first | exact h.elim | skip
    refine ⟨h.1, ?_⟩
    replace h := h.2
    split at h <;> first | exact h.elim | skip
    split at h <;> first | exact h.elim | exact ⟨fun _ _ => by first | rfl | trivial, h⟩
  | call g d f args => exact callOk_mono hC (fun r h2 hv => ⟨hp d r { s with h := h2 } rfl, hv⟩) h
  | pcall g d f args =>
    simp only [AOp.run] at h ⊢
    exact callPure_mono hC (fun r h2 hv => ⟨hp d r { s with h := h2 } rfl, hv⟩) h
  | callv g d f args =>
    simp only [AOp.run] at h ⊢
    split at h <;> first | exact h.elim | skip
    exact callOk_mono hC (fun r h2 hv => ⟨hp d r { s with h := h2 } rfl, hv⟩) h


/-- Is an operation carried out? -/
def AOp.stat (o : AOp) (e : List V) : Option Bool :=
  match o.guard with
  | none => some true
  | some (t, want) => match ev e (.t t) with
    | .bool b => some (b == want)
    | .skip => some false
    | _ => none

theorem step_eq (C : Call) (o : AOp) (s : S) (Q : S → Prop) : o.step C s Q = match o.stat s.env with
    | some true => o.run C s Q
    | some false => Q (s.put o.dst .skip)
    | none => False := by
  unfold AOp.step AOp.stat
  cases o.guard with
  | none => rfl
  | some g =>
    obtain ⟨t, want⟩ := g
    simp only []
    cases ev s.env (.t t) <;> try rfl
    rename_i b
    simp only []
    by_cases h : b = want
    · subst h; simp
    · have : (b == want) = false := by simpa using h
      simp [h, this]

theorem stat_cong {o : AOp} {e e2 : List V} (h : ∀ t ∈ o.reads, ev e (.t t) = ev e2 (.t t)) : o.stat e = o.stat e2 := by
  unfold AOp.stat
  cases hg : o.guard with
  | none => rfl
  | some g =>
    obtain ⟨t, want⟩ := g
    simp only []
    rw [h t (by simp [AOp.reads, hg])]

theorem opds_cong {o : AOp} {e e2 : List V} (h : ∀ t ∈ o.reads, ev e (.t t) = ev e2 (.t t)) : ∀ x ∈ o.opds, ev e x = ev e2 x := by
  intro x hx
  cases x with
  | c v => rfl
  | t n => exact h n (by simp only [AOp.reads, List.mem_append, List.mem_filterMap]; exact .inl ⟨_, hx, rfl⟩)

theorem put_put {s : S} {d1 d2 : Option Nat} {v1 v2 : V} (h : ∀ d, d1 = some d → d2 ≠ some d) : (s.put d1 v1).put d2 v2 = (s.put d2 v2).put d1 v1 := by
  cases d1 with
  | none => rfl
  | some d1 =>
    cases d2 with
    | none => rfl
    | some d2 =>
      have : d1 ≠ d2 := fun e => h d1 rfl (by rw [e])
      simp only [S.put, List.set_comm _ _ this]

theorem ev_put {s : S} {d : Option Nat} {v : V} {t : Nat} (h : d ≠ some t) : ev (s.put d v).env (.t t) = ev s.env (.t t) := by
  cases d with
  | none => rfl
  | some d => exact ev_ne (fun e => h (by injection e with e; rw [e]))

theorem put_h (s : S) (d : Option Nat) (v : V) : (s.put d v).h = s.h := by cases d <;> rfl
theorem put_bx (s : S) (d : Option Nat) (v : V) : (s.put d v).bx = s.bx := by cases d <;> rfl

/-- Neither touches what the other reads or lays. -/
def indep (j i : AOp) : Bool :=
  (match j.dst with | some d => !i.reads.contains d && i.dst != some d | none => true) && (match i.dst with | some d => !j.reads.contains d | none => true)

theorem indep_spec {j i : AOp} (h : indep j i = true) : (∀ d, j.dst = some d → d ∉ i.reads ∧ i.dst ≠ some d) ∧ (∀ d, i.dst = some d → d ∉ j.reads ∧ j.dst ≠ some d) := by
  unfold indep at h
  simp only [Bool.and_eq_true] at h
  obtain ⟨h1, h2⟩ := h
  have a1 : ∀ d, j.dst = some d → d ∉ i.reads ∧ i.dst ≠ some d := by
    intro d hd
    rw [hd] at h1
    simpa using h1
  refine ⟨a1, fun d hd => ⟨?_, fun e => (a1 d e).2 hd⟩⟩
  rw [hd] at h2
  simpa using h2

theorem step_put {C : Call} {o : AOp} {s : S} {d : Option Nat} {v : V} {Q : S → Prop} (h : ∀ x, d = some x → x ∉ o.reads ∧ o.dst ≠ some x) :
    o.step C (s.put d v) Q = o.step C s (fun s1 => Q (s1.put d v)) := by
  cases d with
  | none => rfl
  | some d =>
    obtain ⟨h1, h2⟩ := h d rfl
    rw [step_eq, step_eq]
    have hst : o.stat (s.put (some d) v).env = o.stat s.env := stat_cong fun t ht => ev_put (fun e => h1 (by injection e with e; rw [e]; exact ht))
    rw [hst]
    cases o.stat s.env with
    | none => rfl
    | some b =>
      cases b with
      | true => exact run_put o s d v Q (reads_ne h1) h2
      | false => exact congrArg Q (put_put (fun x e => by injection e with e; subst e; exact h2))

theorem step_env {C : Call} (hC : Sub C C) (o : AOp) (s : S) {Q : S → Prop} (h : o.step C s Q) : o.step C s fun s1 => (∀ t : Nat, o.dst ≠ some t → s1.env[t]? = s.env[t]?) ∧ Q s1 := by
  rw [step_eq] at h ⊢
  split at h
  · exact run_env hC o s h
  · refine ⟨fun t ht => ?_, h⟩
    cases hd : o.dst with
    | none => rfl
    | some d =>
      have : d ≠ t := fun e => ht (by rw [hd, e])
      simp [S.put, List.getElem?_set_ne this]
  · exact h

/-- What a reading operation lays, in a state. -/
def sval (o : AOp) (x : AVal) (s : S) : Option V :=
  match o.stat s.env with
  | some true => x.eval s.env s.bx s.h
  | some false => some .skip
  | none => none

theorem step_val {C : Call} {g : Option (Nat × Bool)} {d : Option Nat} {x : AVal} {s : S} {Q : S → Prop} : (AOp.val g d x).step C s Q ↔ ∃ v, sval (.val g d x) x s = some v ∧ Q (s.put d v) := by
  rw [step_eq, sval]
  cases (AOp.val g d x).stat s.env with
  | none => simp
  | some b =>
    cases b with
    | true =>
      simp only [AOp.run]
      cases x.eval s.env s.bx s.h <;> simp
    | false => simp [AOp.dst]

theorem sval_env {g : Option (Nat × Bool)} {d : Option Nat} {x : AVal} {s s1 : S} (hx : x.envOnly = true) (h : ∀ t ∈ (AOp.val g d x).reads, ev s1.env (.t t) = ev s.env (.t t)) : sval (.val g d x) x s1 = sval (.val g d x) x s := by
  unfold sval
  rw [stat_cong h]
  have he := eval_cong (bx := s1.bx) (h := s1.h) x (opds_cong (o := .val g d x) h)
  rw [he, eval_env hx (bx2 := s.bx) (h2 := s.h)]

theorem sval_any {g : Option (Nat × Bool)} {d : Option Nat} {x : AVal} {s s1 : S} (hb : s1.bx = s.bx) (hh : s1.h = s.h) (h : ∀ t ∈ (AOp.val g d x).reads, ev s1.env (.t t) = ev s.env (.t t)) : sval (.val g d x) x s1 = sval (.val g d x) x s := by
  unfold sval
  rw [stat_cong h]
  have he := eval_cong (bx := s1.bx) (h := s1.h) x (opds_cong (o := .val g d x) h)
  rw [he, hb, hh]

theorem ev_of_get {e e2 : List V} {t : Nat} (h : e[t]? = e2[t]?) : ev e (.t t) = ev e2 (.t t) := by
  simp only [ev, List.getD_eq_getElem?_getD, h]

section
variable {C : Call}

theorem swap_env_first (hC : Sub C C) (hF : Full C) {j : AOp} {g : Option (Nat × Bool)} {d : Option Nat} {x : AVal} (hx : x.envOnly = true) (hi : indep j (.val g d x) = true) {s : S} (hf : FinH s.h) {Q : S → Prop}
    (h : j.step C s fun s1 => (AOp.val g d x).step C s1 Q) : (AOp.val g d x).step C s fun s1 => j.step C s1 Q := by
  obtain ⟨i1, i2⟩ := indep_spec hi
  have h1 := step_env hC j s h
  have h2 : j.step C s fun s1 => ∃ v, sval (.val g d x) x s = some v ∧ Q (s1.put d v) := by
    refine AOp.step_mono hC j s ?_ h1
    intro s1 ⟨he, hs⟩
    rw [step_val] at hs
    rwa [sval_env hx (fun t ht => ev_of_get (he t (fun e => (i1 t e).1 ht)))] at hs
  obtain ⟨s1, _, v, hv, _⟩ := AOp.step_full hF j s (FinH.all hf) h2
  rw [step_val]
  refine ⟨v, hv, ?_⟩
  rw [step_put (d := d) (fun y e => i2 y e)]
  refine AOp.step_mono hC j s ?_ h2
  intro s1 ⟨v2, hv2, hq⟩
  rw [hv] at hv2; injection hv2 with hv2; rw [hv2]; exact hq

theorem swap_env_second (hC : Sub C C) {i : AOp} {g : Option (Nat × Bool)} {d : Option Nat} {x : AVal} (hx : x.envOnly = true) (hi : indep (.val g d x) i = true) {s : S} {Q : S → Prop}
    (h : (AOp.val g d x).step C s fun s1 => i.step C s1 Q) : i.step C s fun s1 => (AOp.val g d x).step C s1 Q := by
  obtain ⟨i1, i2⟩ := indep_spec hi
  rw [step_val] at h
  obtain ⟨v, hv, h⟩ := h
  rw [step_put (d := d) (fun y e => i1 y e)] at h
  refine AOp.step_mono hC i s ?_ (step_env hC i s h)
  intro s1 ⟨he, hq⟩
  rw [step_val, sval_env hx (fun t ht => ev_of_get (he t (fun e => (i2 t e).1 ht)))]
  exact ⟨v, hv, hq⟩

theorem swap_vals {g g2 : Option (Nat × Bool)} {d d2 : Option Nat} {x y : AVal} (hi : indep (.val g d x) (.val g2 d2 y) = true) {s : S} {Q : S → Prop}
    (h : (AOp.val g d x).step C s fun s1 => (AOp.val g2 d2 y).step C s1 Q) : (AOp.val g2 d2 y).step C s fun s1 => (AOp.val g d x).step C s1 Q := by
  obtain ⟨i1, i2⟩ := indep_spec hi
  rw [step_val] at h ⊢
  obtain ⟨v, hv, h⟩ := h
  rw [step_val] at h
  obtain ⟨u, hu, h⟩ := h
  rw [sval_any (s := s) (put_bx s d v) (put_h s d v) (fun t ht => ev_put (d := d) (fun e => (i1 t e).1 ht))] at hu
  refine ⟨u, hu, ?_⟩
  rw [step_val, sval_any (s := s) (put_bx s d2 u) (put_h s d2 u) (fun t ht => ev_put (d := d2) (fun e => (i2 t e).1 ht))]
  refine ⟨v, hv, ?_⟩
  rw [put_put (d1 := d2) (d2 := d) (fun z e => (i2 z e).2)]
  exact h

end

/-! ### What reads boxes alone; what keeps them -/

/-- What reads no heap. -/
def AVal.bxOnly : AVal → Bool
  | .ldl .. => true
  | x => x.envOnly
/-- What keeps the boxes. -/
def AOp.keepsBx : AOp → Bool
  | .box .. | .st .. => false
  | _ => true

theorem eval_bx {e : List V} {bx : List (Option (Nat × List V))} {h h2 : Heap} {x : AVal} (hx : x.bxOnly = true) : x.eval e bx h = x.eval e bx h2 := by
  cases x <;> first | rfl | (simp [AVal.bxOnly, AVal.envOnly] at hx)

theorem run_bx {C : Call} (hC : Sub C C) (o : AOp) (hk : o.keepsBx = true) (s : S) {Q : S → Prop} (h : o.run C s Q) : o.run C s fun s1 => s1.bx = s.bx ∧ Q s1 := by
  cases o with
  | val g d x => simp only [AOp.run] at h ⊢; split at h <;> first | exact ⟨put_bx _ _ _, h⟩ | exact h.elim
  | box g d x n => simp [AOp.keepsBx] at hk
  | st g x v n => simp [AOp.keepsBx] at hk
  | hbox g d x n => simp only [AOp.run] at h ⊢; split at h <;> first | exact ⟨h.1, fun id hid => ⟨(by first | rfl | trivial), h.2 id hid⟩⟩ | exact h.elim
  | bsl g d sz len zero parts => simp only [AOp.run] at h ⊢; split at h <;> first | exact fun id hid => ⟨(by first | rfl | trivial), h id hid⟩ | exact h.elim
  | mks g d n c sz bytes zero =>
    simp only [AOp.run] at h ⊢; split at h <;> first | exact h.elim | skip
    exact ⟨h.1, h.2.1, h.2.2.1, h.2.2.2.1, fun id hid => ⟨(by first | rfl | trivial), h.2.2.2.2 id hid⟩⟩
  | app g d x y sz bytes =>
    simp only [AOp.run] at h ⊢
    split at h <;> first | exact h.elim | skip
    refine ⟨h.1, ?_⟩
    replace h := h.2
    split at h <;> first | exact h.elim | skip
    · rcases h with h | h
      · exact .inl ⟨h.1, h.2.1, fun id hid => ⟨(by first | rfl | trivial), h.2.2 id hid⟩⟩
      · exact .inr ⟨h.1, (by first | rfl | trivial), h.2⟩
    · split at h <;> first | exact h.elim | skip
      exact ⟨h.1, h.2.1, h.2.2.1, fun id2 h2 h3 => ⟨(by first | rfl | trivial), h.2.2.2 id2 h2 h3⟩⟩
  | cpy g d x y sz =>
    simp only [AOp.run] at h ⊢
    split at h <;> first | exact h.elim | skip
    · split at h <;> first | exact h.elim | skip
      refine ⟨h.1, h.2.1, ?_⟩
      replace h := h.2.2
      split at h <;> first | exact h.elim | skip
      exact ⟨h.1, put_bx _ _ _, h.2⟩
    · split at h <;> first | exact h.elim | exact ⟨h.1, put_bx _ _ _, h.2⟩
  | mkm g d => exact fun id hid => ⟨rfl, h id hid⟩
  | mup g ks m key v =>
    simp only [AOp.run] at h ⊢
    split at h <;> first | exact h.elim | skip
    split at h <;> first | exact h.elim | skip
    refine ⟨h.1, ?_⟩
    replace h := h.2
    split at h <;> first | exact h.elim | exact ⟨(by first | rfl | trivial), h⟩
  | men g d ks m key zero =>
    simp only [AOp.run] at h ⊢
    split at h <;> first | exact h.elim | skip
    split at h <;> first | exact h.elim | skip
    refine ⟨h.1, ?_⟩
    replace h := h.2
    split at h
    · split at h <;> first | exact h.elim | exact ⟨(by first | rfl | trivial), h⟩
    · exact ⟨(by first | rfl | trivial), h⟩
    · exact h.elim
  | mst g m stp v =>
    simp only [AOp.run] at h ⊢
    split at h <;> first | exact h.elim | skip
    refine ⟨h.1, ?_⟩
    replace h := h.2
    split at h <;> first | exact h.elim | skip
    split at h <;> first | exact h.elim | exact ⟨(by first | rfl | trivial), h⟩
  | call g d f args =>
    simp only [AOp.run] at h ⊢
    exact callOk_mono hC (fun r h2 hv => ⟨put_bx _ _ _, hv⟩) h
  | pcall g d f args =>
    simp only [AOp.run] at h ⊢
    exact callPure_mono hC (fun r h2 hv => ⟨put_bx _ _ _, hv⟩) h
  | callv g d f args =>
    simp only [AOp.run] at h ⊢
    split at h <;> first | exact h.elim | skip
    exact callOk_mono hC (fun r h2 hv => ⟨put_bx _ _ _, hv⟩) h

theorem step_bx {C : Call} (hC : Sub C C) (o : AOp) (hk : o.keepsBx = true) (s : S) {Q : S → Prop} (h : o.step C s Q) : o.step C s fun s1 => s1.bx = s.bx ∧ Q s1 := by
  rw [step_eq] at h ⊢
  split at h
  · exact run_bx hC o hk s h
  · exact ⟨put_bx _ _ _, h⟩
  · exact h

theorem sval_bx {g : Option (Nat × Bool)} {d : Option Nat} {x : AVal} {s s1 : S} (hx : x.bxOnly = true) (hb : s1.bx = s.bx) (h : ∀ t ∈ (AOp.val g d x).reads, ev s1.env (.t t) = ev s.env (.t t)) : sval (.val g d x) x s1 = sval (.val g d x) x s := by
  unfold sval
  rw [stat_cong h]
  have he := eval_cong (bx := s1.bx) (h := s1.h) x (opds_cong (o := .val g d x) h)
  rw [he, eval_bx hx (h2 := s.h), hb]

theorem swap_bx_first {C : Call} (hC : Sub C C) (hF : Full C) {j : AOp} {g : Option (Nat × Bool)} {d : Option Nat} {x : AVal} (hx : x.bxOnly = true) (hk : j.keepsBx = true) (hi : indep j (.val g d x) = true) {s : S} (hf : FinH s.h) {Q : S → Prop}
    (h : j.step C s fun s1 => (AOp.val g d x).step C s1 Q) : (AOp.val g d x).step C s fun s1 => j.step C s1 Q := by
  obtain ⟨i1, i2⟩ := indep_spec hi
  have h1 := step_bx hC j hk s (step_env hC j s h)
  have h2 : j.step C s fun s1 => ∃ v, sval (.val g d x) x s = some v ∧ Q (s1.put d v) := by
    refine AOp.step_mono hC j s ?_ h1
    intro s1 ⟨hb, he, hs⟩
    rw [step_val] at hs
    rwa [sval_bx hx hb (fun t ht => ev_of_get (he t (fun e => (i1 t e).1 ht)))] at hs
  obtain ⟨s1, _, v, hv, _⟩ := AOp.step_full hF j s (FinH.all hf) h2
  rw [step_val]
  refine ⟨v, hv, ?_⟩
  rw [step_put (d := d) (fun y e => i2 y e)]
  refine AOp.step_mono hC j s ?_ h2
  intro s1 ⟨v2, hv2, hq⟩
  rw [hv] at hv2; injection hv2 with hv2; rw [hv2]; exact hq

theorem swap_bx_second {C : Call} (hC : Sub C C) {i : AOp} {g : Option (Nat × Bool)} {d : Option Nat} {x : AVal} (hx : x.bxOnly = true) (hk : i.keepsBx = true) (hi : indep (.val g d x) i = true) {s : S} {Q : S → Prop}
    (h : (AOp.val g d x).step C s fun s1 => i.step C s1 Q) : i.step C s fun s1 => (AOp.val g d x).step C s1 Q := by
  obtain ⟨i1, i2⟩ := indep_spec hi
  rw [step_val] at h
  obtain ⟨v, hv, h⟩ := h
  rw [step_put (d := d) (fun y e => i1 y e)] at h
  refine AOp.step_mono hC i s ?_ (step_bx hC i hk s (step_env hC i s h))
  intro s1 ⟨hb, he, hq⟩
  rw [step_val, sval_bx hx hb (fun t ht => ev_of_get (he t (fun e => (i2 t e).1 ht)))]
  exact ⟨v, hv, hq⟩

/-! ### What only adds to memory -/

structure Ext (s s1 : S) : Prop where
  bx : ∀ t x, s.bx.getD t none = some x → s1.bx.getD t none = some x
  h : s.h.le s1.h

theorem Ext.put {s : S} (d : Option Nat) (v : V) : Ext s (s.put d v) := ⟨fun t x h => by rw [put_bx]; exact h, fun i b h => by rw [put_h]; exact h⟩

theorem le_upd {h : Heap} {id : Nat} {b : Blk} (hid : h id = none) : h.le (h.upd id (some b)) := by
  intro i x hx
  by_cases e : i = id
  · subst e; rw [hid] at hx; cases hx
  · simp [Heap.upd, e, hx]

def AOp.adds : AOp → Bool
  | .box .. | .hbox .. | .bsl .. | .mks .. | .mkm .. => true
  | _ => false

theorem run_ext {C : Call} (o : AOp) (hk : o.adds = true) (s : S) {Q : S → Prop} (h : o.run C s Q) : o.run C s fun s1 => Ext s s1 ∧ Q s1 := by
  cases o with
  | box g d x n =>
    simp only [AOp.run] at h ⊢; split at h <;> first | exact h.elim | skip
    refine ⟨h.1, h.2.1, fun g => ⟨⟨fun t y hy => ?_, fun _ _ h => h⟩, h.2.2 g⟩⟩
    have hne : d ≠ t := fun e => by subst e; rw [h.2.1] at hy; cases hy
    simp only [List.getD_eq_getElem?_getD, List.getElem?_set_ne hne] at hy ⊢
    exact hy
  | hbox g d x n => simp only [AOp.run] at h ⊢; split at h <;> first | exact ⟨h.1, fun id hid => ⟨⟨fun _ _ h => h, le_upd hid⟩, h.2 id hid⟩⟩ | exact h.elim
  | bsl g d sz len zero parts => simp only [AOp.run] at h ⊢; split at h <;> first | exact fun id hid => ⟨⟨fun _ _ h => h, le_upd hid⟩, h id hid⟩ | exact h.elim
  | mks g d n c sz bytes zero =>
    simp only [AOp.run] at h ⊢; split at h <;> first | exact h.elim | skip
    exact ⟨h.1, h.2.1, h.2.2.1, h.2.2.2.1, fun id hid => ⟨⟨fun _ _ h => h, le_upd hid⟩, h.2.2.2.2 id hid⟩⟩
  | mkm g d => exact fun id hid => ⟨⟨fun _ _ h => h, le_upd hid⟩, h id hid⟩
  | _ => simp [AOp.adds] at hk

theorem step_ext {C : Call} (o : AOp) (hk : o.adds = true) (s : S) {Q : S → Prop} (h : o.step C s Q) : o.step C s fun s1 => Ext s s1 ∧ Q s1 := by
  rw [step_eq] at h ⊢
  split at h
  · exact run_ext o hk s h
  · exact ⟨.put _ _, h⟩
  · exact h

theorem cellsAt_ext {s s1 : S} (h : Ext s s1) {p : V} {y : List V × Nat} (hp : cellsAt s.bx s.h p = some y) : cellsAt s1.bx s1.h p = some y := by
  unfold cellsAt at hp ⊢
  split at hp
  · rename_i t g off
    unfold boxOf at hp ⊢
    cases hb : s.bx.getD t none with
    | none => rw [hb] at hp; simp at hp
    | some z => rw [h.bx _ _ hb]; rw [hb] at hp; exact hp
  · rename_i id i off
    cases hb : s.h id with
    | none => rw [hb] at hp; simp at hp
    | some z => rw [h.h _ _ hb]; rw [hb] at hp; exact hp
  · exact hp
  · exact hp

theorem eval_ext {s s1 : S} (h : Ext s s1) {x : AVal} {v : V} (hv : x.eval s.env s.bx s.h = some v) : x.eval s.env s1.bx s1.h = some v := by
  cases x with
  | ld x n agg =>
    simp only [AVal.eval, loadOf] at hv ⊢
    cases hp : cellsAt s.bx s.h (ev s.env x) with
    | none => rw [hp] at hv; cases hv
    | some y => rw [cellsAt_ext h hp]; rw [hp] at hv; exact hv
  | ldl x n agg =>
    simp only [AVal.eval] at hv ⊢
    split at hv
    · rename_i t g off _
      simp only [boxOf] at hv ⊢
      cases hb : s.bx.getD t none with
      | none => rw [hb] at hv; cases hv
      | some z => rw [h.bx _ _ hb]; rw [hb] at hv; exact hv
    · exact hv
    · exact hv
  | ia x i esz =>
    simp only [AVal.eval] at hv ⊢
    split at hv <;> try exact hv
    split at hv <;> try exact hv
    split at hv
    case isFalse => cases hv
    rename_i id off ln _ hc
    rw [if_pos hc]
    cases hb : s.h id with
    | none => rw [hb] at hv; cases hv
    | some z => rw [h.h _ _ hb]; rw [hb] at hv; exact hv
  | slc x lo hi esz =>
    simp only [AVal.eval] at hv ⊢
    split at hv <;> try exact hv
    rename_i id off ln _
    cases hb : s.h id with
    | none => rw [hb] at hv; cases hv
    | some z => rw [h.h _ _ hb]; rw [hb] at hv; exact hv
  | lookup ks x k z =>
    simp only [AVal.eval] at hv ⊢
    split at hv <;> try exact hv
    rename_i id _
    cases hb : s.h id with
    | none => rw [hb] at hv; cases hv
    | some z => rw [h.h _ _ hb]; rw [hb] at hv; exact hv
  | lookupOk ks x k z =>
    simp only [AVal.eval] at hv ⊢
    split at hv <;> try exact hv
    rename_i id _
    cases hb : s.h id with
    | none => rw [hb] at hv; cases hv
    | some z => rw [h.h _ _ hb]; rw [hb] at hv; exact hv
  | mlen x =>
    simp only [AVal.eval] at hv ⊢
    split at hv <;> try exact hv
    rename_i id _
    cases hb : s.h id with
    | none => rw [hb] at hv; cases hv
    | some z => rw [h.h _ _ hb]; rw [hb] at hv; exact hv
  | _ => exact hv

theorem sval_ext {g : Option (Nat × Bool)} {d : Option Nat} {x : AVal} {s s1 : S} {v : V} (hx : Ext s s1) (h : ∀ t ∈ (AOp.val g d x).reads, ev s1.env (.t t) = ev s.env (.t t)) (hv : sval (.val g d x) x s = some v) : sval (.val g d x) x s1 = some v := by
  unfold sval at hv ⊢
  rw [stat_cong h]
  split at hv
  · rw [eval_cong x (opds_cong (o := .val g d x) h)]
    exact eval_ext hx hv
  · exact hv
  · cases hv

/-- What reads, and what only adds: it may be added first. -/
theorem swap_ext {C : Call} (hC : Sub C C) {i : AOp} {g : Option (Nat × Bool)} {d : Option Nat} {x : AVal} (hk : i.adds = true) (hi : indep (.val g d x) i = true) {s : S} {Q : S → Prop}
    (h : (AOp.val g d x).step C s fun s1 => i.step C s1 Q) : i.step C s fun s1 => (AOp.val g d x).step C s1 Q := by
  obtain ⟨i1, i2⟩ := indep_spec hi
  rw [step_val] at h
  obtain ⟨v, hv, h⟩ := h
  rw [step_put (d := d) (fun y e => i1 y e)] at h
  refine AOp.step_mono hC i s ?_ (step_ext i hk s (step_env hC i s h))
  intro s1 ⟨hb, he, hq⟩
  rw [step_val]
  exact ⟨v, sval_ext hb (fun t ht => ev_of_get (he t (fun e => (i2 t e).1 ht))) hv, hq⟩

/-! ### What is laid beside -/

/-- A call doesn't touch what it doesn't know. -/
def Frm (C : Call) : Prop := ∀ f vs h (R : V → Heap → Prop) id b, h id = none → C f vs h R → C f vs (h.upd id (some b)) fun r h3 => ∃ h2, h2 id = none ∧ h3 = h2.upd id (some b) ∧ R r h2

theorem Frz.le {h h2 : Heap} (hl : h.le h2) {ids : Nat → Prop} {v u : V} (hf : Frz h ids v u) : Frz h2 ids v u := by
  induction hf with
  | same v => exact .same v
  | nsl sz => exact .nsl sz
  | agg cs ds hlen _ ih => exact .agg cs ds hlen ih
  | tup cs ds hlen _ ih => exact .tup cs ds hlen ih
  | fsl sz els out ho hw _ ih => exact .fsl sz els out ho hw ih
  | msl id off len sz els out hid hb hlen ho hw _ ih => exact .msl id off len sz els out hid (hl _ _ hb) hlen ho hw ih

theorem Frz.but {h : Heap} {id : Nat} (hid : h id = none) {ids : Nat → Prop} {v u : V} (hf : Frz h ids v u) : Frz h (fun i => ids i ∧ i ≠ id) v u := by
  induction hf with
  | same v => exact .same v
  | nsl sz => exact .nsl sz
  | agg cs ds hlen _ ih => exact .agg cs ds hlen ih
  | tup cs ds hlen _ ih => exact .tup cs ds hlen ih
  | fsl sz els out ho hw _ ih => exact .fsl sz els out ho hw ih
  | msl i off len sz els out hi hb hlen ho hw _ ih => exact .msl i off len sz els out ⟨hi, fun e => by subst e; rw [hid] at hb; cases hb⟩ hb hlen ho hw ih

theorem callPure_frm {C : Call} {f : Nat} {vs : List V} {h : Heap} {R R2 : V → Heap → Prop} {id : Nat} {b : Blk} (hC : Sub C C) (hid : h id = none) (hR : ∀ r, R r h → R2 r (h.upd id (some b)))
    (hc : callPure C f vs h R) : callPure C f vs (h.upd id (some b)) R2 := by
  obtain ⟨ids, us, h1, h2, h3⟩ := hc
  exact ⟨ids, us, h1, fun i x y a1 a2 => (h2 i x y a1 a2).le (le_upd hid), hC _ _ _ _ _ (fun r _ hv => ⟨hv.1, hR r hv.2⟩) h3⟩

theorem callOk_frm {C : Call} {f : Nat} {vs : List V} {h : Heap} {R R2 : V → Heap → Prop} {id : Nat} {b : Blk} (hC : Sub C C) (hN : Frm C) (hid : h id = none) (hR : ∀ r h2, h2 id = none → R r h2 → R2 r (h2.upd id (some b)))
    (hc : callOk C f vs h R) : callOk C f vs (h.upd id (some b)) R2 := by
  rcases hc with hc | hc | ⟨ids, us, h2, l1, l2, l3, l4, hc⟩
  · exact .inl (hC _ _ _ _ _ (fun r h3 ⟨h2, e1, e2, e3⟩ => by subst e2; exact hR r h2 e1 e3) (hN _ _ _ _ id b hid hc))
  · exact .inr (.inl (callPure_frm hC hid (fun r hr => hR r h hid hr) hc))
  · have hid2 : h2 id = none := by
      cases e : h2 id with
      | none => rfl
      | some x => rw [l3 id x e] at hid; cases hid
    refine .inr (.inr ⟨fun i => ids i ∧ i ≠ id, us, h2.upd id (some b), l1, fun i x y a1 a2 => ((l2 i x y a1 a2).but hid).le (le_upd hid), ?_, ?_, hC _ _ _ _ _ (fun r h3 ⟨h2, e1, e2, e3⟩ => by subst e2; exact hR r h2 e1 e3) (hN _ _ _ _ id b hid2 hc)⟩)
    · intro i x hx
      simp only [Heap.upd] at hx ⊢
      split
      · rename_i e; rw [if_pos e] at hx; exact hx
      · rename_i e; rw [if_neg e] at hx; exact l3 i x hx
    · intro i ⟨h5, h6⟩
      simp only [Heap.upd]
      rw [if_neg h6]; exact l4 i h5

theorem upd_comm {h : Heap} {i j : Nat} (hne : i ≠ j) (a b : Option Blk) : (h.upd i a).upd j b = (h.upd j b).upd i a := by
  funext k
  simp only [Heap.upd]
  by_cases h1 : k = j
  · subst h1; have : ¬ k = i := fun e => hne e.symm
    simp [this]
  · simp [h1]
theorem upd_ne {h : Heap} {i j : Nat} (hne : i ≠ j) (a : Option Blk) : (h.upd i a) j = h j := by
  simp only [Heap.upd]; rw [if_neg (fun e => hne e.symm)]

/-- What may lie ahead of a new array: what keeps the boxes and finds its own way beside it. -/
def AOp.beside : AOp → Bool
  | .bsl .. | .call .. | .pcall .. => true
  | _ => false

/-- A new array laid first: 'o' does beside it what it does without it. -/
theorem run_beside {C : Call} (hC : Sub C C) (hN : Frm C) (o : AOp) (hk : o.beside = true) (s : S) (id : Nat) (b : Blk) (hid : s.h id = none) {Q : S → Prop}
    (h : o.run C s fun s1 => s1.h id = none → Q { s1 with h := s1.h.upd id (some b) }) : o.run C { s with h := s.h.upd id (some b) } Q := by
  cases o with
  | bsl g d sz len zero ps =>
    simp only [AOp.run] at h ⊢
    split at h <;> first | exact h.elim | skip
    intro id2 h2
    have hne : id2 ≠ id := fun e => by subst e; simp [Heap.upd] at h2
    have h3 : s.h id2 = none := by rwa [upd_ne (fun e => hne e.symm)] at h2
    have := h id2 h3 (by show (s.h.upd id2 _) id = none; rw [upd_ne hne]; exact hid)
    rw [upd_comm hne] at this
    exact this
  | call g d f as =>
    simp only [AOp.run] at h ⊢
    refine callOk_frm hC hN hid ?_ h
    intro r h2 e1 e2
    have := e2 (by rw [put_h]; exact e1)
    cases d <;> exact this
  | pcall g d f as =>
    simp only [AOp.run] at h ⊢
    refine callPure_frm hC hid ?_ h
    intro r e2
    have := e2 (by rw [put_h]; exact hid)
    cases d <;> exact this
  | _ => simp [AOp.beside] at hk

theorem step_beside {C : Call} (hC : Sub C C) (hN : Frm C) (o : AOp) (hk : o.beside = true) (s : S) (id : Nat) (b : Blk) (hid : s.h id = none) {Q : S → Prop}
    (h : o.step C s fun s1 => s1.h id = none → Q { s1 with h := s1.h.upd id (some b) }) : o.step C { s with h := s.h.upd id (some b) } Q := by
  rw [step_eq] at h ⊢
  split at h
  · rename_i e; rw [e]; exact run_beside hC hN o hk s id b hid h
  · rename_i e; rw [e]
    have := h (by rw [put_h]; exact hid)
    cases hd : o.dst <;> rw [hd] at this <;> exact this
  · exact h.elim

theorem fill_reads {g : Option (Nat × Bool)} {d sz len : Nat} {zero : List V} {ps : List (Nat × Nat × Opd)} {e e2 : List V} (h : ∀ t ∈ (AOp.bsl g d sz len zero ps).reads, ev e (.t t) = ev e2 (.t t)) (cs : List V) : fill e cs ps = fill e2 cs ps :=
  fill_cong ps cs (opds_cong (o := .bsl g d sz len zero ps) h)

/-- A new array may be made ahead of a call, or of another one. -/
theorem swap_bsl {C : Call} (hC : Sub C C) (hF : Full C) (hN : Frm C) {j : AOp} {g : Option (Nat × Bool)} {d sz len : Nat} {zero : List V} {ps : List (Nat × Nat × Opd)} (hk : j.beside = true) (hi : indep j (.bsl g d sz len zero ps) = true) {s : S} (hf : FinH s.h) {Q : S → Prop}
    (h : j.step C s fun s1 => (AOp.bsl g d sz len zero ps).step C s1 Q) : (AOp.bsl g d sz len zero ps).step C s fun s1 => j.step C s1 Q := by
  obtain ⟨i1, i2⟩ := indep_spec hi
  have h1 := step_env hC j s h
  have hcg : ∀ s1 : S, (∀ t : Nat, j.dst ≠ some t → s1.env[t]? = s.env[t]?) → ∀ t ∈ (AOp.bsl g d sz len zero ps).reads, ev s1.env (.t t) = ev s.env (.t t) :=
    fun s1 he t ht => ev_of_get (he t (fun e => (i1 t e).1 ht))
  rw [step_eq]
  have hst : ∀ s1 : S, (∀ t : Nat, j.dst ≠ some t → s1.env[t]? = s.env[t]?) → (AOp.bsl g d sz len zero ps).stat s1.env = (AOp.bsl g d sz len zero ps).stat s.env := fun s1 he => stat_cong (hcg s1 he)
  cases hs : (AOp.bsl g d sz len zero ps).stat s.env with
  | none =>
    obtain ⟨s1, _, he, hb⟩ := AOp.step_full hF j s (FinH.all hf) h1
    rw [step_eq, hst s1 he, hs] at hb
    exact hb
  | some b =>
    cases b with
    | false =>
      simp only []
      rw [step_put (fun y e => i2 y e)]
      refine AOp.step_mono hC j s ?_ h1
      intro s1 ⟨he, hb⟩
      rw [step_eq, hst s1 he, hs] at hb
      exact hb
    | true =>
      simp only [AOp.run]
      have h2 : j.step C s fun s1 => ∃ cs, fill s.env ((List.replicate len zero).flatten) ps = some cs ∧ ∀ id, s1.h id = none → Q { s1 with env := s1.env.set d (.msl id 0 len), h := s1.h.upd id (some (.arr sz ((List.range len).map fun i => (cs.drop (i * sz)).take sz))) } := by
        refine AOp.step_mono hC j s ?_ h1
        intro s1 ⟨he, hb⟩
        rw [step_eq, hst s1 he, hs] at hb
        simp only [AOp.run] at hb
        rw [fill_reads (hcg s1 he)] at hb
        split at hb
        · rename_i cs hcs; exact ⟨cs, hcs, hb⟩
        · exact hb.elim
      obtain ⟨s1, _, cs, hcs, _⟩ := AOp.step_full hF j s (FinH.all hf) h2
      rw [hcs]
      intro id hid
      have h3 : j.step C ({ s with h := s.h.upd id (some (.arr sz ((List.range len).map fun i => (cs.drop (i * sz)).take sz))) } : S) fun s1 => Q (s1.put (some d) (.msl id 0 len)) := by
        refine step_beside hC hN j hk s id _ hid ?_
        refine AOp.step_mono hC j s ?_ h2
        intro s1 ⟨cs2, e1, e2⟩ hid1
        rw [hcs] at e1; injection e1 with e1; subst e1
        exact e2 id hid1
      rw [← step_put (d := some d) (v := .msl id 0 len) (fun y e => i2 y e)] at h3
      exact h3

/-- A box laid first: 'o' does the same. -/
def AOp.noBox : AOp → Bool
  | .bsl .. | .call .. | .pcall .. | .callv .. | .box .. => true
  | _ => false

theorem run_boxed {C : Call} (o : AOp) (hk : o.noBox = true) (s : S) (d : Nat) (b : Option (Nat × List V)) (hd : o.dst ≠ some d) {Q : S → Prop}
    (h : o.run C s fun s1 => Q { s1 with bx := s1.bx.set d b }) : o.run C { s with bx := s.bx.set d b } Q := by
  cases o with
  | bsl g d2 sz len zero ps =>
    simp only [AOp.run] at h ⊢
    split at h <;> first | exact h.elim | skip
    exact h
  | box g d2 x n =>
    simp only [AOp.run] at h ⊢
    split at h <;> first | exact h.elim | skip
    have hne : d ≠ d2 := fun e => hd (by simp [AOp.dst, e])
    refine ⟨h.1, ?_, fun g => ?_⟩
    · simp only [List.getD_eq_getElem?_getD, List.getElem?_set_ne hne]
      have := h.2.1
      simpa only [List.getD_eq_getElem?_getD] using this
    · have := h.2.2 g
      rw [List.set_comm _ _ hne]
      exact this
  | call g d2 f as =>
    simp only [AOp.run] at h ⊢
    have he : (fun r h => Q (({ env := s.env, bx := s.bx.set d b, h := h } : S).put d2 r)) = fun r h => Q { ({ s with h := h } : S).put d2 r with bx := (({ s with h := h } : S).put d2 r).bx.set d b } := by
      funext r h; cases d2 <;> rfl
    exact he ▸ h
  | pcall g d2 f as =>
    simp only [AOp.run] at h ⊢
    have he : (fun r h => Q (({ env := s.env, bx := s.bx.set d b, h := h } : S).put d2 r)) = fun r h => Q { ({ s with h := h } : S).put d2 r with bx := (({ s with h := h } : S).put d2 r).bx.set d b } := by
      funext r h; cases d2 <;> rfl
    exact he ▸ h
  | callv g d2 f as =>
    simp only [AOp.run] at h ⊢
    split at h <;> first | exact h.elim | skip
    have he : (fun r h => Q (({ env := s.env, bx := s.bx.set d b, h := h } : S).put d2 r)) = fun r h => Q { ({ s with h := h } : S).put d2 r with bx := (({ s with h := h } : S).put d2 r).bx.set d b } := by
      funext r h; cases d2 <;> rfl
    exact he ▸ h
  | _ => simp [AOp.noBox] at hk

theorem step_boxed {C : Call} (o : AOp) (hk : o.noBox = true) (s : S) (d : Nat) (b : Option (Nat × List V)) (hd : o.dst ≠ some d) {Q : S → Prop}
    (h : o.step C s fun s1 => Q { s1 with bx := s1.bx.set d b }) : o.step C { s with bx := s.bx.set d b } Q := by
  rw [step_eq] at h ⊢
  split at h
  · rename_i e; rw [e]; exact run_boxed o hk s d b hd h
  · rename_i e; rw [e]
    cases hd : o.dst <;> rw [hd] at h <;> exact h
  · exact h.elim

/-- What 'o' leaves of the boxes. -/
theorem run_bxd {C : Call} (hC : Sub C C) (o : AOp) (hk : o.noBox = true) (s : S) {Q : S → Prop} (h : o.run C s Q) : o.run C s fun s1 => (∀ t : Nat, o.dst ≠ some t → s1.bx[t]? = s.bx[t]?) ∧ Q s1 := by
  by_cases hb : o.keepsBx = true
  · exact AOp.run_mono hC o s (fun s1 h => ⟨fun t _ => by rw [h.1], h.2⟩) (run_bx hC o hb s h)
  · cases o with
    | box g d x n =>
      simp only [AOp.run] at h ⊢
      split at h <;> first | exact h.elim | skip
      refine ⟨h.1, h.2.1, fun g => ⟨fun t ht => ?_, h.2.2 g⟩⟩
      have : d ≠ t := fun e => ht (by simp [AOp.dst, e])
      exact List.getElem?_set_ne this
    | st => simp [AOp.noBox] at hk
    | _ => simp [AOp.keepsBx] at hb

theorem step_bxd {C : Call} (hC : Sub C C) (o : AOp) (hk : o.noBox = true) (s : S) {Q : S → Prop} (h : o.step C s Q) : o.step C s fun s1 => (∀ t : Nat, o.dst ≠ some t → s1.bx[t]? = s.bx[t]?) ∧ Q s1 := by
  rw [step_eq] at h ⊢
  split at h
  · exact run_bxd hC o hk s h
  · exact ⟨fun t _ => by rw [put_bx], h⟩
  · exact h

/-- A box may be made ahead of a call, or of another one. -/
theorem swap_box {C : Call} (hC : Sub C C) (hF : Full C) {j : AOp} {g : Option (Nat × Bool)} {d n : Nat} {x : Opd} (hk : j.noBox = true) (hi : indep j (.box g d x n) = true) {s : S} (hf : FinH s.h) {Q : S → Prop}
    (h : j.step C s fun s1 => (AOp.box g d x n).step C s1 Q) : (AOp.box g d x n).step C s fun s1 => j.step C s1 Q := by
  obtain ⟨i1, i2⟩ := indep_spec hi
  have h1 := step_bxd hC j hk s (step_env hC j s h)
  have hcg : ∀ s1 : S, (∀ t : Nat, j.dst ≠ some t → s1.env[t]? = s.env[t]?) → ∀ t ∈ (AOp.box g d x n).reads, ev s1.env (.t t) = ev s.env (.t t) :=
    fun s1 he t ht => ev_of_get (he t (fun e => (i1 t e).1 ht))
  have hjd : j.dst ≠ some d := (i2 d rfl).2
  rw [step_eq]
  have hst : ∀ s1 : S, (∀ t : Nat, j.dst ≠ some t → s1.env[t]? = s.env[t]?) → (AOp.box g d x n).stat s1.env = (AOp.box g d x n).stat s.env := fun s1 he => stat_cong (hcg s1 he)
  cases hs : (AOp.box g d x n).stat s.env with
  | none =>
    obtain ⟨s1, _, _, he, hb⟩ := AOp.step_full hF j s (FinH.all hf) h1
    rw [step_eq, hst s1 he, hs] at hb
    exact hb
  | some b =>
    cases b with
    | false =>
      simp only []
      rw [step_put (fun y e => i2 y e)]
      refine AOp.step_mono hC j s ?_ h1
      intro s1 ⟨_, he, hb⟩
      rw [step_eq, hst s1 he, hs] at hb
      exact hb
    | true =>
      simp only [AOp.run]
      have h2 : j.step C s fun s1 => ∃ cs, cellsOf (ev s.env x) = some cs ∧ cs.length = n ∧ s.bx.getD d none = none ∧ ∀ g, Q { s1 with env := s1.env.set d (.lp d g 0), bx := s1.bx.set d (some (g, cs)) } := by
        refine AOp.step_mono hC j s ?_ h1
        intro s1 ⟨hbx, he, hb⟩
        rw [step_eq, hst s1 he, hs] at hb
        simp only [AOp.run] at hb
        rw [opds_cong (o := .box g d x n) (hcg s1 he) x (by simp [AOp.opds])] at hb
        split at hb
        · rename_i cs hcs
          refine ⟨cs, hcs, hb.1, ?_, hb.2.2⟩
          have e1 := hb.2.1
          rw [List.getD_eq_getElem?_getD, hbx d hjd] at e1
          rw [List.getD_eq_getElem?_getD]; exact e1
        · exact hb.elim
      obtain ⟨s1, _, cs, hcs, hn, hbd, _⟩ := AOp.step_full hF j s (FinH.all hf) h2
      rw [hcs]
      refine ⟨hn, hbd, fun g => ?_⟩
      have h3 : j.step C ({ s with bx := s.bx.set d (some (g, cs)) } : S) fun s1 => Q (s1.put (some d) (.lp d g 0)) := by
        refine step_boxed j hk s d _ hjd ?_
        refine AOp.step_mono hC j s ?_ h2
        intro s1 ⟨cs2, e1, _, _, e2⟩
        rw [hcs] at e1; injection e1 with e1; subst e1
        exact e2 g
      rw [← step_put (d := some d) (v := .lp d g 0) (fun y e => i2 y e)] at h3
      exact h3

theorem keyEq_self {ks : Nat} {k : V} (h : keyIs ks k = true) : keyEq k k = some true := by
  unfold keyIs at h
  split at h
  · simp [keyEq]
  · simp only [keyEq, bytes_self]
  · simp [keyEq]
  · cases h

theorem findKey_push {k : V} {z : V} (hk : keyEq k k = some true) : ∀ {es : List (V × V)}, findKey k es = some none → findKey k (es ++ [(k, z)]) = some (some es.length)
  | [], _ => by simp [findKey, hk]
  | e :: es, h => by
    simp only [findKey] at h
    simp only [List.cons_append, findKey]
    split at h
    · simp at h
    · simp only [Option.map_eq_some_iff] at h
      obtain ⟨r, h1, h2⟩ := h
      cases r with
      | some j => simp at h2
      | none => simp only [findKey_push hk h1, Option.map_some, List.length_cons]
    · cases h

/-- Of an entry what it holds, or the zero that it is made with: one and the same, read ahead of its making or behind it. -/
theorem swap_men {C : Call} {d d2 ks m k : Nat} {zk : IntKind} {zn : Int} (hi : indep (.val none (some d) (.lookup ks (.t m) (.t k) (.int zk zn))) (.men none d2 ks (.t m) (.t k) (.int zk zn)) = true) {s : S} {Q : S → Prop}
    (h : (AOp.val none (some d) (.lookup ks (.t m) (.t k) (.int zk zn))).step C s fun s1 => (AOp.men none d2 ks (.t m) (.t k) (.int zk zn)).step C s1 Q) :
    (AOp.men none d2 ks (.t m) (.t k) (.int zk zn)).step C s fun s1 => (AOp.val none (some d) (.lookup ks (.t m) (.t k) (.int zk zn))).step C s1 Q := by
  obtain ⟨i1, i2⟩ := indep_spec hi
  have n1 : ∀ t : Nat, t ∈ [m, k] → ∀ v : V, ev (s.env.set d v) (.t t) = ev s.env (.t t) := by
    intro t ht v
    refine ev_ne fun e => (i1 d rfl).1 ?_
    injection e with e; subst e
    simpa [AOp.reads, AOp.opds, AOp.guard] using ht
  have n2 : ∀ t : Nat, t ∈ [m, k] → ∀ v : V, ev (s.env.set d2 v) (.t t) = ev s.env (.t t) := by
    intro t ht v
    refine ev_ne fun e => (i2 d2 rfl).1 ?_
    injection e with e; subst e
    simpa [AOp.reads, AOp.opds, AVal.opds, AOp.guard] using ht
  have hne : d2 ≠ d := fun e => (i1 d rfl).2 (by rw [← e]; rfl)
  simp only [step_eq, AOp.stat, AOp.guard, AOp.run, AVal.eval, S.put] at h ⊢
  cases hm : ev s.env (.t m) with
  | map id =>
    rw [hm] at h
    simp only [] at h ⊢
    cases hh : s.h id with
    | none => rw [hh] at h; exact h.elim
    | some bk =>
      cases bk with
      | arr sz els => rw [hh] at h; exact h.elim
      | map es =>
        rw [hh] at h
        simp only [] at h ⊢
        by_cases hk : keyIs ks (ev s.env (.t k)) = true
        · rw [if_pos hk] at h
          refine ⟨hk, ?_⟩
          cases hf : findKey (ev s.env (.t k)) es with
          | none => rw [hf] at h; exact h.elim
          | some r =>
            rw [hf] at h
            cases r with
            | some i =>
              simp only [] at h ⊢
              cases he : es[i]? with
              | none => rw [he] at h; exact h.elim
              | some e =>
                rw [he] at h
                simp only [Option.map_some, n1 m (by simp), n1 k (by simp), hm, hh, hf, he] at h
                simp only [n2 m (by simp), n2 k (by simp), hm, hh, hf, he, if_pos hk, Option.map_some]
                rw [List.set_comm _ _ hne]
                exact h.2
            | none =>
              simp only [n1 m (by simp), n1 k (by simp), hm, hh, hf] at h
              have hp := findKey_push (z := .int zk zn) (keyEq_self hk) hf
              have hu : (s.h.upd id (some (.map (es ++ [(ev s.env (.t k), .int zk zn)])))) id = some (.map (es ++ [(ev s.env (.t k), .int zk zn)])) := by simp [Heap.upd]
              simp only [n2 m (by simp), n2 k (by simp), hm, hu, hp, if_pos hk]
              simp only [List.getElem?_append_right (Nat.le_refl _), Nat.sub_self, List.getElem?_cons_zero, Option.map_some]
              rw [List.set_comm _ _ hne]
              exact h.2
        · rw [if_neg hk] at h; exact h.elim
  | _ => rw [hm] at h; exact h.elim

/-- May 'i', which stands behind 'j', be carried out ahead of it? -/
def mayPass (j i : AOp) : Bool :=
  indep j i && match j, i with
  | .val none (some _) (.lookup ks (.t m) (.t k) (.int zk zn)), .men none _ ks2 (.t m2) (.t k2) (.int zk2 zn2) => ks == ks2 && m == m2 && k == k2 && zk == zk2 && zn == zn2
  | .val .., .val .. => true
  | o, .val _ _ y => y.envOnly || (y.bxOnly && o.keepsBx)
  | .val _ _ x, o => x.envOnly || (x.bxOnly && o.keepsBx) || o.adds
  | o, .bsl .. => o.beside
  | o, .box .. => o.noBox
  | _, _ => false

theorem pass {C : Call} (hC : Sub C C) (hF : Full C) (hN : Frm C) {j i : AOp} (hp : mayPass j i = true) {s : S} (hf : FinH s.h) {Q : S → Prop} (h : j.step C s fun s1 => i.step C s1 Q) : i.step C s fun s1 => j.step C s1 Q := by
  simp only [mayPass, Bool.and_eq_true] at hp
  obtain ⟨hi, hp⟩ := hp
  split at hp
  · simp only [Bool.and_eq_true, beq_iff_eq] at hp
    obtain ⟨⟨⟨⟨rfl, rfl⟩, rfl⟩, rfl⟩, rfl⟩ := hp
    exact swap_men hi h
  · exact swap_vals hi h
  · simp only [Bool.or_eq_true, Bool.and_eq_true] at hp
    rcases hp with hp | hp
    · exact swap_env_first hC hF hp hi hf h
    · exact swap_bx_first hC hF hp.1 hp.2 hi hf h
  · simp only [Bool.or_eq_true, Bool.and_eq_true] at hp
    rcases hp with (hp | hp) | hp
    · exact swap_env_second hC hp hi h
    · exact swap_bx_second hC hp.1 hp.2 hi h
    · exact swap_ext hC hp hi h
  · exact swap_bsl hC hF hN hp hi hf h
  · exact swap_box hC hF hp hi hf h
  · cases hp


/-! ### Every order -/

/-- What comes of a call in a finite heap is a finite heap. -/
def FinC (C : Call) : Prop := ∀ f vs h (R : V → Heap → Prop), FinH h → C f vs h R → C f vs h fun r h2 => FinH h2 ∧ R r h2

theorem run_fin {C : Call} (hC : Sub C C) (hN : FinC C) (o : AOp) (s : S) {Q : S → Prop} (hf : FinH s.h) (h : o.run C s Q) : o.run C s fun s1 => FinH s1.h ∧ Q s1 := by
  have hcp : ∀ {f vs} {d : Option Nat}, callPure C f vs s.h (fun r h => Q (({ s with h := h } : S).put d r)) → callPure C f vs s.h fun r h => FinH (({ s with h := h } : S).put d r).h ∧ Q (({ s with h := h } : S).put d r) := by
    intro f vs d ⟨ids, us, h1, h2, h3⟩
    exact ⟨ids, us, h1, h2, hC _ _ _ _ _ (fun r h hv => ⟨hv.1, by rw [put_h]; exact hf, hv.2⟩) h3⟩
  have hco : ∀ {f vs} {d : Option Nat}, callOk C f vs s.h (fun r h => Q (({ s with h := h } : S).put d r)) → callOk C f vs s.h fun r h => FinH (({ s with h := h } : S).put d r).h ∧ Q (({ s with h := h } : S).put d r) := by
    intro f vs d hc
    rcases hc with hc | hc | ⟨ids, us, h2, l1, l2, l3, l4, hc⟩
    · exact .inl (hC _ _ _ _ _ (fun r h hv => ⟨by rw [put_h]; exact hv.1, hv.2⟩) (hN _ _ _ _ hf hc))
    · exact .inr (.inl (hcp hc))
    · exact .inr (.inr ⟨ids, us, h2, l1, l2, l3, l4, hC _ _ _ _ _ (fun r h hv => ⟨by rw [put_h]; exact hv.1, hv.2⟩) (hN _ _ _ _ (FinH.le l3 hf) hc)⟩)
  cases o with
  | val g d x => simp only [AOp.run] at h ⊢; split at h <;> first | exact ⟨by rw [put_h]; exact hf, h⟩ | exact h.elim
  | box g d x n => simp only [AOp.run] at h ⊢; split at h <;> first | exact ⟨h.1, h.2.1, fun g => ⟨hf, h.2.2 g⟩⟩ | exact h.elim
  | hbox g d x n => simp only [AOp.run] at h ⊢; split at h <;> first | exact ⟨h.1, fun id hid => ⟨hf.upd _ _, h.2 id hid⟩⟩ | exact h.elim
  | bsl g d sz len zero parts => simp only [AOp.run] at h ⊢; split at h <;> first | exact fun id hid => ⟨hf.upd _ _, h id hid⟩ | exact h.elim
  | mks g d n c sz bytes zero =>
    simp only [AOp.run] at h ⊢; split at h <;> first | exact h.elim | skip
    exact ⟨h.1, h.2.1, h.2.2.1, h.2.2.2.1, fun id hid => ⟨hf.upd _ _, h.2.2.2.2 id hid⟩⟩
  | st g x v n =>
    simp only [AOp.run] at h ⊢; split at h <;> first | exact h.elim | skip
    rename_i s2 hs2
    refine ⟨?_, h⟩
    unfold storeOf at hs2
    split at hs2
    · split at hs2
      · split at hs2
        · simp at hs2; subst hs2; exact hf
        · cases hs2
      · cases hs2
    · split at hs2
      · split at hs2
        · split at hs2
          · simp at hs2; subst hs2; exact hf.upd _ _
          · cases hs2
        · cases hs2
      · cases hs2
    · cases hs2
  | app g d x y sz bytes =>
    simp only [AOp.run] at h ⊢
    split at h <;> first | exact h.elim | skip
    refine ⟨h.1, ?_⟩
    replace h := h.2
    split at h <;> first | exact h.elim | skip
    · rcases h with h | h
      · exact .inl ⟨h.1, h.2.1, fun id hid => ⟨hf.upd _ _, h.2.2 id hid⟩⟩
      · exact .inr ⟨h.1, hf, h.2⟩
    · split at h <;> first | exact h.elim | skip
      exact ⟨h.1, h.2.1, h.2.2.1, fun id2 h2 h3 => ⟨(hf.upd _ _).upd _ _, h.2.2.2 id2 h2 h3⟩⟩
  | cpy g d x y sz =>
    simp only [AOp.run] at h ⊢
    split at h <;> first | exact h.elim | skip
    · split at h <;> first | exact h.elim | skip
      refine ⟨h.1, h.2.1, ?_⟩
      replace h := h.2.2
      split at h <;> first | exact h.elim | skip
      exact ⟨h.1, by rw [put_h]; exact hf.upd _ _, h.2⟩
    · split at h <;> first | exact h.elim | exact ⟨h.1, by rw [put_h]; exact hf, h.2⟩
  | mkm g d => exact fun id hid => ⟨hf.upd _ _, h id hid⟩
  | mup g ks m key v =>
    simp only [AOp.run] at h ⊢
    split at h <;> first | exact h.elim | skip
    split at h <;> first | exact h.elim | skip
    refine ⟨h.1, ?_⟩
    replace h := h.2
    split at h <;> first | exact h.elim | exact ⟨hf.upd _ _, h⟩
  | men g d ks m key zero =>
    simp only [AOp.run] at h ⊢
    split at h <;> first | exact h.elim | skip
    split at h <;> first | exact h.elim | skip
    refine ⟨h.1, ?_⟩
    replace h := h.2
    split at h
    · split at h <;> first | exact h.elim | exact ⟨hf, h⟩
    · exact ⟨hf.upd _ _, h⟩
    · exact h.elim
  | mst g m stp v =>
    simp only [AOp.run] at h ⊢
    split at h <;> first | exact h.elim | skip
    refine ⟨h.1, ?_⟩
    replace h := h.2
    split at h <;> first | exact h.elim | skip
    split at h <;> first | exact h.elim | exact ⟨hf.upd _ _, h⟩
  | call g d f args => exact hco h
  | pcall g d f args => exact hcp h
  | callv g d f args =>
    simp only [AOp.run] at h ⊢
    split at h <;> first | exact h.elim | skip
    exact hco h

theorem step_fin {C : Call} (hC : Sub C C) (hN : FinC C) (o : AOp) (s : S) {Q : S → Prop} (hf : FinH s.h) (h : o.step C s Q) : o.step C s fun s1 => FinH s1.h ∧ Q s1 := by
  rw [step_eq] at h ⊢
  split at h
  · exact run_fin hC hN o s hf h
  · exact ⟨by rw [put_h]; exact hf, h⟩
  · exact h

/-- One operation, carried out ahead of others. -/
theorem move_front {C : Call} (hC : Sub C C) (hF : Full C) (hN : FinC C) (hM : Frm C) {i : AOp} {post : List AOp} {Q : S → Prop} : ∀ (pre : List AOp), (∀ j ∈ pre, mayPass j i = true) → ∀ s : S, FinH s.h →
    wOps C (pre ++ i :: post) Q s → i.step C s (wOps C (pre ++ post) Q)
  | [], _, _, _, h => h
  | j :: pre, hp, s, hf, h => by
    have h1 : j.step C s fun s1 => i.step C s1 (wOps C (pre ++ post) Q) := by
      refine AOp.step_mono hC j s ?_ (step_fin hC hN j s hf h)
      intro s1 ⟨hf1, h2⟩
      exact move_front hC hF hN hM pre (fun k hk => hp k (by simp [hk])) s1 hf1 h2
    exact pass hC hF hM (hp j (by simp)) hf h1

theorem sim_sub {P : Program} : Sub (Sim P) (Sim P) := by
  intro f vs h R R' hr ⟨h1, h2, h3⟩
  refine ⟨h1, fun L hf => by obtain ⟨r, h4, h5, h6⟩ := h2 L hf; exact ⟨r, h4, h5, hr _ _ h6⟩, ?_⟩
  intro own m w us a1 a2 a3 a4 a5
  refine (h3 own m w us a1 a2 a3 a4 a5).mono ?_
  intro e w2 he
  cases e with
  | returned u => obtain ⟨own2, m2, r, h2, hR, b1, b2⟩ := he; exact ⟨own2, m2, r, h2, hr _ _ hR, b1, b2⟩
  | panicked c => exact he
  | outgrown => exact he

theorem hrel_fin {own : Nat → Prop} {m : Maps} {h : Heap} {w : World} (hr : HRel own m h w) (hf : Fin m) : FinH h := by
  obtain ⟨N, h1, _⟩ := hf
  refine ⟨N, fun i hi => ?_⟩
  cases e : h i with
  | none => rfl
  | some x => obtain ⟨b, o, sz, C, e1, _⟩ := hr.blk i x e; rw [h1 i hi] at e1; cases e1

theorem sim_finc {P : Program} : FinC (Sim P) := by
  intro f vs h R hf ⟨h1, h2, h3⟩
  refine ⟨h1, fun L hf => by obtain ⟨r, h4, h5, h6⟩ := h2 L hf; exact ⟨r, h4, h5, h5.1, h6⟩, ?_⟩
  intro own m w us a1 a2 a3 a4 a5
  refine (h3 own m w us a1 a2 a3 a4 a5).mono ?_
  intro e w2 he
  cases e with
  | returned u => obtain ⟨own2, m2, r, h2, hR, b1, b2⟩ := he; exact ⟨own2, m2, r, h2, ⟨hrel_fin b2.heap b2.fin, hR⟩, b1, b2⟩
  | panicked c => exact he
  | outgrown => exact he

theorem HRel.less {own : Nat → Prop} {m : Maps} {h : Heap} {w : World} {id : Nat} {b : Blk} (hid : h id = none) (hr : HRel own m (h.upd id (some b)) w) : HRel own m h w :=
  ⟨fun i x hx => hr.blk i x (le_upd hid i x hx), fun i j x y b r r2 e1 e2 => hr.inj i j x y b r r2 (le_upd hid i x e1) (le_upd hid j y e2)⟩

theorem sim_frm {P : Program} : Frm (Sim P) := by
  intro f vs h R id b hid ⟨h1, h2, h3⟩
  refine ⟨h1, fun L hf => ?_, ?_⟩
  · have hL : FinA (id :: L) h := ⟨FinH.le (le_upd (b := b) hid) hf.1, fun i hi => by
      rcases List.mem_cons.1 hi with e | e
      · rw [e]; exact hid
      · cases hh : h i with
        | none => rfl
        | some x => have := le_upd (b := b) hid i x hh; rw [hf.2 i e] at this; cases this⟩
    obtain ⟨r, h4, h5, h6⟩ := h2 _ hL
    have hne : id ∉ L := fun e => by have := hf.2 id e; simp [Heap.upd] at this
    exact ⟨r, h4.upd id (some b), FinA.upd ⟨h5.1, fun i hi => h5.2 i (List.mem_cons_of_mem _ hi)⟩ hne _, h4, h5.2 id (by simp), rfl, h6⟩
  · intro own m w us a1 a2 a3 a4 a5
    refine (h3 own m w us (a1.less hid) a2 a3 a4 a5).mono ?_
    intro e w2 he
    cases e with
    | panicked c => exact he
    | outgrown => exact he
    | returned u =>
      obtain ⟨own2, m2, r, h4, hR, hv, hl⟩ := he
      obtain ⟨b1, o1, sz1, C1, g1, g2, g3⟩ := a1.blk id b (by simp [Heap.upd])
      have hlt := g3.lt
      have hnone : h4 id = none := by
        cases hh : h4 id with
        | none => rfl
        | some y =>
          rcases hl.live id y hh with e | ⟨y, e⟩
          · rw [g1] at e; cases e
          · rw [hid] at e; cases e
      have hno : ¬ HOwn m h b1 := by
        intro ⟨i, x, r, e1, e2⟩
        have hne : i ≠ id := fun e => by subst e; rw [hid] at e1; cases e1
        exact hne (a1.inj i id x b b1 r (o1, sz1, C1) (le_upd hid i x e1) (by simp [Heap.upd]) e2 g1)
      have hho : ∀ b2, HOwn m h b2 → HOwn m (h.upd id (some b)) b2 := fun b2 ⟨i, x, r, e1, e2⟩ => ⟨i, x, r, le_upd hid i x e1, e2⟩
      have hrd : ∀ b o u, Rd own w b o u → Rd own2 w2 b o u := by
        intro b2 o u ⟨e1, e2⟩
        have hlt2 := cell_lt e2
        refine ⟨fun h => e1 (hl.old b2 hlt2 h), ?_⟩
        rw [cell_heap (hl.same b2 hlt2 (fun h => e1 (h.own (a1.less hid))))]
        exact e2
      refine ⟨own2, m2, r, h4.upd id (some b), ⟨h4, hnone, rfl, hR⟩, hv, ?_⟩
      refine ⟨⟨fun i x hx => ?_, fun i j x y b2 r1 r2 e1 e2 e3 e4 => ?_⟩, hl.fin, hl.maps, hl.size, fun b2 e1 e2 => hl.same b2 e1 (fun h => e2 (hho b2 h)), hl.old, fun b2 e1 e2 e3 => hl.keep b2 e1 e2 (fun h => e3 (hho b2 h)), fun i x b2 r e1 e2 e3 => ?_, fun i x hx => ?_, fun i x e1 e2 => ?_, hl.io⟩
      · by_cases e : i = id
        · subst e
          simp only [Heap.upd, if_true] at hx
          injection hx with hx; subst hx
          exact ⟨b1, o1, sz1, C1, hl.maps.sg _ _ g1, hl.keep b1 hlt g2 hno, g3.mono hrd hl.maps (hl.bo i _ g1 hid) (hl.same b1 hlt hno)⟩
        · rw [upd_ne (fun h => e h.symm)] at hx
          exact hl.heap.blk i x hx
      · have old : ∀ (k : Nat) (z : Blk) (r : Nat × Nat × Nat), h4 k = some z → m2.sg k = some (b2, r) → b2 = b1 → False := by
          intro k z r e1 e2 e3
          subst e3
          exact hno (hl.ids k z b2 r e1 e2 hlt)
        have idb : m2.sg id = some (b1, o1, sz1, C1) := hl.maps.sg _ _ g1
        by_cases e : i = id <;> by_cases e' : j = id
        · rw [e, e']
        · subst e
          rw [upd_ne (fun h => e' h.symm)] at e2
          rw [idb] at e3; simp at e3
          exact (old j y r2 e2 e4 e3.1.symm).elim
        · subst e'
          rw [upd_ne (fun h => e h.symm)] at e1
          rw [idb] at e4; simp at e4
          exact (old i x r1 e1 e3 e4.1.symm).elim
        · rw [upd_ne (fun h => e h.symm)] at e1
          rw [upd_ne (fun h => e' h.symm)] at e2
          exact hl.heap.inj i j x y b2 r1 r2 e1 e2 e3 e4
      · by_cases e : i = id
        · subst e
          rw [hl.maps.sg _ _ g1] at e2
          exact ⟨i, b, r, by simp [Heap.upd], by rw [g1]; exact e2⟩
        · rw [upd_ne (fun h => e h.symm)] at e1
          exact hho b2 (hl.ids i x b2 r e1 e2 e3)
      · by_cases e : i = id
        · subst e; exact .inr ⟨b, by simp [Heap.upd]⟩
        · rw [upd_ne (fun h => e h.symm)] at hx
          rcases hl.live i x hx with h | ⟨y, h⟩
          · exact .inl h
          · exact .inr ⟨y, le_upd hid i y h⟩
      · have : h i = none := by
          cases hh : h i with
          | none => rfl
          | some y => rw [le_upd hid i y hh] at e2; cases e2
        exact hl.bo i x e1 this

/-- Does an operation wait for another one? -/
def waits (ps : Array Oper) : Nat → Nat → Nat → Bool
  | 0, _, _ => false
  | n + 1, j, i => ((ps[i]?).map fun p => p.after.toList.any fun e => Region.binds .any e && (e.on == j || waits ps n j e.on)).getD false

def nop : AOp := .mkm none 0

/-- Every order gives what the text's does. -/
def drawOk (P : Program) : DrawOk := fun l ps =>
  chkOps P ps l ps.toList &&
  (List.range ps.size).all (fun i => ((ps[i]?).map fun p => p.after.all fun e => !Region.binds .any e || e.on < i).getD false) &&
  (List.range ps.size).all fun i => (List.range i).all fun j => mayPass (l.getD j nop) (l.getD i nop) || waits ps 12 j i

def rest (n : Nat) (listed : Array Bool) : List Nat := (List.range n).filter fun i => !listed.getD i true

theorem chkOps_get {P : Program} {ops : Array Oper} : ∀ {l : List AOp} {r : List Oper}, chkOps P ops l r = true → l.length = r.length ∧ ∀ (i : Nat) (p : Oper), r[i]? = some p → chkOp P (l.getD i nop) p = true ∧ chkGuard ops (l.getD i nop).guard p.guard = true
  | [], [], _ => ⟨rfl, by simp⟩
  | o :: l, p :: r, h => by
    simp only [chkOps, Bool.and_eq_true] at h
    obtain ⟨h1, h2⟩ := chkOps_get h.2
    refine ⟨by simp [h1], fun i q hq => ?_⟩
    cases i with
    | zero => simp at hq; subst hq; exact ⟨h.1.1, h.1.2⟩
    | succ i => have := h2 i q (by simpa using hq); simpa using this
  | [], _ :: _, h => by simp [chkOps] at h
  | _ :: _, [], h => by simp [chkOps] at h

theorem draw_sound {P : Program} (hm : P.follows .mixedOrders = true) : DrawSound P (drawOk P) := by
  intro cx l ps hD id Q own m s a w hr hw Qx hq
  simp only [drawOk, Bool.and_eq_true, List.all_eq_true, List.mem_range] at hD
  obtain ⟨⟨hchk, hlt⟩, hpass⟩ := hD
  obtain ⟨hlen, hget⟩ := chkOps_get hchk
  have hlen' : l.length = ps.size := by simpa using hlen
  refine wp_region_any hm ?_
  -- what holds where some are listed
  have key : ∀ (fuel : Nat) (listed : Array Bool) (own : Nat → Prop) (m : Maps) (s : S) (a2 : Act) (w : World), listed.size = ps.size →
      (∀ k, listed.getD k false = true → ∀ p, ps[k]? = some p → ∀ e ∈ p.after, Region.binds .any e = true → listed.getD e.on false = true) →
      (rest ps.size listed).length = fuel → Rel cx own m s a2.tmps w → a2.defers = a.defers → wOps (Sim P) ((rest ps.size listed).map fun i => l.getD i nop) Q s → wpAny P .any ps Qx fuel listed a2 w := by
    intro fuel
    induction fuel with
    | zero =>
      intro listed own m s a2 w hls hdc hfl hr hd h
      have hnil := List.eq_nil_of_length_eq_zero hfl
      rw [hnil] at h
      refine ⟨?_, hq _ _ ⟨own, m, s, h, hr, hd⟩⟩
      unfold Region.ready
      rw [List.filter_eq_nil_iff]
      intro i hi hc
      simp only [Bool.and_eq_true] at hc
      have : i ∈ rest ps.size listed := by unfold rest; rw [List.mem_filter]; exact ⟨hi, hc.1⟩
      rw [hnil] at this
      cases this
    | succ fuel ih =>
      intro listed own m s a2 w hls hdc hfl hr hd h
      refine ⟨fun hnone => ?_, fun i hi => ?_⟩
      · -- the first that is not listed is ready
        exfalso
        obtain ⟨i, r, hir⟩ : ∃ i r, rest ps.size listed = i :: r := by
          cases hh : rest ps.size listed with
          | nil => rw [hh] at hfl; cases hfl
          | cons i r => exact ⟨i, r, rfl⟩
        have hmem : i ∈ rest ps.size listed := by rw [hir]; simp
        have hmem' := hmem
        unfold rest at hmem'
        rw [List.mem_filter, List.mem_range] at hmem'
        have hsort : (rest ps.size listed).Pairwise (· < ·) := List.Pairwise.filter _ List.pairwise_lt_range
        rw [hir] at hsort
        have hmin : ∀ j, j < i → listed.getD j false = true := by
          intro j hj
          cases hl : listed.getD j false with
          | true => rfl
          | false =>
            have hjm : j ∈ rest ps.size listed := by
              unfold rest; rw [List.mem_filter, List.mem_range]
              refine ⟨by omega, ?_⟩
              have : j < listed.size := by omega
              simp [this] at hl ⊢
              exact hl
            rw [hir] at hjm
            rcases List.mem_cons.1 hjm with e | e
            · omega
            · have := List.rel_of_pairwise_cons hsort e; omega
        have : i ∈ Region.ready .any ps listed := by
          unfold Region.ready
          rw [List.mem_filter]
          refine ⟨List.mem_range.2 hmem'.1, ?_⟩
          rw [Bool.and_eq_true]
          refine ⟨hmem'.2, ?_⟩
          have h1 := hlt i hmem'.1
          rw [Array.getElem?_eq_getElem hmem'.1] at h1 ⊢
          simp only [Option.map_some, Option.getD_some, Array.all_eq_true] at h1 ⊢
          intro k hk
          have h2 := h1 k hk
          simp only [Bool.or_eq_true, Bool.not_eq_true', decide_eq_true_eq] at h2 ⊢
          rcases h2 with h2 | h2
          · exact .inl h2
          · exact .inr (hmin _ h2)
        rw [hnone] at this
        cases this
      · -- an operation that is ready
        unfold Region.ready at hi
        rw [List.mem_filter, List.mem_range, Bool.and_eq_true] at hi
        obtain ⟨hin, hun, hdep⟩ := hi
        rw [Array.getElem?_eq_getElem hin] at hdep
        simp only [Option.map_some, Option.getD_some] at hdep
        have hdep' : ∀ e ∈ ps[i].after, Region.binds .any e = true → listed.getD e.on false = true := by
          intro e he hb
          rw [Array.all_eq_true_iff_forall_mem] at hdep
          have := hdep e he
          simpa [hb] using this
        have hmem : i ∈ rest ps.size listed := by unfold rest; rw [List.mem_filter, List.mem_range]; exact ⟨hin, hun⟩
        obtain ⟨pre, post, hpp⟩ := List.append_of_mem hmem
        have hsort : (rest ps.size listed).Pairwise (· < ·) := List.Pairwise.filter _ List.pairwise_lt_range
        rw [hpp, List.pairwise_append] at hsort
        obtain ⟨_, hs2, hs3⟩ := hsort
        have hpre : ∀ j ∈ pre, j < i := fun j hj => hs3 j hj i (by simp)
        have hpost : ∀ j ∈ post, i < j := fun j hj => List.rel_of_pairwise_cons hs2 hj
        -- whoever waits for one that is listed is.. the other way round
        have hwait : ∀ n j k, waits ps n j k = true → listed.getD k false = true → listed.getD j false = true := by
          intro n
          induction n with
          | zero => intro j k h; simp [waits] at h
          | succ n ihn =>
            intro j k hwk hlk
            unfold waits at hwk
            cases hpk : ps[k]? with
            | none => simp [hpk] at hwk
            | some p =>
              simp only [hpk, Option.map_some, Option.getD_some, List.any_eq_true, Bool.and_eq_true, Bool.or_eq_true, beq_iff_eq] at hwk
              obtain ⟨e, he, hb, hor⟩ := hwk
              have hle := hdc k hlk p hpk e (by simpa using he) hb
              rcases hor with rfl | h2
              · exact hle
              · exact ihn j e.on h2 hle
        have hwi : ∀ j, waits ps 12 j i = true → listed.getD j false = true := by
          intro j hw4
          unfold waits at hw4
          simp only [Array.getElem?_eq_getElem hin, Option.map_some, Option.getD_some, List.any_eq_true, Bool.and_eq_true, Bool.or_eq_true, beq_iff_eq] at hw4
          obtain ⟨e, he, hb, hor⟩ := hw4
          have hle := hdep' e (by simpa using he) hb
          rcases hor with rfl | h2
          · exact hle
          · exact hwait 11 j e.on h2 hle
        have hpre2 : ∀ j ∈ pre.map (fun i => l.getD i nop), mayPass j (l.getD i nop) = true := by
          intro x hx
          rw [List.mem_map] at hx
          obtain ⟨j, hj, rfl⟩ := hx
          have h1 := hpass i hin j (hpre j hj)
          rw [Bool.or_eq_true] at h1
          rcases h1 with h1 | h1
          · exact h1
          · exfalso
            have hjl := hwi j h1
            have hjm : j ∈ rest ps.size listed := by rw [hpp]; simp [hj]
            unfold rest at hjm
            rw [List.mem_filter, List.mem_range] at hjm
            have hjs : j < listed.size := by omega
            simp [hjs] at hjl hjm
            rw [hjl] at hjm
            exact absurd hjm.2 (by simp)
        rw [hpp, List.map_append, List.map_cons] at h
        have hfin := hrel_fin hr.f.heap hr.f.fin
        have hstep := move_front sim_sub sim_full sim_finc sim_frm _ hpre2 s hfin h
        have hrest : rest ps.size (listed.setIfInBounds i true) = pre ++ post := by
          have h1 : rest ps.size (listed.setIfInBounds i true) = (rest ps.size listed).filter (fun j => j != i) := by
            unfold rest
            rw [List.filter_filter]
            refine List.filter_congr fun j hj => ?_
            rw [List.mem_range] at hj
            have hjs : j < listed.size := by omega
            by_cases hji : j = i
            · subst hji; simp [hjs]
            · have : i ≠ j := fun e => hji e.symm
              simp [hjs, hji, Array.getElem_setIfInBounds, this]
          rw [h1, hpp, List.filter_append, List.filter_cons]
          simp only [bne_self_eq_false, Bool.false_eq_true, if_false]
          rw [List.filter_eq_self.2, List.filter_eq_self.2]
          · intro j hj; have := hpost j hj; simp; omega
          · intro j hj; have := hpre j hj; simp; omega
        obtain ⟨hco, hcg⟩ := hget i ps[i] (by simp [hin])
        have hmain := step_ok (P := P) (Qx := Qx) hr (ops := ps) hco hcg hstep (K := wpAny P .any ps Qx fuel (listed.setIfInBounds i true)) (fun a3 w3 ⟨own3, m3, s3, h3, hr3, hd3⟩ => by
          refine ih _ own3 m3 s3 a3 w3 (by simp [hls]) ?_ ?_ hr3 (hd3.trans hd) (by rw [hrest, List.map_append]; exact h3)
          · intro k hk p hpk e he hb
            by_cases hki : k = i
            · subst hki
              rw [Array.getElem?_eq_getElem hin] at hpk
              injection hpk with hpk
              subst hpk
              have := hdep' e he hb
              by_cases hei : e.on = k
              · rw [hei]; have hks : k < listed.size := by omega
                simp [hks]
              · have : k ≠ e.on := fun x => hei x.symm
                simp only [Array.getD_eq_getD_getElem?, Array.getElem?_setIfInBounds_ne this]
                simpa [Array.getD_eq_getD_getElem?] using hdep' e he hb
            · have hne : i ≠ k := fun x => hki x.symm
              simp only [Array.getD_eq_getD_getElem?, Array.getElem?_setIfInBounds_ne hne] at hk
              have := hdc k (by simpa [Array.getD_eq_getD_getElem?] using hk) p hpk e he hb
              by_cases hei : e.on = i
              · rw [hei]; have hks : i < listed.size := by omega
                simp [hks]
              · have hne2 : i ≠ e.on := fun x => hei x.symm
                simp only [Array.getD_eq_getD_getElem?, Array.getElem?_setIfInBounds_ne hne2]
                simpa [Array.getD_eq_getD_getElem?] using this
          · rw [hrest]
            rw [hpp] at hfl
            simp at hfl ⊢
            omega)
        unfold wpOp
        rw [Array.getElem?_eq_getElem hin]
        simp only []
        by_cases hwn : Region.wanted ps[i] (yielded ps a2.tmps) = true
        · rw [if_pos hwn] at hmain ⊢; exact .inl hmain
        · rw [if_neg hwn] at hmain ⊢; exact hmain
  have hr1 : Rel cx own m s a.tmps { w with drawn := w.drawn + 1 } := hr.heap_eq rfl
  have hall : rest ps.size (Array.replicate ps.size false) = List.range ps.size := by
    unfold rest
    rw [List.filter_eq_self]
    intro j hj
    rw [List.mem_range] at hj
    simp [hj]
  refine key ps.size (Array.replicate ps.size false) own m s a _ (by simp) (fun k hk => ?_) (by rw [hall]; simp) hr1 rfl ?_
  · exfalso
    simp only [Array.getD_eq_getD_getElem?, Array.getElem?_replicate] at hk
    split at hk <;> simp at hk
  · rw [hall]
    have : (List.range ps.size).map (fun i => l.getD i nop) = l := by
      rw [← hlen']
      apply List.ext_getElem
      · simp
      · intro n h1 h2
        simp [List.getD_eq_getElem?_getD, h2]
    rw [this]
    exact hw

end Go.Abs
