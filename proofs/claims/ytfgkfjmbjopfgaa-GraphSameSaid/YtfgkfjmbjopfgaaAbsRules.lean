/-
  The abstract machine's rules: what holds of less holds of more; a loop and a call unfold.
-/
import Derived.Test.YtfgkfjmbjopfgaaAbsV
set_option linter.unusedVariables false
set_option linter.unusedSimpArgs false
namespace Go.Abs
open Go

/-- From calls to calls whose R may be greater. -/
def Sub (C D : Call) : Prop := ∀ f vs h (R R' : V → Heap → Prop), (∀ v h, R v h → R' v h) → C f vs h R → D f vs h R'

theorem callOk_mono {C D : Call} (hC : Sub C D)
    {f : Nat} {vs : List V} {h : Heap} {R R' : V → Heap → Prop} (hr : ∀ v h, R v h → R' v h) (hc : callOk C f vs h R) : callOk D f vs h R' := by
  rcases hc with hc | ⟨ids, us, hl, hf, hc⟩ | ⟨ids, us, h2, hl, hf, h3, h4, hc⟩
  · exact .inl (hC _ _ _ _ _ hr hc)
  · exact .inr (.inl ⟨ids, us, hl, hf, hC _ _ _ _ _ (fun v h hv => ⟨hv.1, hr _ _ hv.2⟩) hc⟩)
  · exact .inr (.inr ⟨ids, us, h2, hl, hf, h3, h4, hC _ _ _ _ _ hr hc⟩)

theorem callPure_mono {C D : Call} (hC : Sub C D)
    {f : Nat} {vs : List V} {h : Heap} {R R' : V → Heap → Prop} (hr : ∀ v h, R v h → R' v h) (hc : callPure C f vs h R) : callPure D f vs h R' := by
  obtain ⟨ids, us, hl, hf, hc⟩ := hc
  exact ⟨ids, us, hl, hf, hC _ _ _ _ _ (fun v h hv => ⟨hv.1, hr _ _ hv.2⟩) hc⟩

theorem AOp.run_mono {C D : Call} (hC : Sub C D) (o : AOp) (s : S) {Q Q' : S → Prop} (hq : ∀ s, Q s → Q' s)
    (h : o.run C s Q) : o.run D s Q' := by
  cases o with
  | val g d x => simp only [AOp.run] at h ⊢; split at h <;> first | exact hq _ h | exact h.elim
  | box g d x n => simp only [AOp.run] at h ⊢; split at h <;> first | exact ⟨h.1, h.2.1, fun g => hq _ (h.2.2 g)⟩ | exact h.elim
  | hbox g d x n => simp only [AOp.run] at h ⊢; split at h <;> first | exact ⟨h.1, fun id hid => hq _ (h.2 id hid)⟩ | exact h.elim
  | bsl g d sz len zero parts => simp only [AOp.run] at h ⊢; split at h <;> first | exact fun id hid => hq _ (h id hid) | exact h.elim
  | mks g d n c sz bytes zero =>
    simp only [AOp.run] at h ⊢; split at h <;> first | exact h.elim | skip
    exact ⟨h.1, h.2.1, h.2.2.1, h.2.2.2.1, fun id hid => hq _ (h.2.2.2.2 id hid)⟩
  | st g x v n => simp only [AOp.run] at h ⊢; split at h <;> first | exact hq _ h | exact h.elim
  | app g d x y sz bytes =>
    simp only [AOp.run] at h ⊢
    split at h <;> first | exact h.elim | skip
    refine ⟨h.1, ?_⟩
    replace h := h.2
    split at h <;> first | exact h.elim | skip
    · rcases h with h | h
      · exact .inl ⟨h.1, h.2.1, fun id hid => hq _ (h.2.2 id hid)⟩
      · exact .inr ⟨h.1, hq _ h.2⟩
    · split at h <;> first | exact h.elim | skip
      exact ⟨h.1, h.2.1, h.2.2.1, fun id2 h2 h3 => hq _ (h.2.2.2 id2 h2 h3)⟩
  | cpy g d x y sz =>
    simp only [AOp.run] at h ⊢
    split at h <;> first | exact h.elim | skip
    · split at h <;> first | exact h.elim | skip
      refine ⟨h.1, h.2.1, ?_⟩
      replace h := h.2.2
      split at h <;> first | exact h.elim | skip
      exact ⟨h.1, hq _ h.2⟩
    · split at h <;> first | exact h.elim | exact ⟨h.1, hq _ h.2⟩
  | mkm g d => exact fun id hid => hq _ (h id hid)
  | mup g ks m key v =>
    simp only [AOp.run] at h ⊢
    split at h <;> first | exact h.elim | skip
    split at h <;> first | exact h.elim | skip
    refine ⟨h.1, ?_⟩
    replace h := h.2
    split at h <;> first | exact hq _ h | exact h.elim
  | men g d ks m key zero =>
    simp only [AOp.run] at h ⊢
    split at h <;> first | exact h.elim | skip
    split at h <;> first | exact h.elim | skip
    refine ⟨h.1, ?_⟩
    replace h := h.2
    split at h
    · split at h <;> first | exact h.elim | exact hq _ h
    · exact hq _ h
    · exact h.elim
  | mst g m stp v =>
    simp only [AOp.run] at h ⊢
    split at h <;> first | exact h.elim | skip
    refine ⟨h.1, ?_⟩
    replace h := h.2
    split at h <;> first | exact h.elim | skip
    split at h <;> first | exact h.elim | exact hq _ h
  | call g d f args => exact callOk_mono hC (fun _ _ hv => hq _ hv) h
  | pcall g d f args => exact callPure_mono hC (fun _ _ hv => hq _ hv) h
  | callv g d f args =>
    simp only [AOp.run] at h ⊢
    split at h <;> first | exact h.elim | skip
    exact callOk_mono hC (fun _ _ hv => hq _ hv) h

theorem AOp.step_mono {C D : Call} (hC : Sub C D) (o : AOp) (s : S) {Q Q' : S → Prop} (hq : ∀ s, Q s → Q' s)
    (h : o.step C s Q) : o.step D s Q' := by
  unfold AOp.step at h ⊢
  split at h
  · exact AOp.run_mono hC o s hq h
  · split at h
    · split at h
      · rename_i hb; rw [if_pos hb]; exact AOp.run_mono hC o s hq h
      · rename_i hb; rw [if_neg hb]; exact hq _ h
    · exact hq _ h
    · exact h.elim

theorem wOps_mono {C D : Call} (hC : Sub C D) (l : List AOp) : ∀ (s : S) {Q Q' : S → Prop}, (∀ s, Q s → Q' s) →
    wOps C l Q s → wOps D l Q' s := by
  induction l with
  | nil => exact fun s _ _ hq h => hq _ h
  | cons o l ih => exact fun s _ _ hq h => AOp.step_mono hC o s (fun s h => ih s hq h) h

theorem W_mono {C D : Call} (hC : Sub C D) (c : ACode) : ∀ (s : S) {Q Q' : Out → S → Prop}, (∀ o s, Q o s → Q' o s) →
    W C c Q s → W D c Q' s := by
  induction c with
  | skip => exact fun s _ _ hq h => hq _ _ h
  | region d ops => exact fun s _ _ hq h => wOps_mono hC ops s (fun s h => hq _ _ h) h
  | seq a b iha ihb =>
    intro s Q Q' hq h
    refine iha s ?_ h
    intro o s2 h2
    cases o with
    | normal => exact ihb s2 hq h2
    | exit i => exact hq _ _ h2
    | ret => exact hq _ _ h2
  | cond c x y ihx ihy =>
    intro s Q Q' hq h
    simp only [W] at h ⊢
    split at h
    · split at h
      · rename_i hb; simp only [hb, if_true]; exact ihx s hq h
      · rename_i hb; simp only [hb]; exact ihy s hq h
    · exact h.elim
  | block id x ih =>
    intro s Q Q' hq h
    refine ih s ?_ h
    intro o s2 h2
    cases o with
    | normal => exact hq _ _ h2
    | exit i =>
      simp only at h2 ⊢
      split at h2
      · rename_i hb; rw [if_pos hb]; exact hq _ _ h2
      · rename_i hb; rw [if_neg hb]; exact hq _ _ h2
    | ret => exact hq _ _ h2
  | loop live boxes x ih =>
    intro s Q Q' hq h X hX
    refine h X fun s2 h2 => hX s2 (ih s2 ?_ h2)
    intro o s3 h3
    cases o with
    | normal => exact h3
    | exit i => exact hq _ _ h3
    | ret => exact hq _ _ h3
  | exit id => exact fun s _ _ hq h => hq _ _ h
  | ret => exact fun s _ _ hq h => hq _ _ h

theorem post_mono {rs : List ARes} {R R' : V → Heap → Prop} (hr : ∀ v h, R v h → R' v h) (o : Out) (s : S) (h : post rs R o s) : post rs R' o s := by
  cases o with
  | exit i => exact h
  | normal =>
    simp only [post] at h ⊢
    split at h
    · obtain ⟨ids, u, h2, a, b, c, d⟩ := h; exact ⟨ids, u, h2, a, b, c, hr _ _ d⟩
    · exact h
  | ret =>
    simp only [post] at h ⊢
    split at h
    · obtain ⟨ids, u, h2, a, b, c, d⟩ := h; exact ⟨ids, u, h2, a, b, c, hr _ _ d⟩
    · exact h

theorem bodyOf_mono {A : Prog} {C D : Call} (hC : Sub C D) {f : Nat} {vs : List V} {h : Heap} {R R' : V → Heap → Prop}
    (hr : ∀ v h, R v h → R' v h) (hb : bodyOf A C f vs h R) : bodyOf A D f vs h R' := by
  unfold bodyOf at hb ⊢
  split at hb
  · exact ⟨hb.1, W_mono hC _ _ (fun o s => post_mono hr o s) hb.2⟩
  · exact hb

theorem Ret.mono {A : Prog} : Sub (Ret A) (Ret A) := by
  intro f vs h R R' hr hret X hX
  let Y : Call := fun f vs h R => ∀ R', (∀ v h, R v h → R' v h) → X f vs h R'
  have hY : Sub Y X := fun f vs h R R' hr hy => hy R' hr
  exact hret Y (fun f vs h R hb R' hr => hX f vs h R' (bodyOf_mono hY hr hb)) R' hr

/-- A call, by its body. -/
theorem Ret.of_body {A : Prog} {f : Nat} {vs : List V} {h : Heap} {R : V → Heap → Prop} (hb : bodyOf A (Ret A) f vs h R) : Ret A f vs h R := by
  intro X hX
  have hs : Sub (Ret A) X := fun f vs h R R' hr hret => Ret.mono f vs h R R' hr hret X hX
  exact hX f vs h R (bodyOf_mono hs (fun _ _ h => h) hb)

theorem Sub.refl_ret {A : Prog} : Sub (Ret A) (Ret A) := Ret.mono

/-- A call, with its function's text at hand. -/
theorem Ret.intro {A : Prog} {f : Nat} {fn : AFn} {vs : List V} {h : Heap} {R : V → Heap → Prop} (hf : A f = some fn) (hn : vs.length ≤ fn.ntmps)
    (hb : W (Ret A) fn.body (post fn.results R) (start fn vs h)) : Ret A f vs h R :=
  Ret.of_body (by unfold bodyOf; rw [hf]; exact ⟨hn, hb⟩)

/-- What a loop does, at its head. -/
def Loop (C : Call) (live boxes : List Nat) (x : ACode) (Q : Out → S → Prop) (s : S) : Prop :=
  Lp (fun X s => W C x (fun o s2 => match o with | .normal => X (s2.keep live boxes) | .exit i => Q (.exit i) s2 | .ret => Q .ret s2) s) s

theorem W_loop {C : Call} {live boxes : List Nat} {x : ACode} {Q : Out → S → Prop} {s : S} : W C (.loop live boxes x) Q s = Loop C live boxes x Q (s.keep live boxes) := rfl

/-- What stands behind a loop's round. -/
def Again (C : Call) (live boxes : List Nat) (x : ACode) (Q : Out → S → Prop) (o : Out) (s : S) : Prop :=
  match o with
  | .normal => Loop C live boxes x Q (s.keep live boxes)
  | .exit i => Q (.exit i) s
  | .ret => Q .ret s

theorem Loop.step {A : Prog} {live boxes : List Nat} {x : ACode} {Q : Out → S → Prop} {s : S} (h : W (Ret A) x (Again (Ret A) live boxes x Q) s) : Loop (Ret A) live boxes x Q s := by
  intro X hX
  refine hX s (W_mono Sub.refl_ret x s ?_ h)
  intro o s2 h2
  cases o with
  | normal => exact h2 X hX
  | exit i => exact h2
  | ret => exact h2


/-! ### Something comes of whatever is done -/

def FinH (h : Heap) : Prop := ∃ N, ∀ i, N ≤ i → h i = none

theorem FinH.none : FinH Heap.none := ⟨0, fun _ _ => rfl⟩
theorem FinH.le {h h2 : Heap} (hl : h.le h2) (hf : FinH h2) : FinH h := by
  obtain ⟨N, hN⟩ := hf
  refine ⟨N, fun i hi => ?_⟩
  cases e : h i with
  | none => rfl
  | some b => rw [← hN i hi, hl i b e]
theorem FinH.upd {h : Heap} (hf : FinH h) (i : Nat) (b : Option Blk) : FinH (h.upd i b) := by
  obtain ⟨N, hN⟩ := hf
  refine ⟨N + i + 1, fun j hj => ?_⟩
  simp only [Heap.upd]
  rw [if_neg (by omega)]
  exact hN j (by omega)
theorem FinH.fresh {h : Heap} (hf : FinH h) (L : Nat) : ∃ i, h i = Option.none ∧ i ≠ L := by
  obtain ⟨N, hN⟩ := hf
  exact ⟨N + L + 1, hN _ (by omega), by omega⟩

/-- A finite heap without some names. -/
def FinA (L : List Nat) (h : Heap) : Prop := FinH h ∧ ∀ i ∈ L, h i = none

theorem FinA.none (L : List Nat) : FinA L Heap.none := ⟨FinH.none, fun _ _ => rfl⟩
theorem FinA.le {L : List Nat} {h h2 : Heap} (hl : h.le h2) (hf : FinA L h2) : FinA L h := by
  refine ⟨hf.1.le hl, fun i hi => ?_⟩
  cases e : h i with
  | none => rfl
  | some b => have := hl i b e; rw [hf.2 i hi] at this; cases this
theorem FinA.upd {L : List Nat} {h : Heap} (hf : FinA L h) {i : Nat} (hi : i ∉ L) (b : Option Blk) : FinA L (h.upd i b) := by
  refine ⟨hf.1.upd i b, fun j hj => ?_⟩
  simp only [Heap.upd]
  rw [if_neg (fun (e : j = i) => hi (by rw [← e]; exact hj))]; exact hf.2 j hj
theorem FinA.old {L : List Nat} {h : Heap} (hf : FinA L h) {i : Nat} {x : Blk} (hx : h i = some x) (b : Option Blk) : FinA L (h.upd i b) :=
  hf.upd (fun e => by rw [hf.2 i e] at hx; cases hx) b
theorem mem_le_sum {L : List Nat} {i : Nat} (h : i ∈ L) : i ≤ L.sum := by
  induction L with
  | nil => cases h
  | cons x l ih =>
    simp only [List.sum_cons]
    rcases List.mem_cons.1 h with h | h
    · omega
    · have := ih h; omega
theorem FinA.fresh {L : List Nat} {h : Heap} (hf : FinA L h) (K : Nat) : ∃ i, h i = Option.none ∧ i ∉ L ∧ i ≠ K := by
  obtain ⟨N, hN⟩ := hf.1
  exact ⟨N + L.sum + K + 1, hN _ (by omega), fun e => by have := mem_le_sum e; omega, by omega⟩
theorem FinH.all {h : Heap} (hf : FinH h) : FinA [] h := ⟨hf, fun _ h => by cases h⟩

/-- Of a call something comes, in a heap that is finite. -/
def Full (C : Call) : Prop := ∀ L f vs h R, FinA L h → C f vs h R → ∃ r h2, FinA L h2 ∧ R r h2

theorem AOp.run_full {C : Call} {L : List Nat} (hC : Full C) (o : AOp) (s : S) {Q : S → Prop} (hf : FinA L s.h) (h : o.run C s Q) : ∃ s2, FinA L s2.h ∧ Q s2 := by
  have hput : ∀ (s : S) d v, (s.put d v).h = s.h := fun s d v => by cases d <;> rfl
  have hcp : ∀ f vs (R : V → Heap → Prop), callPure C f vs s.h R → ∃ r h2, FinA L h2 ∧ R r h2 := by
    intro f vs R ⟨ids, us, _, _, hc⟩
    obtain ⟨r, h2, _, hR⟩ := hC L _ _ _ _ (FinA.none L) hc
    exact ⟨r, s.h, hf, hR.2⟩
  have hco : ∀ f vs (R : V → Heap → Prop), callOk C f vs s.h R → ∃ r h2, FinA L h2 ∧ R r h2 := by
    intro f vs R hc
    rcases hc with hc | hc | ⟨ids, us, h2, _, _, h3, _, hc⟩
    · exact hC L _ _ _ _ hf hc
    · exact hcp f vs R hc
    · exact hC L _ _ _ _ (hf.le h3) hc
  obtain ⟨i0, hi0, hiL, _⟩ := hf.fresh 0
  cases o with
  | val g d x => simp only [AOp.run] at h; split at h <;> first | exact ⟨_, by rw [hput]; exact hf, h⟩ | exact h.elim
  | box g d x n => simp only [AOp.run] at h; split at h <;> first | exact ⟨_, (by exact hf), h.2.2 0⟩ | exact h.elim
  | hbox g d x n => simp only [AOp.run] at h; split at h <;> first | exact ⟨_, hf.upd hiL _, h.2 i0 hi0⟩ | exact h.elim
  | bsl g d sz len zero parts => simp only [AOp.run] at h; split at h <;> first | exact ⟨_, hf.upd hiL _, h i0 hi0⟩ | exact h.elim
  | mks g d n c sz bytes zero =>
    simp only [AOp.run] at h; split at h <;> first | exact h.elim | skip
    exact ⟨_, hf.upd hiL _, h.2.2.2.2 i0 hi0⟩
  | st g x v n =>
    simp only [AOp.run] at h; split at h <;> first | exact h.elim | skip
    rename_i s2 hs
    refine ⟨s2, ?_, h⟩
    unfold storeOf at hs
    split at hs
    · split at hs
      · split at hs
        · simp at hs; subst hs; exact hf
        · cases hs
      · cases hs
    · split at hs
      · split at hs
        · split at hs
          · rename_i hb _ _ _ _ _; simp at hs; subst hs; exact hf.old (by assumption) _
          · cases hs
        · cases hs
      · cases hs
    · cases hs
  | app g d x y sz bytes =>
    simp only [AOp.run] at h
    split at h <;> first | exact h.elim | skip
    replace h := h.2
    split at h <;> first | exact h.elim | skip
    · rcases h with h | h
      · exact ⟨_, hf.upd hiL _, h.2.2 i0 hi0⟩
      · exact ⟨_, (by exact hf), h.2⟩
    · split at h <;> first | exact h.elim | skip
      rename_i id _ _ _ _ _ _ _
      obtain ⟨i, h1, h3, h2⟩ := hf.fresh id
      exact ⟨_, (hf.old (by assumption) _).upd h3 _, h.2.2.2 i h1 h2⟩
  | cpy g d x y sz =>
    simp only [AOp.run] at h
    split at h <;> first | exact h.elim | skip
    · split at h <;> first | exact h.elim | skip
      replace h := h.2.2
      split at h <;> first | exact h.elim | skip
      exact ⟨_, by rw [hput]; exact hf.old (by assumption) _, h.2⟩
    · split at h <;> first | exact h.elim | exact ⟨_, by rw [hput]; exact hf, h.2⟩
  | mkm g d => exact ⟨_, hf.upd hiL _, h i0 hi0⟩
  | mup g ks m key v =>
    simp only [AOp.run] at h
    split at h <;> first | exact h.elim | skip
    split at h <;> first | exact h.elim | skip
    replace h := h.2
    split at h <;> first | exact ⟨_, hf.old (by assumption) _, h⟩ | exact h.elim
  | men g d ks m key zero =>
    simp only [AOp.run] at h
    split at h <;> first | exact h.elim | skip
    split at h <;> first | exact h.elim | skip
    replace h := h.2
    split at h
    · split at h <;> first | exact h.elim | exact ⟨_, (by exact hf), h⟩
    · exact ⟨_, hf.old (by assumption) _, h⟩
    · exact h.elim
  | mst g m stp v =>
    simp only [AOp.run] at h
    split at h <;> first | exact h.elim | skip
    replace h := h.2
    split at h <;> first | exact h.elim | skip
    split at h <;> first | exact h.elim | exact ⟨_, hf.old (by assumption) _, h⟩
  | call g d f args =>
    simp only [AOp.run] at h
    obtain ⟨r, h2, h3, h4⟩ := hco _ _ _ h
    exact ⟨_, by rw [hput]; exact h3, h4⟩
  | pcall g d f args =>
    simp only [AOp.run] at h
    obtain ⟨r, h2, h3, h4⟩ := hcp _ _ _ h
    exact ⟨_, by rw [hput]; exact h3, h4⟩
  | callv g d f args =>
    simp only [AOp.run] at h
    split at h <;> first | exact h.elim | skip
    obtain ⟨r, h2, h3, h4⟩ := hco _ _ _ h
    exact ⟨_, by rw [hput]; exact h3, h4⟩

theorem AOp.step_full {C : Call} {L : List Nat} (hC : Full C) (o : AOp) (s : S) {Q : S → Prop} (hf : FinA L s.h) (h : o.step C s Q) : ∃ s2, FinA L s2.h ∧ Q s2 := by
  have hput : ∀ (s : S) d v, (s.put d v).h = s.h := fun s d v => by cases d <;> rfl
  unfold AOp.step at h
  split at h
  · exact AOp.run_full hC o s hf h
  · split at h
    · split at h
      · exact AOp.run_full hC o s hf h
      · exact ⟨_, by rw [hput]; exact hf, h⟩
    · exact ⟨_, by rw [hput]; exact hf, h⟩
    · exact h.elim

theorem wOps_full {C : Call} {L : List Nat} (hC : Full C) : ∀ (l : List AOp) (s : S) {Q : S → Prop}, FinA L s.h → wOps C l Q s → ∃ s2, FinA L s2.h ∧ Q s2
  | [], s, _, hf, h => ⟨s, hf, h⟩
  | o :: l, s, _, hf, h => by
    obtain ⟨s2, hf2, h2⟩ := AOp.step_full hC o s hf h
    exact wOps_full hC l s2 hf2 h2

theorem W_full {C : Call} {L : List Nat} (hC : Full C) (c : ACode) : ∀ (s : S) {Q : Out → S → Prop}, FinA L s.h → W C c Q s → ∃ o s2, FinA L s2.h ∧ Q o s2 := by
  induction c with
  | skip => exact fun s _ hf h => ⟨_, s, hf, h⟩
  | region d ops => exact fun s _ hf h => by obtain ⟨s2, h1, h2⟩ := wOps_full hC ops s hf h; exact ⟨_, s2, h1, h2⟩
  | seq a b iha ihb =>
    intro s Q hf h
    obtain ⟨o, s2, h1, h2⟩ := iha s hf h
    cases o with
    | normal => exact ihb s2 h1 h2
    | exit i => exact ⟨_, s2, h1, h2⟩
    | ret => exact ⟨_, s2, h1, h2⟩
  | cond c x y ihx ihy =>
    intro s Q hf h
    simp only [W] at h
    split at h
    · split at h
      · exact ihx s hf h
      · exact ihy s hf h
    · exact h.elim
  | block id x ih =>
    intro s Q hf h
    obtain ⟨o, s2, h1, h2⟩ := ih s hf h
    cases o with
    | normal => exact ⟨_, s2, h1, h2⟩
    | exit i =>
      simp only at h2
      split at h2
      · exact ⟨_, s2, h1, h2⟩
      · exact ⟨_, s2, h1, h2⟩
    | ret => exact ⟨_, s2, h1, h2⟩
  | loop live boxes x ih =>
    intro s Q hf h
    have key := h (fun s => FinA L s.h → ∃ o s2, FinA L s2.h ∧ Q o s2) (fun s hF hf => by
      obtain ⟨o, s2, h1, h2⟩ := ih s hf hF
      cases o with
      | normal => exact h2 h1
      | exit i => exact ⟨_, s2, h1, h2⟩
      | ret => exact ⟨_, s2, h1, h2⟩)
    exact key hf
  | exit id => exact fun s _ hf h => ⟨_, s, hf, h⟩
  | ret => exact fun s _ hf h => ⟨_, s, hf, h⟩

end Go.Abs
