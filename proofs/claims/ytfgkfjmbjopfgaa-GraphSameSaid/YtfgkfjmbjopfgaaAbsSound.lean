/-
  Code, and functions, in both machines.
-/
import Derived.Test.YtfgkfjmbjopfgaaAbsOp
import Derived.Tactics
set_option linter.unusedVariables false
set_option linter.unusedSimpArgs false
namespace Go.Abs
open Go

def chkGuard (ops : Array Oper) : Option (Nat × Bool) → Option (Nat × Bool) → Bool
  | none, none => true
  | some (t, b), some (j, b2) => b == b2 && ((ops[j]?).bind (·.dst)) == some t
  | _, _ => false

def chkOps (P : Program) (ops : Array Oper) : List AOp → List Oper → Bool
  | [], [] => true
  | o :: l, p :: r => chkOp P o p && chkGuard ops o.guard p.guard && chkOps P ops l r
  | _, _ => false

section
variable {P : Program} {cx : Cx} {Qx : Exit → Act → World → Prop}

theorem yielded_tmp {ops : Array Oper} {tmps : Array Value} {j t : Nat} (h : (ops[j]?).bind (·.dst) = some t) : yielded ops tmps j = match tmps[t]? with | some (.bool b) => some b | _ => none := by
  unfold yielded; rw [h]; rfl

theorem step_ok {own : Nat → Prop} {m : Maps} {s : S} {a : Act} {w : World} (hr : Rel cx own m s a.tmps w) {ops : Array Oper} {o : AOp} {p : Oper} (hc : chkOp P o p = true) (hg : chkGuard ops o.guard p.guard = true)
    {Q : S → Prop} (h : o.step (Sim P) s Q) {K : Act → World → Prop} (hK : ∀ a2 w2, Aft cx Q a.defers a2 w2 → K a2 w2) :
    if Region.wanted p (yielded ops a.tmps) then p.wp P a w K Qx else K (a.put p.dst Go.undef) w := by
  have hdst : p.dst = o.dst := by
    unfold chkOp at hc
    simp only [Bool.and_eq_true, beq_iff_eq] at hc
    exact hc.1
  unfold AOp.step at h
  unfold chkGuard at hg
  split at hg
  · rename_i h1 h2
    rw [h1] at h
    simp only [Region.wanted, h2, if_true]
    exact op_ok hr hc h hK
  · rename_i t b j b2 h1 h2
    simp only [Bool.and_eq_true, beq_iff_eq] at hg
    obtain ⟨rfl, hj⟩ := hg
    rw [h1] at h
    simp only at h
    have hvr := opd_ok (x := .t t) (y := .tmp t) hr.f (by simp [chkOpd])
    split at h
    · rename_i v hv
      rw [hv] at hvr
      have hbv := bool_inv hvr
      have htm : a.tmps[t]? = some (.bool v) := by
        simp only [Act.eval, Array.getD_eq_getD_getElem?] at hbv
        cases hh : a.tmps[t]? with
        | none => rw [hh] at hbv; cases hbv
        | some x => rw [hh] at hbv; simp at hbv; rw [hbv]
      have hw : Region.wanted p (yielded ops a.tmps) = (v == b) := by
        simp only [Region.wanted, h2, yielded_tmp hj, htm]
        cases v <;> cases b <;> rfl
      rw [hw]
      split at h
      · rename_i hb; subst hb; simp only [beq_self_eq_true, if_true]; exact op_ok hr hc h hK
      · rename_i hb
        rw [show (v == b) = false by simpa using hb]
        simp only [Bool.false_eq_true, if_false]
        exact hK _ _ ⟨own, m, _, h, by rw [hdst]; exact hr.put _ .skip, put_defers _ _ _⟩
    · rename_i hv
      rw [hv] at hvr
      have hbv : a.eval (.tmp t) = Go.undef := by
        generalize a.eval (.tmp t) = u at hvr
        cases hvr; rfl
      have hw : Region.wanted p (yielded ops a.tmps) = false := by
        simp only [Region.wanted, h2, yielded_tmp hj]
        simp only [Act.eval, Array.getD_eq_getD_getElem?] at hbv
        cases hh : a.tmps[t]? with
        | none => rfl
        | some x => rw [hh] at hbv; simp [Go.undef] at hbv; rw [hbv]; rfl
      rw [hw]
      simp only [Bool.false_eq_true, if_false]
      exact hK _ _ ⟨own, m, _, h, by rw [hdst]; exact hr.put _ .skip, put_defers _ _ _⟩
    · exact h.elim
  · cases hg

theorem ops_ok {ops : Array Oper} {Q : S → Prop} {ds : List Deferred} (hQ : ∀ a w, Aft cx Q ds a w → Qx .normal a w) : ∀ (l : List AOp) (r : List Oper), chkOps P ops l r = true →
    ∀ (own : Nat → Prop) (m : Maps) (s : S) (a : Act) (w : World), Rel cx own m s a.tmps w → a.defers = ds → wOps (Sim P) l Q s → wpList P ops Qx r a w
  | [], [], _, own, m, s, a, w, hr, hd, h => wpList_nil (hQ a w ⟨own, m, s, h, hr, hd⟩)
  | o :: l, p :: r, hc, own, m, s, a, w, hr, hd, h => by
    simp only [chkOps, Bool.and_eq_true] at hc
    refine wpList_step fun K hK => ?_
    refine step_ok hr hc.1.1 hc.1.2 h fun a2 w2 ⟨own2, m2, s2, hq, hr2, hd2⟩ => hK a2 w2 ?_
    exact ops_ok hQ l r hc.2 own2 m2 s2 a2 w2 hr2 (hd2.trans hd) hq
  | [], _ :: _, hc, _, _, _, _, _, _, _, _ => by simp [chkOps] at hc
  | _ :: _, [], hc, _, _, _, _, _, _, _, _ => by simp [chkOps] at hc

end

def chkOpdC : Opd → Operand → Bool := chkOpd

/-- A region whose order is drawn: that every order gives what the text's does (AbsDraw). -/
abbrev DrawOk := List AOp → Array Oper → Bool

def chkCode (P : Program) (D : DrawOk) : ACode → Code → Bool
  | .skip, .skip => true
  | .region draw ops, .region _ ps d => draw == d && (if d then D ops ps else chkOps P ps ops ps.toList)
  | .seq a b, .seq x y => chkCode P D a x && chkCode P D b y
  | .cond c a b, .cond d x y => chkOpd c d && chkCode P D a x && chkCode P D b y
  | .block i a, .block j x => i == j && chkCode P D a x
  | .loop _ _ a, .loop x => chkCode P D a x
  | .exit i, .exit j => i == j
  | .ret, .ret => true
  | _, _ => false

/-- What a loop forgets is no less known. -/
theorem Rel.forget {cx : Cx} {own : Nat → Prop} {m : Maps} {s : S} {tmps : Array Value} {w : World} (hr : Rel cx own m s tmps w) (live boxes : List Nat) : Rel cx own m (s.keep live boxes) tmps w := by
  have hget : ∀ {α : Type} (live : List Nat) (d : α) (l : List α) (i : Nat) (x : α), (keepOnly live d l)[i]? = some x → x = d ∨ l[i]? = some x := by
    intro α live d l i x h
    simp only [keepOnly, List.getElem?_map, List.getElem?_zipIdx, Option.map_map, Option.map_eq_some_iff] at h
    obtain ⟨y, hy, h⟩ := h
    simp at h
    split at h
    · exact .inr (by rw [hy, h])
    · exact .inl h.symm
  have hbx : ∀ (t g : Nat) (cs : List V), (s.keep live boxes).bx[t]? = some (some (g, cs)) → s.bx[t]? = some (some (g, cs)) := by
    intro t g cs h
    rcases hget boxes none s.bx t _ h with h | h
    · cases h
    · exact h
  refine ⟨⟨by simp [S.keep, keepOnly, hr.f.size], fun t v hv => ?_, fun t g cs hb => hr.f.box t g cs (hbx t g cs hb), fun t g cs t2 g2 cs2 b e1 e2 => hr.f.binj t g cs t2 g2 cs2 b (hbx _ _ _ e1) (hbx _ _ _ e2),
    fun t g cs id x b r e1 => hr.f.bh t g cs id x b r (hbx _ _ _ e1), hr.f.heap, hr.f.fin⟩, ⟨hr.k.io, hr.k.size, hr.k.same, hr.k.old, hr.k.maps, hr.k.fr, hr.k.ids, fun t g cs b e1 => hr.k.bxs t g cs b (hbx _ _ _ e1), hr.k.live, hr.k.bo⟩, hr.frlt⟩
  rcases hget live V.undef s.env t v hv with h | h
  · have hlt : t < s.env.length := by
      have := (List.getElem?_eq_some_iff.1 hv).1; simpa [S.keep, keepOnly] using this
    have hlt2 : t < tmps.size := by rw [hr.f.size]; exact hlt
    subst h
    exact ⟨tmps[t], Array.getElem?_eq_getElem hlt2, .undef _⟩
  · exact hr.f.env t v h

/-- Exits, one for one. -/
def toOut : Out → Exit
  | .normal => .normal
  | .exit i => .exit i
  | .ret => .ret

def AftO (cx : Cx) (Q : Out → S → Prop) (ds : List Deferred) : Exit → Act → World → Prop := fun e a w => ∃ o, e = toOut o ∧ Aft cx (Q o) ds a w

section
variable {P : Program} {cx : Cx} {D : DrawOk}

def DrawSound (P : Program) (D : DrawOk) : Prop := ∀ (cx : Cx) (l : List AOp) (ps : Array Oper), D l ps = true → ∀ (id : Nat) (Q : S → Prop) (own : Nat → Prop) (m : Maps) (s : S) (a : Act) (w : World), Rel cx own m s a.tmps w →
  wOps (Sim P) l Q s → ∀ (Qx : Exit → Act → World → Prop), (∀ a2 w2, Aft cx Q a.defers a2 w2 → Qx .normal a2 w2) → (Code.region id ps true).wp P Qx a w

theorem code_ok (hD : DrawSound P D) : ∀ (c : ACode) (x : Code), chkCode P D c x = true → ∀ (Q : Out → S → Prop) (own : Nat → Prop) (m : Maps) (s : S) (a : Act) (w : World), Rel cx own m s a.tmps w → W (Sim P) c Q s →
    ∀ (Qx : Exit → Act → World → Prop), (∀ e a2 w2, AftO cx Q a.defers e a2 w2 → Qx e a2 w2) → x.wp P Qx a w := by
  intro c
  induction c with
  | skip =>
    intro x hc Q own m s a w hr h Qx hq
    cases x <;> simp [chkCode] at hc
    exact wp_skip (hq .normal a w ⟨.normal, rfl, own, m, s, h, hr, rfl⟩)
  | region draw ops =>
    intro x hc Q own m s a w hr h Qx hq
    cases x <;> simp [chkCode] at hc
    rename_i id ps d
    obtain ⟨rfl, hc⟩ := hc
    have hn : ∀ a2 w2, Aft cx (Q .normal) a.defers a2 w2 → Qx .normal a2 w2 := fun a2 w2 h => hq .normal a2 w2 ⟨.normal, rfl, h⟩
    cases draw with
    | false => exact wp_region_list (ops_ok hn ops ps.toList (by simpa using hc) own m s a w hr rfl h)
    | true => exact hD cx ops ps (by simpa using hc) id (Q .normal) own m s a w hr h Qx hn
  | seq c1 c2 ih1 ih2 =>
    intro x hc Q own m s a w hr h Qx hq
    cases x <;> simp [chkCode] at hc
    rename_i x1 x2
    refine wp_seq (ih1 x1 hc.1 _ own m s a w hr h _ fun e a2 w2 ⟨o, he, own2, m2, s2, hQ, hr2, hd⟩ => ?_)
    subst he
    cases o with
    | normal => exact ih2 x2 hc.2 Q own2 m2 s2 a2 w2 hr2 hQ Qx (fun e a3 w3 h3 => hq e a3 w3 (by rw [← hd]; exact h3))
    | exit i => exact hq (.exit i) a2 w2 ⟨.exit i, rfl, own2, m2, s2, hQ, hr2, hd⟩
    | ret => exact hq .ret a2 w2 ⟨.ret, rfl, own2, m2, s2, hQ, hr2, hd⟩
  | cond c1 x1 y1 ihx ihy =>
    intro x hc Q own m s a w hr h Qx hq
    cases x <;> simp [chkCode] at hc
    rename_i c2 x2 y2
    obtain ⟨⟨hco, hx⟩, hy⟩ := hc
    simp only [W] at h
    have hv := opd_ok hr.f hco
    split at h
    · rename_i t ht
      rw [ht] at hv
      have hb := bool_inv hv
      cases t with
      | true => exact wp_cond_true hb (ihx x2 hx Q own m s a w hr (by simpa using h) Qx hq)
      | false => exact wp_cond_false hb (ihy y2 hy Q own m s a w hr (by simpa using h) Qx hq)
    · exact h.elim
  | block i c1 ih =>
    intro x hc Q own m s a w hr h Qx hq
    cases x <;> simp [chkCode] at hc
    rename_i j x1
    obtain ⟨rfl, hc⟩ := hc
    refine wp_block (ih x1 hc _ own m s a w hr h _ fun e a2 w2 ⟨o, he, own2, m2, s2, hQ, hr2, hd⟩ => ?_)
    subst he
    cases o with
    | normal => exact hq .normal a2 w2 ⟨.normal, rfl, own2, m2, s2, hQ, hr2, hd⟩
    | exit k =>
      simp only [toOut, Exit.inBlock]
      simp only at hQ
      split at hQ
      · rename_i hk; subst hk; rw [if_pos rfl]; exact hq .normal a2 w2 ⟨.normal, rfl, own2, m2, s2, hQ, hr2, hd⟩
      · rename_i hk; rw [if_neg hk]; exact hq (.exit k) a2 w2 ⟨.exit k, rfl, own2, m2, s2, hQ, hr2, hd⟩
    | ret => exact hq .ret a2 w2 ⟨.ret, rfl, own2, m2, s2, hQ, hr2, hd⟩
  | loop live boxes c1 ih =>
    intro x hc Q own m s a w hr h Qx hq
    cases x <;> simp [chkCode] at hc
    rename_i x1
    intro b k cs
    -- what holds at the loop's head
    let X : S → Prop := fun s => ∀ (own : Nat → Prop) (m : Maps) (a2 : Act) (w : World), Rel cx own m s a2.tmps w → a2.defers = a.defers →
          ∃ e a' w', Qx e a' w' ∧ Arrives P (lone (b.at a2 (.code x1 :: .inLoop x1 :: k)) cs w) b k cs e a' w'
    have key : ∀ s, Lp (fun X s => W (Sim P) c1 (fun o s2 => match o with | .normal => X (s2.keep live boxes) | .exit i => Q (.exit i) s2 | .ret => Q .ret s2) s) s →
        X s := by
      intro s hs
      refine hs X ?_
      intro s hF own m a2 w hr hda
      have hwp := ih x1 hc _ own m s a2 w hr hF
        (fun e a' w' => match e with
          | .normal => ∃ e2 a3 w3, Qx e2 a3 w3 ∧ Arrives P (lone (b.at a' (.code x1 :: .inLoop x1 :: k)) cs w') b k cs e2 a3 w3
          | e => Qx e a' w') (fun e a' w' ⟨o, he, own2, m2, s2, hQ, hr2, hd⟩ => by
          subst he
          cases o with
          | normal => exact hQ own2 m2 a' w' (hr2.forget live boxes) (hd.trans hda)
          | exit i => exact hq (.exit i) a' w' ⟨.exit i, rfl, own2, m2, s2, hQ, hr2, hd.trans hda⟩
          | ret => exact hq .ret a' w' ⟨.ret, rfl, own2, m2, s2, hQ, hr2, hd.trans hda⟩)
      obtain ⟨e, a1, w1, hq1, harr⟩ := hwp b (.inLoop x1 :: k) cs
      cases e with
      | normal =>
        obtain ⟨e2, a3, w3, h3, harr3⟩ := hq1
        exact ⟨e2, a3, w3, h3, .of_steps (Steps.trans harr (.one step_inLoop)) harr3⟩
      | exit id => exact ⟨_, a1, w1, hq1, .pass (x := .inLoop x1) rfl (fun _ _ => .inl (by simp)) harr⟩
      | goto l => exact ⟨_, a1, w1, hq1, .pass (x := .inLoop x1) rfl (fun _ _ => .inl (by simp)) harr⟩
      | ret => exact ⟨_, a1, w1, hq1, .pass (x := .inLoop x1) rfl (fun _ _ => .inl (by simp)) harr⟩
      | panic ch => exact ⟨_, a1, w1, hq1, .pass (x := .inLoop x1) rfl (fun _ _ => .inl (by simp)) harr⟩
      | outgrown => exact ⟨_, a1, w1, hq1, .pass (x := .inLoop x1) rfl (fun _ _ => .inl (by simp)) harr⟩
    obtain ⟨e, a', w', h1, h2⟩ := key _ h own m a w (hr.forget live boxes) rfl
    exact ⟨e, a', w', h1, .of_steps (.one step_loop) h2⟩
  | exit i =>
    intro x hc Q own m s a w hr h Qx hq
    cases x <;> simp [chkCode] at hc
    subst hc
    exact wp_exit (hq (.exit i) a w ⟨.exit i, rfl, own, m, s, h, hr, rfl⟩)
  | ret =>
    intro x hc Q own m s a w hr h Qx hq
    cases x <;> simp [chkCode] at hc
    exact wp_ret (hq .ret a w ⟨.ret, rfl, own, m, s, h, hr, rfl⟩)

end
end Go.Abs
