/-
  Functions: what the abstract machine says of a call holds of the model's.
-/
import Derived.Test.YtfgkfjmbjopfgaaAbsSound
set_option linter.unusedVariables false
set_option linter.unusedSimpArgs false
namespace Go.Abs
open Go

def chkRes (P : Program) : List ARes → List ResultVar → Bool
  | [], [] => true
  | .tmp t :: l, .tmp t2 :: r => t == t2 && chkRes P l r
  | .cell t n agg :: l, .cell t2 ty :: r => t == t2 && tyOk P ty n agg && chkRes P l r
  | _, _ => false

/-- A function's text in both machines. -/
def chkFn (P : Program) (D : DrawOk) (f : Nat) (a : AFn) : Bool :=
  match P.funcs[f]? with
  | some fn => fn.name != "runtime.NumGoroutine" && fn.ntmps == a.ntmps && chkRes P a.results fn.results.toList && (match fn.body with
    | some c => chkCode P D a.body c
    | none => false)
  | none => false

def resRun (tmps : Array Value) : ResultVar → Sem Value
  | .tmp t => pure (tmps.getD t Go.undef)
  | .cell a t => do loadVar t (← asAddr (tmps.getD a Go.undef))

section
variable {P : Program} {D : DrawOk}

theorem res_ok {own : Nat → Prop} {m : Maps} {s : S} {tmps : Array Value} {w : World} (hf : FRel own m s tmps w) : ∀ (rs : List ARes) (vs : List ResultVar), chkRes P rs vs = true → ∀ out, mapM? (ARes.val s) rs = some out →
    ∃ us : List Value, (vs.mapM (resRun tmps)).run P w = .ok us w ∧ us.length = out.length ∧ ∀ (i : Nat) (v : V) (u : Value), out[i]? = some v → us[i]? = some u → VR (Rd own w) m v u
  | [], [], _, out, h => by simp [mapM?] at h; subst h; exact ⟨[], by simp, rfl, by simp⟩
  | a :: rs, b :: vs, hc, out, h => by
    simp only [mapM?] at h
    split at h
    · rename_i v r hv hrr
      simp at h; subst h
      have hval : ∃ u, (resRun tmps b).run P w = .ok u w ∧ VR (Rd own w) m v u ∧ chkRes P rs vs = true := by
        cases a with
        | tmp t =>
          cases b <;> simp [chkRes] at hc
          obtain ⟨rfl, hc⟩ := hc
          simp [ARes.val] at hv; subst hv
          have := opd_ok (a := { tmps := tmps, defers := [] }) (x := .t t) (y := .tmp t) hf (by simp [chkOpd])
          exact ⟨_, rfl, this, hc⟩
        | cell t n agg =>
          cases b <;> simp [chkRes] at hc
          rename_i t2 ty
          obtain ⟨⟨rfl, hty⟩, hc⟩ := hc
          have hvr := opd_ok (a := { tmps := tmps, defers := [] }) (x := .t t) (y := .tmp t) hf (by simp [chkOpd])
          simp only [ARes.val] at hv
          obtain ⟨x, hx, hxv⟩ := load_ok (P := P) hf hvr hty hv
          refine ⟨x, ?_, hxv, hc⟩
          have hca : ∃ cs off, cellsAt s.bx s.h (ev s.env (.t t)) = some (cs, off) := by
            unfold loadOf at hv
            split at hv
            · rename_i cs off h; exact ⟨cs, off, h⟩
            · cases hv
          obtain ⟨cs, off, hca⟩ := hca
          obtain ⟨b, o, hbu, _⟩ := reach hf hvr hca
          simp only [Act.eval] at hbu hx
          rw [hbu] at hx
          simp only [resRun, hbu, asAddr, Sem.run_bind, Sem.run_pure, Result.andThen_ok]
          simpa [Instr.loadAt, Instr.sureAddr] using hx
      obtain ⟨u, hu, hvr, hc2⟩ := hval
      obtain ⟨us, h1, h2, h3⟩ := res_ok hf rs vs hc2 r hrr
      refine ⟨u :: us, by rw [List.mapM_cons]; simp [hu, h1], by simp [h2], ?_⟩
      intro i v2 u2 e1 e2
      cases i with
      | zero => simp at e1 e2; subst e1; subst e2; exact hvr
      | succ i => exact h3 i v2 u2 (by simpa using e1) (by simpa using e2)
    · cases h
  | [], _ :: _, hc, _, _ => by simp [chkRes] at hc
  | _ :: _, [], hc, _, _ => by simp [chkRes] at hc

theorem results_run {own : Nat → Prop} {m : Maps} {s : S} {tmps : Array Value} {w : World} (hf : FRel own m s tmps w) {rs : List ARes} {fn : Func} (hc : chkRes P rs fn.results.toList = true) {v : V} (h : resultOf rs s = some v) :
    ∃ u, (results fn tmps).run P w = .ok u w ∧ VR (Rd own w) m v u := by
  have hout : ∃ out, mapM? (ARes.val s) rs = some out ∧ ((∃ x, out = [x] ∧ v = x) ∨ ((∀ x, out ≠ [x]) ∧ v = .tup out)) := by
    unfold resultOf at h
    split at h
    · rename_i x hx; simp at h; exact ⟨[x], hx, .inl ⟨x, rfl, h.symm⟩⟩
    · rename_i vs hne hx; simp at h; exact ⟨vs, hx, .inr ⟨fun x e => hne x e, h.symm⟩⟩
    · cases h
  obtain ⟨out, hm, hcase⟩ := hout
  obtain ⟨us, h1, h2, h3⟩ := res_ok (P := P) hf rs fn.results.toList hc out hm
  have hr : (fn.results.mapM (resRun tmps)).run P w = .ok us.toArray w := by
    rw [← Array.toArray_toList (xs := fn.results), List.mapM_toArray, Sem.run_map, h1]; rfl
  have hrun : (results fn tmps).run P w = .ok (if h : us.toArray.size = 1 then us.toArray[0] else .tuple us.toArray) w := by
    have he : results fn tmps = (do let vs ← fn.results.mapM (resRun tmps); pure (if h : vs.size = 1 then vs[0] else .tuple vs)) := rfl
    rw [he, Sem.run_bind, hr]
    simp only [Result.andThen_ok, Sem.run_pure]
  refine ⟨_, hrun, ?_⟩
  rcases hcase with ⟨x, rfl, rfl⟩ | ⟨hne, rfl⟩
  · obtain ⟨u, rfl⟩ := List.length_eq_one_iff.1 h2
    simpa using h3 0 v u rfl rfl
  · have hn1 : us.toArray.size ≠ 1 := by
      intro e
      match out, h2, hne with
      | [], h, _ => simp at e; rw [e] at h; simp at h
      | [x], _, hne => exact hne x rfl
      | _ :: _ :: _, h, _ => simp at e; rw [e] at h; simp at h
    rw [dif_neg hn1]
    exact .tup out us.toArray (by simpa using h2) (fun i c u hc hu => h3 i c u hc (by simpa using hu))

theorem sim_full : Full (Sim P) := fun L _ _ _ _ hf h => h.2.1 L hf

theorem fn_ok (hD : DrawSound P D) {A : Prog} (hA : ∀ f a, A f = some a → chkFn P D f a = true) (f : Nat) (vs : List V) (h : Heap) (R : V → Heap → Prop) (hb : bodyOf A (Sim P) f vs h R) : Sim P f vs h R := by
  unfold bodyOf at hb
  split at hb
  · rename_i afn hf
    obtain ⟨hn, hW⟩ := hb
    have hc := hA f afn hf
    unfold chkFn at hc
    split at hc
    · rename_i fn hfn
      simp only [Bool.and_eq_true, bne_iff_ne, beq_iff_eq] at hc
      obtain ⟨⟨⟨hname, hnt⟩, hres⟩, hbody⟩ := hc
      split at hbody
      · rename_i code hcode
        refine ⟨⟨fn, hfn, hname, by simp [hcode]⟩, fun L hf => ?_, ?_⟩
        · obtain ⟨o, s2, h1, h2⟩ := W_full (L := L) sim_full afn.body (start afn vs h) hf hW
          have fin : ∀ o, (o = Out.normal ∨ o = Out.ret) → post afn.results R o s2 → ∃ r h2, FinA L h2 ∧ R r h2 := by
            intro o ho hp
            have hp' : match resultOf afn.results s2 with
                | some v => ∃ (ids : Nat → Prop) (u : V) (h : Heap), Frz s2.h ids v u ∧ h.le s2.h ∧ (∀ i, ids i → h i = none) ∧ R u h
                | none => False := by rcases ho with rfl | rfl <;> exact hp
            split at hp'
            · obtain ⟨ids, u, h3, _, hle, _, hR⟩ := hp'
              exact ⟨u, h3, FinA.le hle h1, hR⟩
            · exact hp'.elim
          cases o with
          | normal => exact fin .normal (.inl rfl) h2
          | exit i => exact h2.elim
          | ret => exact fin .ret (.inr rfl) h2
        intro own m w us hh hfin hlt hl hv
        refine calls_of_wp hfn hcode ?_
        let cx : Cx := { w0 := w, m0 := m, own0 := own, h0 := HOwn m h, fr := fun b => own b ∧ ¬ HOwn m h b, dom := fun id => ∃ x, h id = some x }
        have hnone : ∀ (t : Nat) (x : Nat × List V), (start afn vs h).bx[t]? = some (some x) → False := by
          intro t x hx
          have := List.eq_of_mem_replicate (List.mem_of_getElem? hx)
          cases this
        have hr : Rel cx own m (start afn vs h) (us ++ Array.replicate (fn.ntmps - us.size) Go.undef) w := by
          refine ⟨⟨by simp [start, hl, hnt], fun t v ht => ?_, fun t g cs hx => (hnone t _ hx).elim, fun t g cs t2 g2 cs2 b hx => (hnone t _ hx).elim, fun t g cs id x b r hx => (hnone t _ hx).elim, hh, hfin⟩,
            ⟨Io.refl w, Nat.le_refl _, fun b _ _ => rfl, fun b _ h => h, Maps.le.refl m, fun b h => h.1, fun id x b r e1 e2 => ⟨fun h => h.2 ⟨id, x, r, e1, e2⟩, fun _ => ⟨id, x, r, e1, e2⟩⟩, fun t g cs b hx => (hnone t _ hx).elim,
              fun id x hx => .inr ⟨x, hx⟩, fun id x _ _ => fun _ _ h => h⟩, fun b hb => hlt b hb.1⟩
          simp only [start] at ht
          rw [List.getElem?_append] at ht
          rw [Array.getElem?_append]
          split at ht
          · rename_i hi
            rw [if_pos (by omega)]
            have hlt : t < us.size := by omega
            exact ⟨us[t], Array.getElem?_eq_getElem hlt, hv t v us[t] ht (Array.getElem?_eq_getElem hlt)⟩
          · rename_i hi
            rw [if_neg (by omega)]
            have hu := List.eq_of_mem_replicate (List.mem_of_getElem? ht)
            have hlt : t - vs.length < afn.ntmps - vs.length := by have := (List.getElem?_eq_some_iff.1 ht).1; simpa using this
            subst hu
            refine ⟨Go.undef, ?_, .undef _⟩
            rw [hl, hnt, Array.getElem?_replicate, if_pos hlt]
        refine code_ok hD afn.body code hbody _ own m _ { tmps := us ++ Array.replicate (fn.ntmps - us.size) Go.undef, defers := [] } w hr hW _ ?_
        intro e a2 w2 ⟨o, he, own2, m2, s2, hQ, hr2, hd⟩
        subst he
        have hfin2 : ∀ o, o = Out.normal ∨ o = Out.ret → post afn.results R o s2 → a2.defers = [] ∧ ∃ v, (results fn a2.tmps).run P w2 = .ok v w2 ∧
            ∃ own2 m2 r h2, R r h2 ∧ VR (Rd own2 w2) m2 r v ∧ Left own m h w own2 m2 h2 w2 := by
          intro o ho hp
          have hp' : match resultOf afn.results s2 with
              | some v => ∃ (ids : Nat → Prop) (u : V) (h : Heap), Frz s2.h ids v u ∧ h.le s2.h ∧ (∀ i, ids i → h i = none) ∧ R u h
              | none => False := by rcases ho with rfl | rfl <;> exact hp
          split at hp'
          · rename_i v hv2
            obtain ⟨ids, u, h2, hfz, hle, hdrop, hR⟩ := hp'
            obtain ⟨uu, hrun, hvr⟩ := results_run (P := P) (fn := fn) hr2.f hres hv2
            refine ⟨hd, uu, hrun, fun b => own2 b ∧ ¬ Lent m2 s2.h ids b, m2, u, h2, hR, frz_ok hr2.f.heap (fun b h => h) hfz hvr, ?_⟩
            have hno : ∀ id x b r, h2 id = some x → m2.sg id = some (b, r) → ¬ Lent m2 s2.h ids b := by
              intro id x b r e1 e2 ⟨id2, y, r2, e3, e4, e5⟩
              have := hr2.f.heap.inj id id2 x y b r r2 (hle _ _ e1) e4 e2 e5
              subst this
              rw [hdrop id e3] at e1; cases e1
            have hrd : ∀ b o u, Rd own2 w2 b o u → Rd (fun b => own2 b ∧ ¬ Lent m2 s2.h ids b) w2 b o u := fun b o u ⟨h1, h2⟩ => ⟨fun h3 => h1 h3.1, h2⟩
            refine ⟨⟨fun id x hx => ?_, fun id id2 x y b r r2 e1 e2 => hr2.f.heap.inj id id2 x y b r r2 (hle _ _ e1) (hle _ _ e2)⟩, hr2.f.fin, hr2.k.maps, hr2.k.size, hr2.k.same, fun b hb ho => hr2.k.old b hb ho.1, ?_, ?_, ?_, ?_, hr2.k.io⟩
            · obtain ⟨b, o, sz, C, f1, f2, f3⟩ := hr2.f.heap.blk id x (hle _ _ hx)
              exact ⟨b, o, sz, C, f1, ⟨f2, hno id x b _ hx f1⟩, f3.mono hrd (Maps.le.refl m2) (fun _ _ h => h) rfl⟩
            · intro b hb ho hn2
              have hfr : cx.fr b := ⟨ho, hn2⟩
              refine ⟨hr2.k.fr b hfr, fun ⟨id, x, r, _, e4, e5⟩ => (hr2.k.ids id x b r e4 e5).1 hfr⟩
            · intro id x b r e1 e2 hb
              exact (hr2.k.ids id x b r (hle _ _ e1) e2).2 hb
            · intro id x hx
              exact hr2.k.live id x (hle _ _ hx)
            · intro id x hx hn2
              exact hr2.k.bo id x hx (fun ⟨y, hy⟩ => by rw [hn2] at hy; cases hy)
          · exact hp'.elim
        cases o with
        | normal => exact hfin2 .normal (.inl rfl) hQ
        | exit i => exact hQ.elim
        | ret => exact hfin2 .ret (.inr rfl) hQ
      · cases hbody
    · cases hc
  · exact hb.elim

/-- What the abstract machine says of a call holds of the model's. -/
theorem sound (hD : DrawSound P D) {A : Prog} (hA : ∀ f a, A f = some a → chkFn P D f a = true) {f : Nat} {vs : List V} {h : Heap} {R : V → Heap → Prop} (hret : Ret A f vs h R) : Sim P f vs h R :=
  hret (Sim P) (fn_ok hD hA)

end
end Go.Abs
