/-
  One operation, in both machines.
-/
import Derived.Test.YtfgkfjmbjopfgaaAbsMapE
set_option linter.unusedVariables false
set_option linter.unusedSimpArgs false
namespace Go.Abs
open Go

def chkOp (P : Program) (o : AOp) (p : Oper) : Bool :=
  p.dst == o.dst && match o, p.op with
  | .val _ _ x, op => chkVal P x op
  | .box _ _ x _, .box _ y => chkOpd x y
  | .box _ _ (.c (.agg z)) _, .alloc e => zeroOk P e z
  | .hbox _ _ x _, .box _ y => chkOpd x y
  | .hbox _ _ (.c (.agg z)) _, .alloc e => zeroOk P e z
  | .bsl _ _ sz n zero parts, .buildSlice t n2 ps => n == n2 && zero.length == sz && sz != 0 && decide (n * sz ≤ 16777216) && partsS sz parts ps.toList && undB P t fun d => match d with
    | .slice e => sizeB P e == some sz && zeroOk P e zero
    | _ => false
  | .mks _ _ n c sz bytes zero, .makeSlice t n2 c2 => chkOpd n n2 && chkOpd c c2 && undB P t fun d => match d with
    | .slice e => elemOk P e sz bytes && zeroOk P e zero
    | _ => false
  | .st _ x v n, .store t x2 v2 => chkOpd x x2 && chkOpd v v2 && sizeB P t == some n
  | .app _ _ x y sz bytes, .call { callee := .builtin .append, args := as, argTypes := ts } => match as.toList, ts.toList with
    | [a, b], [t1, t2] => chkOpd x a && chkOpd y b && bytes != 0 && undB P t2 (fun d => match d with | .slice _ | .string => true | _ => false) && undB P t1 fun d => match d with
      | .slice e => elemOk P e sz bytes
      | _ => false
    | _, _ => false
  | .cpy _ _ x y sz, .call { callee := .builtin .copy, args := as, argTypes := ts } => match as.toList, ts.toList with
    | [a, b], [t1, _] => chkOpd x a && chkOpd y b && isSliceOf P t1 sz
    | _, _ => false
  | .call _ _ f args, .call { callee := .value (.func f2), args := as, argTypes := _ } => f == f2 && chkOpds args as.toList
  | .pcall _ _ f args, .call { callee := .value (.func f2), args := as, argTypes := _ } => f == f2 && chkOpds args as.toList
  | .callv _ _ f args, .call { callee := .value f2, args := as, argTypes := _ } => chkOpd f f2 && chkOpds args as.toList
  | .mkm _ _, .makeMap _ none => true
  | .mup _ ks m k v, .mapUpdate t m2 k2 v2 => chkOpd m m2 && chkOpd k k2 && chkOpd v v2 && mapKeyOk P t ks
  | .mup _ ks m k v, .insert t m2 k2 v2 => chkOpd m m2 && chkOpd k k2 && chkOpd v v2 && mapKeyOk P t ks
  | .men _ _ ks m k z, .mapEntry t m2 k2 => chkOpd m m2 && chkOpd k k2 && mapOk P t ks z
  | .mst _ m st v, .entryStore _ m2 s2 v2 => chkOpd m m2 && chkOpd st s2 && chkOpd v v2
  | _, _ => false

def Aft (cx : Cx) (Q : S → Prop) (ds : List Deferred) : Act → World → Prop := fun a w => ∃ own m s, Q s ∧ Rel cx own m s a.tmps w ∧ a.defers = ds

theorem put_defers (a : Act) (d : Option Tmp) (v : Value) : (a.put d v).defers = a.defers := by cases d <;> rfl

theorem enter_run {P : Program} {w : World} {f : Nat} {args : Array Value} (h : Enters P f) : (callFunc f args).run P w = .ok (.enter f args) w := by
  obtain ⟨fn, h1, h2, h3⟩ := h
  have hn : fn.body.isNone = false := by cases hb : fn.body <;> simp_all
  have h2' : (fn.name == "runtime.NumGoroutine") = false := by simpa using h2
  simp only [callFunc, Sem.run_bind, run_program, Result.andThen_ok, h1, h2', hn, Bool.false_eq_true, if_false, Sem.run_pure]

section
variable {P : Program} {cx : Cx} {own : Nat → Prop} {m : Maps} {s : S} {a : Act} {w : World} {K : Act → World → Prop} {Qx : Exit → Act → World → Prop} {Q : S → Prop} {p : Oper}

theorem upon_value_put {own2 : Nat → Prop} {m2 : Maps} {s2 : S} {u : Value} {v : V} {w2 : World} {d : Option Nat} (hd : p.dst = d) (hrun : (execOp a.eval p).run P w = .ok (.value u) w2) (hr : Rel cx own2 m2 s2 a.tmps w2)
    (hv : VR (Rd own2 w2) m2 v u) (hq : Q (s2.put d v)) (hK : ∀ a2 w2, Aft cx Q a.defers a2 w2 → K a2 w2) : p.wp P a w K Qx := by
  unfold Oper.wp
  rw [hrun]
  exact hK _ _ ⟨own2, m2, _, hq, by rw [hd]; exact hr.put d hv, put_defers _ _ _⟩

theorem mup_ok {ks : Nat} {x k v : Opd} {g : Option (Nat × Bool)} {t : TypeId} {um uk uv : Value} (hr : Rel cx own m s a.tmps w) (hd : p.dst = none)
    (hrun : execOp a.eval p = (do Instr.mapUpdate t um uk uv; pure .skip)) (hxv : VR (Rd own w) m (ev s.env x) um) (hkv : VR (Rd own w) m (ev s.env k) uk) (hvv : VR (Rd own w) m (ev s.env v) uv)
    (hm : mapKeyOk P t ks = true) (h : (AOp.mup g ks x k v).run (Sim P) s Q) (hK : ∀ a2 w2, Aft cx Q a.defers a2 w2 → K a2 w2) : p.wp P a w K Qx := by
  simp only [AOp.run] at h
  split at h <;> first | exact h.elim | skip
  rename_i id hid
  rw [hid] at hxv
  split at h <;> first | exact h.elim | skip
  rename_i es hes
  obtain ⟨hk, h⟩ := h
  have fin : ∀ r, findKey (ev s.env k) es = some r → Q { s with h := s.h.upd id (some (.map (landed es (ev s.env k, ev s.env v) r))) } → p.wp P a w K Qx := by
    intro r hf hq
    obtain ⟨m3, w2, e1, e2⟩ := mapUpdate_run (z := .nsl) hr hm hxv hkv hvv hes hk hf
    unfold Oper.wp
    rw [hrun]
    simp only [Sem.run_bind, e1, Result.andThen_ok, Sem.run_pure]
    refine hK _ _ ⟨own, m3, _, hq, ?_, put_defers _ _ _⟩
    rw [hd]; exact e2
  split at h
  · rename_i i hf; exact fin _ hf h
  · rename_i hf; exact fin _ hf h
  · exact h.elim

theorem calls_next {f : Nat} {us : Array Value} {R : V → Heap → Prop} {d : Option Nat} (hd : p.dst = d) (hrun : (execOp a.eval p).run P w = .ok (.enter f us) w)
    (hc : Calls P f us w fun e w2 => match e with
      | .returned u => ∃ own2 m2 r h2, R r h2 ∧ VR (Rd own2 w2) m2 r u ∧ Rel cx own2 m2 { s with h := h2 } a.tmps w2
      | _ => False)
    (hR : ∀ r h, R r h → Q ({ s with h := h }.put d r)) (hK : ∀ a2 w2, Aft cx Q a.defers a2 w2 → K a2 w2) : p.wp P a w K Qx := by
  unfold Oper.wp
  rw [hrun]
  refine hc.mono ?_
  intro e w2 he
  cases e with
  | returned u =>
    obtain ⟨own2, m2, r, h2, h3, h4, h5⟩ := he
    exact hK _ _ ⟨own2, m2, _, hR r h2 h3, by rw [hd]; exact h5.put d h4, put_defers _ _ _⟩
  | panicked c => exact he.elim
  | outgrown => exact he.elim

theorem op_ok (hr : Rel cx own m s a.tmps w) {o : AOp} (hc : chkOp P o p = true) (h : o.run (Sim P) s Q) (hK : ∀ a2 w2, Aft cx Q a.defers a2 w2 → K a2 w2) : p.wp P a w K Qx := by
  unfold chkOp at hc
  simp only [Bool.and_eq_true, beq_iff_eq] at hc
  obtain ⟨hd, hc⟩ := hc
  generalize hop : p.op = op at hc
  split at hc
  -- val
  · rename_i g d x
    simp only [AOp.run] at h
    split at h
    · rename_i v hv
      obtain ⟨u, hu, hvr⟩ := eval_ok (P := P) (o := p) hr.f (by rw [hop]; exact hc) hv
      exact upon_value_put (d := d) hd hu hr hvr h hK
    · exact h.elim
  -- box, of a value
  · rename_i g d x n e y
    simp only [AOp.run] at h
    split at h
    · rename_i cs hcs
      obtain ⟨h1, h2⟩ := cells_ok (opd_ok hr.f hc) hcs
      obtain ⟨own2, m2, gg, hr2, hv⟩ := hr.newBox d cs (a.eval y).cells e h1 h2
      exact upon_value_put (d := some d) hd (by simp [execOp, hop, Instr.box, newVar, newRow]; rfl) hr2 hv (h.2.2 gg) hK
    · exact h.elim
  -- box, of a zero
  · rename_i g d z n e
    simp only [AOp.run, ev, cellsOf] at h
    obtain ⟨zv, hz1, hz2, hz3⟩ := zero_run (w := w) hc (rd := Rd own w) (m := m)
    obtain ⟨own2, m2, gg, hr2, hv⟩ := hr.newBox d z zv.cells e hz2 hz3
    exact upon_value_put (d := some d) hd (by simp [execOp, hop, Instr.alloc, hz1, newVar, newRow]; rfl) hr2 hv (h.2.2 gg) hK
  -- hbox, of a value
  · rename_i g d x n e y
    simp only [AOp.run] at h
    split at h
    · rename_i cs hcs
      obtain ⟨hn, h⟩ := h
      obtain ⟨h1, h2⟩ := cells_ok (opd_ok hr.f hc) hcs
      obtain ⟨own2, m2, id, e1, _, e3, e4, e5, e6⟩ := hr.newBlk s.h (fun _ _ h => h) (.cells (a.eval y).cells e) n 1 (.arr n [cs])
        (fun own2 m2 id hrd hm _ _ => by
          refine ⟨rfl, _, e, push_get _ _, by omega, by simp, ?_, ?_⟩
          · intro i x hx
            cases i with
            | zero => simp at hx; subst hx; exact hn
            | succ i => simp at hx
          · intro i x j c hx hj
            cases i with
            | zero =>
              simp at hx; subst hx
              have hlt : j < (a.eval y).cells.size := by have := (List.getElem?_eq_some_iff.1 hj).1; omega
              exact ⟨(a.eval y).cells[j], by simp [hlt], (h2 j c _ hj (Array.getElem?_eq_getElem hlt)).mono hrd hm⟩
            | succ i => simp at hx) []
      refine upon_value_put (d := some d) (v := .ep id 0 0) (u := .pointer (some ⟨w.heap.size, 0, none⟩)) hd (by simp [execOp, hop, Instr.box, newVar, newRow]; rfl) e6 ?_ (h id e1) hK
      have := VR.ep (rd := Rd own2 (push w (.cells (a.eval y).cells e))) (m := m2) id 0 0 _ _ _ _ e3
      simpa using this
    · exact h.elim
  -- hbox, of a zero
  · rename_i g d z n e
    simp only [AOp.run, ev, cellsOf] at h
    obtain ⟨hn, h⟩ := h
    obtain ⟨zv, hz1, hz2, hz3⟩ := zero_run (w := w) hc (rd := Rd own w) (m := m)
    obtain ⟨own2, m2, id, e1, _, e3, e4, e5, e6⟩ := hr.newBlk s.h (fun _ _ h => h) (.cells zv.cells e) n 1 (.arr n [z])
      (fun own2 m2 id hrd hm _ _ => by
        refine ⟨rfl, _, e, push_get _ _, by omega, by simp, ?_, ?_⟩
        · intro i x hx
          cases i with
          | zero => simp at hx; subst hx; exact hn
          | succ i => simp at hx
        · intro i x j c hx hj
          cases i with
          | zero =>
            simp at hx; subst hx
            have hlt : j < zv.cells.size := by have := (List.getElem?_eq_some_iff.1 hj).1; omega
            exact ⟨zv.cells[j], by simp [hlt], (hz3 j c _ hj (Array.getElem?_eq_getElem hlt)).mono hrd hm⟩
          | succ i => simp at hx) []
    refine upon_value_put (d := some d) (v := .ep id 0 0) (u := .pointer (some ⟨w.heap.size, 0, none⟩)) hd (by simp [execOp, hop, Instr.alloc, hz1, newVar, newRow]; rfl) e6 ?_ (h id e1) hK
    have := VR.ep (rd := Rd own2 (push w (.cells zv.cells e))) (m := m2) id 0 0 _ _ _ _ e3
    simpa using this
  -- bsl
  · rename_i g d sz n zero parts t n2 ps
    simp only [Bool.and_eq_true, beq_iff_eq, bne_iff_ne, decide_eq_true_eq] at hc
    obtain ⟨⟨⟨⟨⟨rfl, hzl⟩, hs0⟩, h24⟩, hps⟩, hty⟩ := hc
    obtain ⟨dd, hdd, hx⟩ := undB_some hty
    cases dd <;> simp at hx
    rename_i e
    simp only [AOp.run] at h
    split at h
    · rename_i cs hcs
      obtain ⟨own2, m2, id, u, w2, e1, e2, e3, e4⟩ := bsl_ok hr hdd hx.1 hx.2 hzl hs0 h24 hps hcs
      exact upon_value_put (d := some d) hd (by simp only [execOp, hop, Sem.run_bind, e2, Result.andThen_ok, Sem.run_pure]) e3 e4 (h id e1) hK
    · exact h.elim
  -- mks
  · rename_i g d n c sz bytes zero t n2 c2
    simp only [Bool.and_eq_true] at hc
    obtain ⟨⟨hn, hcc⟩, hty⟩ := hc
    obtain ⟨dd, hdd, hx⟩ := undB_some hty
    cases dd <;> simp at hx
    rename_i e
    simp only [AOp.run] at h
    have hnv := opd_ok hr.f hn
    have hcv := opd_ok hr.f hcc
    split at h
    · rename_i k1 x k2 y h1 h2
      rw [h1] at hnv; rw [h2] at hcv
      have q1 := int_inv hnv
      have q2 := int_inv hcv
      obtain ⟨own2, m2, id, u, w2, e1, e2, e3, e4⟩ := mks_ok (k1 := k1) (k2 := k2) hr hdd hx.1 hx.2 h.1 h.2.1 h.2.2.1 h.2.2.2.1
      exact upon_value_put (d := some d) hd (by simp only [execOp, hop, q1, q2, Sem.run_bind, e2, Result.andThen_ok, Sem.run_pure]) e3 e4 (h.2.2.2.2 id e1) hK
    · exact h.elim
  -- st
  · rename_i g x v n t x2 v2
    simp only [Bool.and_eq_true, beq_iff_eq] at hc
    simp only [AOp.run] at h
    split at h
    · rename_i s2 hs2
      obtain ⟨w2, e1, e2⟩ := store_ok (P := P) hr (opd_ok hr.f hc.1.1) (opd_ok hr.f hc.1.2) hc.2 hs2
      unfold Oper.wp
      rw [show (execOp a.eval p).run P w = .ok .skip w2 by simp only [execOp, hop, Sem.run_bind, e1, Result.andThen_ok, Sem.run_pure]]
      refine hK _ _ ⟨own, m, s2, h, ?_, put_defers _ _ _⟩
      rw [hd]; exact e2
    · exact h.elim
  -- app
  · rename_i g d x y sz bytes as ts
    split at hc
    · rename_i p1 p2 t1 t2 hy ht
      have hy' : as = #[p1, p2] := by rw [← Array.toArray_toList (xs := as), hy]
      have ht' : ts = #[t1, t2] := by rw [← Array.toArray_toList (xs := ts), ht]
      subst hy'; subst ht'
      simp only [Bool.and_eq_true, bne_iff_ne] at hc
      obtain ⟨⟨⟨⟨hxo, hyo⟩, hb0⟩, ht2⟩, ht1⟩ := hc
      obtain ⟨dd, hdd, hel⟩ := undB_some ht1
      cases dd <;> simp at hel
      rename_i e
      simp only [AOp.run] at h
      have hxv := opd_ok hr.f hxo
      have hyv := opd_ok hr.f hyo
      split at h
      · rename_i new hnew
        obtain ⟨hnz, h⟩ := h
        have fin : ∀ {old h1 L}, AppTo s (ev s.env x) sz old h1 L → (old.length + new.length) * bytes ≤ 70368744177664 → (ev s.env x = .nsl → new ≠ []) →
            (∀ id, s.h id = none → id ∉ L → Q { s with env := s.env.set d (.msl id 0 (old.length + new.length)), h := h1.upd id (some (.arr sz (old ++ new))) }) → p.wp P a w K Qx := by
          intro old h1 L hto hb hne hq
          obtain ⟨own2, m2, id, u, w2, e1, e2, e3, e4, e5⟩ := app_ok (ty := p.type) hr hxv hyv hdd hb0 ht2 hel hnew hnz hto hb hne
          exact upon_value_put (d := some d) hd (by simp [execOp, hop, resolve, invoke, builtin, e3]) e4 e5 (hq id e1 e2) hK
        split at h
        · rename_i hx
          rcases h with ⟨hpos, hb, hq⟩ | ⟨hn0, hq⟩
          · rw [hx] at fin
            refine fin (.nsl sz) (by simpa using hb) (fun _ e => by rw [e] at hpos; simp at hpos) (fun id e1 _ => ?_)
            simpa using hq id e1
          · -- nothing onto nil
            subst hn0
            rw [hx] at hxv
            have hxe := nsl_inv hxv
            obtain ⟨hlen, narr, hnl, hnf⟩ := elems_ok (P := P) hr.f hyv hnew hnz
            have hnf0 := hnf 0 (Nat.le_refl _)
            obtain ⟨inf, z, hinf, his, hib, hs0, hzi, hzs⟩ := elemOk_some hel
            obtain ⟨d2, hd2, hdd2⟩ := undB_some ht2
            refine upon_value_put (d := some d) (u := .slice none 0 0) (v := .nsl) hd ?_ hr .nsl hq hK
            have : (Builtin.append_ #[t1, t2] p.type #[a.eval p1, a.eval p2]).run P w = .ok (.slice none 0 0) w := by
              rw [hxe]
              cases d2 <;> simp at hdd2 <;> simp [Builtin.append_, run_und hdd, run_und hd2, run_sizeB (show sizeB P e = some sz by simp [sizeB, hinf, his]), hlen, hnf0]
            simp [execOp, hop, resolve, invoke, builtin, this]
        · rename_i id off ln hx
          split at h
          · rename_i sz2 els hh
            obtain ⟨rfl, hle, hb, hq⟩ := h
            rw [hx] at fin
            have hl2 : ((els.drop off).take ln).length = ln := by simp; omega
            refine fin (.msl id off ln sz2 els hh hle) (by rw [hl2]; exact hb) (fun e => by cases e) (fun id2 e1 e2 => ?_)
            rw [hl2]
            exact hq id2 e1 (by simpa using e2)
          · exact h.elim
        · exact h.elim
      · exact h.elim
    · cases hc
  -- cpy
  · rename_i g d x y sz as ts
    split at hc
    · rename_i p1 p2 t1 t2 hy ht
      have hy' : as = #[p1, p2] := by rw [← Array.toArray_toList (xs := as), hy]
      have ht' : ts = #[t1, t2] := by rw [← Array.toArray_toList (xs := ts), ht]
      subst hy'; subst ht'
      simp only [Bool.and_eq_true] at hc
      obtain ⟨⟨hxo, hyo⟩, ht1⟩ := hc
      obtain ⟨e, hu, hsz⟩ := slice_some ht1
      have hxv := opd_ok hr.f hxo
      have hyv := opd_ok hr.f hyo
      simp only [AOp.run] at h
      split at h
      · rename_i id off ln hx
        split at h
        · rename_i sz2 els hh
          obtain ⟨rfl, hle, h⟩ := h
          split at h
          · rename_i new hnew
            rw [hx] at hxv
            obtain ⟨w2, e1, e2⟩ := cpy_ok (ty := p.type) (t2 := t2) hr hxv hyv hu hsz hh hle hnew h.1
            exact upon_value_put (d := d) hd (by simp [execOp, hop, resolve, invoke, builtin, e1]) e2 (.int _ _) h.2 hK
          · exact h.elim
        · exact h.elim
      · rename_i hx
        split at h
        · rename_i new hnew
          rw [hx] at hxv
          have hxe := nsl_inv hxv
          obtain ⟨hlen, narr, hnl, hnf⟩ := elems_ok (P := P) hr.f hyv hnew h.1
          have hnf0 := hnf 0 (Nat.zero_le _)
          refine upon_value_put (d := d) hd (u := .int .i64 0) ?_ hr (.int _ _) h.2 hK
          have : (Builtin.copy_ #[t1, t2] p.type #[a.eval p1, a.eval p2]).run P w = .ok (.int .i64 0) w := by
            rw [hxe]
            simp [Builtin.copy_, run_und hu, run_sizeB hsz, hlen, hnf0, goInt]
          simp [execOp, hop, resolve, invoke, builtin, this]
        · exact h.elim
      · exact h.elim
    · cases hc
  -- call
  · rename_i g d f args f2 as ts
    simp only [Bool.and_eq_true, beq_iff_eq] at hc
    obtain ⟨rfl, hargs⟩ := hc
    obtain ⟨hl, hv⟩ := opds_ok hr.f hargs
    simp only [AOp.run] at h
    obtain ⟨hen, hcalls⟩ := call_ok (us := as.map a.eval) hr h (by simpa using hl) (fun i v u h1 h2 => hv i v u h1 (by simpa using h2))
    refine calls_next (d := d) hd ?_ hcalls (fun _ _ h => h) hK
    simp [execOp, hop, resolve, Deferred.ofValue, invoke, enter_run hen, Act.eval]
  -- pcall
  · rename_i g d f args f2 as ts
    simp only [Bool.and_eq_true, beq_iff_eq] at hc
    obtain ⟨rfl, hargs⟩ := hc
    obtain ⟨hl, hv⟩ := opds_ok hr.f hargs
    simp only [AOp.run] at h
    obtain ⟨hen, hcalls⟩ := call_ok (us := as.map a.eval) hr (.inr (.inl h)) (by simpa using hl) (fun i v u h1 h2 => hv i v u h1 (by simpa using h2))
    refine calls_next (d := d) hd ?_ hcalls (fun _ _ h => h) hK
    simp [execOp, hop, resolve, Deferred.ofValue, invoke, enter_run hen, Act.eval]
  -- callv
  · rename_i g d f args f2 as ts
    simp only [Bool.and_eq_true] at hc
    obtain ⟨hfo, hargs⟩ := hc
    obtain ⟨hl, hv⟩ := opds_ok hr.f hargs
    have hfv := opd_ok hr.f hfo
    simp only [AOp.run] at h
    split at h
    · rename_i k caps hk
      rw [hk] at hfv
      generalize hfe : a.eval f2 = fu at hfv
      cases hfv with
      | fn _ _ cus hcl hcf =>
        obtain ⟨hen, hcalls⟩ := call_ok (us := as.map a.eval ++ cus) hr h (by simp [hcl]; simpa using hl) (fun i v u h1 h2 => by
          rw [List.getElem?_append] at h1
          rw [Array.getElem?_append] at h2
          have hll : (args.map (ev s.env)).length = (as.map a.eval).size := by simpa using hl.symm
          split at h1
          · rename_i hi
            rw [if_pos (by omega)] at h2
            exact hv i v u h1 (by simpa using h2)
          · rename_i hi
            rw [if_neg (by omega)] at h2
            rw [hll] at h1
            exact hcf _ v u h1 h2)
        refine calls_next (d := d) hd ?_ hcalls (fun _ _ h => h) hK
        simp [execOp, hop, resolve, hfe, Deferred.ofValue, invoke, enter_run hen]
    · exact h.elim
  -- mkm
  · rename_i g d ty
    simp only [AOp.run] at h
    obtain ⟨own2, m2, id, e1, _, e3, e4, e5, e6⟩ := hr.newBlk s.h (fun _ _ h => h) (.map #[] 0) 0 0 (.map [])
      (fun own2 m2 id hrd hm hbo _ => ⟨#[], 0, push_get _ _, rfl, fun i e x h1 => by simp at h1, fun i j x y h1 => by simp at h1, fun i n _ h2 => by rw [hbo i] at h2; cases h2⟩) []
    refine upon_value_put (d := some d) (v := .map id) (u := .map (some w.heap.size)) hd (by simp [execOp, hop, Instr.makeMap]; rfl) e6 ?_ (h id e1) hK
    exact .map id _ _ _ _ e3
  -- mup
  · rename_i g ks x k v t m2 k2 v2
    simp only [Bool.and_eq_true] at hc
    obtain ⟨⟨⟨h1, h2⟩, h3⟩, h4⟩ := hc
    exact mup_ok hr hd (by simp [execOp, hop]) (opd_ok hr.f h1) (opd_ok hr.f h2) (opd_ok hr.f h3) h4 h hK
  · rename_i g ks x k v t m2 k2 v2
    simp only [Bool.and_eq_true] at hc
    obtain ⟨⟨⟨h1, h2⟩, h3⟩, h4⟩ := hc
    exact mup_ok hr hd (by simp [execOp, hop]) (opd_ok hr.f h1) (opd_ok hr.f h2) (opd_ok hr.f h3) h4 h hK
  -- men
  · rename_i g d ks x k z t m2 k2
    simp only [Bool.and_eq_true] at hc
    obtain ⟨⟨h1, h2⟩, h4⟩ := hc
    have hxv := opd_ok hr.f h1
    have hkv := opd_ok hr.f h2
    simp only [AOp.run] at h
    split at h <;> first | exact h.elim | skip
    rename_i id hid
    rw [hid] at hxv
    split at h <;> first | exact h.elim | skip
    rename_i es hes
    obtain ⟨hk, h⟩ := h
    split at h
    · rename_i i hf
      split at h <;> first | exact h.elim | skip
      rename_i e he
      obtain ⟨m3, w2, u, e1, e2, e3⟩ := mapEntry_run hr h4 hxv hkv hes hk hf (zv := e.2) (by simp [picked, he])
      exact upon_value_put (d := some d) hd (by simp [execOp, hop, e1]) e3 e2 h hK
    · rename_i hf
      obtain ⟨m3, w2, u, e1, e2, e3⟩ := mapEntry_run hr h4 hxv hkv hes hk hf (zv := z) rfl
      exact upon_value_put (d := some d) hd (by simp [execOp, hop, e1]) e3 e2 h hK
    · exact h.elim
  -- mst
  · rename_i g x st v t m2 s2 v2
    simp only [Bool.and_eq_true] at hc
    obtain ⟨⟨h1, h2⟩, h3⟩ := hc
    have hxv := opd_ok hr.f h1
    have hsv := opd_ok hr.f h2
    have hvv := opd_ok hr.f h3
    simp only [AOp.run] at h
    split at h <;> first | exact h.elim | skip
    rename_i id id2 i hid hst
    obtain ⟨rfl, h⟩ := h
    rw [hid] at hxv; rw [hst] at hsv
    split at h <;> first | exact h.elim | skip
    rename_i es hes
    split at h <;> first | exact h.elim | skip
    rename_i e he
    obtain ⟨w2, e1, e2⟩ := entryStore_run (P := P) (t := t) hr hxv hsv hvv hes he
    unfold Oper.wp
    rw [show (execOp a.eval p).run P w = .ok .skip w2 by simp [execOp, hop, e1]]
    refine hK _ _ ⟨own, m, _, h, ?_, put_defers _ _ _⟩
    rw [hd]; exact e2
  · cases hc

end
end Go.Abs
