/-
  Whatever an operation that only reads makes of related operands is related (the whole).
-/
import Derived.Test.YtfgkfjmbjopfgaaAbsMapR
set_option linter.unusedVariables false
set_option linter.unusedSimpArgs false
namespace Go.Abs
open Go
section
variable {P : Program}

theorem bool_inv {rd : Reads} {m : Maps} {b : Bool} {u : Value} (h : VR rd m (.bool b) u) : u = .bool b := by cases h; rfl
theorem str_inv {rd : Reads} {m : Maps} {b : ByteArray} {u : Value} (h : VR rd m (.str b) u) : u = .string b := by cases h; rfl
theorem nsl_inv {rd : Reads} {m : Maps} {u : Value} (h : VR rd m .nsl u) : u = .slice none 0 0 := by cases h; rfl
theorem agg_inv {rd : Reads} {m : Maps} {cs : List V} {u : Value} (h : VR rd m (.agg cs) u) : ∃ us, u = .agg us ∧ us.size = cs.length ∧ ∀ (j : Nat) (c : V) (u : Value), cs[j]? = some c → us[j]? = some u → CR rd m c u := by
  cases h with
  | agg _ us hl h1 hf => exact ⟨us, rfl, hl, fun j c u hc hu => ⟨hf j c u hc hu, h1 j u hu⟩⟩
theorem tup_inv {rd : Reads} {m : Maps} {cs : List V} {u : Value} (h : VR rd m (.tup cs) u) : ∃ us, u = .tuple us ∧ us.size = cs.length ∧ ∀ (j : Nat) (c : V) (u : Value), cs[j]? = some c → us[j]? = some u → VR rd m c u := by
  cases h with
  | tup _ us hl hf => exact ⟨us, rfl, hl, hf⟩
theorem fsl_inv {rd : Reads} {m : Maps} {sz : Nat} {els : List (List V)} {u : Value} (h : VR rd m (.fsl sz els) u) : ∃ a cap, u = .slice a els.length cap ∧ els.length ≤ cap ∧ (els ≠ [] → ∃ b off, a = some ⟨b, off, none⟩ ∧
    (∀ (i : Nat) (x : List V), els[i]? = some x → x.length = sz) ∧ ∃ v : Nat → Nat → Value, ∀ (i : Nat) (x : List V) (j : Nat) (c : V), els[i]? = some x → x[j]? = some c → rd b (off + i * sz + j) (v i j) ∧ CR rd m c (v i j)) := by
  cases h with
  | fsl0 _ a cap => exact ⟨a, cap, rfl, by simp, by simp⟩
  | fsl _ _ b off cap v hc hw hr h1 hf => exact ⟨_, cap, rfl, hc, fun _ => ⟨b, off, rfl, hw, v, fun i x j c e1 e2 => ⟨hr i x j c e1 e2, hf i x j c e1 e2, h1 i x j c e1 e2⟩⟩⟩
theorem msl_inv {rd : Reads} {m : Maps} {id off ln : Nat} {u : Value} (h : VR rd m (.msl id off ln) u) : ∃ b o sz C a cap, u = .slice (some a) ln cap ∧ m.sg id = some (b, o, sz, C) ∧ ((ln = 0 ∧ cap = 0) ∨ (a = ⟨b, o + off * sz, none⟩ ∧ off + cap = C ∧ ln ≤ cap)) := by
  cases h with
  | msl _ _ _ b o sz C a cap hs h => exact ⟨b, o, sz, C, a, cap, rfl, hs, h⟩
/-- An address and what it is from. -/
theorem addr_inv {rd : Reads} {m : Maps} {p : V} {u : Value} (h : VR rd m p u) (hp : (∃ t g o, p = .lp t g o) ∨ (∃ id i o, p = .ep id i o) ∨ (∃ cs o, p = .fp cs o)) : ∃ b o, u = .pointer (some ⟨b, o, none⟩) := by
  rcases hp with ⟨t, g, o, rfl⟩ | ⟨id, i, o, rfl⟩ | ⟨cs, o, rfl⟩ <;> cases h <;> exact ⟨_, _, rfl⟩

theorem addr_spot_add {b o n : Nat} : (⟨b, o, none⟩ : Addr).add n = ⟨b, o + n, none⟩ := add_none b o n

theorem bound_some {own : Nat → Prop} {m : Maps} {s : S} {a : Act} {w : World} (hf : FRel own m s a.tmps w) {x : Option Opd} {y : Option Operand} (h : chkOpdO x y = true) {d r : Nat} (hb : bound s.env x d = some r) :
    (x = none ∧ y = none ∧ r = d) ∨ ∃ q k, y = some q ∧ a.eval q = .int k r := by
  rcases opdO_ok hf h with ⟨rfl, rfl⟩ | ⟨p, q, rfl, rfl, hv⟩
  · simp [bound] at hb; exact .inl ⟨rfl, rfl, hb.symm⟩
  · simp only [bound] at hb
    split at hb
    · rename_i k n hn
      split at hb
      · rename_i h0
        simp at hb; subst hb
        rw [hn] at hv
        exact .inr ⟨q, k, rfl, by rw [int_inv hv]; simp [Int.toNat_of_nonneg h0]⟩
      · cases hb
    · cases hb

theorem sliceBounds_run {own : Nat → Prop} {m : Maps} {s : S} {a : Act} {w : World} (hf : FRel own m s a.tmps w) {lo hi : Option Opd} {lo2 hi2 : Option Operand} (hlo : chkOpdO lo lo2 = true) (hhi : chkOpdO hi hi2 = true)
    {isS : Bool} {len cap h l : Nat} (h1 : bound s.env hi len = some h) (h2 : bound s.env lo 0 = some l) (hlh : l ≤ h) (hhc : h ≤ cap) :
    (Instr.sliceBounds isS len cap (lo2.map a.eval) (hi2.map a.eval) none).run P w = .ok (l, h, cap) w := by
  rcases bound_some hf hhi h1 with ⟨_, rfl, rfl⟩ | ⟨q, k, rfl, hq⟩
  · rcases bound_some hf hlo h2 with ⟨_, rfl, rfl⟩ | ⟨q2, k2, rfl, hq2⟩
    · simp [Instr.sliceBounds]
    · simp [Instr.sliceBounds, Instr.sliceBound, hq2, asIntOf, hlh]
  · rcases bound_some hf hlo h2 with ⟨_, rfl, rfl⟩ | ⟨q2, k2, rfl, hq2⟩
    · simp [Instr.sliceBounds, Instr.sliceBound, hq, asIntOf, hhc]
    · simp [Instr.sliceBounds, Instr.sliceBound, hq, hq2, asIntOf, hlh, hhc]

theorem partsOk_get {t : TypeId} : ∀ {ps : List (Nat × Nat × Opd)} {qs : List (Nat × Operand)}, partsOk P t ps qs = true → ps.length = qs.length ∧
    ∀ (i off n : Nat) (x : Opd) (j : Nat) (y : Operand), ps[i]? = some (off, n, x) → qs[i]? = some (j, y) → chkOpd x y = true ∧ (undB P t fun d => match d with
    | .struct fs => match fs[j]? with
      | some f => f.offset == off && sizeB P f.type == some n
      | none => false
    | .array _ e => off == j * n && sizeB P e == some n
    | _ => false) = true
  | [], [], _ => ⟨rfl, by simp⟩
  | (off, n, x) :: ps, (j, y) :: qs, h => by
    simp only [partsOk, Bool.and_eq_true] at h
    obtain ⟨hl, hr⟩ := partsOk_get h.2
    refine ⟨by simp [hl], ?_⟩
    intro i off' n' x' j' y' h1 h2
    cases i with
    | zero => simp at h1 h2; obtain ⟨rfl, rfl, rfl⟩ := h1; obtain ⟨rfl, rfl⟩ := h2; exact h.1
    | succ i => exact hr i off' n' x' j' y' (by simpa using h1) (by simpa using h2)
  | [], _ :: _, h => by simp [partsOk] at h
  | _ :: _, [], h => by simp [partsOk] at h

theorem mapM_run_ok {α β : Type} (f : α → Sem β) (g : α → β) (w : World) : ∀ (l : List α), (∀ x ∈ l, (f x).run P w = .ok (g x) w) → (l.mapM f).run P w = .ok (l.map g) w
  | [], _ => by simp
  | x :: l, h => by
    rw [List.mapM_cons]
    simp [h x (by simp), mapM_run_ok f g w l (fun y hy => h y (by simp [hy]))]

theorem build_ok {own : Nat → Prop} {m : Maps} {s : S} {a : Act} {w : World} (hf : FRel own m s a.tmps w) {zero : List V} {parts : List (Nat × Nat × Opd)} {t : TypeId} {ps : Array (Nat × Operand)}
    (hz : zeroOk P t zero = true) (hsz : fieldsSized P t = true) (hp : partsOk P t parts ps.toList = true) {out : List V} (h : Abs.fill s.env zero parts = some out) :
    ∃ u, (Instr.build t (ps.map fun x => (x.1, a.eval x.2))).run P w = .ok u w ∧ VR (Rd own w) m (.agg out) u := by
  obtain ⟨z, hzr, hzs, hzc⟩ := zero_run (w := w) hz (rd := Rd own w) (m := m)
  obtain ⟨hpl, hpg⟩ := partsOk_get hp
  have fin : ∀ place : Nat → Option (Nat × Nat), (∀ (i off n : Nat) (x : Opd) (j : Nat) (y : Operand), parts[i]? = some (off, n, x) → ps.toList[i]? = some (j, y) → chkOpd x y = true ∧ place j = some (off, n)) →
      ∃ res, Instr.fill place z.cells ((ps.map fun x => (x.1, a.eval x.2)).toList) = some res ∧ VR (Rd own w) m (.agg out) (.agg res) := by
    intro place hpp
    obtain ⟨res, hr, hrs, hrc⟩ := fill_ok hf place parts ps.toList zero z.cells out hpl hpp hzs hzc h
    refine ⟨res, by simpa using hr, .agg _ _ hrs (fun i u hu => ?_) (fun i c u hc hu => (hrc i c u hc hu).1)⟩
    have hi : i < out.length := by have := (Array.getElem?_eq_some_iff.1 hu).1; omega
    exact (hrc i out[i] u (List.getElem?_eq_getElem hi) hu).2
  obtain ⟨d, hd, hdf⟩ := undB_some hsz
  cases d <;> simp only [] at hdf <;> try (cases hdf; done)
  case array len e =>
    obtain ⟨n, hn⟩ := Option.isSome_iff_exists.1 hdf
    obtain ⟨res, hr, hv⟩ := fin (fun i => some (i * n, n)) (fun i off k x j y h1 h2 => by
      obtain ⟨hc, hu⟩ := hpg i off k x j y h1 h2
      obtain ⟨d2, hd2, hu⟩ := undB_some hu
      rw [hd] at hd2; simp at hd2; subst hd2
      simp [hn] at hu
      obtain ⟨h3, h4⟩ := hu
      exact ⟨hc, by simp [h3, h4]⟩)
    refine ⟨_, ?_, hv⟩
    simp only [Instr.build, Sem.run_bind, hzr, Result.andThen_ok, run_und hd, run_sizeB hn, hr, Sem.run_pure]
  case struct fs =>
    simp only [List.all_eq_true] at hdf
    let g : Field → Nat × Nat := fun f => (f.offset, (sizeB P f.type).getD 0)
    have hm : (fs.mapM fun f => (do pure (f.offset, ← sizeOf f.type) : Sem (Nat × Nat))).run P w = .ok (fs.map g) w := by
      have := mapM_run_ok (P := P) (fun f : Field => (do pure (f.offset, ← sizeOf f.type) : Sem (Nat × Nat))) g w fs.toList (fun f hf => by
        obtain ⟨n, hn⟩ := Option.isSome_iff_exists.1 (hdf f hf)
        simp [run_sizeB hn, g, hn])
      rw [← Array.toArray_toList (xs := fs), List.mapM_toArray, Sem.run_map, this]
      simp only [Result.andThen_ok, List.map_toArray]
    obtain ⟨res, hr, hv⟩ := fin ((fs.map g)[·]?) (fun i off k x j y h1 h2 => by
      obtain ⟨hc, hu⟩ := hpg i off k x j y h1 h2
      obtain ⟨d2, hd2, hu⟩ := undB_some hu
      rw [hd] at hd2; simp at hd2; subst hd2
      simp only at hu
      split at hu
      · rename_i f hfj
        simp at hu
        refine ⟨hc, ?_⟩
        simp [hfj, g, hu.1, hu.2]
      · cases hu)
    refine ⟨_, ?_, hv⟩
    simp only [Instr.build, Sem.run_bind, hzr, Result.andThen_ok, run_und hd, hm, hr, Sem.run_pure]

theorem equalIn_bool {w : World} {t : TypeId} (hd : P.underlying t = some .bool) (d : Nat) (p q : Bool) : (Op.equalIn (d + 1) t (.bool p) (.bool q)).run P w = .ok (p == q) w := by
  simp [Op.equalIn, run_und hd]

theorem eval_ok {own : Nat → Prop} {m : Maps} {s : S} {a : Act} {w : World} (hf : FRel own m s a.tmps w) {x : AVal} {o : Oper} (hc0 : chkVal P x o.op = true) {v : V} (h0 : x.eval s.env s.bx s.h = some v) :
    ∃ u, (execOp a.eval o).run P w = .ok (.value u) w ∧ VR (Rd own w) m v u := by
  have h := AVal.base_eval h0
  have hc : chkVal0 P x.base o.op = true := hc0
  clear h0 hc0
  generalize x.base = x at h hc
  have fin : ∀ {u : Value} {e : Sem Value}, (execOp a.eval o) = (do pure (.value (← e))) → e.run P w = .ok u w → VR (Rd own w) m v u → ∃ u, (execOp a.eval o).run P w = .ok (.value u) w ∧ VR (Rd own w) m v u := by
    intro u e h1 h2 h3
    exact ⟨u, by rw [h1]; simp [h2], h3⟩
  generalize ho : o.op = op at hc
  unfold chkVal0 at hc
  split at hc
  -- mv, move
  · simp only [AVal.eval, Option.some.injEq] at h; subst h
    exact ⟨_, by simp [execOp, ho], opd_ok hf hc⟩
  · simp only [AVal.eval, Option.some.injEq] at h; subst h
    exact ⟨_, by simp [execOp, ho], opd_ok hf hc⟩
  -- pick
  · rename_i c x y c2 x2 y2
    simp only [Bool.and_eq_true] at hc
    simp only [AVal.eval] at h
    split at h
    · rename_i t ht
      simp at h; subst h
      have hcv := opd_ok hf hc.1.1
      rw [ht] at hcv
      have hcb := bool_inv hcv
      cases t
      · exact ⟨_, by simp [execOp, ho, hcb, asBool], opd_ok hf hc.2⟩
      · exact ⟨_, by simp [execOp, ho, hcb, asBool], opd_ok hf hc.1.2⟩
    · cases h
  -- bin
  · rename_i op1 x y op2 t x2 y2 yt
    simp only [Bool.and_eq_true, beq_iff_eq] at hc
    obtain ⟨⟨rfl, hx⟩, hy⟩ := hc
    simp only [AVal.eval] at h
    obtain ⟨u, hu, hv, hg⟩ := bin_ok (P := P) (w := w) (t := t) (opd_ok hf hx) (opd_ok hf hy) h
    exact fin (e := do eqGuard op1 t x2 y2 (a.eval x2) (a.eval y2); Go.binOp op1 t (a.eval x2) (a.eval y2)) (by simp [execOp, ho]) (by simp [hg, hu]) hv
  -- beq
  · rename_i neg x y op2 t x2 y2 yt
    simp only [Bool.and_eq_true, beq_iff_eq] at hc
    obtain ⟨⟨⟨rfl, ht⟩, hx⟩, hy⟩ := hc
    simp only [AVal.eval] at h
    split at h
    · rename_i p q hp hq
      simp at h; subst h
      have hxv := opd_ok hf hx
      have hyv := opd_ok hf hy
      rw [hp] at hxv; rw [hq] at hyv
      have e1 := bool_inv hxv
      have e2 := bool_inv hyv
      obtain ⟨d, hd, hdd⟩ := undB_some ht
      cases d <;> simp at hdd
      have heq : (Op.equal t (.bool p) (.bool q)).run P w = .ok (p == q) w := by
        exact equalIn_bool hd 9999 p q
      cases neg
      · exact ⟨_, by simp [execOp, ho, e1, e2, eqGuard, Go.binOp, heq], .bool _⟩
      · exact ⟨_, by simp [execOp, ho, e1, e2, eqGuard, Go.binOp, heq], .bool _⟩
    · cases h
  -- un
  · rename_i op1 x op2 t x2
    simp only [Bool.and_eq_true, beq_iff_eq] at hc
    obtain ⟨rfl, hx⟩ := hc
    simp only [AVal.eval] at h
    obtain ⟨u, hu, hv⟩ := un_ok (P := P) (w := w) (opd_ok hf hx) h
    exact fin (by simp only [execOp, ho]) hu hv
  -- build
  · rename_i zero parts t ps
    simp only [Bool.and_eq_true] at hc
    simp only [AVal.eval, Option.map_eq_some_iff] at h
    obtain ⟨out, hout, rfl⟩ := h
    obtain ⟨u, hu, hv⟩ := build_ok hf hc.1.1 hc.1.2 hc.2 hout
    exact fin (by simp only [execOp, ho]) hu hv
  -- fld
  · rename_i x off n agg t x2 f
    simp only [Bool.and_eq_true] at hc
    obtain ⟨hx, hfo⟩ := hc
    simp only [AVal.eval] at h
    split at h
    · rename_i cs hcs
      obtain ⟨fs, fd, hu, hfd, rfl, hty⟩ := fieldOk_some hfo
      have hxv := opd_ok hf hx
      rw [hcs] at hxv
      obtain ⟨us, hus, hl, hcr⟩ := agg_inv hxv
      obtain ⟨u, hu2, hv⟩ := part_ok (P := P) (w := w) hl hcr hty h
      exact ⟨u, by simp [execOp, ho, Instr.field, run_und hu, hfd, hus, asAgg, hu2], hv⟩
    · cases h
  -- fa
  · rename_i x off t x2 f
    simp only [Bool.and_eq_true] at hc
    obtain ⟨hx, hfo⟩ := hc
    have hxv := opd_ok hf hx
    simp only [AVal.eval] at h
    split at h
    · rename_i tt g o hp
      simp at h; subst h
      rw [hp] at hxv
      generalize hu : a.eval x2 = u at hxv
      cases hxv with
      | lp _ _ _ b hb => exact ⟨_, by simp only [execOp, ho, hu, Sem.run_bind, fieldAt_ok hfo b o, Result.andThen_ok, Sem.run_pure], (.lp _ _ _ b hb)⟩
    · rename_i id i o hp
      simp at h; subst h
      rw [hp] at hxv
      generalize hu : a.eval x2 = u at hxv
      cases hxv with
      | ep _ _ _ b ob sz C hs => exact ⟨.pointer (some ⟨b, ob + i * sz + o + off, none⟩), by simp only [execOp, ho, hu, Sem.run_bind, fieldAt_ok hfo b _, Result.andThen_ok, Sem.run_pure], (by rw [Nat.add_assoc]; exact .ep _ _ _ b ob sz C hs)⟩
    · rename_i cs o hp
      simp at h; subst h
      rw [hp] at hxv
      generalize hu : a.eval x2 = u at hxv
      cases hxv with
      | fp _ _ b o' v hr h1 hf' => exact ⟨.pointer (some ⟨b, o' + o + off, none⟩), by simp only [execOp, ho, hu, Sem.run_bind, fieldAt_ok hfo b _, Result.andThen_ok, Sem.run_pure], (by rw [Nat.add_assoc]; exact .fp _ _ b o' v hr h1 hf')⟩
    · cases h
  -- ia
  · rename_i x i esz t x2 i2
    simp only [Bool.and_eq_true] at hc
    obtain ⟨⟨hx, hi⟩, hsl⟩ := hc
    obtain ⟨e, hu, hs⟩ := slice_some hsl
    have hxv := opd_ok hf hx
    have hiv := opd_ok hf hi
    simp only [AVal.eval] at h
    split at h
    · rename_i k n hn
      rw [hn] at hiv
      have hie := int_inv hiv
      split at h
      · rename_i sz els hp
        rw [hp] at hxv
        split at h
        · rename_i hcond
          obtain ⟨h0, rfl⟩ := hcond
          rw [Option.map_eq_some_iff] at h
          obtain ⟨cs, hcs, rfl⟩ := h
          obtain ⟨ad, cap, hua, hcap, hne⟩ := fsl_inv hxv
          have hlt : n.toNat < els.length := (List.getElem?_eq_some_iff.1 hcs).1
          obtain ⟨b, off, rfl, hw, v', hv'⟩ := hne (by intro e; rw [e] at hlt; simp at hlt)
          have hix := indexAt_slice (w := w) (k := k) (b := b) (o := off) (cap := cap) (len := els.length) hu hs h0 (by omega)
          refine ⟨.pointer (some ⟨b, off + n.toNat * sz, none⟩), by simp only [execOp, ho, hua, hie, Sem.run_bind, hix, Result.andThen_ok, Sem.run_pure], ?_⟩
          exact .fp cs 0 b (off + n.toNat * sz) (v' n.toNat) (fun j c hj => (hv' _ cs j c hcs hj).1) (fun j c hj => (hv' _ cs j c hcs hj).2.2) (fun j c hj => (hv' _ cs j c hcs hj).2.1)
        · cases h
      · rename_i id off ln hp
        rw [hp] at hxv
        split at h
        · rename_i hcond
          split at h
          · rename_i sz els hh
            split at h
            · rename_i hsz; subst hsz
              simp at h; subst h
              obtain ⟨b, ob, sz2, C, ad, cap, hua, hsg, hor⟩ := msl_inv hxv
              obtain ⟨b2, o2, C2, hsg2, _⟩ := hf.heap.arr id sz els hh
              rw [hsg] at hsg2; simp at hsg2; obtain ⟨rfl, rfl, rfl, rfl⟩ := hsg2
              rcases hor with ⟨hz, _⟩ | ⟨rfl, hC, hle⟩
              · omega
              · have hix := indexAt_slice (w := w) (k := k) (b := b) (o := ob + off * sz2) (cap := cap) (len := ln) hu hs hcond.1 (by omega)
                refine ⟨.pointer (some ⟨b, ob + off * sz2 + n.toNat * sz2, none⟩), by simp only [execOp, ho, hua, hie, Sem.run_bind, hix, Result.andThen_ok, Sem.run_pure], ?_⟩
                have := VR.ep (rd := Rd own w) (m := m) id (off + n.toNat) 0 b ob sz2 C hsg
                rwa [Nat.add_zero, Nat.add_mul, ← Nat.add_assoc] at this
            · cases h
          · cases h
        · cases h
      · cases h
    · cases h
  -- iaa
  · rename_i x i n esz t x2 i2
    simp only [Bool.and_eq_true] at hc
    obtain ⟨⟨hx, hi⟩, har⟩ := hc
    obtain ⟨e, hu, hs⟩ := array_some har
    have hxv := opd_ok hf hx
    have hiv := opd_ok hf hi
    simp only [AVal.eval] at h
    split at h
    · rename_i k j hj
      rw [hj] at hiv
      have hie := int_inv hiv
      split at h
      · rename_i hcond
        split at h
        · rename_i tt g o hp
          simp at h; subst h
          rw [hp] at hxv
          generalize hu2 : a.eval x2 = u at hxv
          cases hxv with
          | lp _ _ _ b hb => exact ⟨_, by simp only [execOp, ho, hu2, hie, Sem.run_bind, indexAt_array hu hs hcond.1 hcond.2, Result.andThen_ok, Sem.run_pure], (.lp _ _ _ b hb)⟩
        · rename_i id id' o hp
          simp at h; subst h
          rw [hp] at hxv
          generalize hu2 : a.eval x2 = u at hxv
          cases hxv with
          | ep _ _ _ b ob sz C hs2 => exact ⟨.pointer (some ⟨b, ob + id' * sz + o + j.toNat * esz, none⟩), by simp only [execOp, ho, hu2, hie, Sem.run_bind, indexAt_array hu hs hcond.1 hcond.2, Result.andThen_ok, Sem.run_pure], (by rw [Nat.add_assoc]; exact .ep _ _ _ b ob sz C hs2)⟩
        · rename_i cs o hp
          simp at h; subst h
          rw [hp] at hxv
          generalize hu2 : a.eval x2 = u at hxv
          cases hxv with
          | fp _ _ b o' v hr h1 hf' => exact ⟨.pointer (some ⟨b, o' + o + j.toNat * esz, none⟩), by simp only [execOp, ho, hu2, hie, Sem.run_bind, indexAt_array hu hs hcond.1 hcond.2, Result.andThen_ok, Sem.run_pure], (by rw [Nat.add_assoc]; exact .fp _ _ b o' v hr h1 hf')⟩
        · cases h
      · cases h
    · cases h
  -- ix
  · rename_i x i n esz agg t x2 i2
    simp only [Bool.and_eq_true] at hc
    obtain ⟨⟨hx, hi⟩, har⟩ := hc
    obtain ⟨d, hd, hdd⟩ := undB_some har
    cases d <;> simp at hdd
    rename_i len e
    obtain ⟨rfl, hty⟩ := hdd
    have hxv := opd_ok hf hx
    have hiv := opd_ok hf hi
    simp only [AVal.eval] at h
    split at h
    · rename_i k j hj
      rw [hj] at hiv
      have hie := int_inv hiv
      split at h
      · rename_i cs hp
        rw [hp] at hxv
        obtain ⟨us, hus, hl, hcr⟩ := agg_inv hxv
        split at h
        · rename_i hcond
          obtain ⟨u, hu2, hv⟩ := part_ok (P := P) (w := w) hl hcr hty h
          exact ⟨u, by simp [execOp, ho, Instr.index, asIntOf, hie, run_und hd, hus, hcond, run_sizeB (tyOk_some hty).2.1, hu2], hv⟩
        · cases h
      · cases h
    · cases h
  -- ixs
  · rename_i x i t x2 i2
    simp only [Bool.and_eq_true] at hc
    obtain ⟨⟨hx, hi⟩, hst⟩ := hc
    obtain ⟨d, hd, hdd⟩ := undB_some hst
    cases d <;> simp at hdd
    have hxv := opd_ok hf hx
    have hiv := opd_ok hf hi
    simp only [AVal.eval] at h
    split at h
    · rename_i k j hj
      rw [hj] at hiv
      have hie := int_inv hiv
      split at h
      · rename_i st hp
        rw [hp] at hxv
        have hse := str_inv hxv
        split at h
        · rename_i hcond
          rw [Option.map_eq_some_iff] at h
          obtain ⟨b, hb, rfl⟩ := h
          have hb2 : st[j.toNat]? = some b := by
            rw [List.getElem?_eq_some_iff] at hb
            obtain ⟨hlt, hb⟩ := hb
            have hlt2 : j.toNat < st.size := by simpa using hlt
            rw [getElem?_pos st j.toNat hlt2]
            rw [← hb]
            rfl
          exact ⟨.int .u8 b.toNat, by simp [execOp, ho, Instr.index, asIntOf, hie, run_und hd, hse, hcond, hb2], (.int _ _)⟩
        · cases h
      · cases h
    · cases h
  -- ld
  · rename_i x n agg t x2
    simp only [Bool.and_eq_true] at hc
    simp only [AVal.eval] at h
    obtain ⟨u, hu, hv⟩ := load_ok hf (opd_ok hf hc.1) hc.2 h
    exact fin (by simp only [execOp, ho]) hu hv
  -- nc
  · rename_i x x2
    have hxv := opd_ok hf hc
    simp only [AVal.eval] at h
    split at h
    · rename_i t g o' hp
      simp at h; subst h
      rw [hp] at hxv
      obtain ⟨b, o2, hu⟩ := addr_inv hxv (.inl ⟨_, _, _, rfl⟩)
      exact ⟨.pointer (some ⟨b, o2, none⟩), by simp only [execOp, ho, hu, Sem.run_pure], by rw [← hu]; exact hxv⟩
    · rename_i id i o' hp
      simp at h; subst h
      rw [hp] at hxv
      obtain ⟨b, o2, hu⟩ := addr_inv hxv (.inr (.inl ⟨_, _, _, rfl⟩))
      exact ⟨.pointer (some ⟨b, o2, none⟩), by simp only [execOp, ho, hu, Sem.run_pure], by rw [← hu]; exact hxv⟩
    · rename_i cs o' hp
      simp at h; subst h
      rw [hp] at hxv
      obtain ⟨b, o2, hu⟩ := addr_inv hxv (.inr (.inr ⟨_, _, rfl⟩))
      exact ⟨.pointer (some ⟨b, o2, none⟩), by simp only [execOp, ho, hu, Sem.run_pure], by rw [← hu]; exact hxv⟩
    · rename_i f cs hp
      simp at h; subst h
      rw [hp] at hxv
      generalize hu : a.eval x2 = u at hxv
      cases hxv with
      | fn _ _ us hl hf' => exact ⟨.func (.func f) #[] us, by simp only [execOp, ho, hu]; simp, .fn _ _ us hl hf'⟩
    · cases h
  -- ext
  · rename_i x k x2 k2
    simp only [Bool.and_eq_true, beq_iff_eq] at hc
    obtain ⟨hx, rfl⟩ := hc
    have hxv := opd_ok hf hx
    simp only [AVal.eval] at h
    split at h
    · rename_i vs hp
      rw [hp] at hxv
      obtain ⟨us, hus, hl, hcr⟩ := tup_inv hxv
      have hk : k < us.size := by have := (List.getElem?_eq_some_iff.1 h).1; omega
      exact ⟨us[k], by simp [execOp, ho, Instr.extract, hus, hk], (hcr k v us[k] h (Array.getElem?_eq_getElem hk))⟩
    · cases h
  -- mkf
  · rename_i f caps f2 first caps2
    simp only [Bool.and_eq_true, beq_iff_eq] at hc
    obtain ⟨⟨rfl, hfi⟩, hcap⟩ := hc
    have hfe : first = #[] := by simpa using hfi
    subst hfe
    obtain ⟨hl, hr⟩ := opds_ok hf hcap
    simp only [AVal.eval, Option.some.injEq] at h; subst h
    refine ⟨.func (.func f) #[] (caps2.map a.eval), by simp [execOp, ho, Instr.makeFunc], .fn f _ _ (by simpa using hl) ?_⟩
    intro i c u hc hu
    exact hr i c u hc (by simpa using hu)
  -- slc
  · rename_i x lo hi n t x2 lo2 hi2
    simp only [Bool.and_eq_true] at hc
    obtain ⟨⟨⟨hx, hlo⟩, hhi⟩, hsl⟩ := hc
    obtain ⟨e, hd, hn⟩ := slice_some hsl
    have hxv := opd_ok hf hx
    simp only [AVal.eval] at h
    split at h
    · rename_i hp
      rw [hp] at hxv
      have hue := nsl_inv hxv
      split at h
      · rename_i b hb
        split at h
        · rename_i a' ha
          split at h
          · rename_i hcond
            simp at h; subst h
            have hbz : b = 0 := by omega
            have haz : a' = 0 := by omega
            subst hbz; subst haz
            exact ⟨.slice none 0 0, by simp [execOp, ho, Instr.sliceAt, Instr.slice, run_und hd, hue, sliceBounds_run hf hlo hhi hb ha (Nat.le_refl _) (Nat.le_refl 0) (isS := true), run_sizeB hn], .nsl⟩
          · cases h
        · cases h
      · cases h
    · rename_i sz els hp
      rw [hp] at hxv
      obtain ⟨ad, cap, hue, hcap, hne⟩ := fsl_inv hxv
      split at h
      · rename_i b hb
        split at h
        · rename_i a' ha
          split at h
          · rename_i hcond
            simp at h; subst h
            have hlen : ((els.drop a').take (b - a')).length = b - a' := by simp; omega
            refine ⟨.slice (if cap = a' then ad else ad.map (·.add (a' * n))) (b - a') (cap - a'), by simp [execOp, ho, Instr.sliceAt, Instr.slice, run_und hd, hue, sliceBounds_run hf hlo hhi hb ha hcond.1 (Nat.le_trans hcond.2.1 hcap) (isS := true), run_sizeB hn], ?_⟩
            by_cases hz : b - a' = 0
            · rw [show (els.drop a').take (b - a') = [] by rw [hz]; simp, hz]
              exact .fsl0 _ _ _
            · have hne0 : els ≠ [] := by intro e; rw [e] at hcond; simp at hcond; omega
              obtain ⟨bb, off, rfl, hw, v', hv'⟩ := hne hne0
              rw [if_neg (by omega)]
              have key := VR.fsl (rd := Rd own w) (m := m) sz ((els.drop a').take (b - a')) bb (off + a' * sz) (cap - a') (fun i j => v' (a' + i) j) (by rw [hlen]; omega)
                (fun i x hx => by
                  simp [List.getElem?_take] at hx
                  exact hw _ x hx.2)
                (fun i x j c hx hxc => by
                  simp [List.getElem?_take] at hx
                  have := (hv' _ x j c hx.2 hxc).1
                  rwa [Nat.add_mul, ← Nat.add_assoc] at this)
                (fun i x j c hx hxc => by
                  simp [List.getElem?_take] at hx
                  exact (hv' _ x j c hx.2 hxc).2.2)
                (fun i x j c hx hxc => by
                  simp [List.getElem?_take] at hx
                  exact (hv' _ x j c hx.2 hxc).2.1)
              rw [hlen] at key
              simp only [Option.map_some, add_none]
              rw [← hcond.2.2]
              exact key
          · cases h
        · cases h
      · cases h
    · rename_i id off ln hp
      rw [hp] at hxv
      obtain ⟨bb, ob, sz2, C, ad, cap, hue, hsg, hor⟩ := msl_inv hxv
      split at h
      · rename_i sz els hh
        obtain ⟨b2, o2, C2, hsg2, _⟩ := hf.heap.arr id sz els hh
        rw [hsg] at hsg2; simp at hsg2; obtain ⟨rfl, rfl, rfl, rfl⟩ := hsg2
        split at h
        · rename_i b hb
          split at h
          · rename_i a' ha
            split at h
            · rename_i hcond
              simp at h; subst h
              have hbc : b ≤ cap := by rcases hor with ⟨h1, h2⟩ | ⟨_, _, h3⟩ <;> omega
              refine ⟨.slice (if cap = a' then some ad else (some ad).map (·.add (a' * n))) (b - a') (cap - a'), by simp [execOp, ho, Instr.sliceAt, Instr.slice, run_und hd, hue, sliceBounds_run hf hlo hhi hb ha hcond.1 hbc (isS := true), run_sizeB hn], ?_⟩
              by_cases hz : cap = a'
              · rw [if_pos hz]
                exact .msl id (off + a') (b - a') bb ob sz2 C ad (cap - a') hsg (.inl (by omega))
              · rw [if_neg hz]
                rcases hor with ⟨h1, h2⟩ | ⟨rfl, h2, h3⟩
                · omega
                · simp only [Option.map_some, add_none]
                  rw [← hcond.2.2, Nat.add_assoc, ← Nat.add_mul]
                  exact .msl id (off + a') (b - a') bb ob sz2 C _ (cap - a') hsg (.inr ⟨rfl, by omega, by omega⟩)
            · cases h
          · cases h
        · cases h
      · cases h
    · cases h
  -- slcs
  · rename_i x lo hi t x2 lo2 hi2
    simp only [Bool.and_eq_true] at hc
    obtain ⟨⟨⟨hx, hlo⟩, hhi⟩, hst⟩ := hc
    obtain ⟨d, hd, hdd⟩ := undB_some hst
    cases d <;> simp at hdd
    have hxv := opd_ok hf hx
    simp only [AVal.eval] at h
    split at h
    · rename_i st hp
      rw [hp] at hxv
      have hse := str_inv hxv
      split at h
      · rename_i b hb
        split at h
        · rename_i a' ha
          split at h
          · rename_i hcond
            simp at h; subst h
            exact ⟨.string (st.extract a' b), by simp [execOp, ho, Instr.sliceAt, Instr.slice, run_und hd, hse, sliceBounds_run hf hlo hhi hb ha hcond.1 hcond.2 (isS := false)], .str _⟩
          · cases h
        · cases h
      · cases h
    · cases h
  -- conv
  · rename_i k x src t x2
    simp only [Bool.and_eq_true] at hc
    obtain ⟨⟨hx, hit⟩, hs⟩ := hc
    obtain ⟨d, hd, hdd⟩ := undB_some hit
    cases d <;> simp at hdd
    subst hdd
    obtain ⟨d2, hd2, _⟩ := undB_some hs
    have hxv := opd_ok hf hx
    simp only [AVal.eval] at h
    split at h
    · rename_i j n hp
      rw [hp] at hxv
      simp at h; subst h
      have hie := int_inv hxv
      refine ⟨.int _ _, ?_, .int _ _⟩
      simp only [execOp, ho, hie, convert, Sem.run_bind, run_und hd2, run_und hd, Result.andThen_ok]
      cases d2 <;> simp [Conv.intToInt]
    · cases h
  -- len
  · rename_i x as ts
    split at hc
    · rename_i y t hy ht
      have hy' : as = #[y] := by rw [← Array.toArray_toList (xs := as), hy]
      have ht' : ts = #[t] := by rw [← Array.toArray_toList (xs := ts), ht]
      subst hy'; subst ht'
      simp only [Bool.and_eq_true] at hc
      obtain ⟨hx, hty⟩ := hc
      obtain ⟨d, hd, hdd⟩ := undB_some hty
      have hxv := opd_ok hf hx
      simp only [AVal.eval] at h
      split at h
      · rename_i hp
        rw [hp] at hxv
        simp at h; subst h
        have hue := nsl_inv hxv
        refine ⟨.int .i64 0, ?_, .int _ _⟩
        cases d <;> simp at hdd
        · simp [execOp, ho, resolve, invoke, builtin, Builtin.len_, run_und hd, hue, goInt]
      · rename_i sz els hp
        rw [hp] at hxv
        simp at h; subst h
        obtain ⟨ad, cap, hue, _⟩ := fsl_inv hxv
        refine ⟨.int .i64 els.length, ?_, .int _ _⟩
        cases d <;> simp at hdd
        · simp [execOp, ho, resolve, invoke, builtin, Builtin.len_, run_und hd, hue, goInt]
      · rename_i id off ln hp
        rw [hp] at hxv
        simp at h; subst h
        obtain ⟨bb, ob, sz2, C, ad, cap, hue, _⟩ := msl_inv hxv
        refine ⟨.int .i64 ln, ?_, .int _ _⟩
        cases d <;> simp at hdd
        · simp [execOp, ho, resolve, invoke, builtin, Builtin.len_, run_und hd, hue, goInt]
      · cases h
    · cases hc
  -- lens
  · rename_i x as ts
    split at hc
    · rename_i y t hy ht
      have hy' : as = #[y] := by rw [← Array.toArray_toList (xs := as), hy]
      have ht' : ts = #[t] := by rw [← Array.toArray_toList (xs := ts), ht]
      subst hy'; subst ht'
      simp only [Bool.and_eq_true] at hc
      obtain ⟨hx, hty⟩ := hc
      obtain ⟨d, hd, hdd⟩ := undB_some hty
      have hxv := opd_ok hf hx
      simp only [AVal.eval] at h
      split at h
      · rename_i st hp
        rw [hp] at hxv
        simp at h; subst h
        have hse := str_inv hxv
        refine ⟨.int .i64 st.size, ?_, .int _ _⟩
        cases d <;> simp at hdd
        simp [execOp, ho, resolve, invoke, builtin, Builtin.len_, run_und hd, hse, goInt]
      · cases h
    · cases hc
  -- mx
  · rename_i x y as ts
    split at hc
    · rename_i p q hy
      have hy' : as = #[p, q] := by rw [← Array.toArray_toList (xs := as), hy]
      subst hy'
      simp only [Bool.and_eq_true] at hc
      have hxv := opd_ok hf hc.1
      have hyv := opd_ok hf hc.2
      simp only [AVal.eval] at h
      split at h
      · rename_i k a1 k2 b1 h1 h2
        rw [h1] at hxv; rw [h2] at hyv
        simp at h; subst h
        have e1 := int_inv hxv
        have e2 := int_inv hyv
        exact ⟨.int k (if b1 > a1 then b1 else a1), by simp [execOp, ho, resolve, invoke, builtin, Builtin.max_, Builtin.max2, e1, e2], .int _ _⟩
      · cases h
    · cases hc
  -- mn
  · rename_i x y as ts
    split at hc
    · rename_i p q hy
      have hy' : as = #[p, q] := by rw [← Array.toArray_toList (xs := as), hy]
      subst hy'
      simp only [Bool.and_eq_true] at hc
      have hxv := opd_ok hf hc.1
      have hyv := opd_ok hf hc.2
      simp only [AVal.eval] at h
      split at h
      · rename_i k a1 k2 b1 h1 h2
        rw [h1] at hxv; rw [h2] at hyv
        simp at h; subst h
        have e1 := int_inv hxv
        have e2 := int_inv hyv
        exact ⟨.int k (if b1 < a1 then b1 else a1), by simp [execOp, ho, resolve, invoke, builtin, Builtin.min_, Builtin.min2, e1, e2], .int _ _⟩
      · cases h
    · cases hc
  -- lookup
  · rename_i ks x k z t x2 k2
    simp only [Bool.and_eq_true] at hc
    have hxv := opd_ok hf hc.1.1
    have hkv := opd_ok hf hc.1.2
    simp only [AVal.eval] at h
    split at h <;> try cases h
    rename_i id hid
    rw [hid] at hxv
    split at h <;> try cases h
    rename_i es hes
    split at h <;> try cases h
    rename_i hk
    have hfk : ∃ r, findKey (ev s.env k) es = some r ∧ picked es z r = some v := by
      split at h
      · rename_i i e; exact ⟨_, e, h⟩
      · rename_i e; exact ⟨_, e, h⟩
      · cases h
    obtain ⟨r, e1, e2⟩ := hfk
    obtain ⟨u, h1, h2⟩ := lookup_run (P := P) hf.heap hc.2 hxv hkv hes hk e1
    have h3 := h1 false
    simp only [Bool.false_eq_true, if_false] at h3
    exact fin (e := Instr.lookup t (a.eval x2) (a.eval k2) false) (by simp [execOp, ho]) h3 (h2 v e2)
  -- lookupOk
  · rename_i ks x k z t x2 k2
    simp only [Bool.and_eq_true] at hc
    have hxv := opd_ok hf hc.1.1
    have hkv := opd_ok hf hc.1.2
    simp only [AVal.eval] at h
    split at h <;> try cases h
    rename_i id hid
    rw [hid] at hxv
    split at h <;> try cases h
    rename_i es hes
    split at h <;> try cases h
    rename_i hk
    have hfk : ∃ r v2, findKey (ev s.env k) es = some r ∧ picked es z r = some v2 ∧ v = .tup [v2, .bool r.isSome] := by
      split at h
      · rename_i i e
        simp only [Option.map_eq_some_iff] at h
        obtain ⟨y, h1, rfl⟩ := h
        exact ⟨_, y.2, e, by simp [picked, h1], rfl⟩
      · rename_i e; simp at h; exact ⟨_, _, e, rfl, h.symm⟩
      · cases h
    obtain ⟨r, v2, e1, e2, rfl⟩ := hfk
    obtain ⟨u, h1, h2⟩ := lookup_run (P := P) hf.heap hc.2 hxv hkv hes hk e1
    have h3 := h1 true
    simp only [if_true] at h3
    refine fin (e := Instr.lookup t (a.eval x2) (a.eval k2) true) (by simp [execOp, ho]) h3 (.tup _ _ rfl fun i c u2 hc hu => ?_)
    match i with
    | 0 => simp at hc hu; subst hc; subst hu; exact h2 _ e2
    | 1 => simp at hc hu; subst hc; subst hu; exact .bool _
    | n + 2 => simp at hc
  · cases hc

end
end Go.Abs
