/-
  A part of the proof. Conditions: none.
-/
import Derived.Test.YtfgkfjmbjopfgaaGreatP1
import Derived.Laws.IdiomCopy
import Derived.Laws.Append
import Derived.IntWalk
set_option linter.unusedVariables false
set_option linter.unusedSimpArgs false
set_option maxRecDepth 100000
namespace Go.Abs
open Go
section
variable {P : Program}

theorem bool_inv {rd : Reads} {m : Maps} {b : Bool} {u : Value} (h : VR rd m (.bool b) u) : u = .bool b := by cases h; rfl
theorem str_inv {rd : Reads} {m : Maps} {b : ByteArray} {u : Value} (h : VR rd m (.str b) u) : u = .string b := by cases h; rfl
theorem nsl_inv {rd : Reads} {m : Maps} {u : Value} (h : VR rd m .nsl u) : u = .slice none 0 0 := by cases h; rfl
theorem agg_inv {rd : Reads} {m : Maps} {cs : List V} {u : Value} (h : VR rd m (.agg cs) u) : ∃ us, u = .agg us ∧ us.size = cs.length ∧ ∀ (j : Nat) (c : V) (u : Value), cs[j]? = some c → us[j]? = some u → CR rd m c u := by
 cases h with
 | agg _ us hl h1 hf => exact ⟨us, rfl, hl, fun j c u hc hu => ⟨hf j c u hc hu, h1 j u hu⟩⟩
theorem tup_inv {rd : Reads} {m : Maps} {cs : List V} {u : Value} (h : VR rd m (.tup cs) u) : ∃ us, u = .tuple us ∧ us.size = cs.length ∧ ∀ (j : Nat) (c : V) (u : Value), cs[j]? = some c → us[j]? = some u → VR rd m c u := by
 cases h with
 | tup _ us hl hf => exact ⟨us, rfl, hl, hf⟩
theorem fsl_inv {rd : Reads} {m : Maps} {sz : Nat} {els : List (List V)} {u : Value} (h : VR rd m (.fsl sz els) u) : ∃ a cap, u = .slice a els.length cap ∧ els.length ≤ cap ∧ (els ≠ [] → ∃ b off, a = some ⟨b, off, none⟩ ∧
  (∀ (i : Nat) (x : List V), els[i]? = some x → x.length = sz) ∧ ∃ v : Nat → Nat → Value, ∀ (i : Nat) (x : List V) (j : Nat) (c : V), els[i]? = some x → x[j]? = some c → rd b (off + i * sz + j) (v i j) ∧ CR rd m c (v i j)) := by
 cases h with
 | fsl0 _ a cap => exact ⟨a, cap, rfl, by simp, by simp⟩
 | fsl _ _ b off cap v hc hw hr h1 hf => exact ⟨_, cap, rfl, hc, fun _ => ⟨b, off, rfl, hw, v, fun i x j c e1 e2 => ⟨hr i x j c e1 e2, hf i x j c e1 e2, h1 i x j c e1 e2⟩⟩⟩
theorem msl_inv {rd : Reads} {m : Maps} {id off ln : Nat} {u : Value} (h : VR rd m (.msl id off ln) u) : ∃ b o sz C a cap, u = .slice (some a) ln cap ∧ m.sg id = some (b, o, sz, C) ∧ ((ln = 0 ∧ cap = 0) ∨ (a = ⟨b, o + off * sz, none⟩ ∧ off + cap = C ∧ ln ≤ cap)) := by
 cases h with
 | msl _ _ _ b o sz C a cap hs h => exact ⟨b, o, sz, C, a, cap, rfl, hs, h⟩
theorem addr_inv {rd : Reads} {m : Maps} {p : V} {u : Value} (h : VR rd m p u) (hp : (∃ t g o, p = .lp t g o) ∨ (∃ id i o, p = .ep id i o) ∨ (∃ cs o, p = .fp cs o)) : ∃ b o, u = .pointer (some ⟨b, o, none⟩) := by
 rcases hp with ⟨t, g, o, rfl⟩ | ⟨id, i, o, rfl⟩ | ⟨cs, o, rfl⟩ <;> cases h <;> exact ⟨_, _, rfl⟩

theorem bound_some {own : Nat → Prop} {m : Maps} {s : S} {a : Act} {w : World} (hf : FRel own m s a.tmps w) {x : Option Opd} {y : Option Operand} (h : chkOpdO x y = true) {d r : Nat} (hb : bound s.env x d = some r) :
  (x = none ∧ y = none ∧ r = d) ∨ ∃ q k, y = some q ∧ a.eval q = .int k r := by
 rcases opdO_ok hf h with ⟨rfl, rfl⟩ | ⟨p, q, rfl, rfl, hv⟩
 ·simp [bound] at hb; exact .inl ⟨rfl, rfl, hb.symm⟩
 ·simp only [bound] at hb
  split at hb
  ·rename_i k n hn
   split at hb
   ·rename_i h0
    simp at hb; subst hb
    rw [hn] at hv
    exact .inr ⟨q, k, rfl, by rw [int_inv hv]; simp [Int.toNat_of_nonneg h0]⟩
   ·cases hb
  ·cases hb

theorem sliceBounds_run {own : Nat → Prop} {m : Maps} {s : S} {a : Act} {w : World} (hf : FRel own m s a.tmps w) {lo hi : Option Opd} {lo2 hi2 : Option Operand} (hlo : chkOpdO lo lo2 = true) (hhi : chkOpdO hi hi2 = true)
  {isS : Bool} {len cap h l : Nat} (h1 : bound s.env hi len = some h) (h2 : bound s.env lo 0 = some l) (hlh : l ≤ h) (hhc : h ≤ cap) :
  (Instr.sliceBounds isS len cap (lo2.map a.eval) (hi2.map a.eval) none).run P w = .ok (l, h, cap) w := by
 rcases bound_some hf hhi h1 with ⟨_, rfl, rfl⟩ | ⟨q, k, rfl, hq⟩
 ·rcases bound_some hf hlo h2 with ⟨_, rfl, rfl⟩ | ⟨q2, k2, rfl, hq2⟩
  ·simp [Instr.sliceBounds]
  ·simp [Instr.sliceBounds, Instr.sliceBound, hq2, asIntOf, hlh]
 ·rcases bound_some hf hlo h2 with ⟨_, rfl, rfl⟩ | ⟨q2, k2, rfl, hq2⟩
  ·simp [Instr.sliceBounds, Instr.sliceBound, hq, asIntOf, hhc]
  ·simp [Instr.sliceBounds, Instr.sliceBound, hq, hq2, asIntOf, hlh, hhc]

theorem partsOk_get {t : TypeId} : ∀ {ps : List (Nat × Nat × Opd)} {qs : List (Nat × Operand)}, partsOk P t ps qs = true → ps.length = qs.length ∧
  ∀ (i off n : Nat) (x : Opd) (j : Nat) (y : Operand), ps[i]? = some (off, n, x) → qs[i]? = some (j, y) → chkOpd x y = true ∧ (undB P t fun d => match d with
  | .struct fs => match fs[j]? with
   | some f => f.offset == off && sizeB P f.type == some n
   | none => false
  | .array _ e => off == j * n && sizeB P e == some n
  | _ => false) = true
 | [], [], _ => ⟨rfl, by simp⟩
 | (off, n, x) :: ps, (j, y) :: qs, h => by
  simp only [partsOk, Bool.and_eq_true] at h
  obtain ⟨hl, hr⟩ := partsOk_get h.2
  refine ⟨by simp [hl], ?_⟩
  intro i off' n' x' j' y' h1 h2
  cases i with
  | zero => simp at h1 h2; obtain ⟨rfl, rfl, rfl⟩ := h1; obtain ⟨rfl, rfl⟩ := h2; exact h.1
  | succ i => exact hr i off' n' x' j' y' (by simpa using h1) (by simpa using h2)
 | [], _ :: _, h => by simp [partsOk] at h
 | _ :: _, [], h => by simp [partsOk] at h

theorem mapM_run_ok {α β : Type} (f : α → Sem β) (g : α → β) (w : World) : ∀ (l : List α), (∀ x ∈ l, (f x).run P w = .ok (g x) w) → (l.mapM f).run P w = .ok (l.map g) w
 | [], _ => by simp
 | x :: l, h => by
  rw [List.mapM_cons]
  simp [h x (by simp), mapM_run_ok f g w l (fun y hy => h y (by simp [hy]))]

theorem build_ok {own : Nat → Prop} {m : Maps} {s : S} {a : Act} {w : World} (hf : FRel own m s a.tmps w) {zero : List V} {parts : List (Nat × Nat × Opd)} {t : TypeId} {ps : Array (Nat × Operand)}
  (hz : zeroOk P t zero = true) (hsz : fieldsSized P t = true) (hp : partsOk P t parts ps.toList = true) {out : List V} (h : Abs.fill s.env zero parts = some out) :
  ∃ u, (Instr.build t (ps.map fun x => (x.1, a.eval x.2))).run P w = .ok u w ∧ VR (Rd own w) m (.agg out) u := by
 obtain ⟨z, hzr, hzs, hzc⟩ := zero_run (w := w) hz (rd := Rd own w) (m := m)
 obtain ⟨hpl, hpg⟩ := partsOk_get hp
 have fin : ∀ place : Nat → Option (Nat × Nat), (∀ (i off n : Nat) (x : Opd) (j : Nat) (y : Operand), parts[i]? = some (off, n, x) → ps.toList[i]? = some (j, y) → chkOpd x y = true ∧ place j = some (off, n)) →
   ∃ res, Instr.fill place z.cells ((ps.map fun x => (x.1, a.eval x.2)).toList) = some res ∧ VR (Rd own w) m (.agg out) (.agg res) := by
  intro place hpp
  obtain ⟨res, hr, hrs, hrc⟩ := fill_ok hf place parts ps.toList zero z.cells out hpl hpp hzs hzc h
  refine ⟨res, by simpa using hr, .agg _ _ hrs (fun i u hu => ?_) (fun i c u hc hu => (hrc i c u hc hu).1)⟩
  have hi : i < out.length := by have := (Array.getElem?_eq_some_iff.1 hu).1; omega
  exact (hrc i out[i] u (List.getElem?_eq_getElem hi) hu).2
 obtain ⟨d, hd, hdf⟩ := undB_some hsz
 cases d <;> simp only [] at hdf <;> try (cases hdf; done)
 case array len e =>
  obtain ⟨n, hn⟩ := Option.isSome_iff_exists.1 hdf
  obtain ⟨res, hr, hv⟩ := fin (fun i => some (i * n, n)) (fun i off k x j y h1 h2 => by
   obtain ⟨hc, hu⟩ := hpg i off k x j y h1 h2
   obtain ⟨d2, hd2, hu⟩ := undB_some hu
   rw [hd] at hd2; simp at hd2; subst hd2
   simp [hn] at hu
   obtain ⟨h3, h4⟩ := hu
   exact ⟨hc, by simp [h3, h4]⟩)
  refine ⟨_, ?_, hv⟩
  simp only [Instr.build, Sem.run_bind, hzr, Result.andThen_ok, run_und hd, run_sizeB hn, hr, Sem.run_pure]
 case struct fs =>
  simp only [List.all_eq_true] at hdf
  let g : Field → Nat × Nat := fun f => (f.offset, (sizeB P f.type).getD 0)
  have hm : (fs.mapM fun f => (do pure (f.offset, ← sizeOf f.type) : Sem (Nat × Nat))).run P w = .ok (fs.map g) w := by
   have := mapM_run_ok (P := P) (fun f : Field => (do pure (f.offset, ← sizeOf f.type) : Sem (Nat × Nat))) g w fs.toList (fun f hf => by
    obtain ⟨n, hn⟩ := Option.isSome_iff_exists.1 (hdf f hf)
    simp [run_sizeB hn, g, hn])
   rw [← Array.toArray_toList (xs := fs), List.mapM_toArray, Sem.run_map, this]
   simp only [Result.andThen_ok, List.map_toArray]
  obtain ⟨res, hr, hv⟩ := fin ((fs.map g)[·]?) (fun i off k x j y h1 h2 => by
   obtain ⟨hc, hu⟩ := hpg i off k x j y h1 h2
   obtain ⟨d2, hd2, hu⟩ := undB_some hu
   rw [hd] at hd2; simp at hd2; subst hd2
   simp only at hu
   split at hu
   ·rename_i f hfj
    simp at hu
    refine ⟨hc, ?_⟩
    simp [hfj, g, hu.1, hu.2]
   ·cases hu)
  refine ⟨_, ?_, hv⟩
  simp only [Instr.build, Sem.run_bind, hzr, Result.andThen_ok, run_und hd, hm, hr, Sem.run_pure]

theorem equalIn_bool {w : World} {t : TypeId} (hd : P.underlying t = some .bool) (d : Nat) (p q : Bool) : (Op.equalIn (d + 1) t (.bool p) (.bool q)).run P w = .ok (p == q) w := by
 simp [Op.equalIn, run_und hd]

theorem equalIn_int {w : World} {t : TypeId} (hd : P.underlying t = some (.int .i64)) (d : Nat) (p q : Int) : (Op.equalIn (d + 1) t (.int .i64 p) (.int .i64 q)).run P w = .ok (p == q) w := by
 simp [Op.equalIn, run_und hd]
theorem drop_beq {a b : List Int} {k : Nat} {x y : Int} (hx : a[k]? = some x) (hy : b[k]? = some y) : (a.drop k = b.drop k) = (x = y ∧ a.drop (k + 1) = b.drop (k + 1)) := by
 obtain ⟨h1, e1⟩ := List.getElem?_eq_some_iff.1 hx
 obtain ⟨h2, e2⟩ := List.getElem?_eq_some_iff.1 hy
 rw [List.drop_eq_getElem_cons h1, List.drop_eq_getElem_cons h2, e1, e2, List.cons_eq_cons]
theorem equalIn_arr {w : World} {t e : TypeId} {n : Nat} (hd : P.underlying t = some (.array n e)) (he : tyOk P e 1 false = true) (hi : P.underlying e = some (.int .i64)) (hs : sizeB P e = some 1) (d : Nat) (a b : List Int) (ha : a.length = n) (hb : b.length = n) (xs ys : Array Value) (hx : ∀ (i : Nat) (v : Int), a[i]? = some v → xs[i]? = some (Value.int .i64 v)) (hy : ∀ (i : Nat) (v : Int), b[i]? = some v → ys[i]? = some (Value.int .i64 v)) :
  (Op.equalIn (d + 2) t (.agg xs) (.agg ys)).run P w = .ok (a == b) w := by
 have hE := fun p q => equalIn_int (w := w) hi d p q
 rw [Op.equalIn]
 generalize Op.equalIn (d + 1) = F at hE ⊢
 simp only [Sem.run_bind, run_und hd, Result.andThen_ok, run_sizeB hs, Std.Legacy.Range.forIn_eq_forIn_range', Std.Legacy.Range.size]
 have key : ∀ (m k : Nat), k + m = n → Sem.run P (forIn (List.range' k m) (none, ()) fun i __s => do
      let __do_lift ← part e xs (i * 1)
      let __do_lift_1 ← part e ys (i * 1)
      let __do_lift ← F e __do_lift __do_lift_1
      if (!__do_lift) = true then pure (ForInStep.done (some false, ())) else pure (ForInStep.yield (none, ()))) w = .ok (if a.drop k = b.drop k then ((none : Option Bool), ()) else (some false, ())) w := by
  intro m
  induction m with
  | zero =>
   intro k hk
   rw [List.drop_eq_nil_of_le (by omega), List.drop_eq_nil_of_le (by omega)]
   simp
  | succ m ih =>
   intro k hk
   obtain ⟨x, hx1⟩ : ∃ x, a[k]? = some x := ⟨_, List.getElem?_eq_getElem (by omega)⟩
   obtain ⟨y, hy1⟩ : ∃ y, b[k]? = some y := ⟨_, List.getElem?_eq_getElem (by omega)⟩
   have p0 : (part e xs k).run P w = .ok (.int .i64 x) w := part_run he (hx k x hx1)
   have p1 : (part e ys k).run P w = .ok (.int .i64 y) w := part_run he (hy k y hy1)
   rw [List.range'_succ, List.forIn_cons]
   simp only [Nat.mul_one] at ih ⊢
   simp only [Sem.run_bind, p0, p1, Result.andThen_ok, hE, drop_beq hx1 hy1]
   by_cases hxy : x = y
   ·subst hxy
    simp
    simpa using ih (k + 1) (by omega)
   ·simp [hxy]
 have h0 := key n 0 (by omega)
 simp at h0 ⊢
 rw [h0]
 by_cases hab : a = b
 ·simp [hab]
 ·simp [hab]
theorem equalIn_inst {w : World} {t : TypeId} {n : Nat} (ht : eqTyOk P t n = true) (d : Nat) (a b : List Int) (ha : a.length = n) (hb : b.length = n) (xs ys : Array Value) (h1 : xs.size = n) (h2 : ys.size = n) (hx : ∀ (i : Nat) (v : Int), a[i]? = some v → xs[i]? = some (Value.int .i64 v)) (hy : ∀ (i : Nat) (v : Int), b[i]? = some v → ys[i]? = some (Value.int .i64 v)) :
  (Op.equalIn (d + 3) t (.agg xs) (.agg ys)).run P w = .ok (a == b) w ∧ P.eqGuardType P.depth t = false := by
 obtain ⟨de, hd, hdd⟩ := undB_some ht
 cases de <;> simp only [Bool.false_eq_true] at hdd
 rename_i fs
 split at hdd
 ·rename_i f hf
  simp only [Bool.and_eq_true, bne_iff_ne, beq_iff_eq, ne_eq, Bool.not_eq_true'] at hdd
  obtain ⟨⟨⟨⟨⟨q1, q2⟩, q3⟩, q4⟩, q5⟩, q6⟩ := hdd
  obtain ⟨da, ha2, hda⟩ := undB_some q4
  cases da <;> simp only [Bool.false_eq_true] at hda
  rename_i m e
  simp only [Bool.and_eq_true, beq_iff_eq] at hda
  obtain ⟨⟨rfl, he⟩, hi⟩ := hda
  obtain ⟨di, hi2, hdi⟩ := undB_some hi
  cases di <;> simp only [Bool.false_eq_true] at hdi
  rename_i k
  simp only [beq_iff_eq] at hdi
  subst hdi
  have hs : sizeB P e = some 1 := by simp only [tyOk, Bool.and_eq_true, beq_iff_eq] at he; exact he.1.2
  have hA := equalIn_arr (w := w) ha2 he hi2 hs d a b ha hb xs ys hx hy
  refine ⟨?_, q6⟩
  simp only [tyOk, Bool.and_eq_true, beq_iff_eq] at q3
  have hp : ∀ zs : Array Value, zs.size = m → (part f.type zs 0).run P w = .ok (.agg zs) w := by
   intro zs hz
   have : zs.extract 0 m = zs := by rw [← hz]; simp
   simp [part, run_isAggB q3.1.1, run_sizeB q3.1.2, this]
  have hfs : fs = #[f] := by rw [← Array.toList_inj]; simpa using hf
  subst hfs
  rw [Op.equalIn]
  generalize Op.equalIn (d + 2) = F at hA ⊢
  simp [run_und hd, q5, q1, q2, hp xs h1, hp ys h2, hA]
  by_cases hab : a = b
  ·simp [hab]
  ·simp [hab]
 ·cases hdd
theorem intsOf_at {m : Maps} {rd : Reads} : ∀ {cs : List V} {a : List Int} {us : Array Value}, intsOf cs = some a → us.size = cs.length → (∀ (j : Nat) (c : V) (u : Value), cs[j]? = some c → us[j]? = some u → CR rd m c u) → a.length = cs.length ∧ ∀ (i : Nat) (v : Int), a[i]? = some v → us[i]? = some (Value.int .i64 v) := by
 have key : ∀ (cs : List V) (a : List Int), intsOf cs = some a → cs = a.map fun n => V.int .i64 n := by
  intro cs
  induction cs with
  | nil => intro a h; simp [intsOf] at h; subst h; rfl
  | cons c cs ih =>
   intro a h
   unfold intsOf at h
   split at h
   ·rename_i e; cases e
   ·rename_i n l e
    injection e with e1 e2
    subst e1; subst e2
    rw [Option.map_eq_some_iff] at h
    obtain ⟨b, h1, rfl⟩ := h
    rw [ih b h1]; rfl
   ·cases h
 intro cs a us h hs hc
 have e := key cs a h
 subst e
 refine ⟨by simp, fun i v hv => ?_⟩
 have h1 : (a.map fun n => V.int .i64 n)[i]? = some (.int .i64 v) := by simp [hv]
 have hi : i < us.size := by rw [hs]; exact (List.getElem?_eq_some_iff.1 h1).1
 have h2 : us[i]? = some us[i] := Array.getElem?_eq_getElem hi
 rw [h2, int_inv (hc i _ _ h1 h2).1]

theorem eval_ok {own : Nat → Prop} {m : Maps} {s : S} {a : Act} {w : World} (hf : FRel own m s a.tmps w) {x : AVal} {o : Oper} (hc0 : chkVal P x o.op = true) {v : V} (h0 : x.eval s.env s.bx s.h = some v) :
  ∃ u, (execOp a.eval o).run P w = .ok (.value u) w ∧ VR (Rd own w) m v u := by
 have h := AVal.base_eval h0
 have hc : chkVal0 P x.base o.op = true := hc0
 clear h0 hc0
 generalize x.base = x at h hc
 have fin : ∀ {u : Value} {e : Sem Value}, (execOp a.eval o) = (do pure (.value (← e))) → e.run P w = .ok u w → VR (Rd own w) m v u → ∃ u, (execOp a.eval o).run P w = .ok (.value u) w ∧ VR (Rd own w) m v u := by
  intro u e h1 h2 h3
  exact ⟨u, by rw [h1]; simp [h2], h3⟩
 generalize ho : o.op = op at hc
 unfold chkVal0 at hc
 split at hc
 ·simp only [AVal.eval, Option.some.injEq] at h; subst h
  exact ⟨_, by simp [execOp, ho], opd_ok hf hc⟩
 ·simp only [AVal.eval, Option.some.injEq] at h; subst h
  exact ⟨_, by simp [execOp, ho], opd_ok hf hc⟩
 ·rename_i c x y c2 x2 y2
  simp only [Bool.and_eq_true] at hc
  simp only [AVal.eval] at h
  split at h
  ·rename_i t ht
   simp at h; subst h
   have hcv := opd_ok hf hc.1.1
   rw [ht] at hcv
   have hcb := bool_inv hcv
   cases t
   ·exact ⟨_, by simp [execOp, ho, hcb, asBool], opd_ok hf hc.2⟩
   ·exact ⟨_, by simp [execOp, ho, hcb, asBool], opd_ok hf hc.1.2⟩
  ·cases h
 ·rename_i op1 x y op2 t x2 y2 yt
  simp only [Bool.and_eq_true, beq_iff_eq] at hc
  obtain ⟨⟨rfl, hx⟩, hy⟩ := hc
  simp only [AVal.eval] at h
  obtain ⟨u, hu, hv, hg⟩ := bin_ok (P := P) (w := w) (t := t) (opd_ok hf hx) (opd_ok hf hy) h
  exact fin (e := do eqGuard op1 t x2 y2 (a.eval x2) (a.eval y2); Go.binOp op1 t (a.eval x2) (a.eval y2)) (by simp [execOp, ho]) (by simp [hg, hu]) hv
 ·rename_i neg x y op2 t x2 y2 yt
  simp only [Bool.and_eq_true, beq_iff_eq] at hc
  obtain ⟨⟨⟨rfl, ht⟩, hx⟩, hy⟩ := hc
  simp only [AVal.eval] at h
  split at h
  ·rename_i p q hp hq
   simp at h; subst h
   have hxv := opd_ok hf hx
   have hyv := opd_ok hf hy
   rw [hp] at hxv; rw [hq] at hyv
   have e1 := bool_inv hxv
   have e2 := bool_inv hyv
   obtain ⟨d, hd, hdd⟩ := undB_some ht
   cases d <;> simp at hdd
   have heq : (Op.equal t (.bool p) (.bool q)).run P w = .ok (p == q) w := by
    exact equalIn_bool hd 9999 p q
   cases neg
   ·exact ⟨_, by simp [execOp, ho, e1, e2, eqGuard, Go.binOp, heq], .bool _⟩
   ·exact ⟨_, by simp [execOp, ho, e1, e2, eqGuard, Go.binOp, heq], .bool _⟩
  ·cases h
 ·rename_i n neg x y op2 t x2 y2 yt
  simp only [Bool.and_eq_true, beq_iff_eq] at hc
  obtain ⟨⟨⟨rfl, ht⟩, hx⟩, hy⟩ := hc
  simp only [AVal.eval] at h
  split at h
  ·rename_i xs ys hp hq
   split at h
   ·rename_i p q hi1 hi2
    split at h
    ·rename_i hl
     simp at h; subst h
     have hxv := opd_ok hf hx
     have hyv := opd_ok hf hy
     rw [hp] at hxv; rw [hq] at hyv
     obtain ⟨us, e1, s1, c1⟩ := agg_inv hxv
     obtain ⟨vs, e2, s2, c2⟩ := agg_inv hyv
     obtain ⟨l1, g1⟩ := intsOf_at hi1 s1 c1
     obtain ⟨l2, g2⟩ := intsOf_at hi2 s2 c2
     obtain ⟨heq0, hg⟩ := equalIn_inst (w := w) ht 9997 p q hl.1 hl.2 us vs (by omega) (by omega) g1 g2
     have heq : (Op.equal t (.agg us) (.agg vs)).run P w = .ok (p == q) w := heq0
     cases neg
     ·exact ⟨_, by simp [execOp, ho, e1, e2, eqGuard, Go.binOp, heq, hg], .bool _⟩
     ·exact ⟨_, by simp [execOp, ho, e1, e2, eqGuard, Go.binOp, heq, hg], .bool _⟩
    ·cases h
   ·cases h
  ·cases h
 ·rename_i op1 x op2 t x2
  simp only [Bool.and_eq_true, beq_iff_eq] at hc
  obtain ⟨rfl, hx⟩ := hc
  simp only [AVal.eval] at h
  obtain ⟨u, hu, hv⟩ := un_ok (P := P) (w := w) (opd_ok hf hx) h
  exact fin (by simp only [execOp, ho]) hu hv
 ·rename_i zero parts t ps
  simp only [Bool.and_eq_true] at hc
  simp only [AVal.eval, Option.map_eq_some_iff] at h
  obtain ⟨out, hout, rfl⟩ := h
  obtain ⟨u, hu, hv⟩ := build_ok hf hc.1.1 hc.1.2 hc.2 hout
  exact fin (by simp only [execOp, ho]) hu hv
 ·rename_i x off n agg t x2 f
  simp only [Bool.and_eq_true] at hc
  obtain ⟨hx, hfo⟩ := hc
  simp only [AVal.eval] at h
  split at h
  ·rename_i cs hcs
   obtain ⟨fs, fd, hu, hfd, rfl, hty⟩ := fieldOk_some hfo
   have hxv := opd_ok hf hx
   rw [hcs] at hxv
   obtain ⟨us, hus, hl, hcr⟩ := agg_inv hxv
   obtain ⟨u, hu2, hv⟩ := part_ok (P := P) (w := w) hl hcr hty h
   exact ⟨u, by simp [execOp, ho, Instr.field, run_und hu, hfd, hus, asAgg, hu2], hv⟩
  ·cases h
 ·rename_i x off t x2 f
  simp only [Bool.and_eq_true] at hc
  obtain ⟨hx, hfo⟩ := hc
  have hxv := opd_ok hf hx
  simp only [AVal.eval] at h
  split at h
  ·rename_i tt g o hp
   simp at h; subst h
   rw [hp] at hxv
   generalize hu : a.eval x2 = u at hxv
   cases hxv with
   | lp _ _ _ b hb => exact ⟨_, by simp only [execOp, ho, hu, Sem.run_bind, fieldAt_ok hfo b o, Result.andThen_ok, Sem.run_pure], (.lp _ _ _ b hb)⟩
  ·rename_i id i o hp
   simp at h; subst h
   rw [hp] at hxv
   generalize hu : a.eval x2 = u at hxv
   cases hxv with
   | ep _ _ _ b ob sz C hs => exact ⟨.pointer (some ⟨b, ob + i * sz + o + off, none⟩), by simp only [execOp, ho, hu, Sem.run_bind, fieldAt_ok hfo b _, Result.andThen_ok, Sem.run_pure], (by rw [Nat.add_assoc]; exact .ep _ _ _ b ob sz C hs)⟩
  ·rename_i cs o hp
   simp at h; subst h
   rw [hp] at hxv
   generalize hu : a.eval x2 = u at hxv
   cases hxv with
   | fp _ _ b o' v hr h1 hf' => exact ⟨.pointer (some ⟨b, o' + o + off, none⟩), by simp only [execOp, ho, hu, Sem.run_bind, fieldAt_ok hfo b _, Result.andThen_ok, Sem.run_pure], (by rw [Nat.add_assoc]; exact .fp _ _ b o' v hr h1 hf')⟩
  ·cases h
 ·rename_i x i esz t x2 i2
  simp only [Bool.and_eq_true] at hc
  obtain ⟨⟨hx, hi⟩, hsl⟩ := hc
  obtain ⟨e, hu, hs⟩ := slice_some hsl
  have hxv := opd_ok hf hx
  have hiv := opd_ok hf hi
  simp only [AVal.eval] at h
  split at h
  ·rename_i k n hn
   rw [hn] at hiv
   have hie := int_inv hiv
   split at h
   ·rename_i sz els hp
    rw [hp] at hxv
    split at h
    ·rename_i hcond
     obtain ⟨h0, rfl⟩ := hcond
     rw [Option.map_eq_some_iff] at h
     obtain ⟨cs, hcs, rfl⟩ := h
     obtain ⟨ad, cap, hua, hcap, hne⟩ := fsl_inv hxv
     have hlt : n.toNat < els.length := (List.getElem?_eq_some_iff.1 hcs).1
     obtain ⟨b, off, rfl, hw, v', hv'⟩ := hne (by intro e; rw [e] at hlt; simp at hlt)
     have hix := indexAt_slice (w := w) (k := k) (b := b) (o := off) (cap := cap) (len := els.length) hu hs h0 (by omega)
     refine ⟨.pointer (some ⟨b, off + n.toNat * sz, none⟩), by simp only [execOp, ho, hua, hie, Sem.run_bind, hix, Result.andThen_ok, Sem.run_pure], ?_⟩
     exact .fp cs 0 b (off + n.toNat * sz) (v' n.toNat) (fun j c hj => (hv' _ cs j c hcs hj).1) (fun j c hj => (hv' _ cs j c hcs hj).2.2) (fun j c hj => (hv' _ cs j c hcs hj).2.1)
    ·cases h
   ·rename_i id off ln hp
    rw [hp] at hxv
    split at h
    ·rename_i hcond
     split at h
     ·rename_i sz els hh
      split at h
      ·rename_i hsz; subst hsz
       simp at h; subst h
       obtain ⟨b, ob, sz2, C, ad, cap, hua, hsg, hor⟩ := msl_inv hxv
       obtain ⟨b2, o2, C2, hsg2, _⟩ := hf.heap.arr id sz els hh
       rw [hsg] at hsg2; simp at hsg2; obtain ⟨rfl, rfl, rfl, rfl⟩ := hsg2
       rcases hor with ⟨hz, _⟩ | ⟨rfl, hC, hle⟩
       ·omega
       ·have hix := indexAt_slice (w := w) (k := k) (b := b) (o := ob + off * sz2) (cap := cap) (len := ln) hu hs hcond.1 (by omega)
        refine ⟨.pointer (some ⟨b, ob + off * sz2 + n.toNat * sz2, none⟩), by simp only [execOp, ho, hua, hie, Sem.run_bind, hix, Result.andThen_ok, Sem.run_pure], ?_⟩
        have := VR.ep (rd := Rd own w) (m := m) id (off + n.toNat) 0 b ob sz2 C hsg
        rwa [Nat.add_zero, Nat.add_mul, ← Nat.add_assoc] at this
      ·cases h
     ·cases h
    ·cases h
   ·cases h
  ·cases h
 ·rename_i x i n esz t x2 i2
  simp only [Bool.and_eq_true] at hc
  obtain ⟨⟨hx, hi⟩, har⟩ := hc
  obtain ⟨e, hu, hs⟩ := array_some har
  have hxv := opd_ok hf hx
  have hiv := opd_ok hf hi
  simp only [AVal.eval] at h
  split at h
  ·rename_i k j hj
   rw [hj] at hiv
   have hie := int_inv hiv
   split at h
   ·rename_i hcond
    split at h
    ·rename_i tt g o hp
     simp at h; subst h
     rw [hp] at hxv
     generalize hu2 : a.eval x2 = u at hxv
     cases hxv with
     | lp _ _ _ b hb => exact ⟨_, by simp only [execOp, ho, hu2, hie, Sem.run_bind, indexAt_array hu hs hcond.1 hcond.2, Result.andThen_ok, Sem.run_pure], (.lp _ _ _ b hb)⟩
    ·rename_i id id' o hp
     simp at h; subst h
     rw [hp] at hxv
     generalize hu2 : a.eval x2 = u at hxv
     cases hxv with
     | ep _ _ _ b ob sz C hs2 => exact ⟨.pointer (some ⟨b, ob + id' * sz + o + j.toNat * esz, none⟩), by simp only [execOp, ho, hu2, hie, Sem.run_bind, indexAt_array hu hs hcond.1 hcond.2, Result.andThen_ok, Sem.run_pure], (by rw [Nat.add_assoc]; exact .ep _ _ _ b ob sz C hs2)⟩
    ·rename_i cs o hp
     simp at h; subst h
     rw [hp] at hxv
     generalize hu2 : a.eval x2 = u at hxv
     cases hxv with
     | fp _ _ b o' v hr h1 hf' => exact ⟨.pointer (some ⟨b, o' + o + j.toNat * esz, none⟩), by simp only [execOp, ho, hu2, hie, Sem.run_bind, indexAt_array hu hs hcond.1 hcond.2, Result.andThen_ok, Sem.run_pure], (by rw [Nat.add_assoc]; exact .fp _ _ b o' v hr h1 hf')⟩
    ·cases h
   ·cases h
  ·cases h
 ·rename_i x i n esz agg t x2 i2
  simp only [Bool.and_eq_true] at hc
  obtain ⟨⟨hx, hi⟩, har⟩ := hc
  obtain ⟨d, hd, hdd⟩ := undB_some har
  cases d <;> simp at hdd
  rename_i len e
  obtain ⟨rfl, hty⟩ := hdd
  have hxv := opd_ok hf hx
  have hiv := opd_ok hf hi
  simp only [AVal.eval] at h
  split at h
  ·rename_i k j hj
   rw [hj] at hiv
   have hie := int_inv hiv
   split at h
   ·rename_i cs hp
    rw [hp] at hxv
    obtain ⟨us, hus, hl, hcr⟩ := agg_inv hxv
    split at h
    ·rename_i hcond
     obtain ⟨u, hu2, hv⟩ := part_ok (P := P) (w := w) hl hcr hty h
     exact ⟨u, by simp [execOp, ho, Instr.index, asIntOf, hie, run_und hd, hus, hcond, run_sizeB (tyOk_some hty).2.1, hu2], hv⟩
    ·cases h
   ·cases h
  ·cases h
 ·rename_i x i t x2 i2
  simp only [Bool.and_eq_true] at hc
  obtain ⟨⟨hx, hi⟩, hst⟩ := hc
  obtain ⟨d, hd, hdd⟩ := undB_some hst
  cases d <;> simp at hdd
  have hxv := opd_ok hf hx
  have hiv := opd_ok hf hi
  simp only [AVal.eval] at h
  split at h
  ·rename_i k j hj
   rw [hj] at hiv
   have hie := int_inv hiv
   split at h
   ·rename_i st hp
    rw [hp] at hxv
    have hse := str_inv hxv
    split at h
    ·rename_i hcond
     rw [Option.map_eq_some_iff] at h
     obtain ⟨b, hb, rfl⟩ := h
     have hb2 : st[j.toNat]? = some b := by
      rw [List.getElem?_eq_some_iff] at hb
      obtain ⟨hlt, hb⟩ := hb
      have hlt2 : j.toNat < st.size := by simpa using hlt
      rw [getElem?_pos st j.toNat hlt2]
      rw [← hb]
      rfl
     exact ⟨.int .u8 b.toNat, by simp [execOp, ho, Instr.index, asIntOf, hie, run_und hd, hse, hcond, hb2], (.int _ _)⟩
    ·cases h
   ·cases h
  ·cases h
 ·rename_i x n agg t x2
  simp only [Bool.and_eq_true] at hc
  simp only [AVal.eval] at h
  obtain ⟨u, hu, hv⟩ := load_ok hf (opd_ok hf hc.1) hc.2 h
  exact fin (by simp only [execOp, ho]) hu hv
 ·rename_i x x2
  have hxv := opd_ok hf hc
  simp only [AVal.eval] at h
  split at h
  ·rename_i t g o' hp
   simp at h; subst h
   rw [hp] at hxv
   obtain ⟨b, o2, hu⟩ := addr_inv hxv (.inl ⟨_, _, _, rfl⟩)
   exact ⟨.pointer (some ⟨b, o2, none⟩), by simp only [execOp, ho, hu, Sem.run_pure], by rw [← hu]; exact hxv⟩
  ·rename_i id i o' hp
   simp at h; subst h
   rw [hp] at hxv
   obtain ⟨b, o2, hu⟩ := addr_inv hxv (.inr (.inl ⟨_, _, _, rfl⟩))
   exact ⟨.pointer (some ⟨b, o2, none⟩), by simp only [execOp, ho, hu, Sem.run_pure], by rw [← hu]; exact hxv⟩
  ·rename_i cs o' hp
   simp at h; subst h
   rw [hp] at hxv
   obtain ⟨b, o2, hu⟩ := addr_inv hxv (.inr (.inr ⟨_, _, rfl⟩))
   exact ⟨.pointer (some ⟨b, o2, none⟩), by simp only [execOp, ho, hu, Sem.run_pure], by rw [← hu]; exact hxv⟩
  ·rename_i f cs hp
   simp at h; subst h
   rw [hp] at hxv
   generalize hu : a.eval x2 = u at hxv
   cases hxv with
   | fn _ _ us hl hf' => exact ⟨.func (.func f) #[] us, by simp only [execOp, ho, hu]; simp, .fn _ _ us hl hf'⟩
  ·cases h
 ·rename_i x k x2 k2
  simp only [Bool.and_eq_true, beq_iff_eq] at hc
  obtain ⟨hx, rfl⟩ := hc
  have hxv := opd_ok hf hx
  simp only [AVal.eval] at h
  split at h
  ·rename_i vs hp
   rw [hp] at hxv
   obtain ⟨us, hus, hl, hcr⟩ := tup_inv hxv
   have hk : k < us.size := by have := (List.getElem?_eq_some_iff.1 h).1; omega
   exact ⟨us[k], by simp [execOp, ho, Instr.extract, hus, hk], (hcr k v us[k] h (Array.getElem?_eq_getElem hk))⟩
  ·cases h
 ·rename_i f caps f2 first caps2
  simp only [Bool.and_eq_true, beq_iff_eq] at hc
  obtain ⟨⟨rfl, hfi⟩, hcap⟩ := hc
  have hfe : first = #[] := by simpa using hfi
  subst hfe
  obtain ⟨hl, hr⟩ := opds_ok hf hcap
  simp only [AVal.eval, Option.some.injEq] at h; subst h
  refine ⟨.func (.func f) #[] (caps2.map a.eval), by simp [execOp, ho, Instr.makeFunc], .fn f _ _ (by simpa using hl) ?_⟩
  intro i c u hc hu
  exact hr i c u hc (by simpa using hu)
 ·rename_i x lo hi n t x2 lo2 hi2
  simp only [Bool.and_eq_true] at hc
  obtain ⟨⟨⟨hx, hlo⟩, hhi⟩, hsl⟩ := hc
  obtain ⟨e, hd, hn⟩ := slice_some hsl
  have hxv := opd_ok hf hx
  simp only [AVal.eval] at h
  split at h
  ·rename_i hp
   rw [hp] at hxv
   have hue := nsl_inv hxv
   split at h
   ·rename_i b hb
    split at h
    ·rename_i a' ha
     split at h
     ·rename_i hcond
      simp at h; subst h
      have hbz : b = 0 := by omega
      have haz : a' = 0 := by omega
      subst hbz; subst haz
      exact ⟨.slice none 0 0, by simp [execOp, ho, Instr.sliceAt, Instr.slice, run_und hd, hue, sliceBounds_run hf hlo hhi hb ha (Nat.le_refl _) (Nat.le_refl 0) (isS := true), run_sizeB hn], .nsl⟩
     ·cases h
    ·cases h
   ·cases h
  ·rename_i sz els hp
   rw [hp] at hxv
   obtain ⟨ad, cap, hue, hcap, hne⟩ := fsl_inv hxv
   split at h
   ·rename_i b hb
    split at h
    ·rename_i a' ha
     split at h
     ·rename_i hcond
      simp at h; subst h
      have hlen : ((els.drop a').take (b - a')).length = b - a' := by simp; omega
      refine ⟨.slice (if cap = a' then ad else ad.map (·.add (a' * n))) (b - a') (cap - a'), by simp [execOp, ho, Instr.sliceAt, Instr.slice, run_und hd, hue, sliceBounds_run hf hlo hhi hb ha hcond.1 (Nat.le_trans hcond.2.1 hcap) (isS := true), run_sizeB hn], ?_⟩
      by_cases hz : b - a' = 0
      ·rw [show (els.drop a').take (b - a') = [] by rw [hz]; simp, hz]
       exact .fsl0 _ _ _
      ·have hne0 : els ≠ [] := by intro e; rw [e] at hcond; simp at hcond; omega
       obtain ⟨bb, off, rfl, hw, v', hv'⟩ := hne hne0
       rw [if_neg (by omega)]
       have key := VR.fsl (rd := Rd own w) (m := m) sz ((els.drop a').take (b - a')) bb (off + a' * sz) (cap - a') (fun i j => v' (a' + i) j) (by rw [hlen]; omega)
        (fun i x hx => by
         simp [List.getElem?_take] at hx
         exact hw _ x hx.2)
        (fun i x j c hx hxc => by
         simp [List.getElem?_take] at hx
         have := (hv' _ x j c hx.2 hxc).1
         rwa [Nat.add_mul, ← Nat.add_assoc] at this)
        (fun i x j c hx hxc => by
         simp [List.getElem?_take] at hx
         exact (hv' _ x j c hx.2 hxc).2.2)
        (fun i x j c hx hxc => by
         simp [List.getElem?_take] at hx
         exact (hv' _ x j c hx.2 hxc).2.1)
       rw [hlen] at key
       simp only [Option.map_some, add_none]
       rw [← hcond.2.2]
       exact key
     ·cases h
    ·cases h
   ·cases h
  ·rename_i id off ln hp
   rw [hp] at hxv
   obtain ⟨bb, ob, sz2, C, ad, cap, hue, hsg, hor⟩ := msl_inv hxv
   split at h
   ·rename_i sz els hh
    obtain ⟨b2, o2, C2, hsg2, _⟩ := hf.heap.arr id sz els hh
    rw [hsg] at hsg2; simp at hsg2; obtain ⟨rfl, rfl, rfl, rfl⟩ := hsg2
    split at h
    ·rename_i b hb
     split at h
     ·rename_i a' ha
      split at h
      ·rename_i hcond
       simp at h; subst h
       have hbc : b ≤ cap := by rcases hor with ⟨h1, h2⟩ | ⟨_, _, h3⟩ <;> omega
       refine ⟨.slice (if cap = a' then some ad else (some ad).map (·.add (a' * n))) (b - a') (cap - a'), by simp [execOp, ho, Instr.sliceAt, Instr.slice, run_und hd, hue, sliceBounds_run hf hlo hhi hb ha hcond.1 hbc (isS := true), run_sizeB hn], ?_⟩
       by_cases hz : cap = a'
       ·rw [if_pos hz]
        exact .msl id (off + a') (b - a') bb ob sz2 C ad (cap - a') hsg (.inl (by omega))
       ·rw [if_neg hz]
        rcases hor with ⟨h1, h2⟩ | ⟨rfl, h2, h3⟩
        ·omega
        ·simp only [Option.map_some, add_none]
         rw [← hcond.2.2, Nat.add_assoc, ← Nat.add_mul]
         exact .msl id (off + a') (b - a') bb ob sz2 C _ (cap - a') hsg (.inr ⟨rfl, by omega, by omega⟩)
      ·cases h
     ·cases h
    ·cases h
   ·cases h
  ·cases h
 ·rename_i x lo hi t x2 lo2 hi2
  simp only [Bool.and_eq_true] at hc
  obtain ⟨⟨⟨hx, hlo⟩, hhi⟩, hst⟩ := hc
  obtain ⟨d, hd, hdd⟩ := undB_some hst
  cases d <;> simp at hdd
  have hxv := opd_ok hf hx
  simp only [AVal.eval] at h
  split at h
  ·rename_i st hp
   rw [hp] at hxv
   have hse := str_inv hxv
   split at h
   ·rename_i b hb
    split at h
    ·rename_i a' ha
     split at h
     ·rename_i hcond
      simp at h; subst h
      exact ⟨.string (st.extract a' b), by simp [execOp, ho, Instr.sliceAt, Instr.slice, run_und hd, hse, sliceBounds_run hf hlo hhi hb ha hcond.1 hcond.2 (isS := false)], .str _⟩
     ·cases h
    ·cases h
   ·cases h
  ·cases h
 ·rename_i k x src t x2
  simp only [Bool.and_eq_true] at hc
  obtain ⟨⟨hx, hit⟩, hs⟩ := hc
  obtain ⟨d, hd, hdd⟩ := undB_some hit
  cases d <;> simp at hdd
  subst hdd
  obtain ⟨d2, hd2, _⟩ := undB_some hs
  have hxv := opd_ok hf hx
  simp only [AVal.eval] at h
  split at h
  ·rename_i j n hp
   rw [hp] at hxv
   simp at h; subst h
   have hie := int_inv hxv
   refine ⟨.int _ _, ?_, .int _ _⟩
   simp only [execOp, ho, hie, convert, Sem.run_bind, run_und hd2, run_und hd, Result.andThen_ok]
   cases d2 <;> simp [Conv.intToInt]
  ·cases h
 ·rename_i x as ts
  split at hc
  ·rename_i y t hy ht
   have hy' : as = #[y] := by rw [← Array.toArray_toList (xs := as), hy]
   have ht' : ts = #[t] := by rw [← Array.toArray_toList (xs := ts), ht]
   subst hy'; subst ht'
   simp only [Bool.and_eq_true] at hc
   obtain ⟨hx, hty⟩ := hc
   obtain ⟨d, hd, hdd⟩ := undB_some hty
   have hxv := opd_ok hf hx
   simp only [AVal.eval] at h
   split at h
   ·rename_i hp
    rw [hp] at hxv
    simp at h; subst h
    have hue := nsl_inv hxv
    refine ⟨.int .i64 0, ?_, .int _ _⟩
    cases d <;> simp at hdd
    ·simp [execOp, ho, resolve, invoke, builtin, Builtin.len_, run_und hd, hue, goInt]
   ·rename_i sz els hp
    rw [hp] at hxv
    simp at h; subst h
    obtain ⟨ad, cap, hue, _⟩ := fsl_inv hxv
    refine ⟨.int .i64 els.length, ?_, .int _ _⟩
    cases d <;> simp at hdd
    ·simp [execOp, ho, resolve, invoke, builtin, Builtin.len_, run_und hd, hue, goInt]
   ·rename_i id off ln hp
    rw [hp] at hxv
    simp at h; subst h
    obtain ⟨bb, ob, sz2, C, ad, cap, hue, _⟩ := msl_inv hxv
    refine ⟨.int .i64 ln, ?_, .int _ _⟩
    cases d <;> simp at hdd
    ·simp [execOp, ho, resolve, invoke, builtin, Builtin.len_, run_und hd, hue, goInt]
   ·cases h
  ·cases hc
 ·rename_i x as ts
  split at hc
  ·rename_i y t hy ht
   have hy' : as = #[y] := by rw [← Array.toArray_toList (xs := as), hy]
   have ht' : ts = #[t] := by rw [← Array.toArray_toList (xs := ts), ht]
   subst hy'; subst ht'
   simp only [Bool.and_eq_true] at hc
   obtain ⟨hx, hty⟩ := hc
   obtain ⟨d, hd, hdd⟩ := undB_some hty
   have hxv := opd_ok hf hx
   simp only [AVal.eval] at h
   split at h
   ·rename_i st hp
    rw [hp] at hxv
    simp at h; subst h
    have hse := str_inv hxv
    refine ⟨.int .i64 st.size, ?_, .int _ _⟩
    cases d <;> simp at hdd
    simp [execOp, ho, resolve, invoke, builtin, Builtin.len_, run_und hd, hse, goInt]
   ·cases h
  ·cases hc
 ·rename_i x y as ts
  split at hc
  ·rename_i p q hy
   have hy' : as = #[p, q] := by rw [← Array.toArray_toList (xs := as), hy]
   subst hy'
   simp only [Bool.and_eq_true] at hc
   have hxv := opd_ok hf hc.1
   have hyv := opd_ok hf hc.2
   simp only [AVal.eval] at h
   split at h
   ·rename_i k a1 k2 b1 h1 h2
    rw [h1] at hxv; rw [h2] at hyv
    simp at h; subst h
    have e1 := int_inv hxv
    have e2 := int_inv hyv
    exact ⟨.int k (if b1 > a1 then b1 else a1), by simp [execOp, ho, resolve, invoke, builtin, Builtin.max_, Builtin.max2, e1, e2], .int _ _⟩
   ·cases h
  ·cases hc
 ·rename_i x y as ts
  split at hc
  ·rename_i p q hy
   have hy' : as = #[p, q] := by rw [← Array.toArray_toList (xs := as), hy]
   subst hy'
   simp only [Bool.and_eq_true] at hc
   have hxv := opd_ok hf hc.1
   have hyv := opd_ok hf hc.2
   simp only [AVal.eval] at h
   split at h
   ·rename_i k a1 k2 b1 h1 h2
    rw [h1] at hxv; rw [h2] at hyv
    simp at h; subst h
    have e1 := int_inv hxv
    have e2 := int_inv hyv
    exact ⟨.int k (if b1 < a1 then b1 else a1), by simp [execOp, ho, resolve, invoke, builtin, Builtin.min_, Builtin.min2, e1, e2], .int _ _⟩
   ·cases h
  ·cases hc
 ·rename_i ks x k z t x2 k2
  simp only [Bool.and_eq_true] at hc
  have hxv := opd_ok hf hc.1.1
  have hkv := opd_ok hf hc.1.2
  simp only [AVal.eval] at h
  split at h <;> try cases h
  rename_i id hid
  rw [hid] at hxv
  split at h <;> try cases h
  rename_i es hes
  split at h <;> try cases h
  rename_i hk
  have hfk : ∃ r, findKey (ev s.env k) es = some r ∧ picked es z r = some v := by
   split at h
   ·rename_i i e; exact ⟨_, e, h⟩
   ·rename_i e; exact ⟨_, e, h⟩
   ·cases h
  obtain ⟨r, e1, e2⟩ := hfk
  obtain ⟨u, h1, h2⟩ := lookup_run (P := P) hf.heap hc.2 hxv hkv hes hk e1
  have h3 := h1 false
  simp only [Bool.false_eq_true, if_false] at h3
  exact fin (e := Instr.lookup t (a.eval x2) (a.eval k2) false) (by simp [execOp, ho]) h3 (h2 v e2)
 ·rename_i ks x k z t x2 k2
  simp only [Bool.and_eq_true] at hc
  have hxv := opd_ok hf hc.1.1
  have hkv := opd_ok hf hc.1.2
  simp only [AVal.eval] at h
  split at h <;> try cases h
  rename_i id hid
  rw [hid] at hxv
  split at h <;> try cases h
  rename_i es hes
  split at h <;> try cases h
  rename_i hk
  have hfk : ∃ r v2, findKey (ev s.env k) es = some r ∧ picked es z r = some v2 ∧ v = .tup [v2, .bool r.isSome] := by
   split at h
   ·rename_i i e
    simp only [Option.map_eq_some_iff] at h
    obtain ⟨y, h1, rfl⟩ := h
    exact ⟨_, y.2, e, by simp [picked, h1], rfl⟩
   ·rename_i e; simp at h; exact ⟨_, _, e, rfl, h.symm⟩
   ·cases h
  obtain ⟨r, v2, e1, e2, rfl⟩ := hfk
  obtain ⟨u, h1, h2⟩ := lookup_run (P := P) hf.heap hc.2 hxv hkv hes hk e1
  have h3 := h1 true
  simp only [if_true] at h3
  refine fin (e := Instr.lookup t (a.eval x2) (a.eval k2) true) (by simp [execOp, ho]) h3 (.tup _ _ rfl fun i c u2 hc hu => ?_)
  match i with
  | 0 => simp at hc hu; subst hc; subst hu; exact h2 _ e2
  | 1 => simp at hc hu; subst hc; subst hu; exact .bool _
  | n + 2 => simp at hc
 ·cases hc

end
end Go.Abs
namespace Go.Abs
open Go

structure Other (w w2 : World) (b : Nat) : Prop where
 io : Io w w2
 size : w.heap.size ≤ w2.heap.size
 same : ∀ x, x ≠ b → x < w.heap.size → w2.heap[x]? = w.heap[x]?

theorem cell_heap {w w2 : World} {b : Nat} (h : w2.heap[b]? = w.heap[b]?) (o : Nat) : w2.cell? ⟨b, o, none⟩ = w.cell? ⟨b, o, none⟩ := by
 simp [World.cell?, h]

theorem cell_lt {w : World} {b o : Nat} {u : Value} (h : w.cell? ⟨b, o, none⟩ = some u) : b < w.heap.size := by
 rcases Nat.lt_or_ge b w.heap.size with hb | hb
 ·exact hb
 ·simp [World.cell?, Array.getElem?_eq_none hb] at h

theorem rd_mono {own own2 : Nat → Prop} {w w2 : World} {b : Nat} (ho : Other w w2 b) (hb : own b ∨ w.heap.size ≤ b) (h2 : ∀ x, own2 x → x < w.heap.size → own x ∨ x = b) :
  ∀ x o u, Rd own w x o u → Rd own2 w2 x o u := by
 intro x o u ⟨h1, hc⟩
 have hlt := cell_lt hc
 have hne : x ≠ b := by
  rintro rfl
  rcases hb with hb | hb
  ·exact h1 hb
  ·omega
 refine ⟨fun hx => ?_, ?_⟩
 ·rcases h2 x hx hlt with h | h
  ·exact h1 h
  ·exact hne h
 ·rw [cell_heap (ho.same x hne hlt)]; exact hc

theorem ArrAt.mono {rd rd2 : Reads} {m m2 : Maps} {w w2 : World} (hr : ∀ b o u, rd b o u → rd2 b o u) (hm : m.le m2) {b o sz C : Nat} {els : List (List V)} (hw : w2.heap[b]? = w.heap[b]?)
  (h : ArrAt rd m w b o sz C els) : ArrAt rd2 m2 w2 b o sz C els := by
 obtain ⟨arr, ty, h1, h2, h3, h4, h5⟩ := h
 exact ⟨arr, ty, by rw [hw]; exact h1, h2, h3, h4, fun i x j c e1 e2 => by obtain ⟨u, hu, hc⟩ := h5 i x j c e1 e2; exact ⟨u, hu, hc.mono hr hm⟩⟩

theorem BoxAt.mono {rd rd2 : Reads} {m m2 : Maps} {w w2 : World} (hr : ∀ b o u, rd b o u → rd2 b o u) (hm : m.le m2) {b : Nat} {cs : List V} (hw : w2.heap[b]? = w.heap[b]?)
  (h : BoxAt rd m w b cs) : BoxAt rd2 m2 w2 b cs := by
 obtain ⟨arr, ty, h1, h2, h5⟩ := h
 exact ⟨arr, ty, by rw [hw]; exact h1, h2, fun j c e => by obtain ⟨u, hu, hc⟩ := h5 j c e; exact ⟨u, hu, hc.mono hr hm⟩⟩

theorem MapAt.mono {rd rd2 : Reads} {m m2 : Maps} {w w2 : World} (hr : ∀ b o u, rd b o u → rd2 b o u) (hm : m.le m2) {id b : Nat} (hbo : BoKeeps m m2 id) {es : List (V × V)} (hw : w2.heap[b]? = w.heap[b]?)
  (h : MapAt rd m w id b es) : MapAt rd2 m2 w2 id b es := by
 obtain ⟨ents, clock, h1, h2, h3, h4, h5⟩ := h
 refine ⟨ents, clock, by rw [hw]; exact h1, h2, fun i e x e1 e2 => ?_, h4, fun i n h1 h2 => h5 i n h1 (hbo i n h2)⟩
 obtain ⟨a, b, c, d⟩ := h3 i e x e1 e2
 exact ⟨a.mono hr hm, b.mono hr hm, hm.bo _ _ _ c, d⟩

theorem BlkAt.mono {rd rd2 : Reads} {m m2 : Maps} {w w2 : World} (hr : ∀ b o u, rd b o u → rd2 b o u) (hm : m.le m2) {id b o sz C : Nat} (hbo : BoKeeps m m2 id) {x : Blk} (hw : w2.heap[b]? = w.heap[b]?)
  (h : BlkAt rd m w id b o sz C x) : BlkAt rd2 m2 w2 id b o sz C x := by
 cases x with
 | arr sz2 els => exact ⟨h.1, ArrAt.mono hr hm hw h.2⟩
 | map es => exact MapAt.mono hr hm hbo hw h

theorem lt_of_heap {w : World} {b : Nat} {o : Obj} (h : w.heap[b]? = some o) : b < w.heap.size := (Array.getElem?_eq_some_iff.1 h).1

theorem BlkAt.lt {rd : Reads} {m : Maps} {w : World} {id b o sz C : Nat} {x : Blk} (h : BlkAt rd m w id b o sz C x) : b < w.heap.size := by
 cases x with
 | arr sz2 els => obtain ⟨_, arr, ty, h1, _⟩ := h; exact lt_of_heap h1
 | map es => obtain ⟨ents, clock, h1, _⟩ := h; exact lt_of_heap h1

theorem BoxAt.lt {rd : Reads} {m : Maps} {w : World} {b : Nat} {cs : List V} (h : BoxAt rd m w b cs) : b < w.heap.size := by
 obtain ⟨arr, ty, h1, _⟩ := h; exact lt_of_heap h1

theorem Rel.heap_eq {cx : Cx} {own : Nat → Prop} {m : Maps} {s : S} {tmps : Array Value} {w w2 : World} (h : Rel cx own m s tmps w) (hw : w2.heap = w.heap) (hio : Io w w2 := by exact ⟨rfl, rfl, rfl⟩) : Rel cx own m s tmps w2 := by
 have hrd : ∀ b o u, Rd own w b o u → Rd own w2 b o u := fun b o u ⟨h1, h2⟩ => ⟨h1, by simpa [World.cell?, hw] using h2⟩
 have hm := Maps.le.refl m
 refine ⟨⟨h.f.size, fun t v hv => ?_, fun t g cs hb => ?_, h.f.binj, h.f.bh, ⟨fun id x hx => ?_, h.f.heap.inj⟩, h.f.fin⟩, ⟨h.k.io.trans hio, by rw [hw]; exact h.k.size, fun b h1 h2 => by rw [hw]; exact h.k.same b h1 h2, h.k.old, h.k.maps, h.k.fr, h.k.ids, h.k.bxs, h.k.live, h.k.bo⟩, h.frlt⟩
 ·obtain ⟨u, hu, hvr⟩ := h.f.env t v hv
  exact ⟨u, hu, hvr.mono hrd hm⟩
 ·obtain ⟨b, h1, h2, h3⟩ := h.f.box t g cs hb
  exact ⟨b, h1, h2, h3.mono hrd hm (by rw [hw])⟩
 ·obtain ⟨b, o, sz, C, h1, h2, h3⟩ := h.f.heap.blk id x hx
  exact ⟨b, o, sz, C, h1, h2, h3.mono hrd hm (fun _ _ e => e) (by rw [hw])⟩

theorem Rel.put {cx : Cx} {own : Nat → Prop} {m : Maps} {s : S} {a : Act} {w : World} (h : Rel cx own m s a.tmps w) (d : Option Nat) {v : V} {u : Value} (hv : VR (Rd own w) m v u) :
  Rel cx own m (s.put d v) (a.put d u).tmps w := by
 cases d with
 | none => exact h
 | some d =>
  refine ⟨⟨by simp [S.put, Act.put, h.f.size], fun t v2 hv2 => ?_, h.f.box, h.f.binj, h.f.bh, h.f.heap, h.f.fin⟩, ⟨h.k.io, h.k.size, h.k.same, h.k.old, h.k.maps, h.k.fr, h.k.ids, h.k.bxs, h.k.live, h.k.bo⟩, h.frlt⟩
  simp only [S.put, List.getElem?_set] at hv2
  simp only [Act.put]
  split at hv2
  ·rename_i e; subst e
   split at hv2
   ·rename_i hlt
    simp at hv2; subst hv2
    exact ⟨u, by simp [h.f.size, hlt], hv⟩
   ·cases hv2
  ·rename_i hne
   obtain ⟨u2, hu2, hvr⟩ := h.f.env t v2 hv2
   exact ⟨u2, by rw [Array.getElem?_setIfInBounds_ne hne]; exact hu2, hvr⟩

theorem Rel.heapSet {cx : Cx} {own : Nat → Prop} {m : Maps} {s : S} {tmps : Array Value} {w : World} (hr : Rel cx own m s tmps w) {own2 : Nat → Prop} {m2 : Maps} {h2 : Heap} {w2 : World} {b id : Nat}
  (ho : Other w w2 b) (hm : m.le m2) (hbt : ∀ t g x, m2.bt t g = some x → m.bt t g = some x) (hbo : ∀ i, i ≠ id → BoKeeps m m2 i)
  (hown : ∀ x, own2 x ↔ own x ∨ x = b) (hb : own b ∨ w.heap.size ≤ b)
  (hbox : ∀ (t g : Nat) (cs : List V), s.bx[t]? = some (some (g, cs)) → m.bt t g = some b → False)
  (hids : ∀ i x, h2 i = some x → i ≠ id → s.h i = some x ∧ ∀ r, m.sg i = some (b, r) → False)
  (hid : ∀ x, h2 id = some x → ∃ o sz C, m2.sg id = some (b, o, sz, C) ∧ BlkAt (Rd own2 w2) m2 w2 id b o sz C x)
  (hk0 : b < cx.w0.heap.size → cx.h0 b) (hkf : ¬ cx.fr b) (hlv : cx.m0.sg id = none ∨ cx.dom id)
  (hfin : ∃ N, (∀ i, N ≤ i → m2.sg i = none) ∧ (∀ t g, N ≤ g → m2.bt t g = none) ∧ (∀ i k, N ≤ i → m2.bo i k = none)) : Rel cx own2 m2 { s with h := h2 } tmps w2 := by
 have hrd := rd_mono (own2 := own2) ho hb (fun x hx _ => (hown x).1 hx)
 have hsub : ∀ x, own x → own2 x := fun x hx => (hown x).2 (.inl hx)
 have hblk : ∀ i x, h2 i = some x → i ≠ id → ∃ bb o sz C, m.sg i = some (bb, o, sz, C) ∧ bb ≠ b ∧ own bb ∧ bb < w.heap.size ∧ BlkAt (Rd own2 w2) m2 w2 i bb o sz C x := by
  intro i x hx hne
  obtain ⟨h1, h3⟩ := hids i x hx hne
  obtain ⟨bb, o, sz, C, e1, e2, e3⟩ := hr.f.heap.blk i x h1
  have hbb : bb ≠ b := by rintro rfl; exact h3 _ e1
  exact ⟨bb, o, sz, C, e1, hbb, e2, e3.lt, e3.mono hrd hm (hbo i hne) (ho.same bb hbb e3.lt)⟩
 refine ⟨⟨hr.f.size, fun t v hv => ?_, fun t g cs hc => ?_, ?_, ?_, ⟨fun i x hx => ?_, ?_⟩, hfin⟩, ⟨hr.k.io.trans ho.io, Nat.le_trans hr.k.size ho.size, ?_, ?_, hr.k.maps.trans hm, fun x hx => hsub x (hr.k.fr x hx), ?_, ?_, ?_, ?_⟩, hr.frlt⟩
 ·obtain ⟨u, hu, hvr⟩ := hr.f.env t v hv
  exact ⟨u, hu, hvr.mono hrd hm⟩
 ·obtain ⟨bb, e1, e2, e3⟩ := hr.f.box t g cs hc
  have hbb : bb ≠ b := by rintro rfl; exact hbox t g cs hc e1
  exact ⟨bb, hm.bt _ _ _ e1, hsub bb e2, e3.mono hrd hm (ho.same bb hbb e3.lt)⟩
 ·intro t g cs t2 g2 cs2 bb e1 e2 e3 e4
  exact hr.f.binj t g cs t2 g2 cs2 bb e1 e2 (hbt _ _ _ e3) (hbt _ _ _ e4)
 ·intro t g cs i x bb r e1 e2 e3 e4
  have e3' := hbt _ _ _ e3
  by_cases hne : i = id
  ·subst hne
   obtain ⟨o, sz, C, f1, _⟩ := hid x e2
   rw [f1] at e4; simp at e4
   obtain ⟨rfl, _⟩ := e4
   exact hbox t g cs e1 e3'
  ·obtain ⟨b2, o, sz, C, f1, _⟩ := hblk i x e2 hne
   have f2 := hm.sg _ _ f1
   rw [f2] at e4; simp at e4
   obtain ⟨rfl, rfl⟩ := e4
   exact hr.f.bh t g cs i x b2 _ e1 (hids i x e2 hne).1 e3' f1
 ·by_cases hne : i = id
  ·subst hne
   obtain ⟨o, sz, C, f1, f2⟩ := hid x hx
   exact ⟨b, o, sz, C, f1, (hown b).2 (.inr rfl), f2⟩
  ·obtain ⟨bb, o, sz, C, f1, f2, f3, f4, f5⟩ := hblk i x hx hne
   exact ⟨bb, o, sz, C, hm.sg _ _ f1, hsub bb f3, f5⟩
 ·intro i i2 x y bb r r2 e1 e2 e3 e4
  by_cases hne : i = id
  ·by_cases hne2 : i2 = id
   ·rw [hne, hne2]
   ·exfalso
    subst hne
    obtain ⟨o, sz, C, f1, _⟩ := hid x e1
    rw [f1] at e3; simp at e3
    obtain ⟨rfl, _⟩ := e3
    obtain ⟨b2, o2, sz2, C2, g1, g2, _⟩ := hblk i2 y e2 hne2
    rw [hm.sg _ _ g1] at e4; simp at e4
    exact g2 e4.1
  ·by_cases hne2 : i2 = id
   ·exfalso
    subst hne2
    obtain ⟨o, sz, C, f1, _⟩ := hid y e2
    rw [f1] at e4; simp at e4
    obtain ⟨rfl, _⟩ := e4
    obtain ⟨b2, o2, sz2, C2, g1, g2, _⟩ := hblk i x e1 hne
    rw [hm.sg _ _ g1] at e3; simp at e3
    exact g2 e3.1
   ·obtain ⟨b2, o2, sz2, C2, g1, _⟩ := hblk i x e1 hne
    obtain ⟨b3, o3, sz3, C3, k1, _⟩ := hblk i2 y e2 hne2
    rw [hm.sg _ _ g1] at e3; simp at e3
    rw [hm.sg _ _ k1] at e4; simp at e4
    obtain ⟨rfl, rfl⟩ := e3
    obtain ⟨rfl, rfl⟩ := e4
    exact hr.f.heap.inj i i2 x y _ _ _ (hids i x e1 hne).1 (hids i2 y e2 hne2).1 g1 k1
 ·intro x hx hnx
  have hxb : x ≠ b := by
   rintro rfl
   exact hnx (hk0 hx)
  rw [ho.same x hxb (by have := hr.k.size; omega)]
  exact hr.k.same x hx hnx
 ·intro x hx hox
  rcases (hown x).1 hox with h | rfl
  ·exact hr.k.old x hx h
  ·rcases hb with h | h
   ·exact hr.k.old x hx h
   ·have := hr.k.size; omega
 ·intro i x bb r e1 e2
  by_cases hne : i = id
  ·subst hne
   obtain ⟨o, sz, C, f1, _⟩ := hid x e1
   rw [f1] at e2; simp at e2
   obtain ⟨rfl, _⟩ := e2
   exact ⟨hkf, hk0⟩
  ·obtain ⟨b2, o2, sz2, C2, g1, _⟩ := hblk i x e1 hne
   rw [hm.sg _ _ g1] at e2; simp at e2
   obtain ⟨rfl, rfl⟩ := e2
   exact hr.k.ids i x _ _ (hids i x e1 hne).1 g1
 ·intro t g cs bb e1 e2
  exact hr.k.bxs t g cs bb e1 (hbt _ _ _ e2)
 ·intro i x hx
  by_cases hne : i = id
  ·subst hne; exact hlv
  ·exact hr.k.live i x (hids i x hx hne).1
 ·intro i x hx hnd
  by_cases hne : i = id
  ·subst hne
   rcases hlv with h | h
   ·rw [h] at hx; cases hx
   ·exact absurd h hnd
  ·exact fun k n hn => hr.k.bo i x hx hnd k n (hbo i hne k n hn)

theorem Rel.boxSet {cx : Cx} {own : Nat → Prop} {m : Maps} {s : S} {tmps : Array Value} {w : World} (hr : Rel cx own m s tmps w) {own2 : Nat → Prop} {m2 : Maps} {w2 : World} {b t g : Nat} {cs : List V}
  (ho : Other w w2 b) (hm : m.le m2) (hsg : ∀ i x, m2.sg i = some x → m.sg i = some x) (hbo : ∀ i, BoKeeps m m2 i)
  (hown : ∀ x, own2 x ↔ own x ∨ x = b) (hb : own b ∨ w.heap.size ≤ b)
  (hbox : ∀ (t2 g2 : Nat) (cs2 : List V), s.bx[t2]? = some (some (g2, cs2)) → t2 ≠ t → m.bt t2 g2 = some b → False)
  (hids : ∀ i x r, s.h i = some x → m.sg i = some (b, r) → False)
  (hbt : m2.bt t g = some b) (hat : BoxAt (Rd own2 w2) m2 w2 b cs)
  (hk0 : cx.w0.heap.size ≤ b)
  (hfin : ∃ N, (∀ i, N ≤ i → m2.sg i = none) ∧ (∀ t g, N ≤ g → m2.bt t g = none) ∧ (∀ i k, N ≤ i → m2.bo i k = none)) : Rel cx own2 m2 { s with bx := s.bx.set t (some (g, cs)) } tmps w2 := by
 have hrd := rd_mono (own2 := own2) ho hb (fun x hx _ => (hown x).1 hx)
 have hsub : ∀ x, own x → own2 x := fun x hx => (hown x).2 (.inl hx)
 have hsg2 : ∀ i x, s.h i = some x → ∃ bb o sz C, m.sg i = some (bb, o, sz, C) ∧ bb ≠ b ∧ own bb ∧ BlkAt (Rd own2 w2) m2 w2 i bb o sz C x := by
  intro i x hx
  obtain ⟨bb, o, sz, C, e1, e2, e3⟩ := hr.f.heap.blk i x hx
  have hbb : bb ≠ b := by rintro rfl; exact hids i x _ hx e1
  exact ⟨bb, o, sz, C, e1, hbb, e2, e3.mono hrd hm (hbo i) (ho.same bb hbb e3.lt)⟩
 have hcase : ∀ (t2 g2 : Nat) (cs2 : List V), (s.bx.set t (some (g, cs)))[t2]? = some (some (g2, cs2)) → (t2 = t ∧ g2 = g ∧ cs2 = cs) ∨ (t2 ≠ t ∧ s.bx[t2]? = some (some (g2, cs2))) := by
  intro t2 g2 cs2 h
  rw [List.getElem?_set] at h
  split at h
  ·rename_i e; subst e
   split at h
   ·simp at h; exact .inl ⟨rfl, h.1.symm, h.2.symm⟩
   ·cases h
  ·rename_i e; exact .inr ⟨fun h => e h.symm, h⟩
 have hold : ∀ (t2 g2 : Nat) (cs2 : List V), s.bx[t2]? = some (some (g2, cs2)) → t2 ≠ t → ∃ bb, m.bt t2 g2 = some bb ∧ bb ≠ b ∧ own bb ∧ BoxAt (Rd own2 w2) m2 w2 bb cs2 := by
  intro t2 g2 cs2 h hne
  obtain ⟨bb, e1, e2, e3⟩ := hr.f.box t2 g2 cs2 h
  have hbb : bb ≠ b := by rintro rfl; exact hbox t2 g2 cs2 h hne e1
  exact ⟨bb, e1, hbb, e2, e3.mono hrd hm (ho.same bb hbb e3.lt)⟩
 refine ⟨⟨hr.f.size, fun t2 v hv => ?_, fun t2 g2 cs2 hc => ?_, ?_, ?_, ⟨fun i x hx => ?_, ?_⟩, hfin⟩, ⟨hr.k.io.trans ho.io, Nat.le_trans hr.k.size ho.size, ?_, ?_, hr.k.maps.trans hm, fun x hx => hsub x (hr.k.fr x hx), ?_, ?_, hr.k.live, fun i x hx hnd k n hn => hr.k.bo i x hx hnd k n (hbo i k n hn)⟩, hr.frlt⟩
 ·obtain ⟨u, hu, hvr⟩ := hr.f.env t2 v hv
  exact ⟨u, hu, hvr.mono hrd hm⟩
 ·rcases hcase t2 g2 cs2 hc with ⟨rfl, rfl, rfl⟩ | ⟨hne, hc⟩
  ·exact ⟨b, hbt, (hown b).2 (.inr rfl), hat⟩
  ·obtain ⟨bb, e1, _, e2, e3⟩ := hold t2 g2 cs2 hc hne
   exact ⟨bb, hm.bt _ _ _ e1, hsub bb e2, e3⟩
 ·intro t2 g2 cs2 t3 g3 cs3 bb e1 e2 e3 e4
  rcases hcase t2 g2 cs2 e1 with ⟨rfl, rfl, rfl⟩ | ⟨hne, e1⟩
  ·rcases hcase t3 g3 cs3 e2 with ⟨rfl, rfl, rfl⟩ | ⟨hne2, e2⟩
   ·rfl
   ·obtain ⟨b2, f1, f2, _⟩ := hold t3 g3 cs3 e2 hne2
    rw [hbt] at e3; rw [hm.bt _ _ _ f1] at e4
    simp at e3 e4
    exact absurd (e4.trans e3.symm) f2
  ·have e1n := e1
   rcases hcase t3 g3 cs3 e2 with ⟨rfl, rfl, rfl⟩ | ⟨hne2, e2⟩
   ·obtain ⟨b2, f1, f2, _⟩ := hold t2 g2 cs2 e1n hne
    rw [hbt] at e4; rw [hm.bt _ _ _ f1] at e3
    simp at e3 e4
    exact absurd (e3.trans e4.symm) f2
   ·obtain ⟨b2, f1, _⟩ := hold t2 g2 cs2 e1 hne
    obtain ⟨b3, k1, _⟩ := hold t3 g3 cs3 e2 hne2
    rw [hm.bt _ _ _ f1] at e3; rw [hm.bt _ _ _ k1] at e4
    simp at e3 e4
    subst e3; subst e4
    exact hr.f.binj t2 g2 cs2 t3 g3 cs3 _ e1 e2 f1 k1
 ·intro t2 g2 cs2 i x bb r e1 e2 e3 e4
  have e4' := hsg _ _ e4
  rcases hcase t2 g2 cs2 e1 with ⟨rfl, rfl, rfl⟩ | ⟨hne, e1⟩
  ·rw [hbt] at e3; simp at e3; subst e3
   exact hids i x _ e2 e4'
  ·obtain ⟨b2, f1, _⟩ := hold t2 g2 cs2 e1 hne
   rw [hm.bt _ _ _ f1] at e3; simp at e3; subst e3
   exact hr.f.bh t2 g2 cs2 i x _ _ e1 e2 f1 e4'
 ·obtain ⟨bb, o, sz, C, f1, f2, f3, f4⟩ := hsg2 i x hx
  exact ⟨bb, o, sz, C, hm.sg _ _ f1, hsub bb f3, f4⟩
 ·intro i i2 x y bb r r2 e1 e2 e3 e4
  exact hr.f.heap.inj i i2 x y bb _ _ e1 e2 (hsg _ _ e3) (hsg _ _ e4)
 ·intro x hx hnx
  rw [ho.same x (by omega) (by have := hr.k.size; omega)]
  exact hr.k.same x hx hnx
 ·intro x hx hox
  rcases (hown x).1 hox with h | rfl
  ·exact hr.k.old x hx h
  ·omega
 ·intro i x bb r e1 e2
  exact hr.k.ids i x _ _ e1 (hsg _ _ e2)
 ·intro t2 g2 cs2 bb e1 e2
  rcases hcase t2 g2 cs2 e1 with ⟨rfl, rfl, rfl⟩ | ⟨hne, e1⟩
  ·rw [hbt] at e2; simp at e2; subst e2; exact hk0
  ·obtain ⟨b2, f1, _⟩ := hold t2 g2 cs2 e1 hne
   rw [hm.bt _ _ _ f1] at e2; simp at e2; subst e2
   exact hr.k.bxs t2 g2 cs2 _ e1 f1

end Go.Abs
namespace Go.Abs
open Go

def push (w : World) (o : Obj) : World := { w with heap := w.heap.push o }

theorem setCells_io : ∀ (w : World) (b o : Nat) (l : List Value), Io w (w.setCells b o l)
 | w, b, o, [] => Io.refl w
 | w, b, o, v :: l => by
  rw [World.setCells]
  have h1 : Io w (w.setCell ⟨b, o, none⟩ v) := ⟨rfl, rfl, rfl⟩
  exact h1.trans (setCells_io (w.setCell ⟨b, o, none⟩ v) b (o + 1) l)

theorem push_other (w : World) (o : Obj) : Other w (push w o) w.heap.size :=
 ⟨⟨rfl, rfl, rfl⟩, by show w.heap.size ≤ (w.heap.push o).size; simp, fun x _ hlt => by
  show (w.heap.push o)[x]? = _
  rw [Array.getElem?_push, if_neg (Nat.ne_of_lt hlt)]⟩

theorem push_get (w : World) (o : Obj) : (push w o).heap[w.heap.size]? = some o := by
 show (w.heap.push o)[w.heap.size]? = _
 rw [Array.getElem?_push, if_pos rfl]

theorem le_sum : ∀ (L : List Nat) (x : Nat), x ∈ L → x ≤ L.sum
 | y :: L, x, h => by
  rw [List.sum_cons]
  rcases List.mem_cons.1 h with rfl | h
  ·omega
  ·have := le_sum L x h; omega

def Maps.setSg (m : Maps) (id : Nat) (x : Nat × Nat × Nat × Nat) : Maps := { m with sg := fun i => if i = id then some x else m.sg i }
def Maps.setBt (m : Maps) (t g b : Nat) : Maps := { m with bt := fun t2 g2 => if t2 = t ∧ g2 = g then some b else m.bt t2 g2 }

theorem Maps.le_setSg {m : Maps} {id : Nat} {x : Nat × Nat × Nat × Nat} (h : m.sg id = none) : m.le (m.setSg id x) :=
 ⟨fun i y hy => by simp only [Maps.setSg]; split <;> simp_all, fun _ _ _ h => h, fun _ _ _ h => h⟩
theorem Maps.le_setBt {m : Maps} {t g b : Nat} (h : m.bt t g = none) : m.le (m.setBt t g b) :=
 ⟨fun _ _ h => h, fun t2 g2 y hy => by
  simp only [Maps.setBt]
  split
  ·rename_i e; obtain ⟨rfl, rfl⟩ := e; rw [h] at hy; cases hy
  ·exact hy, fun _ _ _ h => h⟩

theorem fresh_sg {m m2 : Maps} (h : m.le m2) {id : Nat} (h2 : m2.sg id = none) : m.sg id = none := by
 cases e : m.sg id with
 | none => rfl
 | some x => rw [h.sg _ _ e] at h2; cases h2

theorem not_own_big {cx : Cx} {own : Nat → Prop} {m : Maps} {s : S} {tmps : Array Value} {w : World} (hr : Rel cx own m s tmps w) : ¬ cx.fr w.heap.size := fun h => by
 have := hr.frlt _ h; have := hr.k.size; omega

theorem Rel.newBox {cx : Cx} {own : Nat → Prop} {m : Maps} {s : S} {tmps : Array Value} {w : World} (hr : Rel cx own m s tmps w) (t : Nat) (cs : List V) (arr : Array Value) (elem : TypeId)
  (hl : arr.size = cs.length) (hc : ∀ (j : Nat) (c : V) (u : Value), cs[j]? = some c → arr[j]? = some u → CR (Rd own w) m c u) :
  ∃ own2 m2 g, Rel cx own2 m2 { s with bx := s.bx.set t (some (g, cs)) } tmps (push w (.cells arr elem)) ∧ VR (Rd own2 (push w (.cells arr elem))) m2 (.lp t g 0) (.pointer (some ⟨w.heap.size, 0, none⟩)) := by
 obtain ⟨N, hN1, hN2, hN3⟩ := hr.f.fin
 have hfresh : m.bt t N = none := hN2 t N (Nat.le_refl _)
 have hm := Maps.le_setBt (b := w.heap.size) hfresh
 let own2 : Nat → Prop := fun x => own x ∨ x = w.heap.size
 have hbt : (m.setBt t N w.heap.size).bt t N = some w.heap.size := by simp [Maps.setBt]
 have hrd := rd_mono (own2 := own2) (push_other w (.cells arr elem)) (b := w.heap.size) (.inr (Nat.le_refl _)) (fun x hx _ => hx)
 refine ⟨own2, m.setBt t N w.heap.size, N, ?_, .lp _ _ _ _ hbt⟩
 refine hr.boxSet (b := w.heap.size) (push_other _ _) hm (fun _ _ h => h) (fun _ _ _ h => h) (fun x => Iff.rfl) (.inr (Nat.le_refl _)) ?_ ?_ hbt ?_ (hr.k.size) ?_
 ·intro t2 g2 cs2 h1 _ h2
  obtain ⟨b, e1, _, e3⟩ := hr.f.box t2 g2 cs2 h1
  rw [h2] at e1; simp at e1; subst e1
  exact Nat.lt_irrefl _ e3.lt
 ·intro i x r h1 h2
  obtain ⟨b, o, sz, C, e1, _, e3⟩ := hr.f.heap.blk i x h1
  rw [h2] at e1; simp at e1
  have := e3.lt
  omega
 ·refine ⟨arr, elem, push_get _ _, hl, fun j c hj => ?_⟩
  have hlt : j < arr.size := by have := (List.getElem?_eq_some_iff.1 hj).1; omega
  exact ⟨arr[j], Array.getElem?_eq_getElem hlt, (hc j c _ hj (Array.getElem?_eq_getElem hlt)).mono hrd hm⟩
 ·refine ⟨N + 1, fun i hi => hN1 i (by omega), fun t2 g2 hg => ?_, fun i k hi => hN3 i k (by omega)⟩
  simp only [Maps.setBt]
  rw [if_neg (by omega)]
  exact hN2 t2 g2 (by omega)

theorem Rel.newBlk {cx : Cx} {own : Nat → Prop} {m : Maps} {s : S} {tmps : Array Value} {w : World} (hr : Rel cx own m s tmps w) (h1 : Heap) (h1le : h1.le s.h) (obj : Obj) (sz C : Nat) (x : Blk)
  (hx : ∀ own2 m2 id, (∀ b o u, Rd own w b o u → Rd own2 (push w obj) b o u) → m.le m2 → (∀ i, m2.bo id i = none) → m.sg id = none → BlkAt (Rd own2 (push w obj)) m2 (push w obj) id w.heap.size 0 sz C x)
  (L : List Nat) :
  ∃ own2 m2 id, s.h id = none ∧ id ∉ L ∧ m2.sg id = some (w.heap.size, 0, sz, C) ∧ (∀ b o u, Rd own w b o u → Rd own2 (push w obj) b o u) ∧ m.le m2 ∧ Rel cx own2 m2 { s with h := h1.upd id (some x) } tmps (push w obj) := by
 obtain ⟨N0, hN1, hN2, hN3⟩ := hr.f.fin
 obtain ⟨N, hN0, hNL⟩ : ∃ N, N0 ≤ N ∧ N ∉ L := by
  refine ⟨N0 + L.sum + 1, by omega, fun hmem => ?_⟩
  have := le_sum L _ hmem
  omega
 have hfresh : m.sg N = none := hN1 N hN0
 have hnone : s.h N = none := by
  cases hh : s.h N with
  | none => rfl
  | some y => obtain ⟨b, o, sz, C, e1, _⟩ := hr.f.heap.blk N y hh; rw [hfresh] at e1; cases e1
 have hm := Maps.le_setSg (x := (w.heap.size, 0, sz, C)) hfresh
 let own2 : Nat → Prop := fun x => own x ∨ x = w.heap.size
 have hsg : (m.setSg N (w.heap.size, 0, sz, C)).sg N = some (w.heap.size, 0, sz, C) := by simp [Maps.setSg]
 have hrd := rd_mono (own2 := own2) (push_other w obj) (b := w.heap.size) (.inr (Nat.le_refl _)) (fun x hx _ => hx)
 refine ⟨own2, m.setSg N (w.heap.size, 0, sz, C), N, hnone, hNL, hsg, hrd, hm, ?_⟩
 refine hr.heapSet (b := w.heap.size) (id := N) (push_other _ _) hm (fun _ _ _ h => h) (fun _ _ _ _ h => h) (fun x => Iff.rfl) (.inr (Nat.le_refl _)) ?_ ?_ ?_ ?_ (not_own_big hr) (.inl (fresh_sg hr.k.maps hfresh)) ?_
 ·intro t2 g2 cs2 h1 h2
  obtain ⟨b, e1, _, e3⟩ := hr.f.box t2 g2 cs2 h1
  rw [h2] at e1; simp at e1; subst e1
  exact Nat.lt_irrefl _ e3.lt
 ·intro i y hi hne
  simp only [Heap.upd, if_neg hne] at hi
  have hi2 := h1le i y hi
  refine ⟨hi2, fun r h2 => ?_⟩
  obtain ⟨b, o, sz, C, e1, _, e3⟩ := hr.f.heap.blk i y hi2
  rw [h2] at e1; simp at e1
  have := e3.lt
  omega
 ·intro y hy
  simp [Heap.upd] at hy
  subst hy
  exact ⟨0, sz, C, hsg, hx own2 _ N hrd hm (fun i => hN3 N i hN0) hfresh⟩
 ·intro h; have := hr.k.size; omega
 ·refine ⟨N + 1, fun i hi => ?_, fun t g hg => hN2 t g (by omega), fun i k hi => hN3 i k (by omega)⟩
  simp only [Maps.setSg]
  rw [if_neg (by omega)]
  exact hN1 i (by omega)

/-! ### Stores -/

theorem setCells_heap (b : Nat) {ty : TypeId} : ∀ (vs : List Value) (o : Nat) (w : World) (arr : Array Value), w.heap[b]? = some (.cells arr ty (0, 0)) →
  ∃ arr2, (w.setCells b o vs).heap[b]? = some (.cells arr2 ty (0, 0)) ∧ arr2.size = arr.size ∧ (∀ i, arr2[i]? = if o ≤ i ∧ i < o + vs.length ∧ i < arr.size then vs[i - o]? else arr[i]?) ∧
   (w.setCells b o vs).heap.size = w.heap.size ∧ ∀ x, x ≠ b → (w.setCells b o vs).heap[x]? = w.heap[x]?
 | [], o, w, arr, h => ⟨arr, h, rfl, fun i => by rw [if_neg (by simp; omega)], rfl, fun _ _ => rfl⟩
 | v :: vs, o, w, arr, h => by
  have h1 : (w.setCell ⟨b, o, none⟩ v).heap[b]? = some (.cells (arr.setIfInBounds o v) ty (0, 0)) := by
   simp [World.setCell, Array.getElem?_modify, h]
  obtain ⟨arr2, e1, e2, e3, e4, e5⟩ := setCells_heap b vs (o + 1) (w.setCell ⟨b, o, none⟩ v) (arr.setIfInBounds o v) h1
  refine ⟨arr2, e1, by simp [e2], fun i => ?_, by rw [World.setCells, e4]; simp [World.setCell], fun x hx => ?_⟩
  ·rw [e3]
   simp only [Array.size_setIfInBounds, List.length_cons]
   by_cases h2 : o + 1 ≤ i ∧ i < o + 1 + vs.length ∧ i < arr.size
   ·rw [if_pos h2, if_pos (by omega), show i - o = (i - (o + 1)) + 1 by omega, List.getElem?_cons_succ]
   ·rw [if_neg h2]
    by_cases h3 : i = o
    ·subst h3
     by_cases h4 : i < arr.size
     ·rw [if_pos (by omega)]; simp [h4]
     ·rw [if_neg (by omega)]; simp [h4]
    ·rw [if_neg (by omega), Array.getElem?_setIfInBounds_ne (by omega)]
  ·rw [World.setCells, e5 x hx]
   have hx2 : ¬ b = x := fun e => hx e.symm
   simp [World.setCell, Array.getElem?_modify, hx2]

theorem run_storeCells_block {P : Program} {w : World} {b o : Nat} {arr : Array Value} {ty : TypeId} (h : w.heap[b]? = some (.cells arr ty (0, 0))) (vs : List Value) (hle : o + vs.length ≤ arr.size)
  (h1 : ∀ v ∈ vs, v.oneCell' = true) : (Go.storeCells ⟨b, o, none⟩ vs 0).run P w = .ok () (w.setCells b o vs) := by
 have := run_storeCells_cells (P := P) b o vs 0 w (fun j hj => by
   have hlt : o + j < arr.size := by omega
   simp [World.cell?, h, hlt])
  (fun j hj => by simp [World.frozen?, h]) h1
 simpa using this

theorem storeCells_some {cs : List V} {off n : Nat} {v : V} {ds : List V} (h : Abs.storeCells cs off v n = some ds) : ∃ es, cellsOf v = some es ∧ es.length = n ∧ off + n ≤ cs.length ∧ ds = over cs off es := by
 unfold Abs.storeCells at h
 split at h
 ·rename_i es hes
  split at h
  ·rename_i hc
   simp at h
   exact ⟨es, hes, hc.1, hc.2, h.symm⟩
  ·cases h
 ·cases h

theorem boxOf_some {bx : List (Option (Nat × List V))} {t g : Nat} {cs : List V} (h : boxOf bx t g = some cs) : bx[t]? = some (some (g, cs)) := by
 unfold boxOf at h
 split at h
 ·rename_i g2 cs2 hg
  split at h
  ·rename_i e; subst e
   simp at h; subst h
   rw [List.getD_eq_getElem?_getD] at hg
   cases hh : bx[t]? with
   | none => simp [hh] at hg
   | some y => simp [hh] at hg; rw [hg]
  ·cases h
 ·cases h

theorem cr_list {rd : Reads} {m : Maps} {v : V} {u : Value} (hv : VR rd m v u) {es : List V} (h : cellsOf v = some es) : u.cells.size = es.length ∧ (∀ x ∈ u.cells.toList, x.oneCell' = true) ∧
  ∀ (i : Nat) (c : V) (x : Value), es[i]? = some c → u.cells[i]? = some x → CR rd m c x := by
 obtain ⟨h1, h2⟩ := cells_ok hv h
 refine ⟨h1, fun x hx => ?_, h2⟩
 obtain ⟨i, hi⟩ := List.getElem?_of_mem hx
 have hi2 : u.cells[i]? = some x := by simpa using hi
 have hlt : i < es.length := by have := (Array.getElem?_eq_some_iff.1 hi2).1; omega
 exact (h2 i es[i] x (List.getElem?_eq_getElem hlt) hi2).2

theorem store_ok {P : Program} {cx : Cx} {own : Nat → Prop} {m : Maps} {s : S} {tmps : Array Value} {w : World} (hr : Rel cx own m s tmps w) {p v : V} {pu vu : Value} (hp : VR (Rd own w) m p pu) (hv : VR (Rd own w) m v vu)
  {t n : Nat} (ht : sizeB P t = some n) {s2 : S} (h : storeOf s p v n = some s2) :
  ∃ w2, (Instr.storeAt t pu vu).run P w = .ok () w2 ∧ Rel cx own m s2 tmps w2 := by
 unfold storeOf at h
 split at h
 ·rename_i tt g off
  split at h
  ·rename_i cs hb
   split at h
   ·rename_i ds hds
    simp at h; subst h
    obtain ⟨es, hes, hn, hle, rfl⟩ := storeCells_some hds
    have hbx := boxOf_some hb
    obtain ⟨b, hbt, hown, arr, ty, hw, hsz, hc⟩ := hr.f.box tt g cs hbx
    obtain ⟨hvl, hv1, hvc⟩ := cr_list hv hes
    cases hp with
    | lp _ _ _ b' h' =>
     rw [hbt] at h'; simp at h'; subst h'
     have hrun := run_storeCells_block (P := P) (o := off) hw vu.cells.toList (by simp; omega) hv1
     refine ⟨w.setCells b off vu.cells.toList, ?_, ?_⟩
     ·simp only [Instr.storeAt, Instr.sureAddr, storeVar, Sem.run_bind, Sem.run_pure, Result.andThen_ok, run_sizeB ht]
      rw [if_neg (by omega)]
      simp [hrun]
     ·obtain ⟨arr2, e1, e2, e3, e4, e5⟩ := setCells_heap b vu.cells.toList off w arr hw
      have hoth : Other w (w.setCells b off vu.cells.toList) b := ⟨setCells_io _ _ _ _, by omega, fun x hx _ => e5 x hx⟩
      have hrd := rd_mono (own2 := own) hoth (.inl hown) (fun x hx _ => .inl hx)
      refine hr.boxSet (b := b) hoth (Maps.le.refl m) (fun _ _ h => h) (fun _ _ _ h => h) (fun x => ⟨.inl, fun h => h.elim id (fun e => e ▸ hown)⟩) (.inl hown) ?_ ?_ hbt ?_ (hr.k.bxs tt g cs b hbx hbt) hr.f.fin
      ·intro t2 g2 cs2 h1 hne h2
       exact hne (hr.f.binj t2 g2 cs2 tt g cs b h1 hbx h2 hbt)
      ·intro i x r h1 h2
       exact hr.f.bh tt g cs i x b r hbx h1 hbt h2
      ·refine ⟨arr2, ty, e1, by rw [e2, hsz, over_length _ _ _ (by omega)], fun j c hj => ?_⟩
       rw [over_get _ _ _ _ (by omega)] at hj
       rw [e3]
       simp only [Array.length_toList]
       split at hj
       ·rename_i hi
        have hlt : j - off < vu.cells.size := by omega
        rw [if_pos (by omega)]
        exact ⟨vu.cells[j - off], by simp [hlt], (hvc _ c _ hj (Array.getElem?_eq_getElem hlt)).mono hrd (Maps.le.refl m)⟩
       ·rename_i hi
        obtain ⟨u, hu, hcu⟩ := hc j c hj
        exact ⟨u, by rw [if_neg (by omega)]; exact hu, hcu.mono hrd (Maps.le.refl m)⟩
   ·cases h
  ·cases h
 ·rename_i id i off
  split at h
  ·rename_i sz els hh
   split at h
   ·rename_i cs hel
    split at h
    ·rename_i ds hds
     simp at h; subst h
     obtain ⟨es, hes, hn, hle, rfl⟩ := storeCells_some hds
     obtain ⟨b, ob, C, hsg, hown, arr, ty, hw, hsz, hlc, hwd, hc⟩ := hr.f.heap.arr id sz els hh
     obtain ⟨hvl, hv1, hvc⟩ := cr_list hv hes
     have hcsl := hwd i cs hel
     have hiC : i < C := by have := (List.getElem?_eq_some_iff.1 hel).1; omega
     have hbnd : ob + (i * sz + sz) ≤ arr.size := by
      rw [hsz]
      refine Nat.add_le_add_left ?_ _
      calc i * sz + sz = (i + 1) * sz := by rw [Nat.add_mul, Nat.one_mul]
       _ ≤ C * sz := Nat.mul_le_mul_right _ hiC
     cases hp with
     | ep _ _ _ b' o' sz' C' h' =>
      rw [hsg] at h'; simp at h'; obtain ⟨rfl, rfl, rfl, rfl⟩ := h'
      have hrun := run_storeCells_block (P := P) (o := ob + i * sz + off) hw vu.cells.toList (by simp; omega) hv1
      refine ⟨w.setCells b (ob + i * sz + off) vu.cells.toList, ?_, ?_⟩
      ·simp only [Instr.storeAt, Instr.sureAddr, storeVar, Sem.run_bind, Sem.run_pure, Result.andThen_ok, run_sizeB ht]
       rw [if_neg (by omega)]
       simp [hrun]
      ·obtain ⟨arr2, e1, e2, e3, e4, e5⟩ := setCells_heap b vu.cells.toList (ob + i * sz + off) w arr hw
       have hoth : Other w (w.setCells b (ob + i * sz + off) vu.cells.toList) b := ⟨setCells_io _ _ _ _, by omega, fun x hx _ => e5 x hx⟩
       have hrd := rd_mono (own2 := own) hoth (.inl hown) (fun x hx _ => .inl hx)
       obtain ⟨hkf, hk0⟩ := hr.k.ids id _ b _ hh hsg
       refine hr.heapSet (b := b) (id := id) hoth (Maps.le.refl m) (fun _ _ _ h => h) (fun _ _ _ _ h => h) (fun x => ⟨.inl, fun h => h.elim _root_.id (fun e => e ▸ hown)⟩) (.inl hown) ?_ ?_ ?_ hk0 hkf (hr.k.live id _ hh) hr.f.fin
       ·intro t2 g2 cs2 h1 h2
        exact hr.f.bh t2 g2 cs2 id _ b _ h1 hh h2 hsg
       ·intro k x hk hne
        simp only [Heap.upd, if_neg hne] at hk
        refine ⟨hk, fun r h2 => hne (hr.f.heap.inj k id x _ b _ _ hk hh h2 hsg)⟩
       ·intro x hx
        simp [Heap.upd] at hx
        subst hx
        refine ⟨ob, sz, C, hsg, rfl, arr2, ty, e1, by rw [e2, hsz], by simpa using hlc, ?_, ?_⟩
        ·intro k y hk
         rw [List.getElem?_set] at hk
         split at hk
         ·split at hk
          ·simp at hk; subst hk; rw [over_length _ _ _ (by omega)]; exact hcsl
          ·cases hk
         ·exact hwd k y hk
        ·intro k y j c hk hj
         rw [e3]
         simp only [Array.length_toList]
         have hjsz : j < sz := by
          have hyl : y.length = sz := by
           rw [List.getElem?_set] at hk
           split at hk
           ·split at hk
            ·simp at hk; subst hk; rw [over_length _ _ _ (by omega)]; exact hcsl
            ·cases hk
           ·exact hwd k y hk
          have := (List.getElem?_eq_some_iff.1 hj).1; omega
         rw [List.getElem?_set] at hk
         split at hk
         ·rename_i hki; subst hki
          split at hk
          ·simp at hk; subst hk
           rw [over_get _ _ _ _ (by omega)] at hj
           split at hj
           ·rename_i hi
            have hlt : j - off < vu.cells.size := by omega
            rw [if_pos (by omega)]
            refine ⟨vu.cells[j - off], by rw [show ob + i * sz + j - (ob + i * sz + off) = j - off by omega]; simp [hlt], (hvc _ c _ hj (Array.getElem?_eq_getElem hlt)).mono hrd (Maps.le.refl m)⟩
           ·rename_i hi
            obtain ⟨u, hu, hcu⟩ := hc i cs j c hel hj
            exact ⟨u, by rw [if_neg (by omega)]; exact hu, hcu.mono hrd (Maps.le.refl m)⟩
          ·cases hk
         ·rename_i hki
          obtain ⟨u, hu, hcu⟩ := hc k y j c hk hj
          have hout : ¬ (ob + i * sz + off ≤ ob + k * sz + j ∧ ob + k * sz + j < ob + i * sz + off + vu.cells.size ∧ ob + k * sz + j < arr.size) := by
           intro ⟨ha, hb, _⟩
           rcases Nat.lt_or_gt_of_ne hki with hlt | hgt
           ·have : (i + 1) * sz ≤ k * sz := Nat.mul_le_mul_right _ hlt
            rw [Nat.add_mul, Nat.one_mul] at this; omega
           ·have : (k + 1) * sz ≤ i * sz := Nat.mul_le_mul_right _ hgt
            rw [Nat.add_mul, Nat.one_mul] at this; omega
          exact ⟨u, by rw [if_neg hout]; exact hu, hcu.mono hrd (Maps.le.refl m)⟩
    ·cases h
   ·cases h
  ·cases h
 ·cases h

end Go.Abs
namespace Go.Abs
open Go

def Laid (rd : Reads) (m : Maps) (arr : List Value) (sz : Nat) (els : List (List V)) : Prop :=
 arr.length = els.length * sz ∧ (∀ (i : Nat) (x : List V), els[i]? = some x → x.length = sz) ∧
  ∀ (i : Nat) (x : List V) (j : Nat) (c : V), els[i]? = some x → x[j]? = some c → ∃ u, arr[i * sz + j]? = some u ∧ CR rd m c u

theorem Laid.one {rd : Reads} {m : Maps} {arr : List Value} {sz : Nat} {els : List (List V)} (h : Laid rd m arr sz els) : ∀ v ∈ arr, v.oneCell' = true := by
 intro v hv
 obtain ⟨p, hp⟩ := List.getElem?_of_mem hv
 have hlt : p < els.length * sz := by rw [← h.1]; exact (List.getElem?_eq_some_iff.1 hp).1
 have hsz : 0 < sz := by
  rcases Nat.eq_zero_or_pos sz with h0 | h0
  ·rw [h0] at hlt; simp at hlt
  ·exact h0
 have hi : p / sz < els.length := Nat.div_lt_of_lt_mul (by rw [Nat.mul_comm]; exact hlt)
 have hx := h.2.1 (p / sz) els[p / sz] (List.getElem?_eq_getElem hi)
 have hj : p % sz < els[p / sz].length := by rw [hx]; exact Nat.mod_lt _ hsz
 obtain ⟨u, hu, hc⟩ := h.2.2 (p / sz) els[p / sz] (p % sz) els[p / sz][p % sz] (List.getElem?_eq_getElem hi) (List.getElem?_eq_getElem hj)
 rw [show p / sz * sz + p % sz = p by rw [Nat.mul_comm]; exact Nat.div_add_mod p sz, hp] at hu
 simp at hu; subst hu
 exact hc.2

theorem Laid.append {rd : Reads} {m : Maps} {a1 a2 : List Value} {sz : Nat} {e1 e2 : List (List V)} (h1 : Laid rd m a1 sz e1) (h2 : Laid rd m a2 sz e2) : Laid rd m (a1 ++ a2) sz (e1 ++ e2) := by
 refine ⟨by rw [List.length_append, List.length_append, h1.1, h2.1, Nat.add_mul], ?_, ?_⟩
 ·intro i x hx
  rw [List.getElem?_append] at hx
  split at hx
  ·exact h1.2.1 i x hx
  ·exact h2.2.1 _ x hx
 ·intro i x j c hx hc
  rw [List.getElem?_append] at hx
  split at hx
  ·rename_i hi
   obtain ⟨u, hu, hcu⟩ := h1.2.2 i x j c hx hc
   exact ⟨u, by rw [List.getElem?_append_left (List.getElem?_eq_some_iff.1 hu).1]; exact hu, hcu⟩
  ·rename_i hi
   obtain ⟨u, hu, hcu⟩ := h2.2.2 _ x j c hx hc
   refine ⟨u, ?_, hcu⟩
   have hge : e1.length * sz ≤ i * sz := Nat.mul_le_mul_right _ (by omega)
   rw [List.getElem?_append_right (by rw [h1.1]; omega), h1.1]
   rw [show i * sz + j - e1.length * sz = (i - e1.length) * sz + j by rw [Nat.sub_mul]; omega]
   exact hu

theorem Laid.take {rd : Reads} {m : Maps} {arr : List Value} {sz : Nat} {els : List (List V)} (h : Laid rd m arr sz els) (k : Nat) (hk : k ≤ els.length) : Laid rd m (arr.take (k * sz)) sz (els.take k) := by
 have hle : k * sz ≤ els.length * sz := Nat.mul_le_mul_right _ hk
 refine ⟨by rw [List.length_take, List.length_take, h.1, Nat.min_eq_left hle, Nat.min_eq_left hk], ?_, ?_⟩
 ·intro i x hx
  simp [List.getElem?_take] at hx
  exact h.2.1 i x hx.2
 ·intro i x j c hx hc
  simp [List.getElem?_take] at hx
  obtain ⟨u, hu, hcu⟩ := h.2.2 i x j c hx.2 hc
  refine ⟨u, ?_, hcu⟩
  have hj : j < sz := by rw [← h.2.1 i x hx.2]; exact (List.getElem?_eq_some_iff.1 hc).1
  have : (i + 1) * sz ≤ k * sz := Nat.mul_le_mul_right _ hx.1
  rw [Nat.add_mul, Nat.one_mul] at this
  rw [List.getElem?_take, if_pos (by omega)]
  exact hu

theorem laid_of {rd : Reads} {m : Maps} {w : World} {b o sz : Nat} {els : List (List V)} (hw : ∀ (i : Nat) (x : List V), els[i]? = some x → x.length = sz)
  (h : ∀ (i : Nat) (x : List V) (j : Nat) (c : V), els[i]? = some x → x[j]? = some c → ∃ u, w.cell? ⟨b, o + i * sz + j, none⟩ = some u ∧ CR rd m c u) :
  ∃ arr : List Value, Laid rd m arr sz els ∧ ∀ j v, arr[j]? = some v → w.cell? ⟨b, o + j, none⟩ = some v := by
 induction els generalizing o with
 | nil => exact ⟨[], ⟨by simp, by simp, by simp⟩, by simp⟩
 | cons x els ih =>
  obtain ⟨us, hl, hus⟩ := exists_cells (p := fun j c u => w.cell? ⟨b, o + j, none⟩ = some u ∧ CR rd m c u) x 0 (fun j c hj => by
   have := h 0 x j c rfl hj
   simpa using this)
  have hxl := hw 0 x rfl
  obtain ⟨arr, ha, har⟩ := ih (o := o + sz) (fun i y hy => hw (i + 1) y (by simpa using hy)) (fun i y j c hy hc => by
   have := h (i + 1) y j c (by simpa using hy) hc
   rwa [Nat.add_mul, Nat.one_mul, show o + (i * sz + sz) + j = o + sz + i * sz + j by omega] at this)
  refine ⟨us ++ arr, ?_, ?_⟩
  ·have h1 : Laid rd m us sz [x] := by
    refine ⟨by simp [hl, hxl], fun i y hy => ?_, fun i y j c hy hc => ?_⟩
    ·cases i with
     | zero => simp at hy; subst hy; exact hxl
     | succ i => simp at hy
    ·cases i with
     | zero =>
      simp at hy; subst hy
      have hlt : j < us.length := by rw [hl]; exact (List.getElem?_eq_some_iff.1 hc).1
      exact ⟨us[j], by simp [hlt], (hus j c us[j] hc (List.getElem?_eq_getElem hlt)).2⟩
     | succ i => simp at hy
   exact h1.append ha
  ·intro j v hj
   rw [List.getElem?_append] at hj
   split at hj
   ·rename_i hlt
    have hlt2 : j < x.length := by omega
    have := (hus j x[j] v (List.getElem?_eq_getElem hlt2) hj).1
    simpa using this
   ·rename_i hge
    have := har _ v hj
    rwa [show o + sz + (j - us.length) = o + j by omega] at this

theorem elems_ok {P : Program} {own : Nat → Prop} {m : Maps} {s : S} {tmps : Array Value} {w : World} (hf : FRel own m s tmps w) {y : V} {u : Value} (hv : VR (Rd own w) m y u) {sz : Nat} {new : List (List V)}
  (h : elemsOf s.h y = some new) (hsz : ∀ z ∈ new, z.length = sz) : (Builtin.lenOf u).run P w = .ok new.length w ∧
   ∃ arr : List Value, Laid (Rd own w) m arr sz new ∧ ∀ k, k ≤ new.length → (Builtin.firstCells sz k u).run P w = .ok (arr.take (k * sz)).toArray w := by
 have hload : ∀ (b o : Nat) (arr : List Value), Laid (Rd own w) m arr sz new → (∀ j v, arr[j]? = some v → w.cell? ⟨b, o + j, none⟩ = some v) → ∀ k, k ≤ new.length →
   (loadCells ⟨b, o, none⟩ (k * sz)).run P w = .ok (arr.take (k * sz)).toArray w := by
  intro b o arr hl ha k hk
  have := run_loadCells_list (P := P) (w := w) ⟨b, o, none⟩ (arr.take (k * sz)) (fun j v hj => by
   rw [add_none]
   simp [List.getElem?_take] at hj
   exact ha j v hj.2)
  have hle : k * sz ≤ new.length * sz := Nat.mul_le_mul_right _ hk
  rwa [List.length_take, hl.1, Nat.min_eq_left hle] at this
 have hzero : ∀ a : Addr, (loadCells a 0).run P w = .ok #[] w := fun a => by
  have := run_loadCells_list (P := P) (w := w) a [] (by simp)
  simpa using this
 unfold elemsOf at h
 split at h
 ·simp at h; subst h
  rw [nsl_inv hv]
  refine ⟨by simp [Builtin.lenOf], [], ⟨by simp, by simp, by simp⟩, fun k hk => by simp [Builtin.firstCells]⟩
 ·rename_i sz2 els
  simp at h; subst h
  obtain ⟨a, cap, rfl, hcap, hne⟩ := fsl_inv hv
  refine ⟨by simp [Builtin.lenOf], ?_⟩
  by_cases hz : els = []
  ·subst hz
   refine ⟨[], ⟨by simp, by simp, by simp⟩, fun k hk => ?_⟩
   have hk0 : k = 0 := by simpa using hk
   subst hk0
   cases a with
   | none => simp [Builtin.firstCells]
   | some a => simp [Builtin.firstCells, hzero]
  ·obtain ⟨b, off, rfl, hw, v', hv'⟩ := hne hz
   have hszz : sz2 = sz := by
    cases els with
    | nil => exact absurd rfl hz
    | cons x els => rw [← hw 0 x rfl]; exact hsz x (by simp)
   subst hszz
   obtain ⟨arr, hl, ha⟩ := laid_of (rd := Rd own w) (m := m) (w := w) (b := b) (o := off) (els := els) hw (fun i x j c e1 e2 => ⟨v' i j, (hv' i x j c e1 e2).1.2, (hv' i x j c e1 e2).2⟩)
   exact ⟨arr, hl, fun k hk => by simp [Builtin.firstCells, hload b off arr hl ha k hk]⟩
 ·rename_i id off ln
  split at h
  ·rename_i sz2 els hh
   split at h
   ·rename_i hle
    simp at h
    obtain ⟨b, ob, sz3, C, a, cap, rfl, hsg, hor⟩ := msl_inv hv
    obtain ⟨b2, o2, C2, hsg2, _, arr0, ty, hw, has, hlc, hwd, hc⟩ := hf.heap.arr id sz2 els hh
    rw [hsg] at hsg2; simp at hsg2; obtain ⟨rfl, rfl, rfl, rfl⟩ := hsg2
    have hlen : new.length = ln := by rw [← h]; simp; omega
    refine ⟨by simp [Builtin.lenOf, hlen], ?_⟩
    by_cases hz : new = []
    ·rw [hz]
     refine ⟨[], ⟨by simp, by simp, by simp⟩, fun k hk => ?_⟩
     have hk0 : k = 0 := by simpa using hk
     subst hk0
     simp [Builtin.firstCells, hzero]
    ·rcases hor with ⟨h0, _⟩ | ⟨rfl, _, _⟩
     ·exact absurd (List.eq_nil_of_length_eq_zero (by omega)) hz
     ·have hget : ∀ (i : Nat) (x : List V), new[i]? = some x → els[off + i]? = some x := by
       intro i x hx
       rw [← h] at hx
       simp [List.getElem?_take] at hx
       exact hx.2
      have hszz : sz3 = sz := by
       cases hn : new with
       | nil => exact absurd hn hz
       | cons x r => rw [← hwd (off + 0) x (hget 0 x (by rw [hn]; rfl))]; exact hsz x (by rw [hn]; simp)
      subst hszz
      obtain ⟨arr, hl, ha⟩ := laid_of (rd := Rd own w) (m := m) (w := w) (b := b) (o := ob + off * sz3) (els := new) (fun i x hx => hsz x (List.mem_of_getElem? hx)) (fun i x j c e1 e2 => by
       obtain ⟨u, hu, hcu⟩ := hc (off + i) x j c (hget i x e1) e2
       refine ⟨u, ?_, hcu⟩
       rw [Nat.add_assoc ob, ← Nat.add_mul]
       simp [World.cell?, hw, hu])
      exact ⟨arr, hl, fun k hk => by simp [Builtin.firstCells, hload b (ob + off * sz3) arr hl ha k hk]⟩
   ·cases h
  ·cases h
 ·rename_i st
  simp at h; subst h
  rw [str_inv hv]
  have hstl : st.data.toList.length = st.size := by simp
  refine ⟨by simp [Builtin.lenOf], ?_⟩
  refine ⟨st.data.toList.map fun b => .int .u8 b.toNat, ?_, fun k hk => ?_⟩
  ·by_cases hz : st.data.toList = []
   ·rw [hz]; exact ⟨by simp, by simp, by simp⟩
   ·have h1 : sz = 1 := by
     cases hn : st.data.toList with
     | nil => exact absurd hn hz
     | cons x r => rw [hn] at hsz; exact (hsz [.int .u8 x.toNat] (by simp)).symm
    subst h1
    refine ⟨by simp, fun i x hx => ?_, fun i x j c hx hc => ?_⟩
    ·exact hsz x (List.mem_of_getElem? hx)
    ·rw [List.getElem?_map, Option.map_eq_some_iff] at hx
     obtain ⟨y, hy, rfl⟩ := hx
     cases j with
     | succ j => simp at hc
     | zero =>
      simp at hc; subst hc
      refine ⟨.int .u8 y.toNat, ?_, .int _ _, rfl⟩
      rw [Nat.mul_one, Nat.add_zero, List.getElem?_map, hy]; rfl
  ·simp only [Builtin.firstCells, Sem.run_pure]
   by_cases hz : st.data.toList = []
   ·have hsz0 : st.size = 0 := by rw [← hstl, hz]; rfl
    have hk0 : k = 0 := by simp [hsz0] at hk; exact hk
    subst hk0
    have : (st.extract 0 0).data = #[] := by simp
    rw [this]; simp
   ·have h1 : sz = 1 := by
     cases hn : st.data.toList with
     | nil => exact absurd hn hz
     | cons x r => rw [hn] at hsz; exact (hsz [.int .u8 x.toNat] (by simp)).symm
    subst h1
    congr 1
    apply Array.ext'
    simp [ByteArray.data_extract]
 ·cases h

end Go.Abs
namespace Go.Abs
open Go

def elemOk (P : Program) (e : TypeId) (sz bytes : Nat) : Bool :=
 match P.info? e with
 | some i => i.size == sz && i.bytes == bytes && sz != 0 && (match i.zero with | some z => z.cells.size == sz | none => false)
 | none => false

theorem elemOk_some {P : Program} {e : TypeId} {sz bytes : Nat} (h : elemOk P e sz bytes = true) : ∃ i z, P.info? e = some i ∧ i.size = sz ∧ i.bytes = bytes ∧ sz ≠ 0 ∧ i.zero = some z ∧ z.cells.size = sz := by
 unfold elemOk at h
 split at h
 ·rename_i i hi
  simp only [Bool.and_eq_true, beq_iff_eq, bne_iff_ne] at h
  obtain ⟨⟨⟨h1, h2⟩, h3⟩, h4⟩ := h
  split at h4
  ·rename_i z hz
   exact ⟨i, z, hi, h1, h2, h3, hz, by simpa using h4⟩
  ·cases h4
 ·cases h

inductive AppTo (s : S) : V → Nat → List (List V) → Heap → List Nat → Prop
 | nsl (sz : Nat) : AppTo s .nsl sz [] s.h []
 | msl (id off ln sz : Nat) (els : List (List V)) (hh : s.h id = some (.arr sz els)) (hle : off + ln ≤ els.length) : AppTo s (.msl id off ln) sz ((els.drop off).take ln) (s.h.upd id Option.none) [id]

theorem Heap.upd_none_le (h : Heap) (id : Nat) : (h.upd id Option.none).le h := by
 intro i b hi
 simp only [Heap.upd] at hi
 split at hi
 ·cases hi
 ·exact hi

theorem AppTo.le {s : S} {x : V} {sz : Nat} {old : List (List V)} {h1 : Heap} {L : List Nat} (h : AppTo s x sz old h1 L) : h1.le s.h := by
 cases h with
 | nsl => exact fun _ _ h => h
 | msl id off ln _ els hh hle => exact Heap.upd_none_le _ _

theorem Rel.rename {cx : Cx} {own : Nat → Prop} {m : Maps} {s : S} {tmps : Array Value} {w w2 : World} (hr : Rel cx own m s tmps w) {id b : Nat} {x : Blk} {r : Nat × Nat × Nat} (hh : s.h id = some x) (hsg : m.sg id = some (b, r))
  (hown : own b) (hoth : Other w w2 b) {o2 sz C2 : Nat} {els2 : List (List V)}
  (hat : ∀ m2, m.le m2 → (∀ x o u, Rd own w x o u → Rd own w2 x o u) → ArrAt (Rd own w2) m2 w2 b o2 sz C2 els2) :
  ∃ m2 id2, s.h id2 = none ∧ id2 ≠ id ∧ m.le m2 ∧ m2.sg id2 = some (b, o2, sz, C2) ∧ Rel cx own m2 { s with h := (s.h.upd id Option.none).upd id2 (some (.arr sz els2)) } tmps w2 := by
 obtain ⟨N0, hN1, hN2, hN3⟩ := hr.f.fin
 obtain ⟨N, hN, hNid⟩ : ∃ N, N0 ≤ N ∧ N ≠ id := ⟨N0 + id + 1, by omega, by omega⟩
 have hfresh : m.sg N = none := hN1 N hN
 have hnone : s.h N = none := by
  cases hhN : s.h N with
  | none => rfl
  | some y => obtain ⟨b, o, sz, C, e1, _⟩ := hr.f.heap.blk N y hhN; rw [hfresh] at e1; cases e1
 have hm := Maps.le_setSg (x := (b, o2, sz, C2)) hfresh
 have hsgN : (m.setSg N (b, o2, sz, C2)).sg N = some (b, o2, sz, C2) := by simp [Maps.setSg]
 have hrd := rd_mono (own2 := own) hoth (.inl hown) (fun x hx _ => .inl hx)
 obtain ⟨hkf, hk0⟩ := hr.k.ids id _ b _ hh hsg
 refine ⟨_, N, hnone, hNid, hm, hsgN, ?_⟩
 refine hr.heapSet (b := b) (id := N) hoth hm (fun _ _ _ h => h) (fun _ _ _ _ h => h) (fun x => ⟨.inl, fun h => h.elim _root_.id (fun e => e ▸ hown)⟩) (.inl hown) ?_ ?_ ?_ hk0 hkf (.inl (fresh_sg hr.k.maps hfresh)) ?_
 ·intro t2 g2 cs2 h1 h2
  exact hr.f.bh t2 g2 cs2 id _ b _ h1 hh h2 hsg
 ·intro k x hk hne
  simp only [Heap.upd, if_neg hne] at hk
  split at hk
  ·cases hk
  ·rename_i hkid
   exact ⟨hk, fun r h2 => hkid (hr.f.heap.inj k id x _ b _ _ hk hh h2 hsg)⟩
 ·intro x hx
  simp [Heap.upd] at hx
  subst hx
  exact ⟨o2, sz, C2, hsgN, rfl, hat _ hm hrd⟩
 ·refine ⟨N + 1, fun i hi => ?_, fun t g hg => hN2 t g (by omega), fun i k hi => hN3 i k (by omega)⟩
  simp only [Maps.setSg]
  rw [if_neg (by omega)]
  exact hN1 i (by omega)

theorem grownCap_ge' (w : World) (need old : Nat) (e : TypeId) : need ≤ grownCap w need old e := by simp [grownCap, Question.cut]

theorem append_fit {P : Program} {w w2 : World} {t1 t2 e ty sz n l cap : Nat} {a : Addr} {yu : Value} {arr : Array Value} (hu : P.underlying t1 = some (.slice e))
  (hd : (∃ e2, P.underlying t2 = some (.slice e2)) ∨ P.underlying t2 = some .string) (hsize : (sizeOf e).run P w = .ok sz w) (hlen : (Builtin.lenOf yu).run P w = .ok n w) (hfit : l + n ≤ cap)
  (hnf : (Builtin.firstCells sz n yu).run P w = .ok arr w) (hst : (Go.storeCells (a.add (l * sz)) arr.toList 0).run P w = .ok () w2) :
  (Builtin.append_ #[t1, t2] ty #[.slice (some a) l cap, yu]).run P w = .ok (.slice (some a) (l + n) cap) w2 := by
 rcases hd with ⟨e2, hd⟩ | hd <;> simp [Builtin.append_, run_und hu, run_und hd, hsize, hlen, hfit, hnf, hst]

theorem append_grow {P : Program} {w : World} {t1 t2 e ty sz n l cap : Nat} {base : Option Addr} {yu : Value} {arr old : Array Value} {i : TypeInfo} {z : Value} (hu : P.underlying t1 = some (.slice e))
  (hd : (∃ e2, P.underlying t2 = some (.slice e2)) ∨ P.underlying t2 = some .string) (hi : P.info? e = some i) (hz : i.zero = some z) (hsz : i.size = sz) (hlen : (Builtin.lenOf yu).run P w = .ok n w) (hfit : cap < l + n)
  (hb : Builtin.nextslicecap (l + n) cap * i.bytes ≤ 281474976710656) (h63 : i.bytes ≠ 0)
  (hof : (Builtin.firstCells sz l (.slice base l cap)).run P { w with drawn := w.drawn + 1 } = .ok old { w with drawn := w.drawn + 1 })
  (hnf : (Builtin.firstCells sz n yu).run P { w with drawn := w.drawn + 1 } = .ok arr { w with drawn := w.drawn + 1 }) :
  (Builtin.append_ #[t1, t2] ty #[.slice base l cap, yu]).run P w =
   .ok (.slice (some ⟨w.heap.size, 0, none⟩) (l + n) (grownCap w (l + n) cap e)) (push { w with drawn := w.drawn + 1 } (.cells (old ++ arr ++ Builtin.zeroCells z.cells (grownCap w (l + n) cap e - (l + n))) e)) := by
 have hn : ¬ (l + n ≤ cap) := by omega
 have h48' : ¬ (281474976710656 < Builtin.nextslicecap (l + n) cap * i.bytes) := by omega
 subst hsz
 have hof2 : (Builtin.firstCells i.size l (.slice base l cap)).run P w.drew = .ok old w.drew := hof
 have hnf2 : (Builtin.firstCells i.size n yu).run P w.drew = .ok arr w.drew := hnf
 rw [Array.append_assoc]
 rcases hd with ⟨e2, hd⟩ | hd <;> simp [Builtin.append_, run_und hu, run_und hd, sizeOf, typeInfo, zeroValue, hi, hz, hlen, hn, h63, h48', Question.forced, hof2, hnf2, newRow, grownCap] <;> rfl

set_option maxHeartbeats 800000 in
theorem app_ok {P : Program} {cx : Cx} {own : Nat → Prop} {m : Maps} {s : S} {tmps : Array Value} {w : World} (hr : Rel cx own m s tmps w) {x y : V} {xu yu : Value} (hx : VR (Rd own w) m x xu) (hy : VR (Rd own w) m y yu)
  {t1 t2 e ty sz bytes : Nat} (hu : P.underlying t1 = some (.slice e)) (hb0 : bytes ≠ 0) (ht2 : undB P t2 (fun d => match d with | .slice _ | .string => true | _ => false) = true) (he : elemOk P e sz bytes = true)
  {new : List (List V)} (hn : elemsOf s.h y = some new) (hnz : ∀ z ∈ new, z.length = sz) {old : List (List V)} {h1 : Heap} {L : List Nat} (hto : AppTo s x sz old h1 L)
  (hb : (old.length + new.length) * bytes ≤ 70368744177664) (hne : x = .nsl → new ≠ []) :
  ∃ own2 m2 id u w2, s.h id = none ∧ id ∉ L ∧ (Builtin.append_ #[t1, t2] ty #[xu, yu]).run P w = .ok u w2 ∧
   Rel cx own2 m2 { s with h := h1.upd id (some (.arr sz (old ++ new))) } tmps w2 ∧ VR (Rd own2 w2) m2 (.msl id 0 (old.length + new.length)) u := by
 obtain ⟨inf, z, hinf, his, hib, hs0, hz, hzs⟩ := elemOk_some he
 have hd : (∃ e2, P.underlying t2 = some (.slice e2)) ∨ P.underlying t2 = some .string := by
  obtain ⟨d2, hd2, hdd⟩ := undB_some ht2
  cases d2 <;> simp at hdd
  ·exact .inr hd2
  ·exact .inl ⟨_, hd2⟩
 have hread : ∀ d : Nat, let w1 : World := { w with drawn := d }
   ∃ narr : List Value, Laid (Rd own w) m narr sz new ∧ (Builtin.lenOf yu).run P w1 = .ok new.length w1 ∧ (Builtin.firstCells sz new.length yu).run P w1 = .ok narr.toArray w1 := by
  intro d w1
  have hr1 : Rel cx own m s tmps w1 := hr.heap_eq rfl
  obtain ⟨hlen, narr, hnl, hnf⟩ := elems_ok (P := P) hr1.f (y := y) (u := yu) hy hn hnz
  have hnf1 := hnf new.length (Nat.le_refl _)
  rw [show narr.take (new.length * sz) = narr from List.take_of_length_le (by rw [hnl.1]; exact Nat.le_refl _)] at hnf1
  exact ⟨narr, hnl, hlen, hnf1⟩
 obtain ⟨base, cap, rfl, hcap, hold⟩ : ∃ base cap, xu = .slice base old.length cap ∧ old.length ≤ cap ∧
   ∀ d : Nat, let w1 : World := { w with drawn := d }
   ∃ oarr : List Value, Laid (Rd own w) m oarr sz old ∧ (Builtin.firstCells sz old.length xu).run P w1 = .ok oarr.toArray w1 := by
  cases hto with
  | nsl =>
   rw [nsl_inv hx]
   exact ⟨none, 0, rfl, by simp, fun d => ⟨[], ⟨by simp, by simp, by simp⟩, by simp [Builtin.firstCells]⟩⟩
  | msl id off ln _ els hh hle =>
   have hel : elemsOf s.h (.msl id off ln) = some ((els.drop off).take ln) := by simp [elemsOf, hh, hle]
   obtain ⟨b2, o2, C2, hsg2, _, arr0, ty0, hw, has, hlc, hwd, hc⟩ := hr.f.heap.arr id sz els hh
   have hlen2 : ((els.drop off).take ln).length = ln := by simp; omega
   have hx' := hx
   obtain ⟨b, ob, sz3, C, a, cap, hxu, hsg, hor⟩ := msl_inv hx
   refine ⟨some a, cap, by rw [hlen2]; exact hxu, by rw [hlen2]; rcases hor with h | h <;> omega, fun d => ?_⟩
   intro w1
   have hr1 : Rel cx own m s tmps w1 := hr.heap_eq rfl
   obtain ⟨_, oarr, hol, hof⟩ := elems_ok (P := P) hr1.f (y := .msl id off ln) (u := xu) hx' hel (fun zz hzz => by
    obtain ⟨i, hi⟩ := List.getElem?_of_mem hzz
    simp [List.getElem?_take] at hi
    exact hwd _ zz hi.2)
   refine ⟨oarr, hol, ?_⟩
   have := hof _ (Nat.le_refl _)
   rwa [show oarr.take (((els.drop off).take ln).length * sz) = oarr from List.take_of_length_le (by rw [hol.1]; exact Nat.le_refl _)] at this
 have hsize : ∀ w : World, (sizeOf e).run P w = .ok sz w := fun w => run_sizeB (by simp [sizeB, hinf, his])
 obtain ⟨narr, hnl, hlen, hnf⟩ := hread w.drawn
 by_cases hfit : old.length + new.length ≤ cap
 ·-- there is room
  cases hto with
  | nsl =>
   have := nsl_inv hx
   simp at this
   obtain ⟨_, rfl⟩ := this
   have h0 : new.length = 0 := by simpa using hfit
   exact absurd (List.eq_nil_of_length_eq_zero h0) (hne rfl)
  | msl id off ln _ els hh hle =>
   obtain ⟨b, ob, sz3, C, a, cap', hxe, hsg, hor⟩ := msl_inv hx
   injection hxe with hbase hln hcapp
   subst hcapp; subst hbase
   obtain ⟨b2, o2, C2, hsg2, hown, arr0, ty0, hw, has, hlc, hwd, hc⟩ := hr.f.heap.arr id sz els hh
   rw [hsg] at hsg2; simp at hsg2; obtain ⟨rfl, rfl, rfl, rfl⟩ := hsg2
   have hlen2 : ((els.drop off).take ln).length = ln := by simp; omega
   have hrun : ∀ w2, (Go.storeCells (a.add (((els.drop off).take ln).length * sz3)) narr 0).run P w = .ok () w2 →
     (Builtin.append_ #[t1, t2] ty #[.slice (some a) ((els.drop off).take ln).length cap, yu]).run P w = .ok (.slice (some a) (((els.drop off).take ln).length + new.length) cap) w2 := by
    intro w2 hst
    exact append_fit hu hd (hsize w) hlen hfit hnf hst
   rcases hor with ⟨hl0, hc0⟩ | ⟨rfl, hC, hlc2⟩
   ·-- no room at all: nothing is there, and nothing comes
    have hn0 : new = [] := List.eq_nil_of_length_eq_zero (by omega)
    subst hn0
    have hna : narr = [] := List.eq_nil_of_length_eq_zero (by rw [hnl.1]; simp)
    subst hna
    obtain ⟨m2, id2, e1, e2, e3, e4, e5⟩ := hr.rename (w2 := w) hh hsg hown ⟨Io.refl _, Nat.le_refl _, fun _ _ _ => rfl⟩ (o2 := ob) (sz := sz3) (C2 := C) (els2 := (els.drop off).take ln ++ [])
     (fun m2 hm _ => ⟨arr0, ty0, hw, has, by simp; omega, by rw [hl0]; simp, by rw [hl0]; simp⟩)
    refine ⟨own, m2, id2, _, w, e1, by simpa using e2, hrun w (by simp [Go.storeCells]), e5, ?_⟩
    exact .msl _ _ _ b ob sz3 C a cap e4 (.inl ⟨by rw [hlen2]; simp [hl0], hc0⟩)
   ·rw [hlen2] at hrun hfit
    have hbnd : ob + off * sz3 + ln * sz3 + narr.length ≤ arr0.size := by
     rw [has, hnl.1, Nat.add_assoc, Nat.add_assoc, ← Nat.add_mul, ← Nat.add_mul]
     exact Nat.add_le_add_left (Nat.mul_le_mul_right _ (by omega)) _
    have hst := run_storeCells_block (P := P) (o := ob + off * sz3 + ln * sz3) hw narr hbnd hnl.one
    obtain ⟨arr2, f1, f2, f3, f4, f5⟩ := setCells_heap b narr (ob + off * sz3 + ln * sz3) w arr0 hw
    have hoth : Other w (w.setCells b (ob + off * sz3 + ln * sz3) narr) b := ⟨setCells_io _ _ _ _, by omega, fun x hx _ => f5 x hx⟩
    obtain ⟨m2, id2, e1, e2, e3, e4, e5⟩ := hr.rename (w2 := w.setCells b (ob + off * sz3 + ln * sz3) narr) hh hsg hown hoth (o2 := ob + off * sz3) (sz := sz3) (C2 := cap) (els2 := (els.drop off).take ln ++ new)
     (fun m2 hm hrd => by
      refine ⟨arr2, ty0, f1, by rw [f2, has, ← hC, Nat.add_mul]; omega, by simp; omega, ?_, ?_⟩
      ·intro i y hy
       rw [List.getElem?_append] at hy
       split at hy
       ·simp [List.getElem?_take] at hy
        exact hwd _ y hy.2
       ·exact hnz y (List.mem_of_getElem? hy)
      ·intro i y j c hy hj
       rw [f3]
       rw [List.getElem?_append] at hy
       split at hy
       ·rename_i hi
        rw [hlen2] at hi
        simp [List.getElem?_take] at hy
        obtain ⟨u, hu, hcu⟩ := hc _ y j c hy.2 hj
        have hjs : j < sz3 := by rw [← hwd _ y hy.2]; exact (List.getElem?_eq_some_iff.1 hj).1
        have : (i + 1) * sz3 ≤ ln * sz3 := Nat.mul_le_mul_right _ hi
        rw [Nat.add_mul, Nat.one_mul] at this
        rw [if_neg (by omega)]
        refine ⟨u, ?_, hcu.mono hrd hm⟩
        rw [Nat.add_mul] at hu
        rw [show ob + off * sz3 + i * sz3 + j = ob + (off * sz3 + i * sz3) + j by omega]
        exact hu
       ·rename_i hi
        rw [hlen2] at hi hy
        obtain ⟨u, hu, hcu⟩ := hnl.2.2 _ y j c hy hj
        have hlt := (List.getElem?_eq_some_iff.1 hu).1
        have hsub : (i - ln) * sz3 = i * sz3 - ln * sz3 := Nat.sub_mul _ _ _
        have hge : ln * sz3 ≤ i * sz3 := Nat.mul_le_mul_right _ (by omega)
        refine ⟨u, ?_, hcu.mono hrd hm⟩
        rw [if_pos (by omega), show ob + off * sz3 + i * sz3 + j - (ob + off * sz3 + ln * sz3) = (i - ln) * sz3 + j by omega]
        exact hu)
    rw [hlen2]
    refine ⟨own, m2, id2, _, _, e1, by simpa using e2, hrun _ (by rw [add_none]; exact hst), e5, ?_⟩
    refine .msl _ _ _ b (ob + off * sz3) sz3 cap _ cap e4 (.inr ⟨by simp, by omega, by omega⟩)
 ·-- a new block
  have hcap0 : cap < old.length + new.length := by omega
  obtain ⟨oarr, hol, hof⟩ := hold (w.drawn + 1)
  obtain ⟨narr2, hnl2, hlen2, hnf2⟩ := hread (w.drawn + 1)
  have hbytes := growslice_fits hcap0 (bytes := bytes) (by omega)
  have hgc := grownCap_ge' w (old.length + new.length) cap e
  have hr1 : Rel cx own m s tmps { w with drawn := w.drawn + 1 } := hr.heap_eq rfl
  have hall := hol.append hnl2
  obtain ⟨own2, m2, id2, e1, e2, e3, e4, e5, e6⟩ := hr1.newBlk h1 hto.le
   (.cells (oarr.toArray ++ narr2.toArray ++ Builtin.zeroCells z.cells (grownCap w (old.length + new.length) cap e - (old.length + new.length))) e) sz (grownCap w (old.length + new.length) cap e) (.arr sz (old ++ new))
   (fun own2 m2 id hrd hm _ _ => by
    refine ⟨rfl, _, e, push_get _ _, ?_, by simpa using hgc, hall.2.1, ?_⟩
    ·simp only [Array.size_append, List.size_toArray, Builtin.zeroCells, Array.size_map, Array.size_range, hol.1, hnl2.1, hzs, Nat.zero_add, ← Nat.add_mul]
     congr 1; omega
    ·intro i y j c hy hj
     obtain ⟨u, hu, hcu⟩ := hall.2.2 i y j c hy hj
     refine ⟨u, ?_, hcu.mono hrd hm⟩
     have hlt := (List.getElem?_eq_some_iff.1 hu).1
     rw [Nat.zero_add, Array.getElem?_append_left (by simpa using hlt)]
     simpa using hu) L
  refine ⟨own2, m2, id2, _, _, e1, e2, append_grow hu hd hinf hz his hlen hcap0 (by rw [hib]; exact hbytes) (by rw [hib]; exact hb0) hof hnf2, e6, ?_⟩
  exact .msl _ _ _ w.heap.size 0 sz _ _ _ e3 (.inr ⟨by simp, by omega, hgc⟩)

end Go.Abs
namespace Go.Abs
open Go

theorem flatten_replicate_get (l : List V) : ∀ (n p : Nat), p < n * l.length → ((List.replicate n l).flatten)[p]? = l[p % l.length]?
 | 0, p, h => by simp at h
 | n + 1, p, h => by
  rw [List.replicate_succ, List.flatten_cons]
  rw [List.getElem?_append]
  split
  ·rename_i hp; rw [Nat.mod_eq_of_lt hp]
  ·rename_i hp
   rw [Nat.add_mul, Nat.one_mul] at h
   rw [flatten_replicate_get l n (p - l.length) (by omega)]
   congr 1; exact (Nat.mod_eq_sub_mod (by omega)).symm

theorem flatten_replicate_length (l : List V) (n : Nat) : ((List.replicate n l).flatten).length = n * l.length := by
 induction n with
 | zero => simp
 | succ n ih => rw [List.replicate_succ, List.flatten_cons, List.length_append, ih, Nat.add_mul, Nat.one_mul, Nat.add_comm]

theorem zeros_get {z : Value} {zero : List V} {n : Nat} (hz : z.cells.size = zero.length) (h0 : zero.length ≠ 0) (p : Nat) (hp : p < n) :
  ((Array.range n).map (fun i => z.cells[i % z.cells.size]!))[p]? = z.cells[p % zero.length]? := by
 have hlt : p % zero.length < z.cells.size := by rw [hz]; exact Nat.mod_lt _ (by omega)
 simp [hp, hz, Array.getElem!_eq_getD, Array.getD_eq_getD_getElem?]
 rw [Array.getElem?_eq_getElem hlt]; rfl

theorem makeSlice_run {P : Program} {w : World} {t e sz bytes : Nat} {z : Value} {a b : Int} {k1 k2 : IntKind} (hu : P.underlying t = some (.slice e)) (hs : sizeB P e = some sz) {inf : TypeInfo} (hi : P.info? e = some inf) (hb : inf.bytes = bytes) (hz : inf.zero = some z)
  (h0 : 0 ≤ a) (hab : a ≤ b) (hbb : b * bytes ≤ 140737488355328) (h63 : b < 9223372036854775808) (hne : b.toNat * sz ≠ 0) :
  (Instr.makeSlice t (.int k1 a) (.int k2 b)).run P w =
   .ok (.slice (some ⟨w.heap.size, 0, none⟩) a.toNat b.toNat) (push w (.cells ((Array.range (b.toNat * sz)).map (fun i => z.cells[i % z.cells.size]!)) e)) := by
 have e1 : IntKind.i64.wrap a = a := IntWalk.i64_in _ (by omega)
 have e2 : IntKind.i64.wrap b = b := IntWalk.i64_in _ (by omega)
 have hbb2 : ¬ ((bytes : Int) * b > 281474976710656) := by rw [Int.mul_comm]; omega
 have hti : (typeInfo e).run P w = .ok inf w := by simp [typeInfo, hi]
 have hzv : ∀ w : World, (zeroValue e).run P w = .ok z w := fun w => by simp [zeroValue, typeInfo, hi, hz]
 have hb0 : ¬ b < 0 := by omega
 have ha0 : ¬ a < 0 := by omega
 have hab2 : ¬ a > b := by omega
 have hs2 : ∀ w : World, (sizeOf e).run P w = .ok sz w := fun w => run_sizeB hs
 unfold Instr.makeSlice
 simp only [asInt, asIntOf, Sem.run_bind, run_und hu, Result.andThen_ok, Sem.run_pure, hti, e1, e2, hb]
 have hbig : (2 : Int) ^ 48 = 281474976710656 := by decide
 simp only [hbig, hb0, hbb2, ha0, hab2, decide_false, Bool.or_false, Bool.false_eq_true, if_false]
 simp [hs2, hne, hzv, newRow, push]

theorem mks_ok {P : Program} {cx : Cx} {own : Nat → Prop} {m : Maps} {s : S} {tmps : Array Value} {w : World} (hr : Rel cx own m s tmps w) {t e sz bytes : Nat} {zero : List V} {a b : Int} {k1 k2 : IntKind}
  (hu : P.underlying t = some (.slice e)) (he : elemOk P e sz bytes = true) (hz : zeroOk P e zero = true) (h0 : 0 ≤ a) (hab : a ≤ b) (hbb : b * bytes ≤ 140737488355328) (h63 : b < 9223372036854775808) :
  ∃ own2 m2 id u w2, s.h id = none ∧ (Instr.makeSlice t (.int k1 a) (.int k2 b)).run P w = .ok u w2 ∧
   Rel cx own2 m2 { s with h := s.h.upd id (some (.arr sz (List.replicate a.toNat zero))) } tmps w2 ∧ VR (Rd own2 w2) m2 (.msl id 0 a.toNat) u := by
 obtain ⟨inf, z, hinf, his, hib, hs0, hzi, hzs⟩ := elemOk_some he
 obtain ⟨z2, hzr, hzl, hzc⟩ := zero_run (P := P) (w := w) hz (rd := Rd own w) (m := m)
 have hzz : z2 = z := by
  have : (zeroValue e).run P w = .ok z w := by simp [zeroValue, typeInfo, hinf, hzi]
  rw [this] at hzr; injection hzr with h1 h2; exact h1.symm
 subst hzz
 have hzlen : zero.length = sz := by rw [← hzl, hzs]
 by_cases hne : b.toNat * sz = 0
 ·-- nothing is made: an empty row
  have hb0 : b = 0 := by
   rcases Nat.mul_eq_zero.1 hne with h | h
   ·omega
   ·exact absurd h hs0
  subst hb0
  have ha0 : a = 0 := by omega
  subst ha0
  obtain ⟨own2, m2, id, e1, _, e3, e4, e5, e6⟩ := hr.newBlk s.h (fun _ _ h => h) (.cells #[] e) sz 0 (.arr sz [])
   (fun own2 m2 id hrd hm _ _ => ⟨rfl, #[], e, push_get _ _, by simp, by simp, by simp, by simp⟩) []
  refine ⟨own2, m2, id, .slice (some ⟨w.heap.size, 0, none⟩) 0 0, _, e1, ?_, e6, .msl _ _ _ w.heap.size 0 sz 0 _ _ e3 (.inl ⟨rfl, rfl⟩)⟩
  have e0 : IntKind.i64.wrap 0 = 0 := by decide
  have hs2 : ∀ w : World, (sizeOf e).run P w = .ok sz w := fun w => run_sizeB (by simp [sizeB, hinf, his])
  simp [Instr.makeSlice, run_und hu, asInt, asIntOf, e0, typeInfo, hinf, hs2, newRow, push]
  congr 2
  apply Array.ext'; simp
 ·have hlen : ((Array.range (b.toNat * sz)).map (fun i => z2.cells[i % z2.cells.size]!)).size = b.toNat * sz := by simp
  obtain ⟨own2, m2, id, e1, _, e3, e4, e5, e6⟩ := hr.newBlk s.h (fun _ _ h => h) (.cells ((Array.range (b.toNat * sz)).map (fun i => z2.cells[i % z2.cells.size]!)) e) sz b.toNat (.arr sz (List.replicate a.toNat zero))
   (fun own2 m2 id hrd hm _ _ => by
    refine ⟨rfl, _, e, push_get _ _, by rw [hlen]; omega, by simp; omega, ?_, ?_⟩
    ·intro i x hx
     have := List.eq_of_mem_replicate (List.mem_of_getElem? hx)
     rw [this, hzlen]
    ·intro i x j c hx hj
     have hx2 := List.eq_of_mem_replicate (List.mem_of_getElem? hx)
     subst hx2
     have hi : i < a.toNat := by have := (List.getElem?_eq_some_iff.1 hx).1; simpa using this
     have hjl : j < sz := by rw [← hzlen]; exact (List.getElem?_eq_some_iff.1 hj).1
     have hp : i * sz + j < b.toNat * sz := by
      have : (i + 1) * sz ≤ b.toNat * sz := Nat.mul_le_mul_right _ (by omega)
      rw [Nat.add_mul, Nat.one_mul] at this; omega
     have hjz : j < z2.cells.size := by omega
     refine ⟨z2.cells[j], ?_, (hzc j c _ hj (Array.getElem?_eq_getElem hjz)).mono hrd hm⟩
     rw [Nat.zero_add, zeros_get hzl (by omega) _ hp, hzlen]
     rw [show (i * sz + j) % sz = j by rw [Nat.mul_comm, Nat.mul_add_mod]; exact Nat.mod_eq_of_lt hjl]
     exact Array.getElem?_eq_getElem hjz) []
  refine ⟨own2, m2, id, _, _, e1, makeSlice_run hu (by simp [sizeB, hinf, his]) hinf hib hzi h0 hab hbb h63 hne, e6, ?_⟩
  exact .msl _ _ _ w.heap.size 0 sz b.toNat _ _ e3 (.inr ⟨by simp, by omega, by omega⟩)

def partsS (sz : Nat) : List (Nat × Nat × Opd) → List (Nat × Operand) → Bool
 | [], [] => true
 | (off, n, x) :: l, (i, y) :: r => chkOpd x y && off == i * sz && n == sz && partsS sz l r
 | _, _ => false

theorem partsS_get {sz : Nat} : ∀ {ps : List (Nat × Nat × Opd)} {qs : List (Nat × Operand)}, partsS sz ps qs = true → ps.length = qs.length ∧
  ∀ (i off n : Nat) (x : Opd) (j : Nat) (y : Operand), ps[i]? = some (off, n, x) → qs[i]? = some (j, y) → chkOpd x y = true ∧ some (j * sz, sz) = some (off, n)
 | [], [], _ => ⟨rfl, by simp⟩
 | (off, n, x) :: ps, (j, y) :: qs, h => by
  simp only [partsS, Bool.and_eq_true, beq_iff_eq] at h
  obtain ⟨⟨⟨h1, rfl⟩, rfl⟩, h4⟩ := h
  obtain ⟨hl, hr⟩ := partsS_get h4
  refine ⟨by simp [hl], ?_⟩
  intro i off' n' x' j' y' e1 e2
  cases i with
  | zero => simp at e1 e2; obtain ⟨rfl, rfl, rfl⟩ := e1; obtain ⟨rfl, rfl⟩ := e2; exact ⟨h1, rfl⟩
  | succ i => exact hr i off' n' x' j' y' (by simpa using e1) (by simpa using e2)
 | [], _ :: _, h => by simp [partsS] at h
 | _ :: _, [], h => by simp [partsS] at h

theorem bsl_ok {P : Program} {cx : Cx} {own : Nat → Prop} {m : Maps} {s : S} {a : Act} {w : World} (hr : Rel cx own m s a.tmps w) {t e sz len : Nat} {zero : List V} {parts : List (Nat × Nat × Opd)} {ps : Array (Nat × Operand)}
  (hu : P.underlying t = some (.slice e)) (hsz : sizeB P e = some sz) (hz : zeroOk P e zero = true) (hzl : zero.length = sz) (hs0 : sz ≠ 0) (h24 : len * sz ≤ 16777216) (hp : partsS sz parts ps.toList = true)
  {cs : List V} (h : Abs.fill s.env ((List.replicate len zero).flatten) parts = some cs) :
  ∃ own2 m2 id u w2, s.h id = none ∧ (Instr.buildSlice t len (ps.map fun x => (x.1, a.eval x.2))).run P w = .ok u w2 ∧
   Rel cx own2 m2 { s with h := s.h.upd id (some (.arr sz ((List.range len).map fun i => (cs.drop (i * sz)).take sz))) } a.tmps w2 ∧ VR (Rd own2 w2) m2 (.msl id 0 len) u := by
 obtain ⟨z, hzr, hzs, hzc⟩ := zero_run (P := P) (w := w) hz (rd := Rd own w) (m := m)
 obtain ⟨hpl, hpg⟩ := partsS_get hp
 obtain ⟨us, hus, hue, husl, husc⟩ : ∃ us : Array Value, (if len * sz = 0 then (pure #[] : Sem (Array Value)) else do pure (← zeroValue e).cells).run P w = .ok (if len * sz = 0 then #[] else z.cells) w ∧
   us = (Array.range (len * sz)).map (fun i => (if len * sz = 0 then #[] else z.cells)[i % (if len * sz = 0 then #[] else z.cells).size]!) ∧
   us.size = ((List.replicate len zero).flatten).length ∧ ∀ (i : Nat) (c : V) (u : Value), ((List.replicate len zero).flatten)[i]? = some c → us[i]? = some u → CR (Rd own w) m c u := by
  refine ⟨_, ?_, rfl, by rw [flatten_replicate_length, hzl]; simp, ?_⟩
  ·split <;> simp [hzr]
  ·intro i c u hc hu
   have hi : i < len * zero.length := by
    have := (List.getElem?_eq_some_iff.1 hc).1; rwa [flatten_replicate_length] at this
   have hne : len * sz ≠ 0 := by rw [← hzl]; omega
   rw [flatten_replicate_get _ _ _ hi] at hc
   simp only [if_neg hne] at hu
   rw [zeros_get hzs (by omega) i (by rw [← hzl]; exact hi)] at hu
   exact hzc _ c u hc hu
 obtain ⟨res, hfr, hrs, hrc⟩ := fill_ok hr.f (fun i => some (i * sz, sz)) parts ps.toList _ us cs hpl hpg husl husc h
 have hcl : cs.length = len * sz := by
  have : ∀ (ps : List (Nat × Nat × Opd)) (cs out : List V), Abs.fill s.env cs ps = some out → out.length = cs.length := by
   intro ps
   induction ps with
   | nil => intro cs out h; simp [Abs.fill] at h; rw [h]
   | cons p ps ih =>
    obtain ⟨off, n, x⟩ := p
    intro cs out h
    simp only [Abs.fill] at h
    split at h
    ·split at h
     ·rename_i hc; rw [ih _ _ h, over_length _ _ _ (by omega)]
     ·cases h
    ·cases h
  rw [this _ _ _ h, flatten_replicate_length, hzl]
 obtain ⟨own2, m2, id, e1, _, e3, e4, e5, e6⟩ := hr.newBlk s.h (fun _ _ h => h) (.cells res e) sz len (.arr sz ((List.range len).map fun i => (cs.drop (i * sz)).take sz))
  (fun own2 m2 id hrd hm _ _ => by
   refine ⟨rfl, res, e, push_get _ _, by rw [hrs, hcl]; omega, by simp, ?_, ?_⟩
   ·intro i x hx
    simp only [List.getElem?_map, Option.map_eq_some_iff] at hx
    obtain ⟨k, hk, rfl⟩ := hx
    have hkl : k < len := by
     have := List.mem_of_getElem? hk; simpa using this
    have : (k + 1) * sz ≤ len * sz := Nat.mul_le_mul_right _ hkl
    rw [Nat.add_mul, Nat.one_mul] at this
    simp; omega
   ·intro i x j c hx hj
    simp only [List.getElem?_map, Option.map_eq_some_iff] at hx
    obtain ⟨k, hk, rfl⟩ := hx
    have hki : k = i := by
     have := (List.getElem?_eq_some_iff.1 hk).2; simpa using this.symm
    subst hki
    simp [List.getElem?_take] at hj
    have hlt : k * sz + j < res.size := by rw [hrs]; exact (List.getElem?_eq_some_iff.1 hj.2).1
    exact ⟨res[k * sz + j], by rw [Nat.zero_add]; exact Array.getElem?_eq_getElem hlt, (hrc _ c _ hj.2 (Array.getElem?_eq_getElem hlt)).mono hrd hm⟩) []
 refine ⟨own2, m2, id, .slice (some ⟨w.heap.size, 0, none⟩) len len, _, e1, ?_, e6, .msl _ _ _ w.heap.size 0 sz len _ _ e3 (.inr ⟨by simp, by omega, Nat.le_refl _⟩)⟩
 unfold Instr.buildSlice
 have hbig : (2 : Nat) ^ 24 = 16777216 := by decide
 simp only [Sem.run_bind, run_und hu, Result.andThen_ok, run_sizeB hsz, hbig]
 rw [if_neg (by omega)]
 rw [show (Array.map (fun x : Nat × Operand => (x.1, a.eval x.2)) ps).toList = ps.toList.map (fun x => (x.1, a.eval x.2)) by simp]
 split
 ·rename_i hc
  simp only [if_pos hc] at hue
  simp only [Sem.run_bind, Sem.run_pure, Result.andThen_ok]
  rw [← hue, hfr]
  simp [newRow, push]
 ·rename_i hc
  simp only [if_neg hc] at hue
  simp only [Sem.run_bind, Sem.run_pure, Result.andThen_ok, hzr]
  rw [← hue, hfr]
  simp [newRow, push]

theorem copy_run {P : Program} {w w2 : World} {t1 t2 e ty sz n dl cap : Nat} {a : Addr} {yu : Value} {arr : Array Value} (hu : P.underlying t1 = some (.slice e)) (hsize : (sizeOf e).run P w = .ok sz w)
  (hlen : (Builtin.lenOf yu).run P w = .ok n w) (hnf : (Builtin.firstCells sz (min n dl) yu).run P w = .ok arr w) (hst : (Go.storeCells a arr.toList 0).run P w = .ok () w2) :
  (Builtin.copy_ #[t1, t2] ty #[.slice (some a) dl cap, yu]).run P w = .ok (.int .i64 (min n dl : Nat)) w2 := by
 have hnf' : (Builtin.firstCells sz (Nat.min n dl) yu).run P w = .ok arr w := hnf
 simp only [Builtin.copy_, List.getElem?_toArray, List.getElem?_cons_zero, List.getElem?_cons_succ, Sem.run_bind, run_und hu, Result.andThen_ok, hlen, hsize, hnf', hst, Sem.run_pure, goInt]

theorem cpy_ok {P : Program} {cx : Cx} {own : Nat → Prop} {m : Maps} {s : S} {tmps : Array Value} {w : World} (hr : Rel cx own m s tmps w) {id off ln : Nat} {y : V} {xu yu : Value} (hx : VR (Rd own w) m (.msl id off ln) xu) (hy : VR (Rd own w) m y yu)
  {t1 t2 e ty sz : Nat} (hu : P.underlying t1 = some (.slice e)) (hsz : sizeB P e = some sz) {els new : List (List V)} (hh : s.h id = some (.arr sz els)) (hle : off + ln ≤ els.length)
  (hn : elemsOf s.h y = some new) (hnz : ∀ z ∈ new, z.length = sz) :
  ∃ w2, (Builtin.copy_ #[t1, t2] ty #[xu, yu]).run P w = .ok (.int .i64 (min new.length ln : Nat)) w2 ∧
   Rel cx own m { s with h := s.h.upd id (some (.arr sz (els.take off ++ new.take ln ++ els.drop (off + min new.length ln)))) } tmps w2 := by
 obtain ⟨hlen, narr, hnl, hnf⟩ := elems_ok (P := P) hr.f hy hn hnz
 obtain ⟨b, ob, sz3, C, a, cap, rfl, hsg, hor⟩ := msl_inv hx
 obtain ⟨b2, o2, C2, hsg2, hown, arr0, ty0, hw, has, hlc, hwd, hc⟩ := hr.f.heap.arr id sz els hh
 rw [hsg] at hsg2; simp at hsg2; obtain ⟨rfl, rfl, rfl, rfl⟩ := hsg2
 have hk : min new.length ln ≤ new.length := Nat.min_le_left _ _
 have hkl : min new.length ln ≤ ln := Nat.min_le_right _ _
 have hnf1 := hnf _ hk
 have htk := hnl.take _ hk
 have hnt : new.take ln = new.take (min new.length ln) := by
  rw [Nat.min_comm, ← List.take_take]
  simp
 obtain ⟨hkf, hk0⟩ := hr.k.ids id _ b _ hh hsg
 rcases hor with ⟨hl0, hc0⟩ | ⟨rfl, hC, hlc2⟩
 ·have hm0 : min new.length ln = 0 := by omega
  have hall : els.take off ++ new.take ln ++ els.drop (off + min new.length ln) = els := by rw [hm0, hl0]; simp
  refine ⟨w, copy_run hu (run_sizeB hsz) hlen hnf1 (by rw [hm0]; simp [Go.storeCells]), ?_⟩
  rw [hall]
  have : s.h.upd id (some (.arr sz3 els)) = s.h := by
   funext i; simp only [Heap.upd]; split
   ·rename_i e; subst e; exact hh.symm
   ·rfl
  rw [this]; exact hr
 ·have hbnd : ob + off * sz3 + (narr.take (min new.length ln * sz3)).length ≤ arr0.size := by
   rw [htk.1, List.length_take, has, Nat.add_assoc, ← Nat.add_mul]
   exact Nat.add_le_add_left (Nat.mul_le_mul_right _ (by omega)) _
  have hst := run_storeCells_block (P := P) (o := ob + off * sz3) hw _ hbnd htk.one
  obtain ⟨arr2, f1, f2, f3, f4, f5⟩ := setCells_heap b (narr.take (min new.length ln * sz3)) (ob + off * sz3) w arr0 hw
  have hoth : Other w (w.setCells b (ob + off * sz3) (narr.take (min new.length ln * sz3))) b := ⟨setCells_io _ _ _ _, by omega, fun x hx _ => f5 x hx⟩
  have hrd := rd_mono (own2 := own) hoth (.inl hown) (fun x hx _ => .inl hx)
  refine ⟨_, copy_run hu (run_sizeB hsz) hlen hnf1 hst, ?_⟩
  have hlt : (narr.take (min new.length ln * sz3)).length = min new.length ln * sz3 := by rw [htk.1, List.length_take, Nat.min_eq_left hk]
  refine hr.heapSet (b := b) (id := id) hoth (Maps.le.refl m) (fun _ _ _ h => h) (fun _ _ _ _ h => h) (fun x => ⟨.inl, fun h => h.elim _root_.id (fun e => e ▸ hown)⟩) (.inl hown) ?_ ?_ ?_ hk0 hkf (hr.k.live id _ hh) hr.f.fin
  ·intro t2 g2 cs2 h1 h2
   exact hr.f.bh t2 g2 cs2 id _ b _ h1 hh h2 hsg
  ·intro k x hk hne
   simp only [Heap.upd, if_neg hne] at hk
   exact ⟨hk, fun r h2 => hne (hr.f.heap.inj k id x _ b _ _ hk hh h2 hsg)⟩
  ·intro x hx
   have hxe : x = .arr sz3 (els.take off ++ new.take ln ++ els.drop (off + min new.length ln)) := by
    have : some (Blk.arr sz3 (els.take off ++ new.take ln ++ els.drop (off + min new.length ln))) = some x := by
      rw [← hx]; simp only [Heap.upd, if_true]
    injection this with this; exact this.symm
   subst hxe
   have hget : ∀ i, (els.take off ++ new.take ln ++ els.drop (off + min new.length ln))[i]? = if off ≤ i ∧ i < off + min new.length ln then new[i - off]? else els[i]? := by
    intro i
    rw [hnt, List.append_assoc, List.getElem?_append]
    simp only [List.length_take, show min off els.length = off by omega]
    split
    ·rename_i hi
     rw [if_neg (by omega), List.getElem?_take, if_pos hi]
    ·rename_i hi
     rw [List.getElem?_append]
     simp only [List.length_take, show min (min new.length ln) new.length = min new.length ln by omega]
     split
     ·rename_i h2; rw [if_pos (by omega), List.getElem?_take, if_pos h2]
     ·rename_i h2
      rw [if_neg (by omega), List.getElem?_drop]
      congr 1; omega
   refine ⟨ob, sz3, C, hsg, rfl, arr2, ty0, f1, by rw [f2, has], by simp; omega, ?_, ?_⟩
   ·intro i y hy
    rw [hget] at hy
    split at hy
    ·exact hnz y (List.mem_of_getElem? hy)
    ·exact hwd i y hy
   ·intro i y j c hy hj
    have hyl : y.length = sz3 := by
     rw [hget] at hy
     split at hy
     ·exact hnz y (List.mem_of_getElem? hy)
     ·exact hwd i y hy
    have hjs : j < sz3 := by rw [← hyl]; exact (List.getElem?_eq_some_iff.1 hj).1
    rw [hget] at hy
    rw [f3, hlt]
    split at hy
    ·rename_i hi
     obtain ⟨u, hu, hcu⟩ := hnl.2.2 _ y j c hy hj
     have hsub : (i - off) * sz3 = i * sz3 - off * sz3 := Nat.sub_mul _ _ _
     have hge : off * sz3 ≤ i * sz3 := Nat.mul_le_mul_right _ hi.1
     have h2 : (i + 1) * sz3 ≤ (off + min new.length ln) * sz3 := Nat.mul_le_mul_right _ hi.2
     rw [Nat.add_mul, Nat.one_mul, Nat.add_mul] at h2
     have h3 : i * sz3 + sz3 ≤ C * sz3 := by
      have : (i + 1) * sz3 ≤ C * sz3 := Nat.mul_le_mul_right _ (by omega)
      rwa [Nat.add_mul, Nat.one_mul] at this
     refine ⟨u, ?_, hcu.mono hrd (Maps.le.refl m)⟩
     rw [if_pos (by rw [has]; omega), List.getElem?_take, if_pos (by omega), show ob + i * sz3 + j - (ob + off * sz3) = (i - off) * sz3 + j by omega]
     exact hu
    ·rename_i hi
     obtain ⟨u, hu, hcu⟩ := hc i y j c hy hj
     refine ⟨u, ?_, hcu.mono hrd (Maps.le.refl m)⟩
     rw [if_neg]
     ·exact hu
     ·intro ⟨h1, h2, _⟩
      apply hi
      constructor
      ·rcases Nat.lt_or_ge i off with h | h
       ·have : (i + 1) * sz3 ≤ off * sz3 := Nat.mul_le_mul_right _ h
        rw [Nat.add_mul, Nat.one_mul] at this; omega
       ·exact h
      ·rcases Nat.lt_or_ge i (off + min new.length ln) with h | h
       ·exact h
       ·have : (off + min new.length ln) * sz3 ≤ i * sz3 := Nat.mul_le_mul_right _ h
        rw [Nat.add_mul] at this; omega

end Go.Abs
namespace Go.Abs
open Go

def HOwn (m : Maps) (h : Heap) (b : Nat) : Prop := ∃ id x r, h id = some x ∧ m.sg id = some (b, r)

def Lent (m : Maps) (h : Heap) (ids : Nat → Prop) (b : Nat) : Prop := ∃ id x r, ids id ∧ h id = some x ∧ m.sg id = some (b, r)

theorem Lent.own {own : Nat → Prop} {m : Maps} {h : Heap} {w : World} (hr : HRel own m h w) {ids : Nat → Prop} {b : Nat} (hl : Lent m h ids b) : own b := by
 obtain ⟨id, x, r, _, h1, h2⟩ := hl
 obtain ⟨b2, o, sz, C, e1, e2, _⟩ := hr.blk id x h1
 rw [e1] at h2; simp at h2
 rw [← h2.1]; exact e2

theorem HOwn.own {own : Nat → Prop} {m : Maps} {h : Heap} {w : World} (hr : HRel own m h w) {b : Nat} (hl : HOwn m h b) : own b := by
 obtain ⟨id, x, r, h1, h2⟩ := hl
 obtain ⟨b2, o, sz, C, e1, e2, _⟩ := hr.blk id x h1
 rw [e1] at h2; simp at h2
 rw [← h2.1]; exact e2

theorem frz_ok {own own2 : Nat → Prop} {m : Maps} {h : Heap} {w : World} {ids : Nat → Prop} (hr : HRel own m h w) (ho : ∀ b, own2 b → own b ∧ ¬ Lent m h ids b) {v v2 : V} (hf : Frz h ids v v2) :
  ∀ {u : Value}, VR (Rd own w) m v u → VR (Rd own2 w) m v2 u := by
 have hrd : ∀ b o u, Rd own w b o u → Rd own2 w b o u := fun b o u ⟨h1, h2⟩ => ⟨fun h3 => h1 (ho b h3).1, h2⟩
 induction hf with
 | same v => exact fun hv => hv.mono hrd (Maps.le.refl m)
 | nsl sz => intro u hv; rw [nsl_inv hv]; exact .fsl0 _ _ _
 | agg cs ds hl _ ih =>
  intro u hv
  cases hv with
  | agg _ us hs h1 hf =>
   refine .agg ds us (by omega) h1 fun i c u hc hu => ?_
   have hi : i < cs.length := by have := (List.getElem?_eq_some_iff.1 hc).1; omega
   exact ih i cs[i] c (List.getElem?_eq_getElem hi) hc (hf i cs[i] u (List.getElem?_eq_getElem hi) hu)
 | tup cs ds hl _ ih =>
  intro u hv
  cases hv with
  | tup _ us hs hf =>
   refine .tup ds us (by omega) fun i c u hc hu => ?_
   have hi : i < cs.length := by have := (List.getElem?_eq_some_iff.1 hc).1; omega
   exact ih i cs[i] c (List.getElem?_eq_getElem hi) hc (hf i cs[i] u (List.getElem?_eq_getElem hi) hu)
 | fsl sz els out hlen hw _ ih =>
  intro u hv
  obtain ⟨a, cap, rfl, hcap, hne⟩ := fsl_inv hv
  rw [← hlen]
  by_cases hz : els = []
  ·have : out = [] := List.eq_nil_of_length_eq_zero (by rw [hlen, hz]; rfl)
   subst this; exact .fsl0 _ _ _
  ·obtain ⟨b, off, rfl, hwd, v', hv'⟩ := hne hz
   have hget : ∀ (i : Nat) (y : List V), out[i]? = some y → ∃ x, els[i]? = some x ∧ y.length = x.length := by
    intro i y hy
    have hi : i < els.length := by have := (List.getElem?_eq_some_iff.1 hy).1; omega
    exact ⟨els[i], List.getElem?_eq_getElem hi, hw i _ y (List.getElem?_eq_getElem hi) hy⟩
   have hget2 : ∀ (i : Nat) (y : List V) (j : Nat) (c : V), out[i]? = some y → y[j]? = some c → ∃ x d, els[i]? = some x ∧ x[j]? = some d := by
    intro i y j c hy hj
    obtain ⟨x, hx, hxl⟩ := hget i y hy
    have hjl : j < x.length := by have := (List.getElem?_eq_some_iff.1 hj).1; omega
    exact ⟨x, x[j], hx, List.getElem?_eq_getElem hjl⟩
   refine .fsl sz out b off cap v' (by omega) (fun i y hy => ?_) (fun i y j c hy hj => ?_) (fun i y j c hy hj => ?_) (fun i y j c hy hj => ?_)
   ·obtain ⟨x, hx, hxl⟩ := hget i y hy; rw [hxl]; exact hwd i x hx
   ·obtain ⟨x, d, hx, hd⟩ := hget2 i y j c hy hj; exact hrd _ _ _ (hv' i x j d hx hd).1
   ·obtain ⟨x, d, hx, hd⟩ := hget2 i y j c hy hj; exact (hv' i x j d hx hd).2.2
   ·obtain ⟨x, d, hx, hd⟩ := hget2 i y j c hy hj; exact ih i x y j d c hx hy hd hj (hv' i x j d hx hd).2.1
 | msl id off ln sz els out hid hb hle hlen hw _ ih =>
  intro u hv
  obtain ⟨b, ob, sz3, C, a, cap, rfl, hsg, hor⟩ := msl_inv hv
  obtain ⟨b2, o2, C2, hsg2, hown, arr0, ty0, hwb, has, hlc, hwd, hc⟩ := hr.arr id sz els hb
  rw [hsg] at hsg2; simp at hsg2; obtain ⟨rfl, rfl, rfl, rfl⟩ := hsg2
  rw [← hlen]
  by_cases hz : out = []
  ·subst hz; exact .fsl0 _ _ _
  ·have hpos : 0 < out.length := List.length_pos_iff.2 hz
   rcases hor with ⟨h0, _⟩ | ⟨rfl, hC, hlc2⟩
   ·omega
   ·have hget : ∀ (i : Nat) (y : List V), out[i]? = some y → ∃ x, els[off + i]? = some x ∧ y.length = x.length := by
     intro i y hy
     have hi : off + i < els.length := by have := (List.getElem?_eq_some_iff.1 hy).1; omega
     exact ⟨els[off + i], List.getElem?_eq_getElem hi, hw i _ y (List.getElem?_eq_getElem hi) hy⟩
    have hget2 : ∀ (i : Nat) (y : List V) (j : Nat) (c : V), out[i]? = some y → y[j]? = some c → ∃ x d u, els[off + i]? = some x ∧ x[j]? = some d ∧ arr0[ob + (off + i) * sz3 + j]? = some u ∧ CR (Rd own w) m d u := by
     intro i y j c hy hj
     obtain ⟨x, hx, hxl⟩ := hget i y hy
     have hjl : j < x.length := by have := (List.getElem?_eq_some_iff.1 hj).1; omega
     obtain ⟨u, hu, hcu⟩ := hc (off + i) x j x[j] hx (List.getElem?_eq_getElem hjl)
     exact ⟨x, x[j], u, hx, List.getElem?_eq_getElem hjl, hu, hcu⟩
    have hno : ¬ own2 b := fun h => (ho b h).2 ⟨id, _, _, hid, hb, hsg⟩
    refine .fsl sz3 out b (ob + off * sz3) cap (fun i j => (arr0[ob + (off + i) * sz3 + j]?).getD default) (by omega) (fun i y hy => ?_) (fun i y j c hy hj => ?_) (fun i y j c hy hj => ?_) (fun i y j c hy hj => ?_)
    ·obtain ⟨x, hx, hxl⟩ := hget i y hy; rw [hxl]; exact hwd _ x hx
    ·obtain ⟨x, d, u, hx, hd, hu, hcu⟩ := hget2 i y j c hy hj
     refine ⟨hno, ?_⟩
     simp only [hu, Option.getD_some]
     rw [Nat.add_mul, ← Nat.add_assoc] at hu
     simp [World.cell?, hwb, hu]
    ·obtain ⟨x, d, u, hx, hd, hu, hcu⟩ := hget2 i y j c hy hj
     simp only [hu, Option.getD_some]; exact hcu.2
    ·obtain ⟨x, d, u, hx, hd, hu, hcu⟩ := hget2 i y j c hy hj
     simp only [hu, Option.getD_some]
     exact ih i x y j d c hx hy hd hj hcu.1

theorem flat_ok {rd rd2 : Reads} {m : Maps} {v : V} (hf : Flat v) : ∀ {u : Value}, VR rd m v u → VR rd2 m v u := by
 induction hf with
 | int k n => intro u hv; rw [int_inv hv]; exact .int _ _
 | bool b => intro u hv; rw [bool_inv hv]; exact .bool _
 | str s => intro u hv; rw [str_inv hv]; exact .str _
 | tup vs _ ih =>
  intro u hv
  cases hv with
  | tup _ us hl hf => exact .tup vs us hl fun i c u hc hu => ih c (List.mem_of_getElem? hc) (hf i c u hc hu)

def Fin (m : Maps) : Prop := ∃ N, (∀ i, N ≤ i → m.sg i = none) ∧ (∀ t g, N ≤ g → m.bt t g = none) ∧ (∀ i k, N ≤ i → m.bo i k = none)

def Enters (P : Program) (f : Nat) : Prop := ∃ fn, P.funcs[f]? = some fn ∧ fn.name ≠ "runtime.NumGoroutine" ∧ fn.body.isSome = true

structure Left (own : Nat → Prop) (m : Maps) (h : Heap) (w : World) (own2 : Nat → Prop) (m2 : Maps) (h2 : Heap) (w2 : World) : Prop where
 heap : HRel own2 m2 h2 w2
 fin : Fin m2
 maps : m.le m2
 size : w.heap.size ≤ w2.heap.size
 same : ∀ b, b < w.heap.size → ¬ HOwn m h b → w2.heap[b]? = w.heap[b]?
 old : ∀ b, b < w.heap.size → own2 b → own b
 keep : ∀ b, b < w.heap.size → own b → ¬ HOwn m h b → own2 b
 ids : ∀ id x b r, h2 id = some x → m2.sg id = some (b, r) → b < w.heap.size → HOwn m h b
 live : ∀ id x, h2 id = some x → m.sg id = none ∨ ∃ y, h id = some y
 bo : ∀ id x, m.sg id = some x → h id = none → BoKeeps m m2 id
 io : Io w w2

def Sim (P : Program) : Call := fun f vs h R => Enters P f ∧ (∀ L, FinA L h → ∃ r h2, FinA L h2 ∧ R r h2) ∧
 ∀ (own : Nat → Prop) (m : Maps) (w : World) (us : Array Value), HRel own m h w → Fin m → (∀ b, own b → b < w.heap.size) → us.size = vs.length →
  (∀ (i : Nat) (v : V) (u : Value), vs[i]? = some v → us[i]? = some u → VR (Rd own w) m v u) →
  Calls P f us w fun e w2 => match e with
   | .returned u => ∃ own2 m2 r h2, R r h2 ∧ VR (Rd own2 w2) m2 r u ∧ Left own m h w own2 m2 h2 w2
   | _ => False

theorem Rel.after {cx : Cx} {own : Nat → Prop} {m : Maps} {s : S} {tmps : Array Value} {w : World} (hr : Rel cx own m s tmps w) {own3 : Nat → Prop} {m2 : Maps} {h3 : Heap} {w2 : World} (hio : Io w w2)
  (hrd : ∀ b o u, Rd own w b o u → Rd own3 w2 b o u) (hm : m.le m2) (hfin : Fin m2) (hh : HRel own3 m2 h3 w2) (hsz : w.heap.size ≤ w2.heap.size)
  (hkeep : ∀ b, b < w.heap.size → own b → ¬ HOwn m s.h b → own3 b) (hsame : ∀ b, b < w.heap.size → ¬ HOwn m s.h b → w2.heap[b]? = w.heap[b]?)
  (hold : ∀ b, b < w.heap.size → own3 b → own b) (hids : ∀ id x b r, h3 id = some x → m2.sg id = some (b, r) → b < w.heap.size → HOwn m s.h b)
  (hlive : ∀ id x, h3 id = some x → m.sg id = none ∨ ∃ y, s.h id = some y) (hbo : ∀ id x, m.sg id = some x → s.h id = none → BoKeeps m m2 id) :
  Rel cx own3 m2 { s with h := h3 } tmps w2 := by
 have hbox : ∀ (t g : Nat) (cs : List V) (b : Nat), s.bx[t]? = some (some (g, cs)) → m.bt t g = some b → ¬ HOwn m s.h b := by
  intro t g cs b h1 h2 ⟨id, x, r, h3, h4⟩
  exact hr.f.bh t g cs id x b r h1 h3 h2 h4
 have hbt : ∀ (t g : Nat) (cs : List V) (b : Nat), s.bx[t]? = some (some (g, cs)) → m2.bt t g = some b → m.bt t g = some b := by
  intro t g cs b h1 h2
  obtain ⟨b2, e1, _⟩ := hr.f.box t g cs h1
  rw [hm.bt _ _ _ e1] at h2
  rw [e1]; exact h2
 have hfr : ∀ b, HOwn m s.h b → ¬ cx.fr b ∧ (b < cx.w0.heap.size → cx.h0 b) := fun b ⟨id, x, r, h1, h2⟩ => hr.k.ids id x b r h1 h2
 refine ⟨⟨hr.f.size, fun t v hv => ?_, fun t g cs hb => ?_, ?_, ?_, hh, hfin⟩, ⟨hr.k.io.trans hio, Nat.le_trans hr.k.size hsz, ?_, ?_, hr.k.maps.trans hm, ?_, ?_, ?_, ?_, ?_⟩, hr.frlt⟩
 ·obtain ⟨u, hu, hvr⟩ := hr.f.env t v hv
  exact ⟨u, hu, hvr.mono hrd hm⟩
 ·obtain ⟨b, e1, e2, e3⟩ := hr.f.box t g cs hb
  have hno := hbox t g cs b hb e1
  exact ⟨b, hm.bt _ _ _ e1, hkeep b e3.lt e2 hno, e3.mono hrd hm (hsame b e3.lt hno)⟩
 ·intro t g cs t2 g2 cs2 b e1 e2 e3 e4
  exact hr.f.binj t g cs t2 g2 cs2 b e1 e2 (hbt _ _ _ _ e1 e3) (hbt _ _ _ _ e2 e4)
 ·intro t g cs id x b r e1 e2 e3 e4
  have e3' := hbt _ _ _ _ e1 e3
  obtain ⟨b2, f1, _, f3⟩ := hr.f.box t g cs e1
  rw [f1] at e3'; simp at e3'; subst e3'
  exact hbox t g cs b2 e1 f1 (hids id x b2 r e2 e4 f3.lt)
 ·intro b hb hno
  have hlt : b < w.heap.size := by have := hr.k.size; omega
  rw [hsame b hlt (fun h => hno ((hfr b h).2 hb))]
  exact hr.k.same b hb hno
 ·intro b hb ho
  exact hr.k.old b hb (hold b (by have := hr.k.size; omega) ho)
 ·intro b hb
  have hlt : b < w.heap.size := by have := hr.k.size; have := hr.frlt b hb; omega
  exact hkeep b hlt (hr.k.fr b hb) (fun h => (hfr b h).1 hb)
 ·intro id x b r e1 e2
  by_cases hlt : b < w.heap.size
  ·exact hfr b (hids id x b r e1 e2 hlt)
  ·exact ⟨fun h => by have := hr.k.size; have := hr.frlt b h; omega, fun h => by have := hr.k.size; omega⟩
 ·intro t g cs b e1 e2
  exact hr.k.bxs t g cs b e1 (hbt _ _ _ _ e1 e2)
 ·intro id x hx
  rcases hlive id x hx with h | ⟨y, hy⟩
  ·exact .inl (fresh_sg hr.k.maps h)
  ·exact hr.k.live id y hy
 ·intro id x hx hnd
  have hnone : s.h id = none := by
   cases hh : s.h id with
   | none => rfl
   | some y =>
    rcases hr.k.live id y hh with h | h
    ·rw [h] at hx; cases hx
    ·exact absurd h hnd
  exact fun i n hn => hr.k.bo id x hx hnd i n (hbo id x (hr.k.maps.sg _ _ hx) hnone i n hn)

theorem hrel_own {own own2 : Nat → Prop} {m : Maps} {h : Heap} {w : World} (hr : HRel own m h w) (h1 : ∀ b, own2 b → own b) (h2 : ∀ b, HOwn m h b → own2 b) : HRel own2 m h w := by
 refine ⟨fun id x hx => ?_, hr.inj⟩
 obtain ⟨b, o, sz, C, e1, e2, e3⟩ := hr.blk id x hx
 exact ⟨b, o, sz, C, e1, h2 b ⟨id, x, _, hx, e1⟩, e3.mono (fun b o u ⟨h3, h4⟩ => ⟨fun h5 => h3 (h1 b h5), h4⟩) (Maps.le.refl m) (fun _ _ h => h) rfl⟩

theorem hown_lt {own : Nat → Prop} {m : Maps} {h : Heap} {w : World} (hr : HRel own m h w) {b : Nat} (hb : HOwn m h b) : b < w.heap.size := by
 obtain ⟨id, x, r, h1, h2⟩ := hb
 obtain ⟨b2, o, sz, C, e1, _, e3⟩ := hr.blk id x h1
 rw [e1] at h2; simp at h2
 rw [← h2.1]; exact e3.lt

theorem call_ok {P : Program} {cx : Cx} {own : Nat → Prop} {m : Maps} {s : S} {tmps : Array Value} {w : World} (hr : Rel cx own m s tmps w) {f : Nat} {vs : List V} {R : V → Heap → Prop} (hc : callOk (Sim P) f vs s.h R)
  {us : Array Value} (hl : us.size = vs.length) (hv : ∀ (i : Nat) (v : V) (u : Value), vs[i]? = some v → us[i]? = some u → VR (Rd own w) m v u) :
  Enters P f ∧ Calls P f us w fun e w2 => match e with
   | .returned u => ∃ own2 m2 r h2, R r h2 ∧ VR (Rd own2 w2) m2 r u ∧ Rel cx own2 m2 { s with h := h2 } tmps w2
   | _ => False := by
 rcases hc with ⟨hen, _, hc⟩ | ⟨ids, vs2, hl2, hfz, hen, _, hc⟩ | ⟨ids, vs2, h2, hl2, hfz, hle, hids, hen, _, hc⟩
 rotate_left 2
 ·refine ⟨hen, ?_⟩
  let own1 : Nat → Prop := fun b => (own b ∧ b < w.heap.size) ∧ ¬ Lent m s.h ids b
  have hsub : ∀ b, own1 b → own b := fun b h => h.1.1
  have hhown : ∀ b, HOwn m h2 b → HOwn m s.h b := fun b ⟨id, x, r, q1, q2⟩ => ⟨id, x, r, hle _ _ q1, q2⟩
  have hlown : ∀ b, Lent m s.h ids b → HOwn m s.h b := fun b ⟨id, x, r, _, q1, q2⟩ => ⟨id, x, r, q1, q2⟩
  have hh1 : HRel own1 m h2 w := by
   refine ⟨fun id x hx => ?_, fun id id2 x y b r r2 q1 q2 q3 q4 => hr.f.heap.inj id id2 x y b r r2 (hle _ _ q1) (hle _ _ q2) q3 q4⟩
   obtain ⟨b, o, sz, C, e1, e2, e3⟩ := hr.f.heap.blk id x (hle _ _ hx)
   refine ⟨b, o, sz, C, e1, ⟨⟨e2, e3.lt⟩, ?_⟩, e3.mono (fun b o u ⟨h3, h4⟩ => ⟨fun h5 => h3 (hsub b h5), h4⟩) (Maps.le.refl m) (fun _ _ h => h) rfl⟩
   rintro ⟨id2, y, r2, q1, q2, q3⟩
   have := hr.f.heap.inj id id2 x y b _ _ (hle _ _ hx) q2 e1 q3
   subst this
   rw [hids id q1] at hx; cases hx
  refine (hc own1 m w us hh1 hr.f.fin (fun b h => h.1.2) (by omega) (fun i v u h1 h2 => ?_)).mono ?_
  ·have hi : i < vs.length := by have := (List.getElem?_eq_some_iff.1 h1).1; omega
   exact frz_ok hr.f.heap (fun b h => ⟨h.1.1, h.2⟩) (hfz i vs[i] v (List.getElem?_eq_getElem hi) h1) (hv i vs[i] u (List.getElem?_eq_getElem hi) h2)
  ·intro e w2 he
   cases e with
   | returned u =>
    obtain ⟨own2, m2, r, h3, hR, hvr, hlf⟩ := he
    refine ⟨own2, m2, r, h3, hR, hvr, ?_⟩
    refine hr.after hlf.io ?_ hlf.maps hlf.fin hlf.heap hlf.size (fun b hb ho hn => hlf.keep b hb ⟨⟨ho, hb⟩, fun h => hn (hlown b h)⟩ (fun h => hn (hhown b h))) (fun b hb hn => hlf.same b hb (fun h => hn (hhown b h))) (fun b hb ho => hsub b (hlf.old b hb ho))
     (fun id x b rr q1 q2 q3 => hhown b (hlf.ids id x b rr q1 q2 q3)) (fun id x hx => ?_) (fun id x hx hn => hlf.bo id x hx ?_)
    ·intro b o u ⟨h1, h4⟩
     have hlt := cell_lt h4
     refine ⟨fun h => h1 (hsub b (hlf.old b hlt h)), ?_⟩
     rw [cell_heap (hlf.same b hlt (fun h => h1 ((hhown b h).own hr.f.heap)))]
     exact h4
    ·rcases hlf.live id x hx with h | ⟨y, hy⟩
     ·exact .inl h
     ·exact .inr ⟨y, hle _ _ hy⟩
    ·cases e : h2 id with
     | none => rfl
     | some y => rw [hle _ _ e] at hn; cases hn
   | panicked chain => exact he
   | outgrown => exact he
 ·refine ⟨hen, ?_⟩
  let own1 : Nat → Prop := fun b => own b ∧ b < w.heap.size
  have hh1 : HRel own1 m s.h w := hrel_own hr.f.heap (fun b h => h.1) (fun b h => ⟨h.own hr.f.heap, hown_lt hr.f.heap h⟩)
  have hrd1 : ∀ b o u, Rd own w b o u → Rd own1 w b o u := fun b o u ⟨h1, h2⟩ => ⟨fun h => h1 h.1, h2⟩
  refine (hc own1 m w us hh1 hr.f.fin (fun b h => h.2) hl (fun i v u h1 h2 => (hv i v u h1 h2).mono hrd1 (Maps.le.refl m))).mono ?_
  intro e w2 he
  cases e with
  | returned u =>
   obtain ⟨own2, m2, r, h2, hR, hvr, hlf⟩ := he
   refine ⟨own2, m2, r, h2, hR, hvr, ?_⟩
   refine hr.after hlf.io ?_ hlf.maps hlf.fin hlf.heap hlf.size (fun b hb ho hn => hlf.keep b hb ⟨ho, hb⟩ hn) hlf.same (fun b hb ho => (hlf.old b hb ho).1) hlf.ids hlf.live hlf.bo
   intro b o u ⟨h1, h2⟩
   have hlt := cell_lt h2
   refine ⟨fun h => h1 (hlf.old b hlt h).1, ?_⟩
   rw [cell_heap (hlf.same b hlt (fun h => h1 (h.own hr.f.heap)))]
   exact h2
  | panicked chain => exact he
  | outgrown => exact he
 ·refine ⟨hen, ?_⟩
  let own1 : Nat → Prop := fun b => (own b ∧ b < w.heap.size) ∧ ¬ Lent m s.h ids b
  have hh1 : HRel own1 m Heap.none w := ⟨fun id x hx => (by cases hx), fun id id2 x y b r r2 hx => (by cases hx)⟩
  have hno : ∀ b, ¬ HOwn m Heap.none b := fun b ⟨id, x, r, h1, _⟩ => by cases h1
  refine (hc own1 m w us hh1 hr.f.fin (fun b h => h.1.2) (by omega) (fun i v u h1 h2 => ?_)).mono ?_
  ·have hi : i < vs.length := by have := (List.getElem?_eq_some_iff.1 h1).1; omega
   exact frz_ok hr.f.heap (fun b h => ⟨h.1.1, h.2⟩) (hfz i vs[i] v (List.getElem?_eq_getElem hi) h1) (hv i vs[i] u (List.getElem?_eq_getElem hi) h2)
  ·intro e w2 he
   cases e with
   | returned u =>
    obtain ⟨own2, m2, r, h2, ⟨hfl, hR⟩, hvr, hlf⟩ := he
    let own3 : Nat → Prop := fun b => own2 b ∨ Lent m s.h ids b
    have hsame : ∀ b, b < w.heap.size → w2.heap[b]? = w.heap[b]? := fun b hb => hlf.same b hb (hno b)
    have hold : ∀ b, b < w.heap.size → own3 b → own b := by
     intro b hb ho
     rcases ho with h | h
     ·exact (hlf.old b hb h).1.1
     ·exact h.own hr.f.heap
    have hrd : ∀ b o u, Rd own w b o u → Rd own3 w2 b o u := by
     intro b o u ⟨h1, h2⟩
     have hlt := cell_lt h2
     exact ⟨fun h => h1 (hold b hlt h), by rw [cell_heap (hsame b hlt)]; exact h2⟩
    have hkeep : ∀ b, b < w.heap.size → own b → own3 b := by
     intro b hb ho
     by_cases hl : Lent m s.h ids b
     ·exact .inr hl
     ·exact .inl (hlf.keep b hb ⟨⟨ho, hb⟩, hl⟩ (hno b))
    have hbo : ∀ id x, m.sg id = some x → BoKeeps m m2 id := fun id x hx => hlf.bo id x hx rfl
    have hh3 : HRel own3 m2 s.h w2 := by
     refine ⟨fun id x hx => ?_, fun id id2 x y b r r2 e1 e2 e3 e4 => ?_⟩
     ·obtain ⟨b, o, sz, C, e1, e2, e3⟩ := hr.f.heap.blk id x hx
      exact ⟨b, o, sz, C, hlf.maps.sg _ _ e1, hkeep b e3.lt e2, e3.mono hrd hlf.maps (hbo id _ e1) (hsame b e3.lt)⟩
     ·obtain ⟨b1, o1, sz1, C1, f1, _⟩ := hr.f.heap.blk id x e1
      obtain ⟨b2, o2, sz2, C2, g1, _⟩ := hr.f.heap.blk id2 y e2
      rw [hlf.maps.sg _ _ f1] at e3; rw [hlf.maps.sg _ _ g1] at e4
      simp at e3 e4
      obtain ⟨rfl, _⟩ := e3
      obtain ⟨rfl, _⟩ := e4
      exact hr.f.heap.inj id id2 x y _ _ _ e1 e2 f1 g1
    have hvr3 : VR (Rd own3 w2) m2 r u := by
     rcases hfl with h | h
     ·refine hvr.mono (fun b o u ⟨h1, h2⟩ => ⟨fun h3 => ?_, h2⟩) (Maps.le.refl m2)
      rcases h3 with h3 | ⟨id, x, rr, h4, _⟩
      ·exact h1 h3
      ·exact h id h4
     ·exact flat_ok h hvr
    refine ⟨own3, m2, r, s.h, hR, hvr3, ?_⟩
    refine hr.after hlf.io hrd hlf.maps hlf.fin hh3 hlf.size (fun b hb ho _ => hkeep b hb ho) (fun b hb _ => hsame b hb) hold ?_ (fun id x hx => .inr ⟨x, hx⟩) (fun id x hx _ => hbo id x hx)
    intro id x b rr e1 e2 hb
    obtain ⟨b1, o1, sz1, C1, f1, _⟩ := hr.f.heap.blk id x e1
    rw [hlf.maps.sg _ _ f1] at e2; simp at e2
    obtain ⟨rfl, _⟩ := e2
    exact ⟨id, x, _, e1, f1⟩
   | panicked chain => exact he
   | outgrown => exact he

end Go.Abs
