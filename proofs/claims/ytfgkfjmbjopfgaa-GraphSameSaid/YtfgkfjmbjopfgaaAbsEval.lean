/-
  What an operation that only reads makes, in the model, of related operands (second part).
-/
import Derived.Test.YtfgkfjmbjopfgaaAbsOps
set_option linter.unusedVariables false
set_option linter.unusedSimpArgs false
namespace Go.Abs
open Go

def undB (P : Program) (t : TypeId) (f : TypeDesc → Bool) : Bool :=
  match P.underlying t with
  | some d => f d
  | none => false

def isSliceOf (P : Program) (t : TypeId) (n : Nat) : Bool := undB P t fun d => match d with | .slice e => sizeB P e == some n | _ => false
def isArrayOf (P : Program) (t : TypeId) (k n : Nat) : Bool := undB P t fun d => match d with | .array m e => m == k && sizeB P e == some n | _ => false
def isArrayTy (P : Program) (t : TypeId) (k n : Nat) (agg : Bool) : Bool := undB P t fun d => match d with | .array m e => m == k && tyOk P e n agg | _ => false
def isString (P : Program) (t : TypeId) : Bool := undB P t fun d => match d with | .string => true | _ => false
def isBoolTy (P : Program) (t : TypeId) : Bool := undB P t fun d => match d with | .bool => true | _ => false
def isIntTy (P : Program) (t : TypeId) (k : IntKind) : Bool := undB P t fun d => match d with | .int j => j == k | _ => false
def fieldOk (P : Program) (t : TypeId) (f off : Nat) (g : TypeId → Bool) : Bool := undB P t fun d => match d with
  | .struct fs => match fs[f]? with
    | some x => x.offset == off && g x.type
    | none => false
  | _ => false
def zeroOk (P : Program) (t : TypeId) (zero : List V) : Bool :=
  match P.info? t with
  | some i => match i.zero with
    | some z => z.cells.size == zero.length && (zero.zip z.cells.toList).all fun x => constCell x.1 x.2
    | none => false
  | none => false

def chkOpdO : Option Opd → Option Operand → Bool
  | none, none => true
  | some x, some y => chkOpd x y
  | _, _ => false
def chkOpds : List Opd → List Operand → Bool
  | [], [] => true
  | x :: l, y :: r => chkOpd x y && chkOpds l r
  | _, _ => false

def partsOk (P : Program) (t : TypeId) : List (Nat × Nat × Opd) → List (Nat × Operand) → Bool
  | [], [] => true
  | (off, n, x) :: l, (i, y) :: r => chkOpd x y && (undB P t fun d => match d with
    | .struct fs => match fs[i]? with
      | some f => f.offset == off && sizeB P f.type == some n
      | none => false
    | .array _ e => off == i * n && sizeB P e == some n
    | _ => false) && partsOk P t l r
  | _, _ => false

def fieldsSized (P : Program) (t : TypeId) : Bool := undB P t fun d => match d with
  | .struct fs => fs.toList.all fun f => (sizeB P f.type).isSome
  | .array _ e => (sizeB P e).isSome
  | _ => false

/-- An operation, whatever it may read. -/
def AVal.base : AVal → AVal
  | .ldf x n agg => .ld x n agg
  | .ldl x n agg => .ld x n agg
  | .iaf x i esz => .ia x i esz
  | v => v

theorem AVal.base_eval {e : List V} {bx : List (Option (Nat × List V))} {h : Heap} {x : AVal} {v : V} (hv : x.eval e bx h = some v) : x.base.eval e bx h = some v := by
  cases x <;> simp only [AVal.base] <;> try exact hv
  case ldf x n agg =>
    simp only [AVal.eval] at hv ⊢
    split at hv
    · rename_i hx; rw [hx]; exact hv
    · cases hv
  case ldl x n agg =>
    simp only [AVal.eval] at hv ⊢
    split at hv
    · rename_i hx; rw [hx]
      split at hv
      · rename_i hb; simp only [loadOf, cellsAt, hb]; exact hv
      · cases hv
    · rename_i hx; rw [hx]; exact hv
    · cases hv
  case iaf x i esz =>
    simp only [AVal.eval] at hv ⊢
    split at hv
    · rename_i hi
      split at hv
      · rename_i hx; rw [hx]; exact hv
      · cases hv
    · cases hv

/-- A map's key type. -/
def keyOk (P : Program) (t : TypeId) (ks : Nat) : Bool := undB P t fun d => match ks, d with
  | 0, .int _ => true
  | 1, .string => true
  | 2, .array n e => n == 2 && tyOk P e 1 false && undB P e fun d => match d with | .int _ => true | _ => false
  | _, _ => false

/-- What a map gives of a key that it doesn't hold. -/
def zero1Ok (P : Program) (t : TypeId) (z : V) : Bool := match P.info? t with
  | some i => match i.zero with
    | some u => constCell z u
    | none => false
  | none => false
def mapOk (P : Program) (t : TypeId) (ks : Nat) (z : V) : Bool := undB P t fun d => match d with
  | .map kt et => keyOk P kt ks && zero1Ok P et z
  | _ => false

def mapKeyOk (P : Program) (t : TypeId) (ks : Nat) : Bool := undB P t fun d => match d with
  | .map kt _ => keyOk P kt ks
  | _ => false

def chkVal0 (P : Program) : AVal → Op → Bool
  | .mv x, .move y => chkOpd x y
  | .mv x, .assign y => chkOpd x y
  | .pick c a b, .pick c2 a2 b2 => chkOpd c c2 && chkOpd a a2 && chkOpd b b2
  | .bin op x y, .binOp op2 _ x2 y2 _ => op == op2 && chkOpd x x2 && chkOpd y y2
  | .beq neg x y, .binOp op2 t x2 y2 _ => op2 == (if neg then .neq else .eql) && isBoolTy P t && chkOpd x x2 && chkOpd y y2
  | .un op x, .unOp op2 _ x2 => op == op2 && chkOpd x x2
  | .build zero parts, .build t ps => zeroOk P t zero && fieldsSized P t && partsOk P t parts ps.toList
  | .fld x off n agg, .field t x2 f => chkOpd x x2 && fieldOk P t f off fun u => tyOk P u n agg
  | .fa x off, .fieldAddr t x2 f => chkOpd x x2 && fieldOk P t f off fun u => match sizeB P u with | some n => n != 0 | none => false
  | .ia x i esz, .indexAddr t x2 i2 => chkOpd x x2 && chkOpd i i2 && isSliceOf P t esz
  | .iaa x i n esz, .indexAddr t x2 i2 => chkOpd x x2 && chkOpd i i2 && isArrayOf P t n esz
  | .ix x i n esz agg, .index t x2 i2 => chkOpd x x2 && chkOpd i i2 && isArrayTy P t n esz agg
  | .ixs x i, .index t x2 i2 => chkOpd x x2 && chkOpd i i2 && isString P t
  | .ld x n agg, .load t x2 => chkOpd x x2 && tyOk P t n agg
  | .nc x, .nilCheck x2 => chkOpd x x2
  | .ext x k, .extract x2 k2 => chkOpd x x2 && k == k2
  | .mkf f caps, .makeFunc (.func f2) first caps2 => f == f2 && first.isEmpty && chkOpds caps caps2.toList
  | .slc x lo hi esz, .slice t x2 lo2 hi2 none => chkOpd x x2 && chkOpdO lo lo2 && chkOpdO hi hi2 && isSliceOf P t esz
  | .slcs x lo hi, .slice t x2 lo2 hi2 none => chkOpd x x2 && chkOpdO lo lo2 && chkOpdO hi hi2 && isString P t
  | .conv k x, .convert s t x2 => chkOpd x x2 && isIntTy P t k && undB P s fun _ => true
  | .len x, .call { callee := .builtin .len, args := as, argTypes := ts } => match as.toList, ts.toList with
    | [y], [t] => chkOpd x y && undB P t fun d => match d with | .slice _ => true | _ => false
    | _, _ => false
  | .lens x, .call { callee := .builtin .len, args := as, argTypes := ts } => match as.toList, ts.toList with
    | [y], [t] => chkOpd x y && isString P t
    | _, _ => false
  | .mx x y, .call { callee := .builtin .max, args := as, argTypes := _ } => match as.toList with
    | [a, b] => chkOpd x a && chkOpd y b
    | _ => false
  | .mn x y, .call { callee := .builtin .min, args := as, argTypes := _ } => match as.toList with
    | [a, b] => chkOpd x a && chkOpd y b
    | _ => false
  | .lookup ks m k z, .lookup t m2 k2 false => chkOpd m m2 && chkOpd k k2 && mapOk P t ks z
  | .lookupOk ks m k z, .lookup t m2 k2 true => chkOpd m m2 && chkOpd k k2 && mapOk P t ks z
  | _, _ => false

def chkVal (P : Program) (x : AVal) (op : Op) : Bool := chkVal0 P x.base op

section
variable {P : Program}

theorem run_und {w : World} {t : TypeId} {d : TypeDesc} (h : P.underlying t = some d) : (Go.underlying t).run P w = .ok d w := by
  simp [Go.underlying, h]

theorem undB_some {t : TypeId} {f : TypeDesc → Bool} (h : undB P t f = true) : ∃ d, P.underlying t = some d ∧ f d = true := by
  unfold undB at h
  split at h
  · rename_i d hd; exact ⟨d, hd, h⟩
  · cases h

theorem zero_run {w : World} {t : TypeId} {zero : List V} (h : zeroOk P t zero = true) {rd : Reads} {m : Maps} : ∃ z, (zeroValue t).run P w = .ok z w ∧ z.cells.size = zero.length ∧
    ∀ (i : Nat) (c : V) (u : Value), zero[i]? = some c → z.cells[i]? = some u → CR rd m c u := by
  unfold zeroOk at h
  split at h
  · rename_i inf hi
    split at h
    · rename_i z hz
      simp only [Bool.and_eq_true, beq_iff_eq, List.all_eq_true] at h
      refine ⟨z, by simp [zeroValue, typeInfo, hi, hz], h.1, ?_⟩
      intro i c u hc hu
      refine constCell_ok (h.2 (c, u) (List.mem_of_getElem? (i := i) ?_))
      rw [List.getElem?_zip_eq_some]
      exact ⟨hc, by simpa using hu⟩
    · cases h
  · cases h

theorem opdO_ok {own : Nat → Prop} {m : Maps} {s : S} {a : Act} {w : World} (hf : FRel own m s a.tmps w) {x : Option Opd} {y : Option Operand} (h : chkOpdO x y = true) :
    (x = none ∧ y = none) ∨ ∃ p q, x = some p ∧ y = some q ∧ VR (Rd own w) m (ev s.env p) (a.eval q) := by
  unfold chkOpdO at h
  split at h
  · exact .inl ⟨rfl, rfl⟩
  · exact .inr ⟨_, _, rfl, rfl, opd_ok hf h⟩
  · cases h

theorem opds_ok {own : Nat → Prop} {m : Maps} {s : S} {a : Act} {w : World} (hf : FRel own m s a.tmps w) : ∀ {xs : List Opd} {ys : List Operand}, chkOpds xs ys = true →
    ys.length = xs.length ∧ ∀ (i : Nat) (v : V) (u : Value), (xs.map (ev s.env))[i]? = some v → (ys.map a.eval)[i]? = some u → VR (Rd own w) m v u
  | [], [], _ => ⟨rfl, by simp⟩
  | x :: xs, y :: ys, h => by
    simp only [chkOpds, Bool.and_eq_true] at h
    obtain ⟨hl, hr⟩ := opds_ok hf h.2
    refine ⟨by simp [hl], ?_⟩
    intro i v u hv hu
    cases i with
    | zero => simp at hv hu; subst hv; subst hu; exact opd_ok hf h.1
    | succ i => exact hr i v u (by simpa using hv) (by simpa using hu)
  | [], _ :: _, h => by simp [chkOpds] at h
  | _ :: _, [], h => by simp [chkOpds] at h

theorem bits_ok {rd : Reads} {m : Maps} {w : World} {op : BinOp} {k : IntKind} {x y : Int} {v : V} (h : bitsOf op k x y = some v) : ∃ u, (Op.intBits op k x y).run P w = .ok u w ∧ VR rd m v u := by
  unfold bitsOf at h
  split at h <;> simp at h <;> subst h <;> exact ⟨_, by simp [Op.intBits], .int _ _⟩

theorem int_ok {rd : Reads} {m : Maps} {w : World} {op : BinOp} {t : TypeId} {k : IntKind} {x y : Int} {v : V} (h1 : op ≠ .shl) (h2 : op ≠ .shr) (h : intOf op k x y = some v) :
    ∃ u, (Go.binOp op t (.int k x) (.int k y)).run P w = .ok u w ∧ VR rd m v u := by
  cases op <;> simp only [intOf] at h
  case shl => exact absurd rfl h1
  case shr => exact absurd rfl h2
  case quo | rem =>
    split at h
    · cases h
    · rename_i hy; simp at h; subst h; exact ⟨_, by simp [Go.binOp, Op.intDiv, hy], .int _ _⟩
  case and | or | xor | andNot =>
    obtain ⟨u, hu, hv⟩ := bits_ok (P := P) (w := w) (rd := rd) (m := m) h
    exact ⟨u, by simpa only [Go.binOp, ne_eq, not_true_eq_false, if_false] using hu, hv⟩
  case add | sub | mul => simp at h; subst h; exact ⟨_, by simp [Go.binOp, Op.intArith], .int _ _⟩
  all_goals (simp at h; subst h; exact ⟨_, by simp [Go.binOp, Op.intCmp], .bool _⟩)

theorem bin_ok {rd : Reads} {m : Maps} {w : World} {op : BinOp} {t : TypeId} {x y : V} {a b : Value} (ha : VR rd m x a) (hb : VR rd m y b) {v : V} (h : binOf op x y = some v) :
    ∃ u, (Go.binOp op t a b).run P w = .ok u w ∧ VR rd m v u ∧ (∀ p q, (Go.eqGuard op t p q a b).run P w = .ok () w) := by
  unfold binOf at h
  split at h
  · rename_i k x k2 y
    cases ha; cases hb
    have hg : ∀ p q, (Go.eqGuard op t p q (.int k x) (.int k2 y)).run P w = .ok () w := fun p q => by unfold Go.eqGuard; cases op <;> simp
    split at h
    · unfold shiftOf at h
      split at h
      · cases h
      · rename_i hy
        simp at h; subst h
        exact ⟨_, by simp [Go.binOp, Op.shift, hy], .int _ _, hg⟩
    · unfold shiftOf at h
      split at h
      · cases h
      · rename_i hy
        simp at h; subst h
        exact ⟨_, by simp [Go.binOp, Op.shift, hy], .int _ _, hg⟩
    · rename_i op h1 h2
      split at h
      · rename_i hk; subst hk
        obtain ⟨u, hu, hv⟩ := int_ok (P := P) (w := w) (rd := rd) (m := m) (t := t) h1 h2 h
        exact ⟨u, hu, hv, hg⟩
      · cases h
  · rename_i x y
    cases ha; cases hb
    have hg : ∀ p q, (Go.eqGuard op t p q (.string x) (.string y)).run P w = .ok () w := fun p q => by unfold Go.eqGuard; cases op <;> simp
    cases op <;> simp only [strOf] at h
    case add =>
      split at h
      · rename_i hle
        simp at h; subst h
        refine ⟨_, ?_, .str _, hg⟩
        have : ¬ (((x.size + y.size : Nat) : Int) > IntKind.i64.max) := by
          have : IntKind.i64.max = 9223372036854775807 := by decide
          omega
        simp only [Go.binOp, Op.stringOp, this, if_false, Sem.run_pure]
      · cases h
    all_goals first | (simp at h; done) | (simp at h; subst h; exact ⟨_, by simp [Go.binOp, Op.stringOp], .bool _, hg⟩)
  · cases h

theorem un_ok {rd : Reads} {m : Maps} {w : World} {op : UnOp} {x : V} {a : Value} (ha : VR rd m x a) {v : V} (h : unOf op x = some v) : ∃ u, (Op.unary op a).run P w = .ok u w ∧ VR rd m v u := by
  unfold unOf at h
  split at h
  · cases ha
    split at h
    · simp at h; subst h; exact ⟨_, by simp [Op.unary, Op.intArith], .int _ _⟩
    · obtain ⟨u, hu, hv⟩ := bits_ok (P := P) (w := w) (rd := rd) (m := m) h
      exact ⟨u, by simpa [Op.unary] using hu, hv⟩
    · cases h
  · cases ha
    split at h
    · simp at h; subst h; exact ⟨_, by simp [Op.unary], .bool _⟩
    · cases h
  · cases h

end
end Go.Abs
