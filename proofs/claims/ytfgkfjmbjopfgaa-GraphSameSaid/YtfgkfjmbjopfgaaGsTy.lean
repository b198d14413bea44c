/-
  The types of layer 40's values: expressions, statements, events; and how they lie in cells.
-/
import Derived.Test.YtfgkfjmbjopfgaaAbsSym
set_option linter.unusedVariables false
set_option linter.unusedSimpArgs false
namespace Go.Abs
open Go

/-- An expression. -/
inductive Ex where
  | mk (op t n m : Int) (l : List Ex)
mutual
def Ex.cells : Ex → List V
  | .mk op t n m l => [.int .i64 op, .int .i64 t, .int .i64 n, .int .i64 m, .fsl 5 (exL l)]
def exL : List Ex → List (List V)
  | [] => []
  | e :: l => e.cells :: exL l
end
def Ex.v (e : Ex) : V := .agg e.cells
def Ex.op : Ex → Int | .mk o _ _ _ _ => o
def Ex.t : Ex → Int | .mk _ o _ _ _ => o
def Ex.n : Ex → Int | .mk _ _ o _ _ => o
def Ex.m : Ex → Int | .mk _ _ _ o _ => o
def Ex.l : Ex → List Ex | .mk _ _ _ _ o => o
theorem exL_eq (l : List Ex) : exL l = l.map Ex.cells := by induction l <;> simp_all [exL]
/-- An expression's cells. -/
def Ex.cs (e : Ex) : List V := [.int .i64 e.op, .int .i64 e.t, .int .i64 e.n, .int .i64 e.m, .fsl 5 (e.l.map Ex.cells)]
theorem Ex.cells_eq (e : Ex) : e.cells = [.int .i64 e.op, .int .i64 e.t, .int .i64 e.n, .int .i64 e.m, .fsl 5 (e.l.map Ex.cells)] := by cases e; simp [Ex.cells, exL_eq, Ex.op, Ex.t, Ex.n, Ex.m, Ex.l]
theorem Ex.cells_cs (e : Ex) : e.cells = e.cs := e.cells_eq
theorem Ex.cellsOf_v (e : Ex) : cellsOf e.v = some [.int .i64 e.op, .int .i64 e.t, .int .i64 e.n, .int .i64 e.m, .fsl 5 (e.l.map Ex.cells)] := by rw [Ex.v, cellsOf_agg, Ex.cells_eq]
theorem Ex.fold (e : Ex) : V.agg [.int .i64 e.op, .int .i64 e.t, .int .i64 e.n, .int .i64 e.m, .fsl 5 (e.l.map Ex.cells)] = e.v := by rw [Ex.v, Ex.cells_eq]

mutual
def Ex.size : Ex → Nat
  | .mk _ _ _ _ l => sizeL l + 1
def sizeL : List Ex → Nat
  | [] => 0
  | e :: l => e.size + sizeL l
end
theorem Ex.size_eq (e : Ex) : e.size = sizeL e.l + 1 := by cases e; rfl
theorem size_mem {l : List Ex} {k : Nat} {e : Ex} (h : l[k]? = some e) : e.size ≤ sizeL l := by
  induction l generalizing k with
  | nil => simp at h
  | cons x l ih =>
    cases k with
    | zero => simp at h; subst h; simp [sizeL]
    | succ k => simp at h; have := ih h; simp [sizeL]; omega
theorem size_len (l : List Ex) : l.length ≤ sizeL l := by
  induction l with
  | nil => simp
  | cons x l ih => have := x.size_eq; simp [sizeL]; omega
theorem size_drop {l : List Ex} {k : Nat} {e : Ex} (h : l[k]? = some e) : sizeL (l.drop k) = e.size + sizeL (l.drop (k + 1)) := by
  obtain ⟨a, e1⟩ := List.getElem?_eq_some_iff.1 h
  rw [List.drop_eq_getElem_cons a, e1]; rfl

theorem size_take (l : List Ex) : ∀ (k : Nat), k ≤ l.length → k + sizeL (l.drop k) ≤ sizeL l := by
  induction l with
  | nil => intro k h; simp at h; subst h; simp [sizeL]
  | cons x l ih =>
    intro k h
    cases k with
    | zero => simp
    | succ k => have := ih k (by simpa using h); have := x.size_eq; simp [sizeL]; omega

mutual
def Ex.same : Ex → Ex → Bool
  | .mk o t n m l, .mk o2 t2 n2 m2 l2 => o == o2 && t == t2 && n == n2 && m == m2 && sameL l l2
def sameL : List Ex → List Ex → Bool
  | [], [] => true
  | e :: l, f :: k => e.same f && sameL l k
  | _, _ => false
end
theorem Ex.same_eq (a b : Ex) : a.same b = (a.op == b.op && a.t == b.t && a.n == b.n && a.m == b.m && sameL a.l b.l) := by cases a; cases b; rfl

/-- One by one the same. -/
def all2 {α : Type} (f : α → α → Bool) : List α → List α → Bool
  | [], [] => true
  | x :: l, y :: k => f x y && all2 f l k
  | _, _ => false
theorem all2_len {α : Type} {f : α → α → Bool} {l k : List α} (h : l.length ≠ k.length) : all2 f l k = false := by
  induction l generalizing k with
  | nil => cases k with
    | nil => simp at h
    | cons => rfl
  | cons x l ih => cases k with
    | nil => rfl
    | cons y k => simp only [all2, ih (by simpa using h), Bool.and_false]
theorem all2_end {α : Type} {f : α → α → Bool} {l k : List α} {i : Nat} (h1 : l.length ≤ i) (h2 : l.length = k.length) : all2 f (l.drop i) (k.drop i) = true := by
  rw [List.drop_eq_nil_of_le h1, List.drop_eq_nil_of_le (by omega)]; rfl
theorem all2_drop {α : Type} {f : α → α → Bool} {l k : List α} {i : Nat} {x y : α} (h1 : l[i]? = some x) (h2 : k[i]? = some y) : all2 f (l.drop i) (k.drop i) = (f x y && all2 f (l.drop (i + 1)) (k.drop (i + 1))) := by
  obtain ⟨a1, e1⟩ := List.getElem?_eq_some_iff.1 h1
  obtain ⟨a2, e2⟩ := List.getElem?_eq_some_iff.1 h2
  rw [List.drop_eq_getElem_cons a1, List.drop_eq_getElem_cons a2, e1, e2]
  rfl
theorem sameL_eq : ∀ (l k : List Ex), sameL l k = all2 Ex.same l k
  | [], [] => rfl
  | [], _ :: _ => rfl
  | _ :: _, [] => rfl
  | x :: l, y :: k => by rw [sameL, all2, sameL_eq l k]

/-- A number in a cell. -/
def intC (n : Int) : List V := [.int .i64 n]
/-- An input of a block's call. -/
structure Ar where
  field : Int
  e : Ex
def Ar.cells (a : Ar) : List V := .int .i64 a.field :: a.e.cells
def Ar.v (a : Ar) : V := .agg a.cells
theorem Ar.cellsOf_v (a : Ar) : cellsOf a.v = some [.int .i64 a.field, .int .i64 a.e.op, .int .i64 a.e.t, .int .i64 a.e.n, .int .i64 a.e.m, .fsl 5 (a.e.l.map Ex.cells)] := by rw [Ar.v, cellsOf_agg, Ar.cells, Ex.cells_eq]
theorem Ar.fold (a : Ar) : V.agg [.int .i64 a.field, .int .i64 a.e.op, .int .i64 a.e.t, .int .i64 a.e.n, .int .i64 a.e.m, .fsl 5 (a.e.l.map Ex.cells)] = a.v := by rw [Ar.v, Ar.cells, Ex.cells_eq]
theorem Ar.cells_eq (a : Ar) : a.cells = [.int .i64 a.field, .int .i64 a.e.op, .int .i64 a.e.t, .int .i64 a.e.n, .int .i64 a.e.m, .fsl 5 (a.e.l.map Ex.cells)] := by rw [Ar.cells, Ex.cells_eq]

mutual
/-- A statement. -/
inductive St where
  | mk (kind cost n m : Int) (e i : Ex) (l : List Ex) (args : List Ar) (body els : List St) (arms : List Am)
/-- An arm of a case. -/
inductive Am where
  | mk (labels : List Int) (body : List St)
end
mutual
def St.cells : St → List V
  | .mk kind cost n m e i l args body els arms => [.int .i64 kind, .int .i64 cost, .int .i64 n, .int .i64 m] ++ e.cells ++ i.cells ++ [.fsl 5 (l.map Ex.cells), .fsl 6 (args.map Ar.cells), .fsl 19 (stL body), .fsl 19 (stL els), .fsl 2 (amL arms)]
def stL : List St → List (List V)
  | [] => []
  | x :: l => x.cells :: stL l
def Am.cells : Am → List V
  | .mk labels body => [.fsl 1 (labels.map intC), .fsl 19 (stL body)]
def amL : List Am → List (List V)
  | [] => []
  | x :: l => x.cells :: amL l
end
theorem stL_eq (l : List St) : stL l = l.map St.cells := by induction l <;> simp_all [stL]
theorem amL_eq (l : List Am) : amL l = l.map Am.cells := by induction l <;> simp_all [amL]
def St.kind : St → Int | .mk x _ _ _ _ _ _ _ _ _ _ => x
def St.cost : St → Int | .mk _ x _ _ _ _ _ _ _ _ _ => x
def St.n : St → Int | .mk _ _ x _ _ _ _ _ _ _ _ => x
def St.m : St → Int | .mk _ _ _ x _ _ _ _ _ _ _ => x
def St.e : St → Ex | .mk _ _ _ _ x _ _ _ _ _ _ => x
def St.i : St → Ex | .mk _ _ _ _ _ x _ _ _ _ _ => x
def St.l : St → List Ex | .mk _ _ _ _ _ _ x _ _ _ _ => x
def St.args : St → List Ar | .mk _ _ _ _ _ _ _ x _ _ _ => x
def St.body : St → List St | .mk _ _ _ _ _ _ _ _ x _ _ => x
def St.els : St → List St | .mk _ _ _ _ _ _ _ _ _ x _ => x
def St.arms : St → List Am | .mk _ _ _ _ _ _ _ _ _ _ x => x
def Am.labels : Am → List Int | .mk x _ => x
def Am.body : Am → List St | .mk _ x => x
def St.v (x : St) : V := .agg x.cells
def Am.v (x : Am) : V := .agg x.cells
/-- A statement's cells. -/
def St.cs (x : St) : List V := [.int .i64 x.kind, .int .i64 x.cost, .int .i64 x.n, .int .i64 x.m, .int .i64 x.e.op, .int .i64 x.e.t, .int .i64 x.e.n, .int .i64 x.e.m, .fsl 5 (x.e.l.map Ex.cells), .int .i64 x.i.op, .int .i64 x.i.t, .int .i64 x.i.n, .int .i64 x.i.m, .fsl 5 (x.i.l.map Ex.cells), .fsl 5 (x.l.map Ex.cells), .fsl 6 (x.args.map Ar.cells), .fsl 19 (x.body.map St.cells), .fsl 19 (x.els.map St.cells), .fsl 2 (x.arms.map Am.cells)]
theorem St.cells_cs (x : St) : x.cells = x.cs := by
  cases x; simp [St.cells, St.cs, stL_eq, amL_eq, Ex.cells_eq, St.kind, St.cost, St.n, St.m, St.e, St.i, St.l, St.args, St.body, St.els, St.arms]
theorem St.cells_eq (x : St) : x.cells = [.int .i64 x.kind, .int .i64 x.cost, .int .i64 x.n, .int .i64 x.m, .int .i64 x.e.op, .int .i64 x.e.t, .int .i64 x.e.n, .int .i64 x.e.m, .fsl 5 (x.e.l.map Ex.cells), .int .i64 x.i.op, .int .i64 x.i.t, .int .i64 x.i.n, .int .i64 x.i.m, .fsl 5 (x.i.l.map Ex.cells), .fsl 5 (x.l.map Ex.cells), .fsl 6 (x.args.map Ar.cells), .fsl 19 (x.body.map St.cells), .fsl 19 (x.els.map St.cells), .fsl 2 (x.arms.map Am.cells)] := x.cells_cs
theorem St.cellsOf_v (x : St) : cellsOf x.v = some x.cs := by rw [St.v, cellsOf_agg, St.cells_cs]
theorem St.fold (x : St) : V.agg [.int .i64 x.kind, .int .i64 x.cost, .int .i64 x.n, .int .i64 x.m, .int .i64 x.e.op, .int .i64 x.e.t, .int .i64 x.e.n, .int .i64 x.e.m, .fsl 5 (x.e.l.map Ex.cells), .int .i64 x.i.op, .int .i64 x.i.t, .int .i64 x.i.n, .int .i64 x.i.m, .fsl 5 (x.i.l.map Ex.cells), .fsl 5 (x.l.map Ex.cells), .fsl 6 (x.args.map Ar.cells), .fsl 19 (x.body.map St.cells), .fsl 19 (x.els.map St.cells), .fsl 2 (x.arms.map Am.cells)] = x.v := by rw [St.v, St.cells_eq]
theorem Am.cells_eq (x : Am) : x.cells = [.fsl 1 (x.labels.map intC), .fsl 19 (x.body.map St.cells)] := by
  cases x; simp [Am.cells, stL_eq, Am.labels, Am.body]
theorem Am.cellsOf_v (x : Am) : cellsOf x.v = some [.fsl 1 (x.labels.map intC), .fsl 19 (x.body.map St.cells)] := by rw [Am.v, cellsOf_agg, Am.cells_eq]
theorem Am.fold (x : Am) : V.agg [.fsl 1 (x.labels.map intC), .fsl 19 (x.body.map St.cells)] = x.v := by rw [Am.v, Am.cells_eq]

/-- An event. -/
structure Ev where
  s : St
  next : List Int
def Ev.cells (x : Ev) : List V := x.s.cells ++ [.fsl 1 (x.next.map intC)]
def Ev.v (x : Ev) : V := .agg x.cells
def Ev.cs (x : Ev) : List V := [.int .i64 x.s.kind, .int .i64 x.s.cost, .int .i64 x.s.n, .int .i64 x.s.m, .int .i64 x.s.e.op, .int .i64 x.s.e.t, .int .i64 x.s.e.n, .int .i64 x.s.e.m, .fsl 5 (x.s.e.l.map Ex.cells), .int .i64 x.s.i.op, .int .i64 x.s.i.t, .int .i64 x.s.i.n, .int .i64 x.s.i.m, .fsl 5 (x.s.i.l.map Ex.cells), .fsl 5 (x.s.l.map Ex.cells), .fsl 6 (x.s.args.map Ar.cells), .fsl 19 (x.s.body.map St.cells), .fsl 19 (x.s.els.map St.cells), .fsl 2 (x.s.arms.map Am.cells), .fsl 1 (x.next.map intC)]
theorem Ev.cells_cs (x : Ev) : x.cells = x.cs := by rw [Ev.cells, St.cells_eq]; rfl
theorem Ev.cellsOf_v (x : Ev) : cellsOf x.v = some x.cs := by rw [Ev.v, cellsOf_agg, Ev.cells_cs]

/-- A list of numbers, of events, as a frozen slice. -/
def intsV (l : List Int) : V := .fsl 1 (l.map intC)
def evsV (l : List Ev) : V := .fsl 20 (l.map Ev.cells)
def stsV (l : List St) : V := .fsl 19 (l.map St.cells)
def exsV (l : List Ex) : V := .fsl 5 (l.map Ex.cells)

end Go.Abs
