/-
  A part of the proof. Conditions: none.
-/
import Derived.Test.YtfgkfjmbjopfgaaGreatP4
set_option linter.unusedVariables false
set_option linter.unusedSimpArgs false
set_option maxRecDepth 100000
set_option maxHeartbeats 16000000
open Nat renaming reduceBEq → rB, reduceAdd → rA, reduceSub → rS, reduceLeDiff → rL, reduceMul → rM
open Int renaming reduceLE → jL, reduceToNat → jN
open List renaming getElem?_eq_getElem → lG, getElem?_eq_some_iff → lS, mem_of_getElem? → lM
namespace Go.Abs
open Go

inductive Ex where
 | mk (op t n m : Int) (l : List Ex)
mutual
def Ex.cells : Ex → List V
 | .mk op t n m l => [.int .i64 op, .int .i64 t, .int .i64 n, .int .i64 m, .fsl 5 (exL l)]
def exL : List Ex → List (List V)
 | [] => []
 | e :: l => e.cells :: exL l
end
def Ex.v (e : Ex) : V := .agg e.cells
def Ex.op : Ex → Int | .mk o _ _ _ _ => o
def Ex.t : Ex → Int | .mk _ o _ _ _ => o
def Ex.n : Ex → Int | .mk _ _ o _ _ => o
def Ex.m : Ex → Int | .mk _ _ _ o _ => o
def Ex.l : Ex → List Ex | .mk _ _ _ _ o => o
theorem exL_eq (l : List Ex) : exL l = l.map Ex.cells := by induction l <;> simp_all [exL]
def Ex.cs (e : Ex) : List V := [.int .i64 e.op, .int .i64 e.t, .int .i64 e.n, .int .i64 e.m, .fsl 5 (e.l.map Ex.cells)]
theorem Ex.cells_eq (e : Ex) : e.cells = [.int .i64 e.op, .int .i64 e.t, .int .i64 e.n, .int .i64 e.m, .fsl 5 (e.l.map Ex.cells)] := by cases e; simp [Ex.cells, exL_eq, Ex.op, Ex.t, Ex.n, Ex.m, Ex.l]
theorem Ex.cells_cs (e : Ex) : e.cells = e.cs := e.cells_eq
theorem Ex.cellsOf_v (e : Ex) : cellsOf e.v = some [.int .i64 e.op, .int .i64 e.t, .int .i64 e.n, .int .i64 e.m, .fsl 5 (e.l.map Ex.cells)] := by rw [Ex.v, cellsOf_agg, Ex.cells_eq]
theorem Ex.fold (e : Ex) : V.agg [.int .i64 e.op, .int .i64 e.t, .int .i64 e.n, .int .i64 e.m, .fsl 5 (e.l.map Ex.cells)] = e.v := by rw [Ex.v, Ex.cells_eq]

mutual
def Ex.size : Ex → Nat
 | .mk _ _ _ _ l => sizeL l + 1
def sizeL : List Ex → Nat
 | [] => 0
 | e :: l => e.size + sizeL l
end
theorem Ex.size_eq (e : Ex) : e.size = sizeL e.l + 1 := by cases e; rfl
theorem size_mem {l : List Ex} {k : Nat} {e : Ex} (h : l[k]? = some e) : e.size ≤ sizeL l := by
 induction l generalizing k with
 | nil => simp at h
 | cons x l ih =>
  cases k with
  | zero => simp at h; subst h; simp [sizeL]
  | succ k => simp at h; have := ih h; simp [sizeL]; omega
theorem size_len (l : List Ex) : l.length ≤ sizeL l := by
 induction l with
 | nil => simp
 | cons x l ih => have := x.size_eq; simp [sizeL]; omega
theorem size_drop {l : List Ex} {k : Nat} {e : Ex} (h : l[k]? = some e) : sizeL (l.drop k) = e.size + sizeL (l.drop (k + 1)) := by
 obtain ⟨a, e1⟩ := lS.1 h
 rw [List.drop_eq_getElem_cons a, e1]; rfl

theorem size_take (l : List Ex) : ∀ (k : Nat), k ≤ l.length → k + sizeL (l.drop k) ≤ sizeL l := by
 induction l with
 | nil => intro k h; simp at h; subst h; simp [sizeL]
 | cons x l ih =>
  intro k h
  cases k with
  | zero => simp
  | succ k => have := ih k (by simpa using h); have := x.size_eq; simp [sizeL]; omega

mutual
def Ex.same : Ex → Ex → Bool
 | .mk o t n m l, .mk o2 t2 n2 m2 l2 => o == o2 && t == t2 && n == n2 && m == m2 && sameL l l2
def sameL : List Ex → List Ex → Bool
 | [], [] => true
 | e :: l, f :: k => e.same f && sameL l k
 | _, _ => false
end
theorem Ex.same_eq (a b : Ex) : a.same b = (a.op == b.op && a.t == b.t && a.n == b.n && a.m == b.m && sameL a.l b.l) := by cases a; cases b; rfl

def all2 {α : Type} (f : α → α → Bool) : List α → List α → Bool
 | [], [] => true
 | x :: l, y :: k => f x y && all2 f l k
 | _, _ => false
theorem all2_len {α : Type} {f : α → α → Bool} {l k : List α} (h : l.length ≠ k.length) : all2 f l k = false := by
 induction l generalizing k with
 | nil => cases k with
  | nil => simp at h
  | cons => rfl
 | cons x l ih => cases k with
  | nil => rfl
  | cons y k => simp only [all2, ih (by simpa using h), Bool.and_false]
theorem all2_end {α : Type} {f : α → α → Bool} {l k : List α} {i : Nat} (h1 : l.length ≤ i) (h2 : l.length = k.length) : all2 f (l.drop i) (k.drop i) = true := by
 rw [List.drop_eq_nil_of_le h1, List.drop_eq_nil_of_le (by omega)]; rfl
theorem all2_drop {α : Type} {f : α → α → Bool} {l k : List α} {i : Nat} {x y : α} (h1 : l[i]? = some x) (h2 : k[i]? = some y) : all2 f (l.drop i) (k.drop i) = (f x y && all2 f (l.drop (i + 1)) (k.drop (i + 1))) := by
 obtain ⟨a1, e1⟩ := lS.1 h1
 obtain ⟨a2, e2⟩ := lS.1 h2
 rw [List.drop_eq_getElem_cons a1, List.drop_eq_getElem_cons a2, e1, e2]
 rfl
theorem sameL_eq : ∀ (l k : List Ex), sameL l k = all2 Ex.same l k
 | [], [] => rfl
 | [], _ :: _ => rfl
 | _ :: _, [] => rfl
 | x :: l, y :: k => by rw [sameL, all2, sameL_eq l k]

def intC (n : Int) : List V := [.int .i64 n]
structure Ar where
 field : Int
 e : Ex
def Ar.cells (a : Ar) : List V := .int .i64 a.field :: a.e.cells
def Ar.v (a : Ar) : V := .agg a.cells
theorem Ar.cellsOf_v (a : Ar) : cellsOf a.v = some [.int .i64 a.field, .int .i64 a.e.op, .int .i64 a.e.t, .int .i64 a.e.n, .int .i64 a.e.m, .fsl 5 (a.e.l.map Ex.cells)] := by rw [Ar.v, cellsOf_agg, Ar.cells, Ex.cells_eq]
theorem Ar.cells_eq (a : Ar) : a.cells = [.int .i64 a.field, .int .i64 a.e.op, .int .i64 a.e.t, .int .i64 a.e.n, .int .i64 a.e.m, .fsl 5 (a.e.l.map Ex.cells)] := by rw [Ar.cells, Ex.cells_eq]

mutual
inductive St where
 | mk (kind cost n m : Int) (e i : Ex) (l : List Ex) (args : List Ar) (body els : List St) (arms : List Am)
inductive Am where
 | mk (labels : List Int) (body : List St)
end
mutual
def St.cells : St → List V
 | .mk kind cost n m e i l args body els arms => [.int .i64 kind, .int .i64 cost, .int .i64 n, .int .i64 m] ++ e.cells ++ i.cells ++ [.fsl 5 (l.map Ex.cells), .fsl 6 (args.map Ar.cells), .fsl 19 (stL body), .fsl 19 (stL els), .fsl 2 (amL arms)]
def stL : List St → List (List V)
 | [] => []
 | x :: l => x.cells :: stL l
def Am.cells : Am → List V
 | .mk labels body => [.fsl 1 (labels.map intC), .fsl 19 (stL body)]
def amL : List Am → List (List V)
 | [] => []
 | x :: l => x.cells :: amL l
end
theorem stL_eq (l : List St) : stL l = l.map St.cells := by induction l <;> simp_all [stL]
theorem amL_eq (l : List Am) : amL l = l.map Am.cells := by induction l <;> simp_all [amL]
def St.kind : St → Int | .mk x _ _ _ _ _ _ _ _ _ _ => x
def St.cost : St → Int | .mk _ x _ _ _ _ _ _ _ _ _ => x
def St.n : St → Int | .mk _ _ x _ _ _ _ _ _ _ _ => x
def St.m : St → Int | .mk _ _ _ x _ _ _ _ _ _ _ => x
def St.e : St → Ex | .mk _ _ _ _ x _ _ _ _ _ _ => x
def St.i : St → Ex | .mk _ _ _ _ _ x _ _ _ _ _ => x
def St.l : St → List Ex | .mk _ _ _ _ _ _ x _ _ _ _ => x
def St.args : St → List Ar | .mk _ _ _ _ _ _ _ x _ _ _ => x
def St.body : St → List St | .mk _ _ _ _ _ _ _ _ x _ _ => x
def St.els : St → List St | .mk _ _ _ _ _ _ _ _ _ x _ => x
def St.arms : St → List Am | .mk _ _ _ _ _ _ _ _ _ _ x => x
def Am.labels : Am → List Int | .mk x _ => x
def Am.body : Am → List St | .mk _ x => x
def St.v (x : St) : V := .agg x.cells
def St.cs (x : St) : List V := [.int .i64 x.kind, .int .i64 x.cost, .int .i64 x.n, .int .i64 x.m, .int .i64 x.e.op, .int .i64 x.e.t, .int .i64 x.e.n, .int .i64 x.e.m, .fsl 5 (x.e.l.map Ex.cells), .int .i64 x.i.op, .int .i64 x.i.t, .int .i64 x.i.n, .int .i64 x.i.m, .fsl 5 (x.i.l.map Ex.cells), .fsl 5 (x.l.map Ex.cells), .fsl 6 (x.args.map Ar.cells), .fsl 19 (x.body.map St.cells), .fsl 19 (x.els.map St.cells), .fsl 2 (x.arms.map Am.cells)]
theorem St.cells_cs (x : St) : x.cells = x.cs := by
 cases x; simp [St.cells, St.cs, stL_eq, amL_eq, Ex.cells_eq, St.kind, St.cost, St.n, St.m, St.e, St.i, St.l, St.args, St.body, St.els, St.arms]
theorem St.cells_eq (x : St) : x.cells = [.int .i64 x.kind, .int .i64 x.cost, .int .i64 x.n, .int .i64 x.m, .int .i64 x.e.op, .int .i64 x.e.t, .int .i64 x.e.n, .int .i64 x.e.m, .fsl 5 (x.e.l.map Ex.cells), .int .i64 x.i.op, .int .i64 x.i.t, .int .i64 x.i.n, .int .i64 x.i.m, .fsl 5 (x.i.l.map Ex.cells), .fsl 5 (x.l.map Ex.cells), .fsl 6 (x.args.map Ar.cells), .fsl 19 (x.body.map St.cells), .fsl 19 (x.els.map St.cells), .fsl 2 (x.arms.map Am.cells)] := x.cells_cs
theorem St.cellsOf_v (x : St) : cellsOf x.v = some x.cs := by rw [St.v, cellsOf_agg, St.cells_cs]
theorem St.fold (x : St) : V.agg [.int .i64 x.kind, .int .i64 x.cost, .int .i64 x.n, .int .i64 x.m, .int .i64 x.e.op, .int .i64 x.e.t, .int .i64 x.e.n, .int .i64 x.e.m, .fsl 5 (x.e.l.map Ex.cells), .int .i64 x.i.op, .int .i64 x.i.t, .int .i64 x.i.n, .int .i64 x.i.m, .fsl 5 (x.i.l.map Ex.cells), .fsl 5 (x.l.map Ex.cells), .fsl 6 (x.args.map Ar.cells), .fsl 19 (x.body.map St.cells), .fsl 19 (x.els.map St.cells), .fsl 2 (x.arms.map Am.cells)] = x.v := by rw [St.v, St.cells_eq]
theorem Am.cells_eq (x : Am) : x.cells = [.fsl 1 (x.labels.map intC), .fsl 19 (x.body.map St.cells)] := by
 cases x; simp [Am.cells, stL_eq, Am.labels, Am.body]
structure Ev where
 s : St
 next : List Int
def Ev.cells (x : Ev) : List V := x.s.cells ++ [.fsl 1 (x.next.map intC)]
def Ev.v (x : Ev) : V := .agg x.cells
def Ev.cs (x : Ev) : List V := [.int .i64 x.s.kind, .int .i64 x.s.cost, .int .i64 x.s.n, .int .i64 x.s.m, .int .i64 x.s.e.op, .int .i64 x.s.e.t, .int .i64 x.s.e.n, .int .i64 x.s.e.m, .fsl 5 (x.s.e.l.map Ex.cells), .int .i64 x.s.i.op, .int .i64 x.s.i.t, .int .i64 x.s.i.n, .int .i64 x.s.i.m, .fsl 5 (x.s.i.l.map Ex.cells), .fsl 5 (x.s.l.map Ex.cells), .fsl 6 (x.s.args.map Ar.cells), .fsl 19 (x.s.body.map St.cells), .fsl 19 (x.s.els.map St.cells), .fsl 2 (x.s.arms.map Am.cells), .fsl 1 (x.next.map intC)]
theorem Ev.cells_cs (x : Ev) : x.cells = x.cs := by rw [Ev.cells, St.cells_eq]; rfl
theorem Ev.cellsOf_v (x : Ev) : cellsOf x.v = some x.cs := by rw [Ev.v, cellsOf_agg, Ev.cells_cs]

def intsV (l : List Int) : V := .fsl 1 (l.map intC)
def evsV (l : List Ev) : V := .fsl 20 (l.map Ev.cells)
def stsV (l : List St) : V := .fsl 19 (l.map St.cells)
end Go.Abs
namespace Go.Abs
open Go
def Nz (a b : V) : Prop := a = b ∨ (a = .nsl ∧ ∃ sz, b = .fsl sz [])
def NzL (cs ds : List V) : Prop := cs.length = ds.length ∧ ∀ (i : Nat) (a b : V), cs[i]? = some a → ds[i]? = some b → Nz a b
theorem Nz.frz {h : Heap} {ids : Nat → Prop} {a b : V} (hn : Nz a b) : Frz h ids a b := by
 rcases hn with rfl | ⟨rfl, sz, rfl⟩
 ·exact .same _
 ·exact .nsl sz
theorem NzL.refl (cs : List V) : NzL cs cs := ⟨rfl, fun i a b h1 h2 => .inl (by rw [h1] at h2; injection h2)⟩
def nextV (x : Ev) : Option Nat → V
 | none => .nsl
 | some i => .msl i 0 x.next.length
def slV (ida n : Nat) : V := if n = 0 then .nsl else .msl ida 0 n
structure Bd (h : Heap) (idb ida : Nat) (ids : List (Option Nat)) (els : List (List V)) (evs : List Ev) : Prop where
 len : ids.length = evs.length
 box : h idb = some (.arr 1 [[slV ida evs.length]])
 arr : 0 < evs.length → h ida = some (.arr 20 els)
 ell : els.length = evs.length
 ev : ∀ (k : Nat) (x : Ev) (i : Option Nat) (cs : List V), evs[k]? = some x → ids[k]? = some i → els[k]? = some cs → ∃ c19, cs = c19 ++ [nextV x i] ∧ NzL c19 x.s.cells
 next : ∀ (k : Nat) (x : Ev) (i : Nat), evs[k]? = some x → ids[k]? = some (some i) → h i = some (.arr 1 (x.next.map intC))
 bare : ∀ (k : Nat) (x : Ev), evs[k]? = some x → ids[k]? = some none → x.next = []
 ne : idb ≠ ida
 neb : some idb ∉ ids
 nea : some ida ∉ ids
 one : ∀ (k m i : Nat), ids[k]? = some (some i) → ids[m]? = some (some i) → k = m
def Own (idb ida : Nat) (ids : List (Option Nat)) (evs : List Ev) (j : Nat) : Prop := j = idb ∨ (j = ida ∧ 0 < evs.length) ∨ some j ∈ ids
def Kept (h h2 : Heap) (own : Nat → Prop) : Prop := ∀ j b, h j = some b → ¬ own j → h2 j = some b
theorem Bd.there {h : Heap} {idb ida : Nat} {ids : List (Option Nat)} {els : List (List V)} {evs : List Ev} (hb : Bd h idb ida ids els evs) {j : Nat} (hj : Own idb ida ids evs j) : ∃ b, h j = some b := by
 rcases hj with rfl | ⟨rfl, hp⟩ | hj
 ·exact ⟨_, hb.box⟩
 ·exact ⟨_, hb.arr hp⟩
 ·obtain ⟨k, hk, e⟩ := List.getElem_of_mem hj
  obtain ⟨x, hx⟩ : ∃ x, evs[k]? = some x := ⟨_, lG (by rw [← hb.len]; exact hk)⟩
  exact ⟨_, hb.next k x j hx (by rw [← e]; exact lG hk)⟩
theorem Bd.congr {h h2 : Heap} {idb ida : Nat} {ids : List (Option Nat)} {els : List (List V)} {evs : List Ev} (hb : Bd h idb ida ids els evs) (he : ∀ j, Own idb ida ids evs j → h2 j = h j) : Bd h2 idb ida ids els evs :=
 ⟨hb.len, by rw [he _ (.inl rfl)]; exact hb.box, fun hp => by rw [he _ (.inr (.inl ⟨rfl, hp⟩))]; exact hb.arr hp, hb.ell, hb.ev,
  fun k x i h1 h3 => by rw [he _ (.inr (.inr (lM h3)))]; exact hb.next k x i h1 h3, hb.bare, hb.ne, hb.neb, hb.nea, hb.one⟩
theorem Bd.fresh {h : Heap} {idb ida : Nat} {ids : List (Option Nat)} {els : List (List V)} {evs : List Ev} (hb : Bd h idb ida ids els evs) {j : Nat} (hj : h j = none) : ¬ Own idb ida ids evs j := by
 intro ho
 obtain ⟨b, e⟩ := hb.there ho
 rw [hj] at e; cases e
theorem Bd.alloc {h : Heap} {idb ida : Nat} {ids : List (Option Nat)} {els : List (List V)} {evs : List Ev} (hb : Bd h idb ida ids els evs) {j : Nat} (hj : h j = none) (b : Option Blk) : Bd (h.upd j b) idb ida ids els evs :=
 hb.congr fun k hk => upd_other _ _ (fun e => hb.fresh hj (e ▸ hk))
theorem list19 {cs : List V} (h : cs.length = 19) : ∃ c0 c1 c2 c3 c4 c5 c6 c7 c8 c9 c10 c11 c12 c13 c14 c15 c16 c17 c18, cs = [c0, c1, c2, c3, c4, c5, c6, c7, c8, c9, c10, c11, c12, c13, c14, c15, c16, c17, c18] := by
 match cs, h with
 | [c0, c1, c2, c3, c4, c5, c6, c7, c8, c9, c10, c11, c12, c13, c14, c15, c16, c17, c18], _ => exact ⟨c0, c1, c2, c3, c4, c5, c6, c7, c8, c9, c10, c11, c12, c13, c14, c15, c16, c17, c18, rfl⟩
theorem Bd.push {h h2 : Heap} {idb ida ida2 : Nat} {ids : List (Option Nat)} {els : List (List V)} {evs : List Ev} (hb : Bd h idb ida ids els evs) {x : Ev} {i : Option Nat} {cs : List V} (hcs : NzL cs x.s.cells)
  (hn : i = none → x.next = []) (hi : ∀ j, i = some j → h j = some (.arr 1 (x.next.map intC)) ∧ ¬ Own idb ida ids evs j) (ha2 : h ida2 = none)
  (e1 : h2 idb = some (.arr 1 [[.msl ida2 0 (evs.length + 1)]])) (e2 : h2 ida2 = some (.arr 20 (els ++ [cs ++ [nextV x i]]))) (e3 : ∀ j b, h j = some b → j ≠ idb → (j = ida → evs.length = 0) → h2 j = some b) :
  Bd h2 idb ida2 (ids ++ [i]) (els ++ [cs ++ [nextV x i]]) (evs ++ [x]) ∧ Kept h h2 (Own idb ida ids evs) := by
 have hlen := hb.len
 have hell := hb.ell
 have hnida : ∀ (k : Nat) (m : Nat), ids[k]? = some (some m) → h2 m = h m := by
  intro k m hk
  have ho : Own idb ida ids evs m := .inr (.inr (lM hk))
  obtain ⟨b, hbm⟩ := hb.there ho
  rw [hbm]
  refine e3 m b hbm (fun e => hb.neb (by rw [← e]; exact lM hk)) (fun e => (hb.nea (by rw [← e]; exact lM hk)).elim)
 have hi2 : ∀ j, i = some j → h2 j = some (.arr 1 (x.next.map intC)) := by
  intro j hj
  obtain ⟨q1, q2⟩ := hi j hj
  refine e3 j _ q1 (fun e => q2 (.inl e)) (fun e => ?_)
  rcases Nat.eq_zero_or_pos evs.length with h0 | h0
  ·exact h0
  ·exact (q2 (.inr (.inl ⟨e, h0⟩))).elim
 have hown2 : ∀ j, Own idb ida ids evs j → j ≠ ida2 := fun j hj e => hb.fresh ha2 (e ▸ hj)
 refine ⟨⟨by simp [hlen], ?_, fun _ => e2, by simp [hell], ?_, ?_, ?_, hown2 _ (.inl rfl), ?_, ?_, ?_⟩, fun j b hj hno => e3 j b hj (fun e => hno (.inl e)) (fun e => ?_)⟩
 ·rw [e1]; simp [slV]
 ·intro k y i' cs' h1 h3 h4
  by_cases hk : k < evs.length
  ·rw [List.getElem?_append_left hk] at h1
   rw [List.getElem?_append_left (by omega)] at h3 h4
   exact hb.ev k y i' cs' h1 h3 h4
  ·have hk2 : k = evs.length := by have := (lS.1 h1).1; simp at this; omega
   subst hk2
   rw [List.getElem?_append_right (by omega)] at h1 h3 h4
   rw [hlen] at h3; rw [hell] at h4
   simp at h1 h3 h4
   subst h1; subst h3; subst h4
   exact ⟨cs, rfl, hcs⟩
 ·intro k y m h1 h3
  by_cases hk : k < evs.length
  ·rw [List.getElem?_append_left hk] at h1
   rw [List.getElem?_append_left (by omega)] at h3
   rw [hnida k m h3]
   exact hb.next k y m h1 h3
  ·have hk2 : k = evs.length := by have := (lS.1 h1).1; simp at this; omega
   subst hk2
   rw [List.getElem?_append_right (by omega)] at h1 h3
   rw [hlen] at h3
   simp at h1 h3
   subst h1
   exact hi2 m h3
 ·intro k y h1 h3
  by_cases hk : k < evs.length
  ·rw [List.getElem?_append_left hk] at h1
   rw [List.getElem?_append_left (by omega)] at h3
   exact hb.bare k y h1 h3
  ·have hk2 : k = evs.length := by have := (lS.1 h1).1; simp at this; omega
   subst hk2
   rw [List.getElem?_append_right (by omega)] at h1 h3
   rw [hlen] at h3
   simp at h1 h3
   subst h1
   exact hn h3
 ·intro hm
  rcases List.mem_append.1 hm with hm | hm
  ·exact hb.neb hm
  ·simp at hm; exact (hi idb hm.symm).2 (.inl rfl)
 ·intro hm
  rcases List.mem_append.1 hm with hm | hm
  ·exact hown2 ida2 (.inr (.inr hm)) rfl
  ·simp at hm
   have := (hi ida2 hm.symm).1
   rw [ha2] at this; cases this
 ·intro k m j h1 h3
  have hlt : ∀ {k : Nat}, (ids ++ [i])[k]? = some (some j) → ids[k]? = some (some j) ∨ (k = ids.length ∧ i = some j) := by
   intro k hk
   by_cases h5 : k < ids.length
   ·rw [List.getElem?_append_left h5] at hk; exact .inl hk
   ·have h6 : k = ids.length := by have := (lS.1 hk).1; simp at this; omega
    subst h6
    rw [List.getElem?_append_right (by omega)] at hk
    simp at hk
    exact .inr ⟨rfl, hk⟩
  rcases hlt h1 with q1 | ⟨q1, q2⟩
  ·rcases hlt h3 with q3 | ⟨q3, q4⟩
   ·exact hb.one k m j q1 q3
   ·exact ((hi j q4).2 (.inr (.inr (lM q1)))).elim
  ·rcases hlt h3 with q3 | ⟨q3, q4⟩
   ·exact ((hi j q2).2 (.inr (.inr (lM q3)))).elim
   ·omega
 ·rcases Nat.eq_zero_or_pos evs.length with h0 | h0
  ·exact h0
  ·exact (hno (.inr (.inl ⟨e, h0⟩))).elim
namespace TryzT
theorem add19 {h : Heap} {idb ida : Nat} {ids : List (Option Nat)} {els : List (List V)} {evs : List Ev} (hb : Bd h idb ida ids els evs) (cs : List V) (x : Ev) (i : Option Nat) (hcs : NzL cs x.s.cells)
  (hn : i = none → x.next = []) (hi : ∀ j, i = some j → h j = some (.arr 1 (x.next.map intC)) ∧ ¬ Own idb ida ids evs j) (hl : evs.length < 1000000) (R : V → Heap → Prop)
  (hR : ∀ (ida2 : Nat) (h2 : Heap), h ida2 = none → Bd h2 idb ida2 (ids ++ [i]) (els ++ [cs ++ [nextV x i]]) (evs ++ [x]) → Kept h h2 (Own idb ida ids evs) → R (.int .i64 evs.length) h2) :
  Ret prog 24 [.ep idb 0 0, .agg cs, nextV x i] h R := by
 have hc19 : cs.length = 19 := by rw [hcs.1, St.cells_cs]; rfl
 have hbox := hb.box
 generalize hnv : nextV x i = nv at hR ⊢
 have hnvc : cellsOf nv = some [nv] := by rw [← hnv]; cases i <;> rfl
 obtain ⟨c0, c1, c2, c3, c4, c5, c6, c7, c8, c9, c10, c11, c12, c13, c14, c15, c16, c17, c18, rfl⟩ := list19 hc19
 refine Ret.by_text rfl rfl ?_
 simp -implicitDefEqProofs only [go_sem, rB, rA, rS, a24]
 intro g
 simp -implicitDefEqProofs only [go_sem, rB, rA, rS, rM, rL, hbox, hnvc]
 intro idt hidt
 have n1 : idb ≠ idt := ne_of_some hbox hidt
 simp -implicitDefEqProofs only [go_sem, rA, rL, elemsOf, upd_self]
 have hfin : ∀ (ida2 : Nat) (h2 : Heap), h ida2 = none → h2 idb = some (.arr 1 [[.msl ida2 0 (evs.length + 1)]]) → h2 ida2 = some (.arr 20 (els ++ [[c0, c1, c2, c3, c4, c5, c6, c7, c8, c9, c10, c11, c12, c13, c14, c15, c16, c17, c18] ++ [nextV x i]])) → (∀ j b, h j = some b → j ≠ idb → (j = ida → evs.length = 0) → h2 j = some b) → R (.int .i64 evs.length) h2 := by
  intro ida2 h2 q1 q2 q3 q4
  obtain ⟨p1, p2⟩ := hb.push hcs hn hi q1 q2 q3 q4
  rw [hnv] at p1
  exact hR ida2 h2 q1 p1 p2
 have hw : IntKind.i64.wrap (((evs.length + 1 : Nat) : Int) - 1) = (evs.length : Int) := wrap_pred (by omega)
 rcases Nat.eq_zero_or_pos evs.length with h0 | h0
 ·have hels : els = [] := List.eq_nil_of_length_eq_zero (by rw [hb.ell, h0])
  rw [slV, if_pos h0]
  refine appK_nil (by simp) (by simp) (by simp) ?_
  intro ida2 hida2
  have n2 : idb ≠ ida2 := ne_of_some (by rw [upd_other _ _ n1]; exact hbox) hida2
  have n3 : ida2 ≠ idt := by intro e; subst e; rw [upd_self] at hida2; cases hida2
  have hida3 : h ida2 = none := by rw [← hida2, upd_other _ _ n3]
  rw [h0] at hbox hfin
  simp -implicitDefEqProofs only [go_sem, rB, rA, rS, rL, upd_other _ _ n2, upd_other _ _ n1, hbox, slV, upd_self, show IntKind.i64.wrap (((1 : Nat) : Int) - 1) = ((0 : Nat) : Int) from rfl]
  refine post1 ?_
  simp -implicitDefEqProofs only [go_sem, rB, rA, rS]
  refine hfin ida2 _ hida3 ?_ ?_ fun j b hj hne _ => ?_
  ·rw [upd_self]
  ·rw [upd_other _ _ (Ne.symm n2), upd_self, hels, hnv]; rfl
  ·rw [upd_other _ _ hne, upd_other _ _ (ne_of_some hj hida3), upd_other _ _ (ne_of_some hj hidt)]; exact hj
 ·have hpos : evs.length ≠ 0 := by omega
  have harr := hb.arr h0
  have hell := hb.ell
  have n4 : ida ≠ idt := ne_of_some harr hidt
  rw [slV, if_neg hpos]
  refine appK_msl (els := els) (by rw [upd_other _ _ n4, harr]) (by simp) (by omega) (by simp only [List.length_cons, List.length_nil]; omega) ?_
  intro ida2 hida2 hne2
  have n2 : idb ≠ ida2 := ne_of_some (by rw [upd_other _ _ n1]; exact hbox) hida2
  have n3 : ida2 ≠ idt := by intro e; subst e; rw [upd_self] at hida2; cases hida2
  have hida3 : h ida2 = none := by rw [← hida2, upd_other _ _ n3]
  rw [slV, if_neg hpos] at hbox
  simp -implicitDefEqProofs only [W_region, W_seq, W_ret, Thn_normal, wOps_nil, wOps_cons, val_0, valK_eq, onPut_some, st_0, stK_eq, onS_some, ev_E, ev_c, set_E, look_cons, look_nil, cond_true, cond_false, rB, rA, rS, rL, if_true, if_false, storeOf, storeCells, over, List.append_nil, Bool.false_eq_true, and_self, List.getElem?_cons_zero, List.length_cons, List.length_nil, List.drop_succ_cons, List.take_zero, List.drop_nil, List.set_cons_zero, List.nil_append, AVal.eval, cellsOf_msl, loadOf, cellsAt, partOf, binOf, intOf, upd_other _ _ n2, upd_other _ _ n1, upd_other _ _ hb.ne, hbox, upd_self, hw]
  refine post1 ?_
  simp -implicitDefEqProofs only [go_sem, rB, rA, rS]
  refine hfin ida2 _ hida3 ?_ ?_ fun j b hj hne hj0 => ?_
  ·rw [upd_self]
  ·rw [upd_other _ _ (Ne.symm n2), upd_self, hnv, List.take_of_length_le (by omega)]; rfl
  ·rw [upd_other _ _ hne, upd_other _ _ (ne_of_some hj hida3), upd_other _ _ (fun e => hpos (hj0 e)), upd_other _ _ (ne_of_some hj hidt)]; exact hj
end TryzT
end Go.Abs
namespace Go.Abs
open Go
namespace TryzT

theorem same26 (a : Ex) : ∀ (b : Ex), a.size < 4611686018427387904 → Ret prog 115 [a.v, b.v] Heap.none fun r _ => r = .bool (a.same b) := by
 induction hn : a.size using Nat.strongRecOn generalizing a with
 | ind n ih =>
 intro b hb
 subst hn
 have hz := a.size_eq
 have hl := size_len a.l
 refine Ret.by_text rfl rfl ?_
 simp -implicitDefEqProofs only [go_sem, rB, rA, rS, rL, a115, Ex.cellsOf_v]
 intro g1 g2
 refine br_intro (fun h1 => ?_) (fun h1 => ?_)
 ·simp -implicitDefEqProofs only [go_sem, rB, rA, rS, h1]
  refine post1 ?_
  simp -implicitDefEqProofs only [go_sem, rB, rA, rS, Ex.same_eq, sameL_eq]
  first | (rw [all2_len (by simpa [Int.natCast_inj] using h5), Bool.and_false]) | simp_all
 simp -implicitDefEqProofs only [go_sem, rB, rA, rS, rL, h1]
 refine br_intro (fun h2 => ?_) (fun h2 => ?_)
 ·simp -implicitDefEqProofs only [go_sem, rB, rA, rS, h2]
  refine post1 ?_
  simp -implicitDefEqProofs only [go_sem, rB, rA, rS, Ex.same_eq, sameL_eq]
  first | (rw [all2_len (by simpa [Int.natCast_inj] using h5), Bool.and_false]) | simp_all
 simp -implicitDefEqProofs only [go_sem, rB, rA, rS, rL, h2]
 refine br_intro (fun h3 => ?_) (fun h3 => ?_)
 ·simp -implicitDefEqProofs only [go_sem, rB, rA, rS, h3]
  refine post1 ?_
  simp -implicitDefEqProofs only [go_sem, rB, rA, rS, Ex.same_eq, sameL_eq]
  first | (rw [all2_len (by simpa [Int.natCast_inj] using h5), Bool.and_false]) | simp_all
 simp -implicitDefEqProofs only [go_sem, rB, rA, rS, rL, h3]
 refine br_intro (fun h4 => ?_) (fun h4 => ?_)
 ·simp -implicitDefEqProofs only [go_sem, rB, rA, rS, h4]
  refine post1 ?_
  simp -implicitDefEqProofs only [go_sem, rB, rA, rS, Ex.same_eq, sameL_eq]
  first | (rw [all2_len (by simpa [Int.natCast_inj] using h5), Bool.and_false]) | simp_all
 simp -implicitDefEqProofs only [go_sem, rB, rA, rS, rL, h4]
 refine br_intro (fun h5 => ?_) (fun h5 => ?_)
 ·simp -implicitDefEqProofs only [go_sem, h5]
  refine post1 ?_
  simp -implicitDefEqProofs only [go_sem, rB, rA, rS, Ex.same_eq, sameL_eq]
  first | (rw [all2_len (by simpa [Int.natCast_inj] using h5), Bool.and_false]) | simp_all
 simp -implicitDefEqProofs only [go_sem, rB, h5]
 simp only [bne_eq_false_iff_eq, Int.natCast_inj] at h1 h2 h3 h4 h5
 refine Loop.rec (fun k : Nat => a.l.length - k) (fun k => ⟨E 60 [(2, .lp 2 g1 0), (3, .lp 3 g2 0), (5, .int .i64 k)], B 60 [(2, some (g1, a.cs)), (3, some (g2, b.cs))], Heap.none⟩)
  (fun k => k ≤ a.l.length ∧ a.same b = all2 Ex.same (a.l.drop k) (b.l.drop k)) ?_ 0 ⟨Nat.zero_le _, by simp [Ex.same_eq, sameL_eq, h1, h2, h3, h4]⟩ rfl
 intro k hk hi
 simp -implicitDefEqProofs only [go_sem, rB, rA, rS, rL, Ex.cs]
 refine br_intro (fun h6 => ?_) (fun h6 => ?_)
 ·have h7 : k < a.l.length := by simpa using h6
  obtain ⟨x, hx⟩ : ∃ x, a.l[k]? = some x := ⟨_, lG h7⟩
  obtain ⟨y, hy⟩ : ∃ y, b.l[k]? = some y := ⟨_, lG (h5 ▸ h7)⟩
  have hs := size_mem hx
  simp -implicitDefEqProofs only [go_sem, rB, rA, rS, rL, hx, hy, x.cells_eq, y.cells_eq, Ex.fold]
  first | refine callOk_pure (ih _ (by omega) x rfl y (by omega)) ?_ | refine callPure_pure (ih _ (by omega) x rfl y (by omega)) ?_
  simp -implicitDefEqProofs only [go_sem, rB, rA, rS]
  refine br_intro (fun h8 => ?_) (fun h8 => ?_)
  ·simp -implicitDefEqProofs only [go_sem, rB, rA, rS, wrap_succ (show k < 9223372036854775807 by omega)]
   exact hi (k + 1) (by omega) ⟨by omega, by rw [hk.2, all2_drop hx hy, h8, Bool.true_and]⟩
  ·simp -implicitDefEqProofs only [go_sem]
   refine post1 ?_
   simp -implicitDefEqProofs only [go_sem, rB, rA, rS]
   rw [hk.2, all2_drop hx hy, h8, Bool.false_and]
 ·simp -implicitDefEqProofs only [go_sem, rB]
  refine post1 ?_
  simp -implicitDefEqProofs only [go_sem, rB, rA, rS]
  have h7 : ¬ k < a.l.length := by simpa using h6
  rw [hk.2, all2_end (by omega) h5]

theorem same33 (a : Ex) : ∀ (b : Ex), a.size < 4611686018427387904 → Ret prog 77 [a.v, b.v] Heap.none fun r _ => r = .bool (a.same b) := by
 induction hn : a.size using Nat.strongRecOn generalizing a with
 | ind n ih =>
 intro b hb
 subst hn
 have hz := a.size_eq
 have hl := size_len a.l
 refine Ret.by_text rfl rfl ?_
 simp -implicitDefEqProofs only [go_sem, rB, rA, rS, rL, a77, Ex.cellsOf_v]
 intro g1 g2
 refine br_intro (fun h1 => ?_) (fun h1 => ?_)
 ·simp -implicitDefEqProofs only [go_sem, rB, rA, rS, h1]
  refine post1 ?_
  simp -implicitDefEqProofs only [go_sem, rB, rA, rS, Ex.same_eq, sameL_eq]
  first | (rw [all2_len (by simpa [Int.natCast_inj] using h5), Bool.and_false]) | simp_all
 simp -implicitDefEqProofs only [go_sem, rB, rA, rS, rL, h1]
 refine br_intro (fun h2 => ?_) (fun h2 => ?_)
 ·simp -implicitDefEqProofs only [go_sem, rB, rA, rS, h2]
  refine post1 ?_
  simp -implicitDefEqProofs only [go_sem, rB, rA, rS, Ex.same_eq, sameL_eq]
  first | (rw [all2_len (by simpa [Int.natCast_inj] using h5), Bool.and_false]) | simp_all
 simp -implicitDefEqProofs only [go_sem, rB, rA, rS, rL, h2]
 refine br_intro (fun h3 => ?_) (fun h3 => ?_)
 ·simp -implicitDefEqProofs only [go_sem, rB, rA, rS, h3]
  refine post1 ?_
  simp -implicitDefEqProofs only [go_sem, rB, rA, rS, Ex.same_eq, sameL_eq]
  first | (rw [all2_len (by simpa [Int.natCast_inj] using h5), Bool.and_false]) | simp_all
 simp -implicitDefEqProofs only [go_sem, rB, rA, rS, rL, h3]
 refine br_intro (fun h4 => ?_) (fun h4 => ?_)
 ·simp -implicitDefEqProofs only [go_sem, rB, rA, rS, h4]
  refine post1 ?_
  simp -implicitDefEqProofs only [go_sem, rB, rA, rS, Ex.same_eq, sameL_eq]
  first | (rw [all2_len (by simpa [Int.natCast_inj] using h5), Bool.and_false]) | simp_all
 simp -implicitDefEqProofs only [go_sem, rB, rA, rS, rL, h4]
 refine br_intro (fun h5 => ?_) (fun h5 => ?_)
 ·simp -implicitDefEqProofs only [go_sem, h5]
  refine post1 ?_
  simp -implicitDefEqProofs only [go_sem, rB, rA, rS, Ex.same_eq, sameL_eq]
  first | (rw [all2_len (by simpa [Int.natCast_inj] using h5), Bool.and_false]) | simp_all
 simp -implicitDefEqProofs only [go_sem, rB, rA, rS, rL, h5]
 simp only [bne_eq_false_iff_eq, Int.natCast_inj] at h1 h2 h3 h4 h5
 refine Loop.rec (fun k : Nat => a.l.length - k) (fun k => ⟨E 60 [(2, .lp 2 g1 0), (3, .lp 3 g2 0), (43, .int .i64 a.l.length), (44, .int .i64 k)], B 60 [(2, some (g1, a.cs)), (3, some (g2, b.cs))], Heap.none⟩)
  (fun k => k ≤ a.l.length ∧ a.same b = all2 Ex.same (a.l.drop k) (b.l.drop k)) ?_ 0 ⟨Nat.zero_le _, by simp [Ex.same_eq, sameL_eq, h1, h2, h3, h4]⟩ rfl
 intro k hk hi
 simp -implicitDefEqProofs only [go_sem, rB, rA, rS, Ex.cs]
 refine br_intro (fun h6 => ?_) (fun h6 => ?_)
 ·have h7 : k < a.l.length := by simpa using h6
  obtain ⟨x, hx⟩ : ∃ x, a.l[k]? = some x := ⟨_, lG h7⟩
  obtain ⟨y, hy⟩ : ∃ y, b.l[k]? = some y := ⟨_, lG (h5 ▸ h7)⟩
  have hs := size_mem hx
  simp -implicitDefEqProofs only [go_sem, rB, rA, rS, rL, hx, hy, x.cells_eq, y.cells_eq, Ex.fold]
  first | refine callOk_pure (ih _ (by omega) x rfl y (by omega)) ?_ | refine callPure_pure (ih _ (by omega) x rfl y (by omega)) ?_
  simp -implicitDefEqProofs only [go_sem, rB, rA, rS]
  refine br_intro (fun h8 => ?_) (fun h8 => ?_)
  ·simp -implicitDefEqProofs only [go_sem, rB, rA, rS, wrap_succ (show k < 9223372036854775807 by omega)]
   exact hi (k + 1) (by omega) ⟨by omega, by rw [hk.2, all2_drop hx hy, h8, Bool.true_and]⟩
  ·simp -implicitDefEqProofs only [go_sem]
   refine post1 ?_
   simp -implicitDefEqProofs only [go_sem, rB, rA, rS]
   rw [hk.2, all2_drop hx hy, h8, Bool.false_and]
 ·simp -implicitDefEqProofs only [go_sem, rB]
  refine post1 ?_
  simp -implicitDefEqProofs only [go_sem, rB, rA, rS]
  have h7 : ¬ k < a.l.length := by simpa using h6
  rw [hk.2, all2_end (by omega) h5]

theorem ints28 (a b : List Int) (hb : a.length < 4611686018427387904) : Ret prog 16 [intsV a, intsV b] Heap.none fun r _ => r = .bool (all2 (fun x y => x == y) a b) := by
 refine Ret.by_text rfl rfl ?_
 simp -implicitDefEqProofs only [go_sem, rB, rA, rS, a16, intsV]
 refine br_intro (fun h5 => ?_) (fun h5 => ?_)
 ·simp -implicitDefEqProofs only [go_sem, h5]
  refine post1 ?_
  simp -implicitDefEqProofs only [go_sem, rB, rA, rS]
  rw [all2_len (by simpa [Int.natCast_inj] using h5)]
 simp -implicitDefEqProofs only [go_sem, rB, h5]
 simp only [bne_eq_false_iff_eq, Int.natCast_inj] at h5
 refine Loop.rec (fun k : Nat => a.length - k) (fun k => ⟨E 26 [(0, intsV a), (1, intsV b), (5, .int .i64 k)], B 26 [], Heap.none⟩)
  (fun k => k ≤ a.length ∧ all2 (fun x y => x == y) a b = all2 (fun x y => x == y) (a.drop k) (b.drop k)) ?_ 0 ⟨Nat.zero_le _, rfl⟩ rfl
 intro k hk hi
 simp -implicitDefEqProofs only [go_sem, rB, rA, rS, intsV]
 refine br_intro (fun h6 => ?_) (fun h6 => ?_)
 ·have h7 : k < a.length := by simpa using h6
  obtain ⟨x, hx⟩ : ∃ x, a[k]? = some x := ⟨_, lG h7⟩
  obtain ⟨y, hy⟩ : ∃ y, b[k]? = some y := ⟨_, lG (h5 ▸ h7)⟩
  simp -implicitDefEqProofs only [go_sem, rB, rA, rS, rL, hx, hy, intC]
  refine br_intro (fun h8 => ?_) (fun h8 => ?_)
  ·simp -implicitDefEqProofs only [go_sem, h8]
   refine post1 ?_
   simp -implicitDefEqProofs only [go_sem, rB, rA, rS]
   rw [hk.2, all2_drop hx hy, show (x == y) = false by simpa [bne] using h8, Bool.false_and]
  ·simp -implicitDefEqProofs only [go_sem, rB, rA, rS, h8, wrap_succ (show k < 9223372036854775807 by omega)]
   exact hi (k + 1) (by omega) ⟨by omega, by rw [hk.2, all2_drop hx hy, show (x == y) = true by simpa [bne] using h8, Bool.true_and]⟩
 ·simp -implicitDefEqProofs only [go_sem, rB]
  refine post1 ?_
  simp -implicitDefEqProofs only [go_sem, rB, rA, rS]
  have h7 : ¬ k < a.length := by simpa using h6
  rw [hk.2, all2_end (by omega) h5]

end TryzT
end Go.Abs
namespace Go.Abs
open Go
namespace TryzT

def Left2 (n : Nat) (most : Int) (v : V) : Prop := ∃ r : Int, v = .int .i64 r ∧ -1 ≤ r ∧ (0 ≤ r → (n : Int) + r ≤ most)

theorem room41 : ∀ (deep : Nat) (e : Ex) (most : Int), deep ≤ 1000 → -1 ≤ most → most ≤ 1073741824 → Ret prog 65 [e.v, .int .i64 most, .int .i64 deep] Heap.none fun r _ => Left2 e.size most r := by
 intro deep
 induction deep with
 | zero =>
  intro e most hd h1 h2
  refine Ret.by_text rfl rfl ?_
  simp -implicitDefEqProofs only [go_sem, rB, rA, rS, a65, Ex.cellsOf_v]
  intro g1
  refine br_intro (fun h3 => ?_) (fun h3 => ?_)
  ·simp -implicitDefEqProofs only [go_sem, rB, rA, rS, h3]
   refine post1 ?_
   simp -implicitDefEqProofs only [go_sem, rB, rA, rS]
   exact ⟨-1, rfl, by omega, by omega⟩
  ·simp -implicitDefEqProofs only [go_sem, rB, rA, rS, h3, show (decide (((0 : Nat) : Int) < 1)) = true from rfl]
   refine post1 ?_
   simp -implicitDefEqProofs only [go_sem, rB, rA, rS]
   exact ⟨-1, rfl, by omega, by omega⟩
 | succ d ih =>
  intro e most hd h1 h2
  have hz := e.size_eq
  refine Ret.by_text rfl rfl ?_
  simp -implicitDefEqProofs only [go_sem, rB, rA, rS, a65, Ex.cellsOf_v]
  intro g1
  refine br_intro (fun h3 => ?_) (fun h3 => ?_)
  ·simp -implicitDefEqProofs only [go_sem, rB, rA, rS, h3]
   refine post1 ?_
   simp -implicitDefEqProofs only [go_sem, rB, rA, rS]
   exact ⟨-1, rfl, by omega, by omega⟩
  ·have h4 : 1 ≤ most := by simpa using h3
   have h5 : decide (((d + 1 : Nat) : Int) < 1) = false := by simp; omega
   simp -implicitDefEqProofs only [go_sem, rB, rA, rS, h3, h5, wrap_in (show -9223372036854775808 ≤ most - 1 ∧ most - 1 ≤ 9223372036854775807 by omega)]
   refine Loop.rec (α := Int × Nat) (fun k => e.l.length - k.2) (fun k => ⟨E 35 [(1, .int .i64 k.1), (2, .int .i64 (d + 1 : Nat)), (3, .lp 3 g1 0), (7, .int .i64 k.2)], B 35 [(3, some (g1, e.cs))], Heap.none⟩)
    (fun k => k.2 ≤ e.l.length ∧ 0 ≤ k.1 ∧ (e.size : Int) + k.1 ≤ most + sizeL (e.l.drop k.2)) ?_ (most - 1, 0) ⟨Nat.zero_le _, by simp only []; omega, by simp only [List.drop_zero]; omega⟩ rfl
   intro ⟨mo, k⟩ ⟨hk, hm, hs⟩ hi
   simp only [] at hk hm hs
   have hst := size_take e.l k hk
   simp -implicitDefEqProofs only [go_sem, rB, rA, rS, rL, Ex.cs]
   refine br_intro (fun h6 => ?_) (fun h6 => ?_)
   ·have h7 : k < e.l.length := by simpa using h6
    obtain ⟨x, hx⟩ : ∃ x, e.l[k]? = some x := ⟨_, lG h7⟩
    have hsx := size_drop hx
    simp -implicitDefEqProofs only [go_sem, rB, rA, rS, rL, hx, x.cells_eq, Ex.fold, wrap_pred (show d < 9223372036854775807 by omega)]
    refine callOk_of (ih x mo (by omega) (by omega) (by omega)) ?_
    rintro u ⟨r, rfl, hr1, hr2⟩
    simp -implicitDefEqProofs only [go_sem, rB, rA, rS]
    refine br_intro (fun h8 => ?_) (fun h8 => ?_)
    ·simp -implicitDefEqProofs only [go_sem]
     refine post1 ?_
     simp -implicitDefEqProofs only [go_sem, rB, rA, rS]
     exact ⟨-1, rfl, by omega, by omega⟩
    ·simp -implicitDefEqProofs only [go_sem, rB, rA, rS, wrap_succ (show k < 9223372036854775807 by omega)]
     have h9 : 0 ≤ r := by simpa using h8
     have := hr2 h9
     exact hi (r, k + 1) (by simp only []; omega) ⟨by simp only []; omega, h9, by simp only []; omega⟩
   ·simp -implicitDefEqProofs only [go_sem, rB, rA, rS]
    refine post1 ?_
    simp -implicitDefEqProofs only [go_sem, rB, rA, rS]
    have h7 : ¬ k < e.l.length := by simpa using h6
    rw [List.drop_eq_nil_of_le (by omega)] at hs
    simp only [sizeL] at hs
    exact ⟨mo, rfl, by omega, by omega⟩

theorem few30 (e : Ex) (most : Int) (h1 : -1 ≤ most) (h2 : most ≤ 1073741824) : Ret prog 47 [e.v, .int .i64 most] Heap.none fun r _ => ∃ b : Bool, r = .bool b ∧ (b = true → (e.size : Int) ≤ most) := by
 refine Ret.by_text rfl rfl ?_
 simp -implicitDefEqProofs only [go_sem, rB, rA, rS, rL, a47, Ex.cellsOf_v]
 intro g1
 simp -implicitDefEqProofs only [go_sem, Ex.fold]
 refine callOk_of (room41 40 e most (by omega) h1 h2) ?_
 rintro u ⟨r, rfl, hr1, hr2⟩
 simp -implicitDefEqProofs only [go_sem, rB, rA, rS]
 refine post1 ?_
 simp -implicitDefEqProofs only [go_sem, rB, rA, rS]
 refine ⟨_, rfl, fun h => ?_⟩
 have h3 : 0 ≤ r := by simpa using h
 have := hr2 h3
 omega
end TryzT
end Go.Abs
namespace Go.Abs
open Go

mutual
def St.cnt : St → Nat
 | .mk _ _ _ _ _ _ _ _ body els arms => 1 + cntL body + cntL els + cntA arms
def cntL : List St → Nat
 | [] => 0
 | x :: l => x.cnt + cntL l
def Am.cnt : Am → Nat
 | .mk _ body => cntL body
def cntA : List Am → Nat
 | [] => 0
 | x :: l => x.cnt + cntA l
end
theorem St.cnt_eq (x : St) : x.cnt = 1 + cntL x.body + cntL x.els + cntA x.arms := by cases x; rfl
theorem Am.cnt_eq (x : Am) : x.cnt = cntL x.body := by cases x; rfl
theorem cnt_drop {l : List St} {k : Nat} {x : St} (h : l[k]? = some x) : cntL (l.drop k) = x.cnt + cntL (l.drop (k + 1)) := by
 obtain ⟨a, e1⟩ := lS.1 h
 rw [List.drop_eq_getElem_cons a, e1]; rfl
theorem cntA_drop {l : List Am} {k : Nat} {x : Am} (h : l[k]? = some x) : cntA (l.drop k) = x.cnt + cntA (l.drop (k + 1)) := by
 obtain ⟨a, e1⟩ := lS.1 h
 rw [List.drop_eq_getElem_cons a, e1]; rfl
theorem cnt_take (l : List St) : ∀ (k : Nat), k ≤ l.length → k + cntL (l.drop k) ≤ cntL l := by
 induction l with
 | nil => intro k h; simp at h; subst h; simp [cntL]
 | cons x l ih =>
  intro k h
  cases k with
  | zero => simp
  | succ k => have := ih k (by simpa using h); have := x.cnt_eq; simp [cntL]; omega

theorem cntA_le (l : List Am) : ∀ (k : Nat), cntA (l.drop k) ≤ cntA l := by
 induction l with
 | nil => intro k; simp
 | cons x l ih =>
  intro k
  cases k with
  | zero => simp
  | succ k => have := ih k; simp [cntA]; omega

structure St.Flat (x : St) : Prop where
 e : x.e.size ≤ 100
 i : x.i.size ≤ 100
 ll : x.l.length ≤ 20
 l : ∀ y ∈ x.l, y.size ≤ 100
 al : x.args.length ≤ 20
 a : ∀ y ∈ x.args, y.e.size ≤ 100
 rl : x.arms.length ≤ 60
def St.Small : Nat → St → Prop
 | 0, _ => False
 | d + 1, x => x.Flat ∧ (∀ y ∈ x.body, St.Small d y) ∧ (∀ y ∈ x.els, St.Small d y) ∧ ∀ a ∈ x.arms, a.labels.length ≤ 300 ∧ ∀ y ∈ a.body, St.Small d y

namespace TryzT
def Room (d : Nat) (l : List St) (most : Int) (v : V) : Prop := ∃ r : Int, v = .int .i64 r ∧ -1 ≤ r ∧ (0 ≤ r → (cntL l : Int) + r ≤ most ∧ ∀ x ∈ l, St.Small d x)

theorem room18 : ∀ (deep : Nat) (l : List St) (most : Int), deep ≤ 1000 → -1 ≤ most → most ≤ 1073741824 → Ret prog 23 [stsV l, .int .i64 most, .int .i64 deep] Heap.none fun r _ => Room deep l most r := by
 intro deep
 induction deep with
 | zero =>
  intro l most hd h1 h2
  refine Ret.by_text rfl rfl ?_
  simp -implicitDefEqProofs only [go_sem, rB, rA, rS, a23, stsV]
  refine br_intro (fun h3 => ?_) (fun h3 => ?_)
  ·simp -implicitDefEqProofs only [go_sem, rB, rA, rS, h3]
   refine post1 ?_
   simp -implicitDefEqProofs only [go_sem, rB, rA, rS]
   exact ⟨-1, rfl, by omega, by omega⟩
  ·simp -implicitDefEqProofs only [go_sem, rB, rA, rS, h3, show (decide (((0 : Nat) : Int) < 1)) = true from rfl]
   refine post1 ?_
   simp -implicitDefEqProofs only [go_sem, rB, rA, rS]
   exact ⟨-1, rfl, by omega, by omega⟩
 | succ d ih =>
  intro l most hd h1 h2
  refine Ret.by_text rfl rfl ?_
  have h5 : decide (((d + 1 : Nat) : Int) < 1) = false := by simp; omega
  simp -implicitDefEqProofs only [go_sem, rB, rA, rS, a23, stsV]
  refine br_intro (fun h3 => ?_) (fun h3 => ?_)
  ·simp -implicitDefEqProofs only [go_sem, rB, rA, rS, h3]
   refine post1 ?_
   simp -implicitDefEqProofs only [go_sem, rB, rA, rS]
   exact ⟨-1, rfl, by omega, by omega⟩
  ·have h4 : (l.length : Int) ≤ most := by simpa using h3
   simp -implicitDefEqProofs only [go_sem, rB, rA, rS, h3, h5]
   refine Loop.rec (α := Int × Nat) (fun k => l.length - k.2) (fun k => ⟨E 138 [(0, stsV l), (1, .int .i64 k.1), (2, .int .i64 (d + 1 : Nat)), (7, .int .i64 k.2)], B 138 [], Heap.none⟩)
    (fun k => k.2 ≤ l.length ∧ 0 ≤ k.1 ∧ (cntL l : Int) + k.1 ≤ most + cntL (l.drop k.2) ∧ ∀ i x, i < k.2 → l[i]? = some x → St.Small (d + 1) x) ?_ (most, 0) ⟨Nat.zero_le _, by simp only []; omega, by simp only [List.drop_zero]; omega, fun i x h => by simp at h⟩ rfl
   intro ⟨mo, k⟩ ⟨hk, hm, hs, hall⟩ hi
   simp only [] at hk hm hs hall
   have hst := cnt_take l k hk
   simp -implicitDefEqProofs only [go_sem, rB, rA, rS, stsV]
   refine br_intro (fun h6 => ?_) (fun h6 => ?_)
   ·have h7 : k < l.length := by simpa using h6
    obtain ⟨x, hx⟩ : ∃ x, l[k]? = some x := ⟨_, lG h7⟩
    have hsx := cnt_drop hx
    simp -implicitDefEqProofs only [go_sem, rB, rA, rS, rL, hx, x.cells_eq, St.fold, St.cellsOf_v, St.cs]
    intro g
    refine br_intro (fun c1 => ?_) (fun c1 => ?_)
    ·simp -implicitDefEqProofs only [go_sem, rB, rA, rS, c1]
     refine post1 ?_
     simp -implicitDefEqProofs only [go_sem, rB, rA, rS]
     exact ⟨-1, rfl, by omega, by omega⟩
    simp -implicitDefEqProofs only [go_sem, rB, rA, rS, rL, c1]
    refine br_intro (fun c2 => ?_) (fun c2 => ?_)
    ·simp -implicitDefEqProofs only [go_sem, rB, rA, rS, c2]
     refine post1 ?_
     simp -implicitDefEqProofs only [go_sem, rB, rA, rS]
     exact ⟨-1, rfl, by omega, by omega⟩
    simp -implicitDefEqProofs only [go_sem, rB, rA, rS, rL, c2]
    refine br_intro (fun c3 => ?_) (fun c3 => ?_)
    ·simp -implicitDefEqProofs only [go_sem, rB, rA, rS, c3]
     refine post1 ?_
     simp -implicitDefEqProofs only [go_sem, rB, rA, rS]
     exact ⟨-1, rfl, by omega, by omega⟩
    simp -implicitDefEqProofs only [go_sem, rB, rA, rS, rL, c3]
    refine br_intro (fun c4 => ?_) (fun c4 => ?_)
    ·simp -implicitDefEqProofs only [go_sem, rB, rA, rS, c4]
     refine post1 ?_
     simp -implicitDefEqProofs only [go_sem, rB, rA, rS]
     exact ⟨-1, rfl, by omega, by omega⟩
    simp -implicitDefEqProofs only [go_sem, rB, rA, rS, rL, c4]
    simp only [Ex.fold]
    refine callOk_of (few30 x.e 100 (by omega) (by omega)) ?_
    rintro u ⟨b1, rfl, hb1⟩
    simp -implicitDefEqProofs only [go_sem, rB, rA, rS]
    refine br_intro2 (fun c5 => ?_) (fun c5 => ?_)
    ·simp -implicitDefEqProofs only [go_sem, rB, rA, rS, c5]
     refine post1 ?_
     simp -implicitDefEqProofs only [go_sem, rB, rA, rS]
     exact ⟨-1, rfl, by omega, by omega⟩
    simp -implicitDefEqProofs only [go_sem, rB, rA, rS, rL, c5, Ex.fold]
    refine callOk_of (few30 x.i 100 (by omega) (by omega)) ?_
    rintro u ⟨b2, rfl, hb2⟩
    simp -implicitDefEqProofs only [go_sem, rB, rA, rS]
    refine br_intro2 (fun c6 => ?_) (fun c6 => ?_)
    ·simp -implicitDefEqProofs only [go_sem, c6]
     refine post1 ?_
     simp -implicitDefEqProofs only [go_sem, rB, rA, rS]
     exact ⟨-1, rfl, by omega, by omega⟩
    simp -implicitDefEqProofs only [go_sem, rB, c6]
    refine Loop.rec (fun j : Nat => x.l.length - j) (fun j => ⟨E 138 [(0, stsV l), (1, .int .i64 mo), (2, .int .i64 (d + 1 : Nat)), (7, .int .i64 k), (8, .lp 8 g 0), (9, .int .i64 j)], B 138 [(8, some (g, x.cs))], Heap.none⟩)
     (fun j => j ≤ x.l.length ∧ ∀ i y, i < j → x.l[i]? = some y → y.size ≤ 100) ?_ 0 ⟨Nat.zero_le _, fun i y h => by omega⟩ rfl
    intro j ⟨hj, hja⟩ hi2
    simp -implicitDefEqProofs only [go_sem, rB, rA, rS, rL, St.cs]
    have hl20 : x.l.length ≤ 20 := by simp at c2; omega
    refine br_intro (fun h8 => ?_) (fun h8 => ?_)
    ·have h9 : j < x.l.length := by simpa using h8
     obtain ⟨y, hy⟩ : ∃ y, x.l[j]? = some y := ⟨_, lG h9⟩
     simp -implicitDefEqProofs only [go_sem, rB, rA, rS, rL, hy, y.cells_eq, Ex.fold]
     refine callOk_of (few30 y 100 (by omega) (by omega)) ?_
     rintro u ⟨b3, rfl, hb3⟩
     simp -implicitDefEqProofs only [go_sem, rB, rA, rS]
     refine br_intro2 (fun c7 => ?_) (fun c7 => ?_)
     ·simp -implicitDefEqProofs only [go_sem, c7]
      refine post1 ?_
      simp -implicitDefEqProofs only [go_sem, rB, rA, rS]
      exact ⟨-1, rfl, by omega, by omega⟩
     ·simp -implicitDefEqProofs only [go_sem, rB, rA, rS, c7, wrap_succ (show j < 9223372036854775807 by omega)]
      refine hi2 (j + 1) (by omega) ⟨by omega, fun i z hij hz => ?_⟩
      rcases Nat.lt_succ_iff_lt_or_eq.1 hij with h | h
      ·exact hja i z h hz
      ·subst h; rw [hy] at hz; injection hz with hz; subst hz; exact Int.ofNat_le.1 (hb3 c7)
    have h9 : ¬ j < x.l.length := by simpa using h8
    have hLall : ∀ y ∈ x.l, y.size ≤ 100 := by
     intro y hy
     obtain ⟨i, hil, e⟩ := List.getElem_of_mem hy
     exact hja i y (by omega) (by rw [← e]; exact lG hil)
    simp -implicitDefEqProofs only [go_sem, rB, rA, rS, h8]
    clear hi2
    refine Loop.rec (fun j : Nat => x.args.length - j) (fun j => ⟨E 138 [(0, stsV l), (1, .int .i64 mo), (2, .int .i64 (d + 1 : Nat)), (7, .int .i64 k), (8, .lp 8 g 0), (10, .int .i64 j)], B 138 [(8, some (g, x.cs))], Heap.none⟩)
     (fun j => j ≤ x.args.length ∧ ∀ i y, i < j → x.args[i]? = some y → y.e.size ≤ 100) ?_ 0 ⟨Nat.zero_le _, fun i y h => by omega⟩ rfl
    intro j2 ⟨hj2, hja2⟩ hi2
    simp -implicitDefEqProofs only [go_sem, rB, rA, rS, rL, St.cs]
    have ha20 : x.args.length ≤ 20 := by simp at c3; omega
    refine br_intro (fun h10 => ?_) (fun h10 => ?_)
    ·have h11 : j2 < x.args.length := by simpa using h10
     obtain ⟨y, hy⟩ : ∃ y, x.args[j2]? = some y := ⟨_, lG h11⟩
     simp -implicitDefEqProofs only [go_sem, rB, rA, rS, rL, hy, y.cells_eq, Ex.fold]
     refine callOk_of (few30 y.e 100 (by omega) (by omega)) ?_
     rintro u ⟨b3, rfl, hb3⟩
     simp -implicitDefEqProofs only [go_sem, rB, rA, rS]
     refine br_intro2 (fun c7 => ?_) (fun c7 => ?_)
     ·simp -implicitDefEqProofs only [go_sem, c7]
      refine post1 ?_
      simp -implicitDefEqProofs only [go_sem, rB, rA, rS]
      exact ⟨-1, rfl, by omega, by omega⟩
     ·simp -implicitDefEqProofs only [go_sem, rB, rA, rS, c7, wrap_succ (show j2 < 9223372036854775807 by omega)]
      refine hi2 (j2 + 1) (by omega) ⟨by omega, fun i z hij hz => ?_⟩
      rcases Nat.lt_succ_iff_lt_or_eq.1 hij with h | h
      ·exact hja2 i z h hz
      ·subst h; rw [hy] at hz; injection hz with hz; subst hz; exact Int.ofNat_le.1 (hb3 c7)
    have h11 : ¬ j2 < x.args.length := by simpa using h10
    have hAall : ∀ y ∈ x.args, y.e.size ≤ 100 := by
     intro y hy
     obtain ⟨i, hil, e⟩ := List.getElem_of_mem hy
     exact hja2 i y (by omega) (by rw [← e]; exact lG hil)
    simp -implicitDefEqProofs only [go_sem, rB, rA, rS, rL, h10]
    clear hi2
    have c1' : 1 ≤ mo := by simpa using c1
    have hfl : b1 = true ∧ b2 = true := ⟨c5, c6⟩
    have hflat : x.Flat := ⟨Int.ofNat_le.1 (hb1 c5), Int.ofNat_le.1 (hb2 c6), hl20, hLall, ha20, hAall, by simp at c4; omega⟩
    simp only [wrap_in (show -9223372036854775808 ≤ mo - 1 ∧ mo - 1 ≤ 9223372036854775807 by omega), wrap_pred (show d < 9223372036854775807 by omega)]
    have hcx := x.cnt_eq
    refine callOk_of (ih x.body (mo - 1) (by omega) (by omega) (by omega)) ?_
    rintro u ⟨r1, rfl, hr1, hr2⟩
    simp -implicitDefEqProofs only [go_sem, rB, rA, rS]
    refine br_intro2 (fun c8 => ?_) (fun c8 => ?_)
    ·have c9 : r1 < 0 := by simpa using c8
     simp -implicitDefEqProofs only [go_sem, rB, c8]
     refine Loop.step ?_
     simp -implicitDefEqProofs only [go_sem, rB, rA, rS, rL]
     refine br_intro (fun c10 => ?_) (fun c10 => ?_)
     ·simp -implicitDefEqProofs only [go_sem, rB, rA, rS, c8, c10, show (decide (r1 < 0)) = true by simpa using c9]
      refine post1 ?_
      simp -implicitDefEqProofs only [go_sem, rB, rA, rS]
      exact ⟨-1, rfl, by omega, by omega⟩
     ·simp -implicitDefEqProofs only [go_sem, rB, rA, rS, c10, show (decide (r1 < 0)) = true by simpa using c9]
      refine post1 ?_
      simp -implicitDefEqProofs only [go_sem, rB, rA, rS]
      exact ⟨-1, rfl, by omega, by omega⟩
    have c9 : 0 ≤ r1 := by simpa using c8
    obtain ⟨hr3, hr4⟩ := hr2 c9
    simp -implicitDefEqProofs only [go_sem, rB, rA, rS, rL, c8, wrap_pred (show d < 9223372036854775807 by omega)]
    refine callOk_of (ih x.els r1 (by omega) (by omega) (by omega)) ?_
    rintro u ⟨r2, rfl, hq1, hq2⟩
    simp -implicitDefEqProofs only [go_sem, rB, rA, rS]
    refine Loop.rec (α := Int × Nat) (fun j => x.arms.length - j.2) (fun j => ⟨E 138 [(0, stsV l), (1, .int .i64 j.1), (2, .int .i64 (d + 1 : Nat)), (7, .int .i64 k), (8, .lp 8 g 0), (11, .int .i64 j.2)], B 138 [(8, some (g, x.cs))], Heap.none⟩)
     (fun j => j.2 ≤ x.arms.length ∧ -1 ≤ j.1 ∧ (0 ≤ j.1 → (cntL x.body : Int) + cntL x.els + cntA x.arms + j.1 ≤ mo - 1 + cntA (x.arms.drop j.2) ∧ (∀ y ∈ x.els, St.Small d y) ∧ ∀ i a, i < j.2 → x.arms[i]? = some a → a.labels.length ≤ 300 ∧ ∀ y ∈ a.body, St.Small d y)) ?_ (r2, 0)
     ⟨Nat.zero_le _, hq1, fun h => by obtain ⟨e1, e2⟩ := hq2 h; exact ⟨by simp only [List.drop_zero]; omega, e2, fun i a h => by simp at h⟩⟩ rfl
    intro ⟨mo3, j3⟩ ⟨hj3, hm3, hp3⟩ hi2
    simp only [] at hj3 hm3 hp3
    have hr60 := hflat.rl
    simp -implicitDefEqProofs only [go_sem, rB, rA, rS, rL, St.cs]
    refine br_intro (fun h12 => ?_) (fun h12 => ?_)
    ·have h13 : j3 < x.arms.length := by simpa using h12
     simp -implicitDefEqProofs only [go_sem, rB, rA, rS, h12]
     refine br_intro (fun h14 => ?_) (fun h14 => ?_)
     ·have h15 : 0 ≤ mo3 := by simpa using h14
      obtain ⟨q1, q2, q3⟩ := hp3 h15
      obtain ⟨y, hy⟩ : ∃ y, x.arms[j3]? = some y := ⟨_, lG h13⟩
      have hcy := cntA_drop hy
      have hcy2 := y.cnt_eq
      simp -implicitDefEqProofs only [go_sem, rB, rA, rS, rL, h14, hy, y.cells_eq]
      refine br_intro (fun h16 => ?_) (fun h16 => ?_)
      ·simp -implicitDefEqProofs only [go_sem, h16]
       refine post1 ?_
       simp -implicitDefEqProofs only [go_sem, rB, rA, rS]
       exact ⟨-1, rfl, by omega, by omega⟩
      ·simp -implicitDefEqProofs only [go_sem, rB, rA, rS, rL, h16, wrap_pred (show d < 9223372036854775807 by omega), hy, y.cells_eq]
       have hle : mo3 ≤ mo := by
        have := cntA_le x.arms j3
        omega
       refine callOk_of (ih y.body mo3 (by omega) (by omega) (by omega)) ?_
       rintro u ⟨r3, rfl, hs1, hs2⟩
       simp -implicitDefEqProofs only [go_sem, rB, rA, rS, wrap_succ (show j3 < 9223372036854775807 by omega)]
       refine hi2 (r3, j3 + 1) (by simp only []; omega) ⟨by simp only []; omega, hs1, fun h => ?_⟩
       simp only [] at h ⊢
       obtain ⟨e1, e2⟩ := hs2 h
       refine ⟨by omega, q2, fun i a hia ha => ?_⟩
       rcases Nat.lt_succ_iff_lt_or_eq.1 hia with h | h
       ·exact q3 i a h ha
       ·subst h; rw [hy] at ha; injection ha with ha; subst ha
        exact ⟨by simp [] at h16; omega, e2⟩
     ·have h15 : mo3 < 0 := by simpa using h14
      simp -implicitDefEqProofs only [go_sem, rB, rA, rS, h14, show (decide (mo3 < 0)) = true by simpa using h15]
      refine post1 ?_
      simp -implicitDefEqProofs only [go_sem, rB, rA, rS]
      exact ⟨-1, rfl, by omega, by omega⟩
    ·have h13 : ¬ j3 < x.arms.length := by simpa using h12
     simp -implicitDefEqProofs only [go_sem, rB, rA, rS, h12]
     refine br_intro (fun h14 => ?_) (fun h14 => ?_)
     ·simp -implicitDefEqProofs only [go_sem, h14]
      refine post1 ?_
      simp -implicitDefEqProofs only [go_sem, rB, rA, rS]
      exact ⟨-1, rfl, by omega, by omega⟩
     ·have h15 : 0 ≤ mo3 := by simpa using h14
      obtain ⟨q1, q2, q3⟩ := hp3 h15
      simp -implicitDefEqProofs only [go_sem, rB, rA, rS, h14, wrap_succ (show k < 9223372036854775807 by omega)]
      rw [List.drop_eq_nil_of_le (by omega)] at q1
      simp only [cntA] at q1
      refine hi (mo3, k + 1) (by simp only []; omega) ⟨by simp only []; omega, h15, by simp only []; omega, fun i z hij hz => ?_⟩
      rcases Nat.lt_succ_iff_lt_or_eq.1 hij with h | h
      ·exact hall i z h hz
      ·subst h; rw [hx] at hz; injection hz with hz; subst hz
       refine ⟨hflat, hr4, q2, fun a ha => ?_⟩
       obtain ⟨i, hil, e⟩ := List.getElem_of_mem ha
       exact q3 i a (by omega) (by rw [← e]; exact lG hil)
   ·simp -implicitDefEqProofs only [go_sem, rB, rA, rS]
    refine post1 ?_
    simp -implicitDefEqProofs only [go_sem, rB, rA, rS]
    have h7 : ¬ k < l.length := by simpa using h6
    rw [List.drop_eq_nil_of_le (by omega)] at hs
    simp only [cntL] at hs
    refine ⟨mo, rfl, by omega, fun _ => ⟨by omega, fun x hx => ?_⟩⟩
    obtain ⟨i, hil, e⟩ := List.getElem_of_mem hx
    exact hall i x (by omega) (by rw [← e]; exact lG hil)

theorem few10 (l : List St) (most : Int) (h1 : -1 ≤ most) (h2 : most ≤ 1073741824) : Ret prog 9 [stsV l, .int .i64 most] Heap.none fun r _ => ∃ b : Bool, r = .bool b ∧ (b = true → (cntL l : Int) ≤ most ∧ ∀ x ∈ l, St.Small 40 x) := by
 refine Ret.by_text rfl rfl ?_
 simp -implicitDefEqProofs only [go_sem, rB, rA, rS, a9]
 refine callOk_of (room18 40 l most (by omega) h1 h2) ?_
 rintro u ⟨r, rfl, hr1, hr2⟩
 simp -implicitDefEqProofs only [go_sem, rB, rA, rS]
 refine post1 ?_
 simp -implicitDefEqProofs only [go_sem, rB, rA, rS]
 refine ⟨_, rfl, fun h => ?_⟩
 have h3 : 0 ≤ r := by simpa using h
 have := hr2 h3
 exact ⟨by omega, this.2⟩

structure _root_.Go.Abs.Ev.Ok (x : Ev) : Prop where
 next : x.next.length ≤ 40
 cost0 : 0 ≤ x.s.cost
 cost : x.s.cost ≤ 1048576
 s : St.Small 40 x.s
 cnt : x.s.cnt ≤ 4

end TryzT
end Go.Abs
namespace Go.Abs
open Go
def placeV (b e n : Int) : V := .agg [.int .i64 b, .int .i64 e, .int .i64 n]
def Built (h : Heap) (idb : Nat) (own : Nat → Prop) (evs : List Ev) (h2 : Heap) : Prop := ∃ ida ids els, Bd h2 idb ida ids els evs ∧ Kept h h2 own ∧ ∀ j, Own idb ida ids evs j → own j ∨ h j = none
theorem Built.trans {h h1 h2 : Heap} {idb ida1 : Nat} {ids1 : List (Option Nat)} {own : Nat → Prop} {evs1 evs2 : List Ev} (hk : Kept h h1 own) (ho : ∀ j, Own idb ida1 ids1 evs1 j → own j ∨ h j = none)
  (h12 : Built h1 idb (Own idb ida1 ids1 evs1) evs2 h2) : Built h idb own evs2 h2 := by
 obtain ⟨ida, ids, els, q1, q2, q3⟩ := h12
 refine ⟨ida, ids, els, q1, fun j b hj hn => q2 j b (hk j b hj hn) (fun hh => ?_), fun j hj => ?_⟩
 ·rcases ho j hh with hh | hh
  ·exact hn hh
  ·rw [hj] at hh; cases hh
 ·rcases q3 j hj with hh | hh
  ·exact ho j hh
  ·by_cases e : own j
   ·exact .inl e
   ·refine .inr ?_
    cases e2 : h j with
    | none => rfl
    | some b => rw [hk j b e2 e] at hh; cases hh
theorem Built.push {h h2 : Heap} {idb ida ida2 idn : Nat} {ids : List (Option Nat)} {els : List (List V)} {evs evs2 : List Ev} {b : Option Blk} (hj : h idn = none) (q1 : (h.upd idn b) ida2 = none ) (q2 : Bd h2 idb ida2 (ids ++ [some idn]) els evs2)
  (q3 : Kept (h.upd idn b) h2 (Own idb ida ids evs)) : Built h idb (Own idb ida ids evs) evs2 h2 := by
 refine ⟨ida2, _, _, q2, fun k c hk hn => q3 k c (by rw [upd_other _ _ (ne_of_some hk hj)]; exact hk) hn, fun j hj2 => ?_⟩
 rcases hj2 with rfl | ⟨rfl, _⟩ | hm
 ·exact .inl (.inl rfl)
 ·refine .inr ?_
  by_cases e : j = idn
  ·subst e; exact hj
  ·rwa [upd_other _ _ e] at q1
 ·rcases List.mem_append.1 hm with hm | hm
  ·exact .inl (.inr (.inr hm))
  ·simp at hm; subst hm; exact .inr hj
theorem Bd.store {h : Heap} {idb ida : Nat} {ids : List (Option Nat)} {els : List (List V)} {evs : List Ev} (hb : Bd h idb ida ids els evs) {k c : Nat} {x : Ev} (hx : evs[k]? = some x) (hc : c < x.next.length) (v : Int) :
  ∃ i cs c19, ids[k]? = some (some i) ∧ els[k]? = some cs ∧ cs = c19 ++ [.msl i 0 x.next.length] ∧ NzL c19 x.s.cells ∧ h i = some (.arr 1 (x.next.map intC)) ∧ Own idb ida ids evs i ∧ i ≠ idb ∧ i ≠ ida ∧
   Bd (h.upd i (some (.arr 1 ((x.next.map intC).set c (intC v))))) idb ida ids els (evs.set k ⟨x.s, x.next.set c v⟩) := by
 obtain ⟨hk, hke⟩ := lS.1 hx
 have hlen := hb.len
 have hell := hb.ell
 obtain ⟨o, ho⟩ : ∃ o, ids[k]? = some o := ⟨_, lG (by omega)⟩
 obtain ⟨cs, hcs⟩ : ∃ o, els[k]? = some o := ⟨_, lG (by omega)⟩
 cases o with
 | none => rw [hb.bare k x hx ho] at hc; simp at hc
 | some i =>
  obtain ⟨c19, e1, e2⟩ := hb.ev k x (some i) cs hx ho hcs
  have hmem : some i ∈ ids := lM ho
  have nb : i ≠ idb := fun e => hb.neb (by rw [← e]; exact hmem)
  have na : i ≠ ida := fun e => hb.nea (by rw [← e]; exact hmem)
  refine ⟨i, cs, c19, ho, hcs, e1, e2, hb.next k x i hx ho, .inr (.inr hmem), nb, na, ?_⟩
  have hget : ∀ (m : Nat) (y : Ev), (evs.set k ⟨x.s, x.next.set c v⟩)[m]? = some y → (m = k ∧ y = ⟨x.s, x.next.set c v⟩) ∨ (m ≠ k ∧ evs[m]? = some y) := by
   intro m y hy
   rw [List.getElem?_set] at hy
   split at hy
   ·rename_i e; subst e; simp only [Option.some.injEq] at hy; exact .inl ⟨rfl, hy.symm⟩
   ·rename_i e; exact .inr ⟨fun h => e h.symm, hy⟩
  refine ⟨by rw [List.length_set]; exact hlen, ?_, fun hp => ?_, by rw [List.length_set]; exact hell, fun m y o ds q1 q2 q3 => ?_, fun m y j q1 q2 => ?_, fun m y q1 q2 => ?_, hb.ne, hb.neb, hb.nea, hb.one⟩
  ·rw [upd_other _ _ (Ne.symm nb), List.length_set]; exact hb.box
  ·rw [upd_other _ _ (Ne.symm na)]; exact hb.arr (by simpa using hp)
  ·rcases hget m y q1 with ⟨rfl, rfl⟩ | ⟨_, q4⟩
   ·rw [ho] at q2; injection q2 with q2; subst q2
    rw [hcs] at q3; injection q3 with q3; subst q3
    exact ⟨c19, by rw [e1]; simp [nextV], e2⟩
   ·exact hb.ev m y o ds q4 q2 q3
  ·rcases hget m y q1 with ⟨rfl, rfl⟩ | ⟨q3, q4⟩
   ·rw [ho] at q2; injection q2 with q2; injection q2 with q2; subst q2
    rw [upd_self, List.map_set]
   ·rw [upd_other _ _ (fun e => q3 (hb.one m k j q2 (by rw [e]; exact ho)))]
    exact hb.next m y j q4 q2
  ·rcases hget m y q1 with ⟨rfl, rfl⟩ | ⟨q3, q4⟩
   ·rw [ho] at q2; cases q2
   ·exact hb.bare m y q4 q2
theorem Bd.frz {h : Heap} {idb ida : Nat} {ids : List (Option Nat)} {els : List (List V)} {evs : List Ev} (hb : Bd h idb ida ids els evs) : Frz h (fun _ => True) (slV ida evs.length) (evsV evs) := by
 unfold slV
 split
 ·rename_i h0
  rw [List.eq_nil_of_length_eq_zero h0]
  exact .nsl 20
 ·rename_i h0
  have hell := hb.ell
  have hlen := hb.len
  have key : ∀ (i : Nat) (x y : List V), els[0 + i]? = some x → (evs.map Ev.cells)[i]? = some y → ∃ e o c19, evs[i]? = some e ∧ ids[i]? = some o ∧ x = c19 ++ [nextV e o] ∧ NzL c19 e.s.cells ∧ y = e.cells := by
   intro i x y h1 h2
   rw [Nat.zero_add] at h1
   rw [List.getElem?_map, Option.map_eq_some_iff] at h2
   obtain ⟨e, he, rfl⟩ := h2
   obtain ⟨o, ho⟩ : ∃ o, ids[i]? = some o := ⟨_, lG (by have := (lS.1 he).1; omega)⟩
   obtain ⟨c19, q1, q2⟩ := hb.ev i e o x he ho h1
   exact ⟨e, o, c19, he, ho, q1, q2, rfl⟩
  refine .msl ida 0 evs.length 20 els (evs.map Ev.cells) trivial (hb.arr (by omega)) (by omega) (by simp) (fun i x y h1 h2 => ?_) (fun i x y j a b h1 h2 h3 h4 => ?_)
  ·obtain ⟨e, o, c19, _, _, rfl, q, rfl⟩ := key i x y h1 h2
   rw [Ev.cells, List.length_append, List.length_append, q.1]; rfl
  ·obtain ⟨e, o, c19, he, ho, rfl, q, rfl⟩ := key i x y h1 h2
   rw [Ev.cells] at h4
   have hl := q.1
   by_cases hj : j < c19.length
   ·rw [List.getElem?_append_left hj] at h3
    rw [List.getElem?_append_left (by omega)] at h4
    exact (q.2 j a b h3 h4).frz
   ·rw [List.getElem?_append_right (by omega)] at h3 h4
    have hj2 : j - c19.length = 0 := by have := (lS.1 h3).1; simp at this; omega
    rw [hj2] at h3
    rw [← hl, hj2] at h4
    simp at h3 h4
    subst h3; subst h4
    cases o with
    | none => rw [hb.bare i e he ho]; exact .nsl 1
    | some i2 => exact Frz.whole trivial (hb.next i e i2 he ho) (by simp)
abbrev OneF := St → List Ev → Int → List Ev × Int
def gFold (f : OneF) (l : List St) (evs : List Ev) (b : Int) : List Ev × Int := l.foldr (fun x r => f x r.1 r.2) (evs, b)
theorem gFold_at {f : OneF} {l : List St} {k : Nat} {x : St} (hx : l[k]? = some x) (evs : List Ev) (b : Int) : gFold f (l.drop k) evs b = f x (gFold f (l.drop (k + 1)) evs b).1 (gFold f (l.drop (k + 1)) evs b).2 := by
 obtain ⟨a, e⟩ := lS.1 hx
 rw [List.drop_eq_getElem_cons a, e]; rfl
theorem gFold_len {f : OneF} (hf : ∀ x evs b, (f x evs b).1.length ≤ evs.length + x.cnt) (l : List St) (evs : List Ev) (b : Int) : (gFold f l evs b).1.length ≤ evs.length + cntL l := by
 induction l with
 | nil => simp [gFold, cntL]
 | cons x l ih => show (f x (gFold f l evs b).1 (gFold f l evs b).2).1.length ≤ _; have := hf x (gFold f l evs b).1 (gFold f l evs b).2; rw [cntL]; omega
theorem cntL_take (l : List St) : ∀ k : Nat, cntL (l.drop k) ≤ cntL l := by
 induction l with
 | nil => intro k; simp
 | cons x l ih => intro k; cases k with
  | zero => simp
  | succ k => have := ih k; simp [cntL]; omega
theorem cntL_len (l : List St) : l.length ≤ cntL l := by
 induction l with
 | nil => simp
 | cons x l ih => have := x.cnt_eq; simp [cntL]; omega
namespace TryzT
def OneOk (f : OneF) (e n : Int) (x : St) : Prop := ∀ (b : Int) (h : Heap) (idb ida : Nat) (ids : List (Option Nat)) (els : List (List V)) (evs : List Ev), Bd h idb ida ids els evs → evs.length + x.cnt < 1000000 → ∀ R : V → Heap → Prop,
 (∀ h2, Built h idb (Own idb ida ids evs) (f x evs b).1 h2 → R (.int .i64 (f x evs b).2) h2) → Ret prog 48 [.ep idb 0 0, x.v, placeV b e n] h R
theorem list20 (f : OneF) (hf : ∀ x evs b, (f x evs b).1.length ≤ evs.length + x.cnt) (e n : Int) (l : List St) (hone : ∀ x ∈ l, OneOk f e n x) (b : Int) (h : Heap) (idb ida : Nat) (ids : List (Option Nat)) (els : List (List V)) (evs : List Ev)
  (hb : Bd h idb ida ids els evs) (hl : evs.length + cntL l < 1000000) (R : V → Heap → Prop) (hR : ∀ h2, Built h idb (Own idb ida ids evs) (gFold f l evs b).1 h2 → R (.int .i64 (gFold f l evs b).2) h2) :
  Ret prog 25 [.ep idb 0 0, stsV l, placeV b e n] h R := by
 have hcl := cntL_len l
 refine Ret.by_text rfl rfl ?_
 simp -implicitDefEqProofs only [go_sem, rB, rA, rS, a25, placeV]
 intro g
 simp -implicitDefEqProofs only [go_sem, rB, rA, rS, stsV, wrap_in (show -9223372036854775808 ≤ (l.length : Int) - 1 ∧ (l.length : Int) - 1 ≤ 9223372036854775807 by omega)]
 refine Loop.rec (α := Nat × Heap) (fun k => k.1) (fun k => ⟨E 25 [(0, .ep idb 0 0), (1, stsV l), (5, .lp 5 g 0), (7, .int .i64 ((k.1 : Int) - 1))], B 25 [(5, some (g, [.int .i64 (gFold f (l.drop k.1) evs b).2, .int .i64 e, .int .i64 n]))], k.2⟩)
  (fun k => k.1 ≤ l.length ∧ Built h idb (Own idb ida ids evs) (gFold f (l.drop k.1) evs b).1 k.2) ?_ (l.length, h) ⟨Nat.le_refl _, by
   rw [List.drop_eq_nil_of_le (Nat.le_refl _)]
   exact ⟨ida, ids, els, hb, fun j b hj _ => hj, fun j hj => .inl hj⟩⟩ (by rw [List.drop_eq_nil_of_le (Nat.le_refl _)]; rfl)
 rintro ⟨k, h1⟩ ⟨hk, hbu⟩ hrec
 simp only [] at hk hbu
 simp -implicitDefEqProofs only [go_sem, rB, rA, rS]
 cases k with
 | zero =>
  simp -implicitDefEqProofs only [go_sem, rB, rA, rS, rL, show decide ((((0 : Nat) : Int) - 1) ≥ 0) = false from rfl]
  refine post1 ?_
  simp -implicitDefEqProofs only [go_sem, rB, rA, rS]
  rw [List.drop_zero] at hbu
  exact hR h1 hbu
 | succ k =>
  obtain ⟨x, hx⟩ : ∃ x, l[k]? = some x := ⟨_, lG (by omega)⟩
  have e1 : (((k + 1 : Nat) : Int) - 1) = (k : Int) := by omega
  have e2 : decide ((k : Int) ≥ 0) = true := by simp
  simp -implicitDefEqProofs only [go_sem, rB, rA, rS, rL, e1, stsV, hx, x.cells_cs, St.cs, St.fold]
  obtain ⟨ida1, ids1, els1, p1, p2, p3⟩ := hbu
  have hc1 := cnt_drop hx
  have hc2 := cntL_take l k
  have hlen1 := gFold_len hf (l.drop (k + 1)) evs b
  refine .inl (hone x (lM hx) _ h1 idb ida1 ids1 els1 _ p1 (by omega) _ fun h2 hb2 => ?_)
  simp -implicitDefEqProofs only [go_sem, rB, rA, rS, rL, wrap_in (show -9223372036854775808 ≤ (k : Int) - 1 ∧ (k : Int) - 1 ≤ 9223372036854775807 by omega)]
  have := hrec (k, h2) (by simp only []; omega) ⟨by simp only []; omega, by
   simp only []
   rw [gFold_at hx]
   exact Built.trans p2 p3 hb2⟩
  rw [gFold_at hx] at this
  exact this

def plainF : OneF := fun x evs b => (evs ++ [⟨x, [b]⟩], evs.length)
def _root_.Go.Abs.St.plainK (x : St) : Prop := x.kind ≠ 7 ∧ x.kind ≠ 8 ∧ x.kind ≠ 9 ∧ x.kind ≠ 10 ∧ x.kind ≠ 11 ∧ x.kind ≠ 12 ∧ x.kind ≠ 13 ∧ x.kind ≠ 14
theorem one31_plain (x : St) (hx : x.plainK) (e n : Int) : OneOk plainF e n x := by
 intro b h idb ida ids els evs hb hl R hR
 have hcx := x.cnt_eq
 obtain ⟨k7, k8, k9, k10, k11, k12, k13, k14⟩ := hx
 have f7 : (x.kind == 7) = false := by simpa using k7
 have f8 : (x.kind == 8) = false := by simpa using k8
 have f9 : (x.kind == 9) = false := by simpa using k9
 have f10 : (x.kind == 10) = false := by simpa using k10
 have f11 : (x.kind == 11) = false := by simpa using k11
 have f12 : (x.kind == 12) = false := by simpa using k12
 have f13 : (x.kind == 13) = false := by simpa using k13
 have f14 : (x.kind == 14) = false := by simpa using k14
 refine Ret.by_text rfl rfl ?_
 simp -implicitDefEqProofs only [go_sem, rB, rA, rS, rL, a48, St.cellsOf_v, St.cs, placeV]
 intro g1 g2 g3 g4
 simp -implicitDefEqProofs only [go_sem, rB, rA, rS, rM, rL, f7, f8, f9, f10, f11, f12, f13, f14, St.fold]
 intro idn hidn
 refine .inl (add19 (hb.alloc hidn _) x.cells ⟨x, [b]⟩ (some idn) (NzL.refl _) (fun h => by cases h) (fun j hj => by
  injection hj with hj; subst hj
  exact ⟨by rw [upd_self]; rfl, hb.fresh hidn⟩) (by omega) _ fun ida2 h2 q1 q2 q3 => ?_)
 simp -implicitDefEqProofs only [go_sem, rB, rA, rS]
 refine post1 ?_
 simp -implicitDefEqProofs only [go_sem, rB, rA, rS]
 refine hR h2 (Built.push hidn q1 q2 q3)

def zeroS (k c : Int) : St := .mk k c 0 0 (.mk 0 0 0 0 []) (.mk 0 0 0 0 []) [] [] [] [] []
def plainG (l : List St) : List Ev :=
 let r := gFold plainF l [⟨zeroS 0 0, [0]⟩, ⟨zeroS 14 0, []⟩] 1
 r.1.set 0 ⟨zeroS 0 0, [r.2]⟩
theorem stmts11 (l : List St) (hp : ∀ x ∈ l, x.plainK) (hl : cntL l < 900000) : Ret prog 10 [stsV l] Heap.none fun r _ => r = evsV (plainG l) := by
 refine Ret.by_text rfl rfl ?_
 simp -implicitDefEqProofs only [go_sem, rB, rA, rS, rM, rL, a10]
 intro idb hidb
 intro idn hidn
 have hb0 : Bd (Heap.none.upd idb (some (.arr 1 [[.nsl]]))) idb (idb + 1) [] [] [] := ⟨rfl, upd_self _ _ _, fun h => absurd h (by simp), rfl, fun k x i cs h => absurd h (by simp), fun k x i h => absurd h (by simp), fun k x h => absurd h (by simp), by omega, by simp, by simp, fun k m i h => absurd h (by simp)⟩
 have hz : ∀ k : Int, NzL [V.int .i64 k, .int .i64 0, .int .i64 0, .int .i64 0, .int .i64 0, .int .i64 0, .int .i64 0, .int .i64 0, .nsl, .int .i64 0, .int .i64 0, .int .i64 0, .int .i64 0, .nsl, .nsl, .nsl, .nsl, .nsl, .nsl] (zeroS k 0).cells := by
  intro k
  rw [St.cells_cs]
  refine ⟨rfl, fun i a b ha hb => ?_⟩
  have hi : i < 19 := by have := (lS.1 ha).1; simpa using this
  match i, hi with
  | 0, _ | 1, _ | 2, _ | 3, _ | 4, _ | 5, _ | 6, _ | 7, _ | 9, _ | 10, _ | 11, _ | 12, _ => simp [St.cs, zeroS, St.kind, St.cost, St.n, St.m, St.e, St.i, Ex.op, Ex.t, Ex.n, Ex.m] at ha hb; subst ha; subst hb; exact .inl rfl
  | 8, _ | 13, _ | 14, _ | 15, _ | 16, _ | 17, _ | 18, _ => simp [St.cs, zeroS, St.e, St.i, St.l, St.args, St.body, St.els, St.arms, Ex.l] at ha hb; subst ha; subst hb; exact .inr ⟨rfl, _, rfl⟩
 refine .inl (add19 (hb0.alloc hidn _) _ ⟨zeroS 0 0, [0]⟩ (some idn) (hz 0) (fun h => by cases h) (fun j hj => by
  injection hj with hj; subst hj
  exact ⟨by rw [upd_self]; rfl, hb0.fresh hidn⟩) (by simp) _ fun ida1 h1 q1 q2 q3 => ?_)
 simp -implicitDefEqProofs only [go_sem, rB, rA, rS, rL]
 refine .inl (add19 q2 _ ⟨zeroS 14 0, []⟩ none (hz 14) (fun h => rfl) (fun j hj => by cases hj) (by simp) _ fun ida2 h2 r1 r2 r3 => ?_)
 simp -implicitDefEqProofs only [go_sem, rB, rA, rS, rL]
 refine .inl (list20 plainF (fun x evs b => by have := x.cnt_eq; simp [plainF]; omega) 1 1 l (fun x hx => one31_plain x (hp x hx) 1 1) 1 h2 idb ida2 _ _ _ r2 (by simp; omega) _ fun h3 hb3 => ?_)
 simp -implicitDefEqProofs only [go_sem, rB, rA, rS]
 have hG0 : ∀ (l : List St), (gFold plainF l [⟨zeroS 0 0, [0]⟩, ⟨zeroS 14 0, []⟩] 1).1[0]? = some ⟨zeroS 0 0, [0]⟩ := by
  intro l
  induction l with
  | nil => rfl
  | cons x l ih =>
   show ((gFold plainF l _ 1).1 ++ _)[0]? = _
   rw [List.getElem?_append_left (lS.1 ih).1]; exact ih
 obtain ⟨ida3, ids3, els3, s1, s2, s3⟩ := hb3
 simp only [List.nil_append, List.cons_append] at s1
 have hpos : 0 < (gFold plainF l [⟨zeroS 0 0, [0]⟩, ⟨zeroS 14 0, []⟩] 1).1.length := (lS.1 (hG0 l)).1
 obtain ⟨i, cs, c19, t1, t2, rfl, t4, t5, t6, t7, t8, t9⟩ := s1.store (hG0 l) (c := 0) (by simp) (gFold plainF l [⟨zeroS 0 0, [0]⟩, ⟨zeroS 14 0, []⟩] 1).2
 have hc19 : c19.length = 19 := by rw [t4.1, St.cells_cs]; rfl
 obtain ⟨c0, c1, c2, c3, c4, c5, c6, c7, c8, c9, c10, c11, c12, c13, c14, c15, c16, c17, c18, rfl⟩ := list19 hc19
 have hbox := s1.box
 rw [slV, if_neg (by omega)] at hbox
 have hbx2 := t9.box
 rw [List.length_set, slV, if_neg (by omega)] at hbx2
 have hpi : ((0 : Int) < ((gFold plainF l [⟨zeroS 0 0, [0]⟩, ⟨zeroS 14 0, []⟩] 1).1.length : Int)) = True := eq_true (by omega)
 simp -implicitDefEqProofs only [go_sem, rB, rA, rS, rL, jL, jN, hbox, s1.arr hpos, hpi, t2, t5, intC, show ((0 : Int) < ((1 : Nat) : Int)) = True by simp, upd_other _ _ (Ne.symm t7)]
 refine post_frz (R := fun r _ => r = evsV (plainG l)) (v := slV ida3 (plainG l).length) (u := evsV (plainG l)) (h2 := Heap.none) (fun _ => True) ?_ ?_ (fun _ _ hh => absurd hh (by simp [Heap.none])) (fun _ _ => rfl) rfl
 ·have hpl : (plainG l).length = (gFold plainF l [⟨zeroS 0 0, [0]⟩, ⟨zeroS 14 0, []⟩] 1).1.length := by simp [plainG]
  rw [hpl, slV, if_neg (by omega)]
  rfl
 ·exact t9.frz
end TryzT
end Go.Abs
namespace Go.Abs
open Go
def zeroEx : Ex := .mk 0 0 0 0 []
def bareK (k : Int) (x : St) : St := .mk k x.cost 0 0 x.e zeroEx [] [] [] [] []
def lab (k : Int) : Bool := decide (k ≥ 0) && decide (k ≤ 255)
def topL (l : List Int) (n : Int) : Int := l.foldl (fun n k => if lab k = true then (if k + 1 > n then k + 1 else n) else n) n
def topA (l : List Am) (n : Int) : Int := l.foldl (fun n a => topL a.labels n) n
def setL (l : List Int) (v : Int) (nx : List Int) : List Int := l.foldl (fun nx k => if lab k = true then nx.set k.toNat v else nx) nx
def gArms (f : OneF) (b : Int) : List Am → List Ev → List Int → List Ev × List Int
 | [], evs, nx => (evs, nx)
 | a :: l, evs, nx => gArms f b l (gFold f a.body evs b).1 (setL a.labels (gFold f a.body evs b).2 nx)
def gOne : Nat → Int → Int → OneF
 | 0, _, _, _, evs, b => (evs, b)
 | d + 1, e, n, x, evs, b =>
  if x.kind = 12 then (evs ++ [⟨TryzT.zeroS 0 x.cost, [e]⟩], evs.length)
  else if x.kind = 13 then (evs ++ [⟨TryzT.zeroS 0 x.cost, [n]⟩], evs.length)
  else if x.kind = 14 then (evs ++ [⟨bareK x.kind x, []⟩], evs.length)
  else if x.kind = 7 then
   let r1 := gFold (gOne d e n) x.body evs b
   let r2 := gFold (gOne d e n) x.els r1.1 b
   (r2.1 ++ [⟨bareK x.kind x, [r1.2, r2.2]⟩], r2.1.length)
  else if x.kind = 11 then
   let r0 := gFold (gOne d e n) x.els evs b
   let r := gArms (gOne d e n) b x.arms r0.1 (List.replicate (topA x.arms 0 + 1).toNat r0.2)
   (r.1 ++ [⟨bareK x.kind x, r.2⟩], r.1.length)
  else if x.kind = 8 then
   let r := gFold (gOne d b evs.length) x.body (evs ++ [⟨bareK 7 x, [0, b]⟩]) evs.length
   (r.1.set evs.length ⟨bareK 7 x, [r.2, b]⟩, evs.length)
  else if x.kind = 9 then
   let r := gFold (gOne d b evs.length) x.body (evs ++ [⟨TryzT.zeroS 0 0, [0]⟩]) evs.length
   (r.1.set evs.length ⟨TryzT.zeroS 0 0, [r.2]⟩, evs.length)
  else if x.kind = 10 then
   let r := gFold (gOne d b evs.length) x.body (evs ++ [⟨bareK 7 x, [b, 0]⟩]) evs.length
   (r.1.set evs.length ⟨bareK 7 x, [b, r.2]⟩, r.2)
  else (evs ++ [⟨x, [b]⟩], evs.length)
def PreE (evs g : List Ev) : Prop := ∃ t, g = evs ++ t
theorem PreE.refl (evs : List Ev) : PreE evs evs := ⟨[], by simp⟩
theorem PreE.trans {a b c : List Ev} (h1 : PreE a b) (h2 : PreE b c) : PreE a c := by
 obtain ⟨s, rfl⟩ := h1
 obtain ⟨t, rfl⟩ := h2
 exact ⟨s ++ t, by simp⟩
theorem PreE.one (evs : List Ev) (x : Ev) : PreE evs (evs ++ [x]) := ⟨[x], rfl⟩
theorem PreE.get {a b : List Ev} (h : PreE a b) {i : Nat} {x : Ev} (hx : a[i]? = some x) : b[i]? = some x := by
 obtain ⟨t, rfl⟩ := h
 rw [List.getElem?_append_left (lS.1 hx).1]; exact hx
theorem PreE.len {a b : List Ev} (h : PreE a b) : a.length ≤ b.length := by
 obtain ⟨t, rfl⟩ := h
 simp
theorem PreE.set {evs g : List Ev} {x y : Ev} (h : PreE (evs ++ [x]) g) : PreE evs (g.set evs.length y) := by
 obtain ⟨t, rfl⟩ := h
 exact ⟨y :: t, by simp⟩
theorem gFold_ext {f : OneF} (hf : ∀ x evs b, PreE evs (f x evs b).1) (l : List St) (evs : List Ev) (b : Int) : PreE evs (gFold f l evs b).1 := by
 induction l with
 | nil => exact PreE.refl _
 | cons x l ih => exact ih.trans (hf x _ _)
theorem gArms_ext {f : OneF} (hf : ∀ x evs b, PreE evs (f x evs b).1) (b : Int) (l : List Am) : ∀ (evs : List Ev) (nx : List Int), PreE evs (gArms f b l evs nx).1 := by
 induction l with
 | nil => exact fun evs nx => PreE.refl _
 | cons a l ih => exact fun evs nx => (gFold_ext hf a.body evs b).trans (ih _ _)
theorem gOne_ext : ∀ (d : Nat) (e n : Int) (x : St) (evs : List Ev) (b : Int), PreE evs (gOne d e n x evs b).1 := by
 intro d
 induction d with
 | zero => exact fun e n x evs b => PreE.refl _
 | succ d ih =>
  intro e n x evs b
  unfold gOne
  repeat' split
  ·exact PreE.one _ _
  ·exact PreE.one _ _
  ·exact PreE.one _ _
  ·exact ((gFold_ext (ih e n) x.body evs b).trans (gFold_ext (ih e n) x.els _ b)).trans (PreE.one _ _)
  ·exact ((gFold_ext (ih e n) x.els evs b).trans (gArms_ext (ih e n) b x.arms _ _)).trans (PreE.one _ _)
  ·exact (gFold_ext (ih _ _) x.body _ _).set
  ·exact (gFold_ext (ih _ _) x.body _ _).set
  ·exact (gFold_ext (ih _ _) x.body _ _).set
  ·exact PreE.one _ _
theorem gArms_len {f : OneF} (hf : ∀ x evs b, (f x evs b).1.length ≤ evs.length + x.cnt) (b : Int) (l : List Am) : ∀ (evs : List Ev) (nx : List Int), (gArms f b l evs nx).1.length ≤ evs.length + cntA l := by
 induction l with
 | nil => exact fun evs nx => by simp [gArms, cntA]
 | cons a l ih =>
  intro evs nx
  have h1 := gFold_len hf a.body evs b
  have h2 := ih (gFold f a.body evs b).1 (setL a.labels (gFold f a.body evs b).2 nx)
  simp only [gArms, cntA]
  rw [a.cnt_eq]
  omega
theorem gOne_len : ∀ (d : Nat) (e n : Int) (x : St) (evs : List Ev) (b : Int), (gOne d e n x evs b).1.length ≤ evs.length + x.cnt := by
 intro d
 induction d with
 | zero => exact fun e n x evs b => by simp [gOne]
 | succ d ih =>
  intro e n x evs b
  have hc := x.cnt_eq
  unfold gOne
  repeat' split
  ·simp; omega
  ·simp; omega
  ·simp; omega
  ·have h1 := gFold_len (ih e n) x.body evs b
   have h2 := gFold_len (ih e n) x.els (gFold (gOne d e n) x.body evs b).1 b
   simp only [List.length_append, List.length_cons, List.length_nil]; omega
  ·have h1 := gFold_len (ih e n) x.els evs b
   have h2 := gArms_len (ih e n) b x.arms (gFold (gOne d e n) x.els evs b).1 (List.replicate (topA x.arms 0 + 1).toNat (gFold (gOne d e n) x.els evs b).2)
   simp only [List.length_append, List.length_cons, List.length_nil]; omega
  ·have h1 := gFold_len (ih b evs.length) x.body (evs ++ [⟨bareK 7 x, [0, b]⟩]) evs.length
   simp only [List.length_append, List.length_cons, List.length_nil, List.length_set] at h1 ⊢; omega
  ·have h1 := gFold_len (ih b evs.length) x.body (evs ++ [⟨TryzT.zeroS 0 0, [0]⟩]) evs.length
   simp only [List.length_append, List.length_cons, List.length_nil, List.length_set] at h1 ⊢; omega
  ·have h1 := gFold_len (ih b evs.length) x.body (evs ++ [⟨bareK 7 x, [b, 0]⟩]) evs.length
   simp only [List.length_append, List.length_cons, List.length_nil, List.length_set] at h1 ⊢; omega
  ·simp; omega
end Go.Abs
namespace Go.Abs
open Go
namespace TryzT
theorem size45 (e : Ex) : e.size < 4611686018427387904 → Ret prog 45 [e.v] Heap.none fun r _ => r = .int .i64 e.size := by
 induction hn : e.size using Nat.strongRecOn generalizing e with
 | ind n ih =>
 intro hb
 subst hn
 have hz := e.size_eq
 have hl := size_len e.l
 refine Ret.by_text rfl rfl ?_
 simp -implicitDefEqProofs only [go_sem, rB, rA, rS, a45, Ex.cellsOf_v]
 intro g
 refine Loop.rec (fun k : Nat => e.l.length - k) (fun k => ⟨E 21 [(1, .lp 1 g 0), (3, .int .i64 ((e.size : Int) - sizeL (e.l.drop k))), (4, .int .i64 k)], B 21 [(1, some (g, e.cs))], Heap.none⟩)
  (fun k => k ≤ e.l.length) ?_ 0 (Nat.zero_le _) (by rw [List.drop_zero, hz, show (((sizeL e.l + 1 : Nat) : Int) - sizeL e.l) = 1 by omega]; rfl)
 intro k hk hi
 simp -implicitDefEqProofs only [go_sem, rB, rA, rS, rL, Ex.cs]
 refine br_intro (fun h6 => ?_) (fun h6 => ?_)
 ·have h7 : k < e.l.length := by simpa using h6
  obtain ⟨x, hx⟩ : ∃ x, e.l[k]? = some x := ⟨_, lG h7⟩
  have hs := size_mem hx
  have hd := size_drop hx
  have ht := size_take e.l k hk
  simp -implicitDefEqProofs only [go_sem, rB, rA, rS, rL, h6, hx, x.cells_eq, Ex.fold]
  refine callOk_of (ih _ (by omega) x rfl (by omega)) ?_
  rintro u rfl
  simp -implicitDefEqProofs only [go_sem, rB, rA, rS, wrap_in (show -9223372036854775808 ≤ (e.size : Int) - sizeL (e.l.drop k) + x.size ∧ (e.size : Int) - sizeL (e.l.drop k) + x.size ≤ 9223372036854775807 by omega), wrap_succ (show k < 9223372036854775807 by omega)]
  have := hi (k + 1) (by omega) (by omega)
  rw [show ((e.size : Int) - sizeL (e.l.drop k) + x.size) = (e.size : Int) - sizeL (e.l.drop (k + 1)) by omega]
  exact this
 ·have h7 : ¬ k < e.l.length := by simpa using h6
  simp -implicitDefEqProofs only [go_sem, rB, rA, rS, h6]
  refine post1 ?_
  simp -implicitDefEqProofs only [go_sem, rB, rA, rS]
  rw [List.drop_eq_nil_of_le (by omega)]
  simp [sizeL]
theorem none106 (e : Ex) (hb : e.size < 4611686018427387904) : Ret prog 106 [e.v] Heap.none fun r _ => ∃ b : Bool, r = .bool b := by
 refine Ret.by_text rfl rfl ?_
 simp -implicitDefEqProofs only [go_sem, rB, rA, rS, rL, a106, Ex.cellsOf_v, Ex.fold]
 intro g
 refine callOk_frz (us := [e.v, (Ex.mk 0 0 0 0 []).v]) (fun _ => False) (.cons (.same _) (.cons ?_ .nil)) (same26 e (.mk 0 0 0 0 []) hb) ?_
 ·exact Frz.aggL (.cons (.same _) (.cons (.same _) (.cons (.same _) (.cons (.same _) (.cons (.nsl 5) .nil)))))
 ·rintro u rfl
  refine ⟨.bool _, ?_⟩
  simp -implicitDefEqProofs only [go_sem, rB, rA, rS]
  refine post1 ?_
  simp -implicitDefEqProofs only [go_sem, rB, rA, rS]
  exact ⟨_, rfl⟩
end TryzT
end Go.Abs
