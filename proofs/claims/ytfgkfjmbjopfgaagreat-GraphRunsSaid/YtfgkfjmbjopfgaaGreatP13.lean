/-
  A part of the proof. Conditions: none.
-/
import Derived.Test.YtfgkfjmbjopfgaaGreatP12
set_option linter.unusedVariables false
set_option linter.unusedSimpArgs false
set_option maxRecDepth 100000
set_option maxHeartbeats 16000000
open Nat renaming reduceBEq → rB, reduceAdd → rA, reduceSub → rS, reduceLeDiff → rL, reduceMul → rM
open Int renaming reduceLE → jL, reduceToNat → jN, reduceLT → jT, reduceGT → jG
open List renaming getElem?_eq_getElem → lG, getElem?_eq_some_iff → lS, mem_of_getElem? → lM, mem_cons_self → lC
namespace Go.Abs
open Go
theorem Fits.none_some {a b : List Ev} {i k : Nat} {r : Nat × Int} (h1 : Beh a i none) (h2 : Beh b k (some r)) : ¬ Fits a b i k := by
 rintro (⟨_, q⟩ | ⟨j, m, n, x, y, p, _⟩)
 ·have := h2.unique q; cases this
 ·have := h1.unique p; cases this
theorem Fits.some_none {a b : List Ev} {i k : Nat} {r : Nat × Int} (h1 : Beh a i (some r)) (h2 : Beh b k none) : ¬ Fits a b i k := by
 rintro (⟨q, _⟩ | ⟨j, m, n, x, y, _, p, _⟩)
 ·have := h1.unique q; cases this
 ·have := h2.unique p; cases this
theorem Fits.some_some {a b : List Ev} {i k j m : Nat} {n o : Int} {x y : Ev} (h1 : Beh a i (some (j, n))) (h2 : Beh b k (some (m, o))) (hx : a[j]? = some x) (hy : b[m]? = some y) (h : Fits a b i k) : n = o ∧ x.s.one y.s = true := by
 rcases h with ⟨q, _⟩ | ⟨j', m', n', x', y', p1, p2, p3, p4, p5⟩
 ·have := h1.unique q; cases this
 ·have e1 := h1.unique p1; injection e1 with e1; injection e1 with e1 e2; subst e1; subst e2
  have e3 := h2.unique p2; injection e3 with e3; injection e3 with e3 e4; subst e3; subst e4
  rw [hx] at p3; injection p3 with p3; subst p3
  rw [hy] at p4; injection p4 with p4; subst p4
  exact ⟨rfl, p5⟩

def Done (a b : List Ev) (ms : List (Nat × Nat)) (i k : Nat) : Prop := (Beh a i none ∧ Beh b k none) ∨ ∃ j m n, Beh a i (some (j, n)) ∧ Beh b k (some (m, n)) ∧ (j, m) ∈ ms
def Wait (a b : List Ev) (ws ms : List (Nat × Nat)) (i k : Nat) : Prop := (i, k) ∈ ws ∨ Done a b ms i k
structure Inv (a b : List Ev) (ws ms : List (Nat × Nat)) : Prop where
 meets : ∀ p ∈ ws, Meets a b p.1 p.2
 start : Wait a b ws ms 0 0
 clos : ∀ j m, (j, m) ∈ ms → ∃ x y, a[j]? = some x ∧ b[m]? = some y ∧ x.s.one y.s = true ∧ ∀ c, c < max x.next.length y.next.length → Wait a b ws ms (x.nx c) (y.nx c)
 nodup : ms.Nodup
theorem Inv.begin (a b : List Ev) : Inv a b [(0, 0)] [] := ⟨fun p hp => by simp at hp; subst hp; exact .first, .inl (by simp), fun j m h => (by cases h), by simp⟩
theorem Inv.final {a b : List Ev} {ms : List (Nat × Nat)} (h : Inv a b [] ms) (ha : right a = true) (hb : right b = true) : Goes a b := by
 have key : ∀ i k, Meets a b i k → Done a b ms i k := by
  intro i k hm
  induction hm with
  | first => exact h.start.resolve_left (by simp)
  | @next i k j m n o x y c hm h1 h2 hx hy hc ih =>
   rcases ih with ⟨q, _⟩ | ⟨j', m', n', p1, p2, p3⟩
   ·have := h1.unique q; cases this
   ·have e1 := h1.unique p1; injection e1 with e1; injection e1 with e1 e2; subst e1; subst e2
    have e3 := h2.unique p2; injection e3 with e3; injection e3 with e3 e4; subst e3; subst e4
    obtain ⟨x', y', q1, q2, q3, q4⟩ := h.clos _ _ p3
    rw [hx] at q1; injection q1 with q1; subst q1
    rw [hy] at q2; injection q2 with q2; subst q2
    exact (q4 c hc).resolve_left (by simp)
 refine ⟨ha, hb, fun i k hm => ?_⟩
 rcases key i k hm with q | ⟨j, m, n, p1, p2, p3⟩
 ·exact .inl q
 ·obtain ⟨x, y, q1, q2, q3, _⟩ := h.clos _ _ p3
  exact .inr ⟨j, m, n, x, y, p1, p2, q1, q2, q3⟩
theorem Done.mono {a b : List Ev} {ms ms2 : List (Nat × Nat)} (hs : ∀ p ∈ ms, p ∈ ms2) {i k : Nat} (h : Done a b ms i k) : Done a b ms2 i k := by
 rcases h with h | ⟨j, m, n, h1, h2, h3⟩
 ·exact .inl h
 ·exact .inr ⟨j, m, n, h1, h2, hs _ h3⟩
theorem Wait.pop {a b : List Ev} {ws new ms ms2 : List (Nat × Nat)} {p : Nat × Nat} (hs : ∀ q ∈ ms, q ∈ ms2) (hd : Done a b ms2 p.1 p.2) {i k : Nat} (h : Wait a b (ws ++ [p]) ms i k) : Wait a b (ws ++ new) ms2 i k := by
 rcases h with h | h
 ·rcases List.mem_append.1 h with h | h
  ·exact .inl (by simp [h])
  ·simp at h; subst h; exact .inr hd
 ·exact .inr (h.mono hs)
theorem Inv.done {a b : List Ev} {ws ms : List (Nat × Nat)} {p : Nat × Nat} (h : Inv a b (ws ++ [p]) ms) (hd : Done a b ms p.1 p.2) : Inv a b ws ms := by
 have hp : ∀ {i k : Nat}, Wait a b (ws ++ [p]) ms i k → Wait a b ws ms i k := by
  intro i k hw
  have := hw.pop (new := []) (fun _ h => h) hd
  simpa using this
 refine ⟨fun q hq => h.meets q (by simp [hq]), hp h.start, fun j m hm => ?_, h.nodup⟩
 obtain ⟨x, y, q1, q2, q3, q4⟩ := h.clos j m hm
 exact ⟨x, y, q1, q2, q3, fun c hc => hp (q4 c hc)⟩
def nexts (x y : Ev) (n : Nat) : List (Nat × Nat) := (List.range n).map fun c => (x.nx c, y.nx c)
theorem nexts_succ (x y : Ev) (n : Nat) : nexts x y (n + 1) = nexts x y n ++ [(x.nx n, y.nx n)] := by simp [nexts, List.range_succ]
theorem Inv.more {a b : List Ev} {ws ms : List (Nat × Nat)} {i k j m : Nat} {n : Int} {x y : Ev} (h : Inv a b (ws ++ [(i, k)]) ms) (h1 : Beh a i (some (j, n))) (h2 : Beh b k (some (m, n))) (hx : a[j]? = some x) (hy : b[m]? = some y) (ho : x.s.one y.s = true) (hm : (j, m) ∉ ms) :
  Inv a b (ws ++ nexts x y (max x.next.length y.next.length)) (ms ++ [(j, m)]) := by
 have hp : ∀ {i' k' : Nat}, Wait a b (ws ++ [(i, k)]) ms i' k' → Wait a b (ws ++ nexts x y (max x.next.length y.next.length)) (ms ++ [(j, m)]) i' k' := by
  intro i' k' hw
  exact hw.pop (fun q hq => by simp [hq]) (.inr ⟨j, m, n, h1, h2, by simp⟩)
 refine ⟨fun q hq => ?_, hp h.start, fun j' m' hm' => ?_, ?_⟩
 ·rcases List.mem_append.1 hq with hq | hq
  ·exact h.meets q (by simp [hq])
  ·simp only [nexts, List.mem_map, List.mem_range] at hq
   obtain ⟨c, hc, rfl⟩ := hq
   exact .next (h.meets (i, k) (by simp)) h1 h2 hx hy hc
 ·rcases List.mem_append.1 hm' with hm' | hm'
  ·obtain ⟨x', y', q1, q2, q3, q4⟩ := h.clos j' m' hm'
   exact ⟨x', y', q1, q2, q3, fun c hc => hp (q4 c hc)⟩
  ·simp at hm'
   obtain ⟨rfl, rfl⟩ := hm'
   exact ⟨x, y, hx, hy, ho, fun c hc => .inl (by
    refine List.mem_append_right _ ?_
    simp only [nexts, List.mem_map, List.mem_range]
    exact ⟨c, hc, rfl⟩)⟩
 ·rw [List.nodup_append]
  exact ⟨h.nodup, by simp, fun a ha b hb e => by simp at hb; subst hb; subst e; exact hm ha⟩
theorem pair_lt {A B j m : Nat} (hj : j < A) (hm : m < B) : j * B + m < A * B := by
 have h1 : j * B + m < (j + 1) * B := by rw [Nat.succ_mul]; omega
 exact Nat.lt_of_lt_of_le h1 (Nat.mul_le_mul_right B hj)
theorem pair_inj {B j m j' m' : Nat} (hm : m < B) (hm' : m' < B) (h : j * B + m = j' * B + m') : j = j' ∧ m = m' := by
 have hB : 0 < B := by omega
 have e1 : (j * B + m) / B = j := by rw [Nat.mul_comm, Nat.mul_add_div hB, Nat.div_eq_of_lt hm]; omega
 have e2 : (j' * B + m') / B = j' := by rw [Nat.mul_comm, Nat.mul_add_div hB, Nat.div_eq_of_lt hm']; omega
 have e3 : (j * B + m) % B = m := by rw [Nat.mul_comm, Nat.mul_add_mod, Nat.mod_eq_of_lt hm]
 have e4 : (j' * B + m') % B = m' := by rw [Nat.mul_comm, Nat.mul_add_mod, Nat.mod_eq_of_lt hm']
 rw [h] at e1 e3
 exact ⟨by omega, by omega⟩
theorem Inv.few {a b : List Ev} {ws ms : List (Nat × Nat)} (h : Inv a b ws ms) : ms.length ≤ a.length * b.length := by
 have hr : ∀ p ∈ ms, p.1 < a.length ∧ p.2 < b.length := by
  intro p hp
  obtain ⟨x, y, q1, q2, _⟩ := h.clos p.1 p.2 hp
  exact ⟨(lS.1 q1).1, (lS.1 q2).1⟩
 have := nodup_len (a.length * b.length) (ms.map fun p => p.1 * b.length + p.2) (by
  have hd := h.nodup
  clear h
  induction ms with
  | nil => simp
  | cons p l ih =>
   rw [List.nodup_cons] at hd
   rw [List.map_cons, List.nodup_cons]
   refine ⟨fun hm => ?_, ih (fun q hq => hr q (by simp [hq])) hd.2⟩
   obtain ⟨q, hq, e⟩ := List.mem_map.1 hm
   have h1 := hr p (by simp)
   have h2 := hr q (by simp [hq])
   obtain ⟨e1, e2⟩ := pair_inj h2.2 h1.2 e
   have : q = p := by cases p; cases q; simp_all
   subst this
   exact hd.1 hq) (fun x hx => by
  obtain ⟨p, hp, rfl⟩ := List.mem_map.1 hx
  exact pair_lt (hr p hp).1 (hr p hp).2)
 simpa using this
end Go.Abs
namespace Go.Abs
open Go
structure ShortG (l : List Ev) : Prop where
 len : l.length ≤ 4096
 next : ∀ x ∈ l, x.next.length ≤ 4096
 cost : ∀ x ∈ l, 0 ≤ x.s.cost ∧ x.s.cost ≤ 1048576
 s : ∀ x ∈ l, x.s.Short
theorem ShortG.cheap {l : List Ev} (h : ShortG l) : Cheap l := ⟨by have := h.len; omega, h.cost⟩
theorem St.bare_of {m : Nat} {x : Ev} (h : Ev.right m x = true) : x.s.Bare := Ev.right_bare h
def St.free : St → St
 | .mk k _ n m e i l args body els arms => .mk k 0 n m e i l args body els arms
theorem St.free_cs (x : St) : x.free.cs = [.int .i64 x.kind, .int .i64 0, .int .i64 x.n, .int .i64 x.m, .int .i64 x.e.op, .int .i64 x.e.t, .int .i64 x.e.n, .int .i64 x.e.m, .fsl 5 (x.e.l.map Ex.cells), .int .i64 x.i.op, .int .i64 x.i.t, .int .i64 x.i.n, .int .i64 x.i.m, .fsl 5 (x.i.l.map Ex.cells), .fsl 5 (x.l.map Ex.cells), .fsl 6 (x.args.map Ar.cells), .fsl 19 (x.body.map St.cells), .fsl 19 (x.els.map St.cells), .fsl 2 (x.arms.map Am.cells)] := by cases x; rfl
theorem St.free_one (x y : St) : (x.free.cost == y.free.cost && x.free.one y.free) = x.one y := by
 cases x; cases y; simp [St.free, St.one, St.cost, St.kind, St.n, St.m, St.e, St.i, St.l, St.args]
theorem St.free_bare {x : St} (h : x.Bare) : x.free.Bare := by cases x; exact h
theorem St.free_short {x : St} (h : x.Short) : x.free.Short := by cases x; exact ⟨h.e, h.i, h.l, h.a, h.ae⟩
theorem behV_cases (r : Option (Nat × Int)) : ∃ J C : Int, behV r = .tup [.int .i64 J, .int .i64 C] ∧ ((r = none ∧ J = -1 ∧ C = 0) ∨ ∃ (j : Nat) (n : Int), r = some (j, n) ∧ J = j ∧ C = n) := by
 cases r with
 | none => exact ⟨-1, 0, rfl, .inl ⟨rfl, rfl, rfl⟩⟩
 | some r => exact ⟨r.1, r.2, rfl, .inr ⟨r.1, r.2, rfl, rfl, rfl⟩⟩
def pairC (p : Nat × Nat) : List V := [.int .i64 p.1, .int .i64 p.2]
def pairK (p : Nat × Nat) : V × V := (.agg (pairC p), .int .i64 1)
theorem findPair (ms : List (Nat × Nat)) (j m : Nat) : (findKey (.agg [.int .i64 j, .int .i64 m]) (ms.map pairK) = some none ∧ (j, m) ∉ ms) ∨ ∃ i, findKey (.agg [.int .i64 j, .int .i64 m]) (ms.map pairK) = some (some i) ∧ ms[i]? = some (j, m) := by
 induction ms with
 | nil => exact .inl ⟨rfl, by simp⟩
 | cons p l ih =>
  obtain ⟨j', m'⟩ := p
  have e : keyEq (.agg [.int .i64 j, .int .i64 m]) (pairK (j', m')).1 = some ((j : Int) == j' && (m : Int) == m') := by simp [keyEq, pairK, pairC]
  rw [List.map_cons, findKey, e]
  by_cases h : j = j' ∧ m = m'
  ·obtain ⟨rfl, rfl⟩ := h
   exact .inr ⟨0, by simp, by simp⟩
  ·have : ((j : Int) == j' && (m : Int) == m') = false := by
    rw [Bool.eq_false_iff]; intro hh; apply h; simpa [Int.natCast_inj] using hh
   rw [this]
   rcases ih with ⟨h1, h2⟩ | ⟨i, h1, h2⟩
   ·refine .inl ⟨by simp [h1], fun hm => ?_⟩
    rcases List.mem_cons.1 hm with hm | hm
    ·injection hm with q1 q2; exact h ⟨q1, q2⟩
    ·exact h2 hm
   ·exact .inr ⟨i + 1, by simp [h1], by simpa using h2⟩
theorem upd_1 (h : Heap) (i j : Nat) (b : Option Blk) : (h.upd i b) j = if j = i then b else h j := rfl
structure GS where
 idm : Nat
 idw : Nat
 ws : List (Nat × Nat)
 rest : List (List V)
 ms : List (Nat × Nat)
 h : Heap
namespace TryzT
theorem same6 (a b : List Ev) (ha : ShortG a) (hb : ShortG b) : Ret prog 19 [evsV a, evsV b] Heap.none fun r _ => ∃ t : Bool, r = .bool t ∧ (t = true ↔ Goes a b) := by
 have hla := ha.len
 have hlb := hb.len
 refine Ret.by_text rfl rfl ?_
 simp -implicitDefEqProofs only [go_sem, rB, rA, rS, a19]
 refine callOk_pure (right7 a (by omega) (fun x hx => by have := ha.next x hx; omega)) ?_
 simp -implicitDefEqProofs only [go_sem, rB, rA, rS]
 refine br_intro2 (fun h1 => ?_) (fun h1 => ?_)
 ·simp -implicitDefEqProofs only [go_sem, rB, rA, rS, h1]
  refine post1 ?_
  simp -implicitDefEqProofs only [go_sem, rB, rA, rS]
  exact ⟨false, rfl, by simp [Goes, h1]⟩
 simp -implicitDefEqProofs only [go_sem, rB, rA, rS, h1]
 refine callOk_pure (right7 b (by omega) (fun x hx => by have := hb.next x hx; omega)) ?_
 simp -implicitDefEqProofs only [go_sem, rB, rA, rS]
 refine br_intro2 (fun h2 => ?_) (fun h2 => ?_)
 ·simp -implicitDefEqProofs only [go_sem, h2]
  refine post1 ?_
  simp -implicitDefEqProofs only [go_sem, rB, rA, rS]
  exact ⟨false, rfl, by simp [Goes, h2]⟩
 simp -implicitDefEqProofs only [go_sem, rB, rA, rS, rM, rL, h2]
 intro idm0 hidm0 idw0 hidw0
 have hL : a.length * b.length ≤ 16777216 := Nat.le_trans (Nat.mul_le_mul hla hlb) (by decide)
 refine Loop.rec (α := GS) (fun k => (a.length * b.length - k.ms.length) * 4097 + k.ws.length) (fun k => ⟨E 136 [(0, evsV a), (1, evsV b), (5, .map k.idm), (6, .msl k.idw 0 k.ws.length)], B 136 [], k.h⟩)
  (fun k => k.h k.idm = some (.map (k.ms.map pairK)) ∧ k.h k.idw = some (.arr 2 (k.ws.map pairC ++ k.rest)) ∧ k.idm ≠ k.idw ∧ Inv a b k.ws k.ms ∧ k.ws.length ≤ 4096 * k.ms.length + 1 ∧ ∀ p ∈ k.ws, p.1 < a.length ∧ p.2 < b.length) ?_
  ⟨idm0, idw0, [(0, 0)], [], [], (Heap.none.upd idm0 (some (.map []))).upd idw0 (some (.arr 2 [[.int .i64 0, .int .i64 0]]))⟩ ⟨(upd_other _ _ (ne_of_some (upd_self _ _ _) hidw0)).trans (upd_self _ _ _), upd_self _ _ _, ne_of_some (upd_self _ _ _) hidw0, Inv.begin a b, by simp, fun p hp => by simp at hp; subst hp; exact ⟨right_pos h1, right_pos h2⟩⟩ rfl
 rintro ⟨idm, idw, ws, rest, ms, h⟩ ⟨hm, hw, hne, hinv, hwl, hin⟩ hrec
 simp only [] at hm hw hne hinv hwl hin
 have hfew := hinv.few
 simp -implicitDefEqProofs only [go_sem, rB, rA, rS]
 refine br_intro (fun h3 => ?_) (fun h3 => ?_)
 ·simp -implicitDefEqProofs only [go_sem, rB, rA, rS, h3]
  have hpos : 0 < ws.length := by simpa using h3
  obtain ⟨ws, ⟨i, k⟩, rfl⟩ : ∃ l p, ws = l ++ [p] := ⟨_, _, (List.dropLast_concat_getLast (List.ne_nil_of_length_pos hpos)).symm⟩
  rw [List.length_append, List.length_cons, List.length_nil, Nat.zero_add] at hwl hpos
  replace hw : h idw = some (.arr 2 (List.map pairC ws ++ [.int .i64 i, .int .i64 k] :: rest)) := by simpa [pairC] using hw
  have hpair : (List.map pairC ws ++ [V.int .i64 i, V.int .i64 k] :: rest)[ws.length]? = some [.int .i64 i, .int .i64 k] := by simp
  have f1 : IntKind.i64.wrap (((ws ++ [(i, k)]).length : Int) - 1) = (ws.length : Int) := by rw [List.length_append, List.length_cons, List.length_nil, wrap_in ⟨by omega, by omega⟩]; omega
  have f2 : ((ws.length : Int) < ((ws ++ [(i, k)]).length : Int)) = True := eq_true (by rw [List.length_append, List.length_cons, List.length_nil]; omega)
  have f3 : (ws.length ≤ (ws ++ [(i, k)]).length) = True := by simp
  have f4 : ((0 : Int) < ((2 : Nat) : Int)) = True := by simp
  have f5 : ((1 : Int) < ((2 : Nat) : Int)) = True := by simp
  obtain ⟨hia, hkb⟩ := hin (i, k) (by simp)
  simp -implicitDefEqProofs only [go_sem, rB, rA, rS, rL, f1, f2, hw, Nat.zero_add, hpair]
  intro g
  simp -implicitDefEqProofs only [go_sem, rB, rA, rS, rM, rL, jL, jN, bound, f3, f4, Nat.sub_zero, Nat.zero_le]
  refine callOk_of (behind12 a i h1 ha.cheap hia) ?_
  rintro u ⟨r1, hr1, rfl⟩
  obtain ⟨J1, C1, e1, hJ1⟩ := behV_cases r1
  simp -implicitDefEqProofs only [go_sem, rB, rA, rS, rM, rL, jL, jN, f5, e1]
  refine callOk_of (behind12 b k h2 hb.cheap hkb) ?_
  rintro u ⟨r2, hr2, rfl⟩
  obtain ⟨J2, C2, e2, hJ2⟩ := behV_cases r2
  simp -implicitDefEqProofs only [go_sem, rB, rA, rS, e2]
  clear e1 e2
  have hrest : ∀ (rest2 : List (List V)) (h' : Heap), h' idm = some (Blk.map (List.map pairK ms)) → h' idw = some (.arr 2 (List.map pairC ws ++ rest2)) → Done a b ms i k → Loop (Ret prog) _ _ _ _ _ := fun rest2 h' q1 q2 q3 => hrec ⟨idm, idw, ws, rest2, ms, h'⟩ (by simp only [List.length_append, List.length_cons, List.length_nil]; omega) ⟨q1, q2, hne, hinv.done q3, by simp only []; omega, fun p hp => hin p (by simp [hp])⟩
  rcases hJ1 with ⟨rfl, rfl, rfl⟩ | ⟨j, n, rfl, rfl, rfl⟩
  ·rcases hJ2 with ⟨rfl, rfl, rfl⟩ | ⟨m, o, rfl, rfl, rfl⟩
   ·simp -implicitDefEqProofs only [go_sem, rB, rA, rS, show decide ((-1 : Int) < 0) = true from rfl, bne_self_eq_false]
    exact hrest _ _ hm hw (.inl ⟨hr1, hr2⟩)
   ·have f6 : ((-1 : Int) != (m : Int)) = true := by rw [bne_iff_ne]; omega
    simp -implicitDefEqProofs only [go_sem, rB, rA, rS, show decide ((-1 : Int) < 0) = true from rfl, f6]
    refine post1 ?_
    simp -implicitDefEqProofs only [go_sem, rB, rA, rS]
    refine ⟨false, rfl, ?_⟩
    simp only [Bool.false_eq_true, false_iff]
    exact fun hg => Fits.none_some hr1 hr2 (hg.2.2 _ _ (hinv.meets (i, k) (by simp)))
  ·have f7 : decide ((j : Int) < 0) = false := by simp
   rcases hJ2 with ⟨rfl, rfl, rfl⟩ | ⟨m, o, rfl, rfl, rfl⟩
   ·have f6 : ((j : Int) != (-1 : Int)) = true := by rw [bne_iff_ne]; omega
    simp -implicitDefEqProofs only [go_sem, rB, rA, rS, f7, show decide ((-1 : Int) < 0) = true from rfl, f6]
    refine post1 ?_
    simp -implicitDefEqProofs only [go_sem, rB, rA, rS]
    refine ⟨false, rfl, ?_⟩
    simp only [Bool.false_eq_true, false_iff]
    exact fun hg => Fits.some_none hr1 hr2 (hg.2.2 _ _ (hinv.meets (i, k) (by simp)))
   ·have f8 : decide ((m : Int) < 0) = false := by simp
    obtain ⟨x, hx, _⟩ := hr1.at_end
    obtain ⟨y, hy, _⟩ := hr2.at_end
    simp only [] at hx hy
    have hbad : C1 ≠ C2 ∨ x.s.one y.s = false → ∃ t : Bool, V.bool false = V.bool t ∧ (t = true ↔ Goes a b) := by
     intro hno
     refine ⟨false, rfl, ?_⟩
     simp only [Bool.false_eq_true, false_iff]
     intro hg
     obtain ⟨e1, e2⟩ := Fits.some_some hr1 hr2 hx hy (hg.2.2 _ _ (hinv.meets (i, k) (by simp)))
     rcases hno with hno | hno
     ·exact hno e1
     ·rw [e2] at hno; cases hno
    simp -implicitDefEqProofs only [go_sem, rB, rA, rS, rL, f7, f8, hm, keyIs]
    rcases findPair ms j m with ⟨hf, hnm⟩ | ⟨t, hf, ht⟩
    ·simp -implicitDefEqProofs only [go_sem, rB, rA, rS, rL, hf, show decide ((0 : Int) > 0) = false from rfl, evsV, hx, hy, x.cells_cs, y.cells_cs, Ev.cs]
     intro g12 g13
     refine br_intro (fun h9 => ?_) (fun h9 => ?_)
     ·simp -implicitDefEqProofs only [go_sem, rB, rA, rS, h9]
      refine post1 ?_
      simp -implicitDefEqProofs only [go_sem, rB, rA, rS]
      exact hbad (.inl (by simpa using h9))
     have e : C1 = C2 := by simpa using h9
     subst e
     simp -implicitDefEqProofs only [go_sem, rB, rA, rS, rM, rL, h9]
     intro id1 hid1 id2 hid2
     have rx := right_at h1 hx
     have ry := right_at h2 hy
     refine callOk_frz (us := [stsV [x.s.free], stsV [y.s.free]]) (fun i => i = id1 ∨ i = id2) (.cons (by
      rw [stsV, List.map_cons, List.map_nil, St.cells_cs, St.free_cs]
      exact Frz.whole (ids := fun i => i = id1 ∨ i = id2) (.inl rfl) ((upd_other _ _ (ne_of_some (upd_self _ _ _) hid2)).trans (upd_self _ _ _)) rfl) (.cons (by
      rw [stsV, List.map_cons, List.map_nil, St.cells_cs, St.free_cs]
      exact Frz.whole (ids := fun i => i = id1 ∨ i = id2) (.inr rfl) (upd_self _ _ _) rfl) .nil)) (same13 x.s.free y.s.free (St.free_bare (St.bare_of rx)) (St.free_bare (St.bare_of ry)) (St.free_short (ha.s x (lM hx)))) ?_
     rintro u rfl
     rw [St.free_one]
     refine ⟨.bool _, ?_⟩
     have n1 : idm ≠ id1 := ne_of_some hm hid1
     have n2 : idw ≠ id1 := ne_of_some hw hid1
     rw [upd_1] at hid2
     split at hid2
     ·cases hid2
     have n3 : idm ≠ id2 := ne_of_some hm hid2
     have n4 : idw ≠ id2 := ne_of_some hw hid2
     generalize hh : (h.upd id1 _).upd id2 _ = h2'
     have hm2 : h2' idm = some (Blk.map (List.map pairK ms)) := by rw [← hh, upd_other _ _ n3, upd_other _ _ n1, hm]
     have hw2 : h2' idw = some (.arr 2 (List.map pairC ws ++ [.int .i64 i, .int .i64 k] :: rest)) := by rw [← hh, upd_other _ _ n4, upd_other _ _ n2, hw]
     clear hh hid1 hid2 n1 n2 n3 n4
     simp -implicitDefEqProofs only [go_sem, rB, rA, rS]
     refine br_intro2 (fun h10 => ?_) (fun h10 => ?_)
     ·simp -implicitDefEqProofs only [go_sem, h10]
      refine post1 ?_
      simp -implicitDefEqProofs only [go_sem, rB, rA, rS]
      exact hbad (.inr h10)
     simp -implicitDefEqProofs only [go_sem, rB, rA, rS, rL, h10, hm2, hf, keyIs, show IntKind.i64.wrap (0 + 1) = 1 from rfl]
     refine menK_new hm2 rfl hf ?_
     simp -implicitDefEqProofs only [go_sem, rB, rA, rS]
     refine mstK_at (x := (.agg [.int .i64 j, .int .i64 m], .int .i64 0)) (upd_self _ _ _) (by simp) ?_
     rw [upd_upd]
     have e3 : (List.map pairK ms ++ [(V.agg [.int .i64 j, .int .i64 m], V.int .i64 0)]).set ms.length (V.agg [.int .i64 j, .int .i64 m], V.int .i64 1) = List.map pairK (ms ++ [(j, m)]) := by
      rw [List.map_append, List.set_append_right _ _ (by simp)]
      simp [pairK, pairC]
     simp only [e3]
     generalize hh : h2'.upd idm _ = h3'
     have hm3 : h3' idm = some (Blk.map (List.map pairK (ms ++ [(j, m)]))) := by rw [← hh, upd_self]
     have hw3 : h3' idw = some (.arr 2 (List.map pairC ws ++ [.int .i64 i, .int .i64 k] :: rest)) := by rw [← hh, upd_other _ _ (Ne.symm hne), hw2]
     clear hh hm2 hw2 e3
     have hnx := ha.next x (lM hx)
     have hny := hb.next y (lM hy)
     have hmx : (if (y.next.length : Int) > (x.next.length : Int) then (y.next.length : Int) else (x.next.length : Int)) = ((max x.next.length y.next.length : Nat) : Int) := by split <;> omega
     simp -implicitDefEqProofs only [go_sem, rB, rA, rS, rL, hx, hy, x.cells_cs, y.cells_cs, Ev.cs, hmx]
     have hmore := hinv.more hr1 hr2 hx hy h10 hnm
     have hfew2 := hmore.few
     rw [List.length_append, List.length_cons, List.length_nil, Nat.zero_add] at hfew2
     generalize hM : max x.next.length y.next.length = M at hmx hmore ⊢
     have hM2 : M ≤ 4096 := by omega
     refine Loop.rec (α := Nat × Nat × List (List V) × Heap) (fun c => M - c.1) (fun c => ⟨E 136 [(0, evsV a), (1, evsV b), (5, .map idm), (6, .msl c.2.1 0 (ws ++ nexts x y c.1).length), (8, .int .i64 j), (10, .int .i64 m), (115, .int .i64 M), (116, .int .i64 c.1)], B 136 [], c.2.2.2⟩)
      (fun c => c.1 ≤ M ∧ c.2.2.2 idm = some (Blk.map (List.map pairK (ms ++ [(j, m)]))) ∧ c.2.2.2 c.2.1 = some (.arr 2 (List.map pairC (ws ++ nexts x y c.1) ++ c.2.2.1)) ∧ idm ≠ c.2.1) ?_
      (0, idw, [.int .i64 i, .int .i64 k] :: rest, h3') ⟨Nat.zero_le _, hm3, by simpa [nexts] using hw3, hne⟩ (by simp [nexts, evsV])
     rintro ⟨c, idw2, rest2, h4⟩ ⟨hc, hm4, hw4, hne4⟩ hrec2
     simp only [] at hc hm4 hw4 hne4
     have hnl : (nexts x y c).length = c := by simp [nexts]
     simp -implicitDefEqProofs only [go_sem, rB, rA, rS]
     refine br_intro (fun h11 => ?_) (fun h11 => ?_)
     ·have hcM : c < M := by simpa using h11
      simp -implicitDefEqProofs only [W_skip, W_region, W_seq, W_block, Thn_normal, wOps_nil, wOps_cons, val_0, valK_eq, onPut_some, call_0, callK_eq, ev_E, set_E, look_cons, look_nil, cond_true, cond_false, rB, rA, rS, if_true, and_self, List.map_cons, List.map_nil, AVal.eval, nat_le, Int.toNat_natCast, List.getElem?_map, Option.map_some, loadOf, cellsAt, h11, evsV, hx, partAll (show x.cells.length = 20 by rw [Ev.cells_cs]; rfl), partAll (show y.cells.length = 20 by rw [Ev.cells_cs]; rfl)]
      obtain ⟨hxp, hyp⟩ : 0 < x.next.length ∧ 0 < y.next.length := by
       rcases Ev.both_next rx ry h10 with q | q <;> omega
      refine callOk_pure (next14 x a.length c rx hxp (by omega)) ?_
      simp -implicitDefEqProofs only [wOps_cons, val_0, valK_eq, onPut_some, call_0, callK_eq, retK_some, ev_E, set_E, look_cons, look_nil, cond_true, cond_false, rB, rA, rS, if_true, and_self, List.map_cons, List.map_nil, AVal.eval, nat_le, Int.toNat_natCast, List.getElem?_map, Option.map_some, hy, partAll (show y.cells.length = 20 by rw [Ev.cells_cs]; rfl)]
      refine callOk_pure (next14 y b.length c ry hyp (by omega)) ?_
      simp -implicitDefEqProofs only [go_sem, rB, rA, rS, rM, rL]
      intro id3 hid3
      simp -implicitDefEqProofs only [go_sem, rA, rL, elemsOf, upd_self]
      have q1 : idw2 ≠ id3 := ne_of_some hw4 hid3
      have q2 : idm ≠ id3 := ne_of_some hm4 hid3
      have hwl2 := hinv.few
      refine appK_msl (els := List.map pairC (ws ++ nexts x y c) ++ rest2) (by rw [upd_other _ _ q1, hw4]) (by simp) (by simp) (by rw [List.length_append, hnl]; simp only [List.length_cons, List.length_nil]; omega) ?_
      intro id4 hid4 hne5
      have q3 : idm ≠ id4 := ne_of_some (by rw [upd_other _ _ q2]; exact hm4) hid4
      simp -implicitDefEqProofs only [go_sem, rB, rA, rS, wrap_succ (show c < 9223372036854775807 by omega)]
      have e4 : List.drop 0 (List.map pairC (ws ++ nexts x y c) ++ rest2) = List.map pairC (ws ++ nexts x y c) ++ rest2 := rfl
      have e5 : List.take (ws ++ nexts x y c).length (List.map pairC (ws ++ nexts x y c) ++ rest2) = List.map pairC (ws ++ nexts x y c) := by
       rw [List.take_append_of_le_length (by simp), List.take_of_length_le (by simp)]
      have := hrec2 (c + 1, id4, [], ((h4.upd id3 (some (Blk.arr 2 [[V.int IntKind.i64 ↑(x.nx c), V.int IntKind.i64 ↑(y.nx c)]]))).upd idw2 none).upd id4 (some (Blk.arr 2 (List.map pairC (ws ++ nexts x y (c + 1)))))) (by simp only []; omega)
       ⟨by simp only []; omega, by simp only []; rw [upd_other _ _ q3, upd_other _ _ hne4, upd_other _ _ q2, hm4], by simp only []; rw [upd_self, List.append_nil], q3⟩
      simp only [nexts_succ, ← List.append_assoc, List.map_append, List.map_cons, List.map_nil, pairC, List.length_append, List.length_cons, List.length_nil] at this e5 ⊢
      simp only [e5] at this ⊢
      exact this
     ·simp -implicitDefEqProofs only [go_sem, rB, h11]
      have : c = M := by simp at h11; omega
      subst this
      exact hrec ⟨idm, idw2, ws ++ nexts x y c, rest2, ms ++ [(j, m)], h4⟩ (by
       simp only [List.length_append, List.length_cons, List.length_nil, hnl]
       omega) ⟨hm4, hw4, hne4, hmore, by simp only [List.length_append, hnl, List.length_cons, List.length_nil]; omega, fun p hp => by
        rcases List.mem_append.1 hp with hp | hp
        ·exact hin p (by simp [hp])
        ·simp only [nexts, List.mem_map, List.mem_range] at hp
         obtain ⟨t, ht, rfl⟩ := hp
         rcases Ev.both_next rx ry h10 with q | q
         ·obtain ⟨_, _, w1, w2⟩ := Ev.nx_at rx (c := t) q.1
          obtain ⟨_, _, w3, w4⟩ := Ev.nx_at ry (c := t) q.2
          exact ⟨by simp only []; omega, by simp only []; omega⟩
         ·omega⟩
    ·simp -implicitDefEqProofs only [go_sem, rB, rA, rS, hf, ht, pairK, show decide ((1 : Int) > 0) = true from rfl]
     refine br_intro (fun h9 => ?_) (fun h9 => ?_)
     ·simp -implicitDefEqProofs only [go_sem, h9]
      refine post1 ?_
      simp -implicitDefEqProofs only [go_sem, rB, rA, rS]
      exact hbad (.inl (by simpa using h9))
     ·have e : C1 = C2 := by simpa using h9
      subst e
      simp -implicitDefEqProofs only [go_sem, rB, h9]
      exact hrest _ _ hm hw (.inr ⟨j, m, C1, hr1, hr2, lM ht⟩)
 ·simp -implicitDefEqProofs only [go_sem, rB, h3]
  refine post1 ?_
  simp -implicitDefEqProofs only [go_sem, rB, rA, rS]
  have : ws = [] := by
   cases ws with
   | nil => rfl
   | cons => simp at h3
  subst this
  exact ⟨true, rfl, by simp only [true_iff]; exact hinv.final h1 h2⟩
end TryzT
end Go.Abs
namespace Go.Abs
open Go
theorem callOk_drop {A : Prog} {f : Nat} {vs us : List V} {P : V → Prop} {h : Heap} {R : V → Heap → Prop} (ids : Nat → Prop) (hf : FrzL h ids vs us) (hc : Ret A f us Heap.none fun u _ => P u) (hR : ∀ u h3, P u → R u h3) : callOk (Ret A) f vs h R :=
 .inr (.inr ⟨ids, us, Heap.none, hf.spec.1, hf.spec.2, (fun _ _ e => by cases e), fun _ _ => rfl, Ret.mono _ _ _ _ _ (fun u h3 hp => hR u h3 hp) hc⟩)
theorem Frz.nz {h : Heap} {ids : Nat → Prop} {id sz n : Nat} {els out : List (List V)} (hid : ids id) (hb : h id = some (.arr sz els)) (hn : els.length = n) (ho : out.length = n) (hz : ∀ (i : Nat) (x y : List V), els[i]? = some x → out[i]? = some y → NzL x y) : Frz h ids (.msl id 0 n) (.fsl sz out) :=
 .msl id 0 n sz els out hid hb (by omega) ho (fun i x y h1 h2 => by rw [Nat.zero_add] at h1; exact (hz i x y h1 h2).1.symm)
  (fun i x y j a b h1 h2 h3 h4 => by rw [Nat.zero_add] at h1; exact ((hz i x y h1 h2).2 j a b h3 h4).frz)
def exS (c : Int) : St := .mk 1 c 0 0 (.mk 1 2 1 0 []) (.mk 0 0 0 0 []) [] [] [] [] []
theorem exNz (k c : Int) (e : Ex) (he : e.l = []) : NzL [V.int .i64 k, .int .i64 c, .int .i64 0, .int .i64 0, .int .i64 e.op, .int .i64 e.t, .int .i64 e.n, .int .i64 e.m, .nsl, .int .i64 0, .int .i64 0, .int .i64 0, .int .i64 0, .nsl, .nsl, .nsl, .nsl, .nsl, .nsl] (St.mk k c 0 0 e (.mk 0 0 0 0 []) [] [] [] [] []).cells := by
 rw [St.cells_cs]
 refine ⟨rfl, fun i a b ha hb => ?_⟩
 have hi : i < 19 := by have := (lS.1 ha).1; simpa using this
 match i, hi with
 | 0, _ | 1, _ | 2, _ | 3, _ | 4, _ | 5, _ | 6, _ | 7, _ | 9, _ | 10, _ | 11, _ | 12, _ => simp [St.cs, St.kind, St.cost, St.n, St.m, St.e, St.i, Ex.op, Ex.t, Ex.n, Ex.m] at ha hb; subst ha; subst hb; exact .inl rfl
 | 8, _ | 13, _ | 14, _ | 15, _ | 16, _ | 17, _ | 18, _ => simp [St.cs, St.e, St.i, St.l, St.args, St.body, St.els, St.arms, he, show (Ex.mk 0 0 0 0 []).l = [] from rfl] at ha hb; subst ha; subst hb; exact .inr ⟨rfl, _, rfl⟩
theorem exNz1 (c : Int) : NzL [V.int .i64 1, .int .i64 c, .int .i64 0, .int .i64 0, .int .i64 1, .int .i64 2, .int .i64 1, .int .i64 0, .nsl, .int .i64 0, .int .i64 0, .int .i64 0, .int .i64 0, .nsl, .nsl, .nsl, .nsl, .nsl, .nsl] (exS c).cells := exNz 1 c (.mk 1 2 1 0 []) rfl
theorem exBare (c : Int) : (exS c).plainK := by simp [St.plainK, exS, St.kind]
namespace TryzT
theorem exG1 : plainG [zeroS 0 1, exS 2] = [⟨zeroS 0 0, [3]⟩, ⟨zeroS 14 0, []⟩, ⟨exS 2, [1]⟩, ⟨zeroS 0 1, [2]⟩] := rfl
theorem exG2 (c : Int) : plainG [exS c] = [⟨zeroS 0 0, [2]⟩, ⟨zeroS 14 0, []⟩, ⟨exS c, [1]⟩] := rfl
theorem exGoes : Goes (plainG [zeroS 0 1, exS 2]) (plainG [exS 3]) := by
 have ha : right (plainG [zeroS 0 1, exS 2]) = true := rfl
 have hb : right (plainG [exS 3]) = true := rfl
 have i0 := Inv.begin (plainG [zeroS 0 1, exS 2]) (plainG [exS 3])
 have b1 : Beh (plainG [zeroS 0 1, exS 2]) 0 (some (2, 3)) := ⟨5, rfl⟩
 have b2 : Beh (plainG [exS 3]) 0 (some (2, 3)) := ⟨5, rfl⟩
 have i1 := Inv.more (ws := []) i0 b1 b2 (x := ⟨exS 2, [1]⟩) (y := ⟨exS 3, [1]⟩) rfl rfl rfl (by simp)
 have b3 : Beh (plainG [zeroS 0 1, exS 2]) 1 (some (1, 0)) := ⟨5, rfl⟩
 have b4 : Beh (plainG [exS 3]) 1 (some (1, 0)) := ⟨5, rfl⟩
 have i2 := Inv.more (ws := []) i1 b3 b4 (x := ⟨zeroS 14 0, []⟩) (y := ⟨zeroS 14 0, []⟩) rfl rfl rfl (by simp)
 exact i2.final ha hb
theorem exNot : ¬ Goes (plainG [exS 2]) (plainG [exS 3]) := by
 intro h
 have b1 : Beh (plainG [exS 2]) 0 (some (2, 2)) := ⟨5, rfl⟩
 have b2 : Beh (plainG [exS 3]) 0 (some (2, 3)) := ⟨5, rfl⟩
 have := Fits.some_some b1 b2 (x := ⟨exS 2, [1]⟩) (y := ⟨exS 3, [1]⟩) rfl rfl (h.2.2 0 0 .first)
 exact absurd this.1 (by decide)
theorem exShort : ∀ s ∈ [zeroS 0 0, zeroS 14 0, zeroS 0 1, exS 2, exS 3], s.Short ∧ 0 ≤ s.cost ∧ s.cost ≤ 1048576 := by
 intro s hs
 simp only [List.mem_cons, List.not_mem_nil, or_false] at hs
 rcases hs with rfl | rfl | rfl | rfl | rfl <;> exact ⟨⟨by decide, by decide, by decide, by decide, fun y hy => by cases hy⟩, by decide, by decide⟩
theorem exSG (l : List Ev) (hl : l.length ≤ 4) (hn : ∀ x ∈ l, x.next.length ≤ 1 ∧ x.s ∈ [zeroS 0 0, zeroS 14 0, zeroS 0 1, exS 2, exS 3]) : ShortG l :=
 ⟨by omega, fun x hx => by have := (hn x hx).1; omega, fun x hx => (exShort _ (hn x hx).2).2, fun x hx => (exShort _ (hn x hx).2).1⟩
theorem awake5 : Ret prog 7 [] Heap.none fun r _ => r = .bool true := by
 refine Ret.by_text rfl rfl ?_
 simp -implicitDefEqProofs only [go_sem, rB, rA, rS, rM, rL, a7]
 intro g1 g2 id1 hid1
 refine callOk_drop (us := [stsV [zeroS 0 1, exS 2]]) (fun i => i = id1) (.cons (Frz.nz rfl (upd_self _ _ _) rfl rfl (fun i x y h1 h2 => by
  match i with
  | 0 => simp at h1 h2; subst h1; subst h2; exact exNz 0 1 (.mk 0 0 0 0 []) rfl
  | 1 => simp at h1 h2; subst h1; subst h2; exact exNz1 2
  | i + 2 => simp at h1)) .nil) (stmts11 [zeroS 0 1, exS 2] (fun x hx => by
   simp at hx
   rcases hx with rfl | rfl
   ·simp [St.plainK, zeroS, St.kind]
   ·exact exBare 2) (by decide)) ?_
 rintro u h3 rfl
 simp -implicitDefEqProofs only [go_sem, rB, rA, rS, rM, rL]
 intro id2 hid2
 have one : ∀ (c : Int) (i : Nat) (x y : List V), [[V.int .i64 1, .int .i64 c, .int .i64 0, .int .i64 0, .int .i64 1, .int .i64 2, .int .i64 1, .int .i64 0, .nsl, .int .i64 0, .int .i64 0, .int .i64 0, .int .i64 0, .nsl, .nsl, .nsl, .nsl, .nsl, .nsl]][i]? = some x → (List.map St.cells [exS c])[i]? = some y → NzL x y := by
  intro c i x y h1 h2
  match i with
  | 0 => simp at h1 h2; subst h1; subst h2; exact exNz1 c
  | i + 1 => simp at h1
 have pl : ∀ c : Int, ∀ x ∈ [exS c], x.plainK := by
  intro c x hx
  simp at hx
  subst hx
  exact exBare c
 refine callOk_drop (us := [stsV [exS 3]]) (fun i => i = id2) (.cons (Frz.nz rfl (upd_self _ _ _) rfl rfl (one 3)) .nil) (stmts11 [exS 3] (pl 3) (by decide)) ?_
 rintro u h4 rfl
 simp -implicitDefEqProofs only [go_sem, rB, rA, rS]
 have sh1 : ShortG (plainG [zeroS 0 1, exS 2]) := exSG _ (by decide) (fun x hx => by
  rw [exG1] at hx
  simp only [List.mem_cons, List.not_mem_nil, or_false] at hx
  rcases hx with rfl | rfl | rfl | rfl <;> simp)
 have sh3 : ∀ c : Int, c = 2 ∨ c = 3 → ShortG (plainG [exS c]) := fun c hc => exSG _ (by rw [exG2]; simp) (fun x hx => by
  rw [exG2] at hx
  simp only [List.mem_cons, List.not_mem_nil, or_false] at hx
  rcases hx with rfl | rfl | rfl <;> rcases hc with rfl | rfl <;> simp)
 refine callOk_of (same6 _ _ sh1 (sh3 3 (.inr rfl))) ?_
 rintro u ⟨t, rfl, ht⟩
 have ht2 : t = true := ht.2 exGoes
 subst ht2
 simp -implicitDefEqProofs only [go_sem, rB, rA, rS, rM, rL]
 intro id3 hid3
 refine callOk_drop (us := [stsV [exS 2]]) (fun i => i = id3) (.cons (Frz.nz rfl (upd_self _ _ _) rfl rfl (one 2)) .nil) (stmts11 [exS 2] (pl 2) (by decide)) ?_
 rintro u h5 rfl
 simp -implicitDefEqProofs only [go_sem, rB, rA, rS, rM, rL]
 intro id4 hid4
 refine callOk_drop (us := [stsV [exS 3]]) (fun i => i = id4) (.cons (Frz.nz rfl (upd_self _ _ _) rfl rfl (one 3)) .nil) (stmts11 [exS 3] (pl 3) (by decide)) ?_
 rintro u h6 rfl
 simp -implicitDefEqProofs only [go_sem, rB, rA, rS]
 refine callOk_of (same6 _ _ (sh3 2 (.inl rfl)) (sh3 3 (.inr rfl))) ?_
 rintro u ⟨t, rfl, ht⟩
 have ht2 : t = false := by
  cases t
  ·rfl
  ·exact (exNot (ht.1 rfl)).elim
 subst ht2
 simp -implicitDefEqProofs only [go_sem, rB, rA, rS]
 refine post1 ?_
 simp -implicitDefEqProofs only [go_sem, rB, rA, rS]
end TryzT
end Go.Abs
namespace Go.Abs
open Go
def stlK (x v : V) (n : Nat) (K : S → Prop) (s : S) : Prop :=
 match x with
 | .lp t g o => onS (storeOf s (.lp t g o) v n) K
 | _ => False
theorem stlK_lp (t g o : Nat) (v : V) (n : Nat) (K : S → Prop) (s : S) : stlK (.lp t g o) v n K s = onS (storeOf s (.lp t g o) v n) K := rfl
theorem stl_0 {C : Call} {K : S → Prop} {s : S} (x v : Opd) (n : Nat) : (AOp.stl none x v n).step C s K = stlK (ev s.env x) (ev s.env v) n K s := by
 rw [step_plain _ _ _ _ rfl]
 simp only [AOp.run, stlK, onS]
 cases ev s.env x <;> try rfl
namespace TryzT
def scanL (vs : List Vr) (st : Sta) (fuel : Int) (rf : RS) : List V := [(endSt st rf.x rf.fault).v, intsV (endOut vs st rf.x rf.fault), .int .i64 (if rf.fault ≠ 0 then 0 else fuel - rf.left)]
section
variable (vs : List Vr) (bs : List Bk) (f : Fn) (hf : f.Short) (st : Sta) (ins : List Int) (hS : StShort st) (hF : FitsAll vs bs st) (hb : ∀ b ∈ st.blocks, b.length = 10) (hn : ∀ v ∈ vs, 1 ≤ v.n) (h0 : st.fault = 0) (hvs : vs.length ≤ 70) (hin : ins.length ≤ 50)
noncomputable def run0 : RS := ⟨beginF vs st ins, 1500, 0⟩
include hf hS hF hb hn h0 hvs hin
theorem scan12 (hok : Okl (scF ⟨vs, bs, [f]⟩ f) f.body) (N : Nat) (q : RS × List Int × Int) (hq : exL (scF ⟨vs, bs, [f]⟩ f) N (run0 vs st ins) (List.replicate (slotsF f).length 0) f.body = some q) : Ret prog 12 [(Src.mk vs bs [f]).v, st.v, intsV ins, .int .i64 0, .int .i64 1500] Heap.none fun r _ => r = .tup (scanL vs st 1500 q.1 ++ [.int .i64 0]) := by
 have hp := hf.p
 have hl := hf.l
 have hslen : (slotsF f).length ≤ 1200 := by unfold slotsF; simp only [List.length_append]; split <;> simp <;> omega
 have hfit0 : Fit (scF ⟨vs, bs, [f]⟩ f) (run0 vs st ins) (List.replicate (slotsF f).length 0) := fit0 vs bs f st ins hS hF.fits hb hn 1500 (by decide) (by decide)
 obtain ⟨hfit2, hleft⟩ := (ex_keep (scF ⟨vs, bs, [f]⟩ f) N).1 _ _ _ _ hok.1 hfit0 hq
 have hl0 := hfit2.l0
 have hl1 := hfit2.l1
 refine Ret.by_text rfl rfl ?_
 simp -implicitDefEqProofs only [go_sem, rB, rA, rS, rL, a12, Src.cellsOf_v, Src.cs, Sta.cellsOf_v, Sta.cs]
 intro g5 g6 g10
 refine callOk_of (fits_yes hS hF) ?_
 rintro u rfl
 have hz : (st.fault != 0) = false := by rw [h0]; rfl
 simp -implicitDefEqProofs only [go_sem, rB, rA, rS, rL, hz, jT, jG, Sta.fold]
 refine .inl (Ret.mono _ _ _ _ _ ?_ (begin27 vs st hS hb hF.fits.len hF.fits.now ins hin))
 rintro u h1 ⟨ids, bv, rfl, hst⟩
 simp -implicitDefEqProofs only [go_sem, rB, rA, rS, rL, stC]
 intro idr hidr
 refine callPure_of (scope22 vs bs f hf) ?_
 rintro u rfl
 simp -implicitDefEqProofs only [go_sem, rB, rA, rS, rL, jL, jN, Sc.v, Sc.cs, scF, mksK_eq]
 have hr0 : RunH (h1.upd idr (some (.arr 9 [runC ⟨vs, bs, [f]⟩ ids bv (run0 vs st ins)]))) idr ⟨vs, bs, [f]⟩ ids bv (run0 vs st ins) := ⟨upd_self _ _ _, hst.alloc hidr, fun ho => by
  obtain ⟨b, hb⟩ := hst.there ho
  rw [hidr] at hb; cases hb⟩
 refine ⟨by omega, by omega, by omega, fun idl hidl => ?_⟩
 simp -implicitDefEqProofs only [go_sem, rB, rA, rS, rL, Fn.cells]
 refine callOk_froze (P := fun _ => True) (us := [.ep idr 0 0, .int .i64 0, intsV (List.replicate (slotsF f).length 0), stsV f.body]) (fun j => j = idl) (h1.upd idr (some (.arr 9 [runC ⟨vs, bs, [f]⟩ ids bv (run0 vs st ins)]))) (.cons (.same _) (.cons (.same _) (.cons (Frz.whole rfl ((upd_self _ _ _).trans (by simp [intC])) (by simp)) (.cons (.same _) .nil)))) (fun a b ha => by rw [upd_other _ _ (ne_of_some ha hidl)]; exact ha) (fun a ha => by rw [ha]; exact hidl)
  ((run_ok ⟨vs, bs, [f]⟩ f rfl hf (by show (slotsF f).length ≤ 100000; omega) N).1 (run0 vs st ins) (List.replicate (slotsF f).length 0) f.body q _ idr ids bv _ hok hfit0 hq hr0 fun h2 hr2 => ?_)
 have hb2 := hr2.box'
 simp -implicitDefEqProofs only [go_sem, rB, rA, rS, rL, hb2]
 refine callOk_froze (P := fun _ => True) (us := [.fsl 5 (vs.map Vr.cells), st.v, q.1.x.v, .int .i64 q.1.fault]) (StOwn ids bv) (h2.but (StOwn ids bv)) (.cons (.same _) (.cons (.same _) (.cons hr2.st.frz (.cons (.same _) .nil)))) (Heap.but_le _ _) (fun i hi => h2.but_in hi) (end29h vs (by omega) st q.1.x hS hfit2.sh q.1.fault _ _ ?_)
 have hb3 := (h2.but_out hr2.sep).trans hb2
 simp -implicitDefEqProofs only [go_sem, rB, rA, rS]
 intro g15
 simp -implicitDefEqProofs only [go_sem, rB, rA, rS, rL, stl_0, stlK_lp, Sta.cellsOf_v, Sta.cs, hb3]
 refine br_intro (fun c1 => ?_) (fun c1 => ?_)
 ·have e1 : q.1.fault ≠ 0 := by simpa using c1
  simp -implicitDefEqProofs only [go_sem, rB, rA, rS, rL, c1, intsV]
  refine post_ret (v := .tup [(endSt st q.1.x q.1.fault).v, intsV (endOut vs st q.1.x q.1.fault), .int .i64 0, .int .i64 0]) (by simp -implicitDefEqProofs only [go_sem, rB, rA, rS, rL, resultOf, mapM?, ARes.val]; rfl) ?_
  simp only [scanL, e1, if_true, ne_eq, not_false_eq_true, List.cons_append, List.nil_append]
 ·have e1 : ¬ q.1.fault ≠ 0 := by simpa using c1
  simp -implicitDefEqProofs only [go_sem, rB, rA, rS, rL, c1, hb3, stl_0, stlK_lp, intsV, wrap_in (n := 1500 - q.1.left) (by omega)]
  refine post_ret (v := .tup [(endSt st q.1.x q.1.fault).v, intsV (endOut vs st q.1.x q.1.fault), .int .i64 (1500 - q.1.left), .int .i64 0]) (by simp -implicitDefEqProofs only [go_sem, rB, rA, rS, rL, resultOf, mapM?, ARes.val]; rfl) ?_
  simp only [scanL, if_neg e1, List.cons_append, List.nil_append]
omit h0 in
theorem gscan14 (hok : Okl (scF ⟨vs, bs, [f]⟩ f) f.body) (g : List Ev) (hg : InvE (scF ⟨vs, bs, [f]⟩ f) g.length g) (hgl : g.length ≤ 1000000) (rf : RS) (slf : List Int) (hfit2 : Fit (scF ⟨vs, bs, [f]⟩ f) rf slf) (hgp : GP (scF ⟨vs, bs, [f]⟩ f) g 0 (run0 vs st ins) (List.replicate (slotsF f).length 0) rf slf) : Ret prog 14 [(Src.mk vs bs [f]).v, evsV g, st.v, intsV ins, .int .i64 1500] Heap.none fun r _ => r = .tup (scanL vs st 1500 rf) := by
 have hp := hf.p
 have hl := hf.l
 have hslen : (slotsF f).length ≤ 1200 := by unfold slotsF; simp only [List.length_append]; split <;> simp <;> omega
 have hfit0 : Fit (scF ⟨vs, bs, [f]⟩ f) (run0 vs st ins) (List.replicate (slotsF f).length 0) := fit0 vs bs f st ins hS hF.fits hb hn 1500 (by decide) (by decide)
 have hl0 := hfit2.l0
 have hl1 := hfit2.l1
 refine Ret.by_text rfl rfl ?_
 simp -implicitDefEqProofs only [go_sem, rB, rA, rS, rL, a14, Src.cellsOf_v, Src.cs, Sta.cellsOf_v, Sta.cs]
 intro g5 g7 g10
 refine callOk_of (scope22 vs bs f hf) ?_
 rintro u rfl
 simp -implicitDefEqProofs only [go_sem, rB, rA, rS, rL, Sc.cellsOf_v, Sc.cs, scF]
 intro g13
 simp -implicitDefEqProofs only [go_sem, Sta.fold]
 refine .inl (Ret.mono _ _ _ _ _ ?_ (clone13 st hS hb))
 rintro u h0 ⟨ids0, bv0, rfl, hst0⟩
 simp -implicitDefEqProofs only [go_sem, rB, rA, rS]
 refine callOk_froze (P := fun _ => True) (us := [.fsl 5 (vs.map Vr.cells), st.v, intsV ins, .int .i64 0]) (StOwn ids0 bv0) Heap.none (.cons (.same _) (.cons hst0.frz (.cons (.same _) (.cons (.same _) .nil)))) (fun _ _ e => by cases e) (fun _ _ => rfl) (Ret.mono _ _ _ _ _ ?_ (begin27 vs st hS hb hF.fits.len hF.fits.now ins hin))
 rintro u h1 ⟨ids, bv, rfl, hst⟩
 simp -implicitDefEqProofs only [go_sem, rB, rA, rS, rL, stC]
 intro idr hidr
 have hr0 : RunH (h1.upd idr (some (.arr 9 [runC ⟨vs, bs, [f]⟩ ids bv (run0 vs st ins)]))) idr ⟨vs, bs, [f]⟩ ids bv (run0 vs st ins) := ⟨upd_self _ _ _, hst.alloc hidr, fun ho => by
  obtain ⟨b, hb⟩ := hst.there ho
  rw [hidr] at hb; cases hb⟩
 refine ⟨by omega, by omega, by omega, fun idl hidl => ?_⟩
 refine callOk_froze (P := fun _ => True) (us := [.ep idr 0 0, (scF ⟨vs, bs, [f]⟩ f).v, evsV g, intsV (List.replicate (slotsF f).length 0)]) (fun j => j = idl) (h1.upd idr (some (.arr 9 [runC ⟨vs, bs, [f]⟩ ids bv (run0 vs st ins)]))) (.cons (.same _) (.cons (.same _) (.cons (.same _) (.cons (Frz.whole rfl ((upd_self _ _ _).trans (by simp [intC])) (by simp)) .nil)))) (fun a b ha => by rw [upd_other _ _ (ne_of_some ha hidl)]; exact ha) (fun a ha => by rw [ha]; exact hidl)
  (grun30 ⟨vs, bs, [f]⟩ f rfl hf (by show (slotsF f).length ≤ 100000; omega) g hg hgl hr0 hfit0 hgp _ fun h2 hr2 => ?_)
 have hb2 := hr2.box'
 simp -implicitDefEqProofs only [go_sem, rB, rA, rS, rL, hb2]
 refine callOk_froze (P := fun _ => True) (us := [.fsl 5 (vs.map Vr.cells), st.v, rf.x.v, .int .i64 rf.fault]) (StOwn ids bv) (h2.but (StOwn ids bv)) (.cons (.same _) (.cons (.same _) (.cons hr2.st.frz (.cons (.same _) .nil)))) (Heap.but_le _ _) (fun i hi => h2.but_in hi) (end29h vs (by omega) st rf.x hS hfit2.sh rf.fault _ _ ?_)
 have hb3 := (h2.but_out hr2.sep).trans hb2
 simp -implicitDefEqProofs only [go_sem, rB, rA, rS]
 intro g15
 simp -implicitDefEqProofs only [go_sem, rB, rA, rS, rL, stl_0, stlK_lp, Sta.cellsOf_v, Sta.cs, hb3]
 refine br_intro (fun c1 => ?_) (fun c1 => ?_)
 ·have e1 : rf.fault ≠ 0 := by simpa using c1
  simp -implicitDefEqProofs only [go_sem, rB, rA, rS, rL, c1, intsV]
  refine post_ret (v := .tup [(endSt st rf.x rf.fault).v, intsV (endOut vs st rf.x rf.fault), .int .i64 0]) (by simp -implicitDefEqProofs only [go_sem, rB, rA, rS, rL, resultOf, mapM?, ARes.val]; rfl) ?_
  simp only [scanL, e1, if_true, ne_eq, not_false_eq_true]
 ·have e1 : ¬ rf.fault ≠ 0 := by simpa using c1
  simp -implicitDefEqProofs only [go_sem, rB, rA, rS, rL, c1, hb3, stl_0, stlK_lp, intsV, wrap_in (n := 1500 - rf.left) (by omega)]
  refine post_ret (v := .tup [(endSt st rf.x rf.fault).v, intsV (endOut vs st rf.x rf.fault), .int .i64 (1500 - rf.left)]) (by simp -implicitDefEqProofs only [go_sem, rB, rA, rS, rL, resultOf, mapM?, ARes.val]; rfl) ?_
  simp only [scanL, if_neg e1]
end
end TryzT
end Go.Abs
namespace Go.Abs
open Go
theorem all2_refl : ∀ l : List Int, all2 (fun x y => x == y) l l = true
 | [] => rfl
 | x :: l => by simp [all2, all2_refl l]
theorem intsOf_ints : ∀ l : List Int, intsOf (TryzT.instC l) = some l
 | [] => rfl
 | x :: l => by
  have : TryzT.instC (x :: l) = .int .i64 x :: TryzT.instC l := rfl
  rw [this, intsOf, intsOf_ints l]; rfl
namespace TryzT
theorem same15 (x : Sta) (hx : StShort x) (hb : ∀ b ∈ x.blocks, b.length = 10) : Ret prog 15 [x.v, x.v] Heap.none fun r _ => r = .bool true := by
 obtain ⟨s1, s2, s3⟩ := hx
 refine Ret.by_text rfl rfl ?_
 simp -implicitDefEqProofs only [go_sem, rB, rA, rS, rL, a15, Sta.cellsOf_v, Sta.cs, bne_self_eq_false]
 intro g1 g2
 refine Loop.rec (fun k : Nat => x.vars.length - k) (fun k => ⟨E 74 [(2, .lp 2 g1 0), (3, .lp 3 g2 0), (5, .int .i64 k)], B 74 [(2, some (g1, x.cs)), (3, some (g2, x.cs))], Heap.none⟩)
  (fun k => k ≤ x.vars.length) ?_ 0 (Nat.zero_le _) rfl
 intro k hk hrec
 simp -implicitDefEqProofs only [go_sem, rB, rA, rS, rL, Sta.cs]
 refine br_intro (fun c1 => ?_) (fun c1 => ?_)
 ·have c2 : k < x.vars.length := by simpa using c1
  obtain ⟨l, hl⟩ : ∃ l, x.vars[k]? = some l := ⟨_, lG c2⟩
  have hl100 := s3 l (lM hl)
  simp -implicitDefEqProofs only [go_sem, rB, rA, rS, rL, c1, hl]
  refine callOk_of (ints28 l l (by omega)) ?_
  rintro u rfl
  simp -implicitDefEqProofs only [go_sem, rB, rA, rS, all2_refl, wrap_succ (show k < 9223372036854775807 by omega)]
  exact hrec (k + 1) (by omega) (by omega)
 ·simp -implicitDefEqProofs only [go_sem, rB, c1]
  refine Loop.rec (fun k : Nat => x.blocks.length - k) (fun k => ⟨E 74 [(2, .lp 2 g1 0), (3, .lp 3 g2 0), (6, .int .i64 k)], B 74 [(2, some (g1, x.cs)), (3, some (g2, x.cs))], Heap.none⟩)
   (fun k => k ≤ x.blocks.length) ?_ 0 (Nat.zero_le _) rfl
  intro k hk hrec
  simp -implicitDefEqProofs only [go_sem, rB, rA, rS, rL, Sta.cs]
  refine br_intro (fun c1 => ?_) (fun c1 => ?_)
  ·have c2 : k < x.blocks.length := by simpa using c1
   obtain ⟨b, hbk⟩ : ∃ b, x.blocks[k]? = some b := ⟨_, lG c2⟩
   have hb10 := hb b (lM hbk)
   have hlb : (10 ≤ (instC b).length) = True := eq_true (by simp [instC, hb10])
   have htk : List.take 10 (instC b) = instC b := List.take_of_length_le (by simp [instC, hb10])
   simp -implicitDefEqProofs only [go_sem, rB, rA, rS, rL, c1, hbk, hlb, htk, intsOf_ints, hb10, beq_self_eq_true, wrap_succ (show k < 9223372036854775807 by omega)]
   exact hrec (k + 1) (by omega) (by omega)
  ·simp -implicitDefEqProofs only [go_sem, rB, c1]
   refine post1 ?_
   simp -implicitDefEqProofs only [go_sem, rB, rA, rS]
end TryzT
end Go.Abs
namespace Go.Abs
open Go
namespace TryzT
theorem root3 (s : Src) (st : Sta) (hb : ∀ b ∈ st.blocks, b.length = 10) (ins : List Int) : Ret prog 3 [s.v, st.v, intsV ins] Heap.none fun r _ => r = .bool true := by
 refine Ret.by_text rfl rfl ?_
 simp -implicitDefEqProofs only [go_sem, rB, rA, rS, rL, a3, Src.cellsOf_v, Sta.cellsOf_v, Src.cs, Sta.cs, Src.fold]
 intro g3 g4
 refine callOk_of (few29 s) ?_
 rintro u ⟨b1, rfl, hs⟩
 cases b1
 ·simp -implicitDefEqProofs only [go_sem, rB, rA, rS]
  refine callOk_of awake5 ?_
  rintro u rfl
  simp -implicitDefEqProofs only [go_sem, rB, rA, rS]
  refine post1 ?_
  simp -implicitDefEqProofs only [go_sem, rB, rA, rS]
 have hs := hs rfl
 simp -implicitDefEqProofs only [go_sem, rB, rA, rS, rL, Sta.fold]
 refine callOk_of (short23 st) ?_
 rintro u ⟨b2, rfl, hS⟩
 cases b2
 ·simp -implicitDefEqProofs only [go_sem, rB, rA, rS]
  refine callOk_of awake5 ?_
  rintro u rfl
  simp -implicitDefEqProofs only [go_sem, rB, rA, rS]
  refine post1 ?_
  simp -implicitDefEqProofs only [go_sem, rB, rA, rS]
 have hS := hS rfl
 simp -implicitDefEqProofs only [go_sem, rB, rA, rS, intsV]
 refine br_intro (fun c1 => ?_) (fun c1 => ?_)
 ·simp -implicitDefEqProofs only [go_sem, rB, rA, rS, c1]
  refine callOk_of awake5 ?_
  rintro u rfl
  simp -implicitDefEqProofs only [go_sem, rB, rA, rS]
  refine post1 ?_
  simp -implicitDefEqProofs only [go_sem, rB, rA, rS]
 have hin : ins.length ≤ 50 := by simp at c1; omega
 simp -implicitDefEqProofs only [go_sem, rB, rA, rS, rL, c1]
 refine callOk_of (fitsAll6 s.vars s.blocks st hS) ?_
 rintro u ⟨b3, rfl, hF⟩
 cases b3
 ·simp -implicitDefEqProofs only [go_sem, rB, rA, rS]
  refine callOk_of awake5 ?_
  rintro u rfl
  simp -implicitDefEqProofs only [go_sem, rB, rA, rS]
  refine post1 ?_
  simp -implicitDefEqProofs only [go_sem, rB, rA, rS]
 have hF := hF.1 rfl
 simp -implicitDefEqProofs only [go_sem, rB, rA, rS, rL]
 refine br_intro (fun c2 => ?_) (fun c2 => ?_)
 ·simp -implicitDefEqProofs only [go_sem, c2]
  refine callOk_of awake5 ?_
  rintro u rfl
  simp -implicitDefEqProofs only [go_sem, rB, rA, rS]
  refine post1 ?_
  simp -implicitDefEqProofs only [go_sem, rB, rA, rS]
 have h0 : st.fault = 0 := by simpa using c2
 simp -implicitDefEqProofs only [go_sem, rB, rA, rS, rL, c2, Src.fold]
 refine callOk_of (priced8 s hs) ?_
 rintro u ⟨s2, ok, rfl, hp⟩
 simp -implicitDefEqProofs only [go_sem, rB, rA, rS, rL, Src.cellsOf_v, Src.cs]
 intro g7
 cases ok
 ·simp -implicitDefEqProofs only [go_sem, rB, rA, rS]
  refine callOk_of awake5 ?_
  rintro u rfl
  simp -implicitDefEqProofs only [go_sem, rB, rA, rS]
  refine post1 ?_
  simp -implicitDefEqProofs only [go_sem, rB, rA, rS]
 obtain ⟨f, f2, hf1, hs2, hpar, hres, hloc, hn, hcw⟩ := hp rfl
 obtain ⟨vs, bs, fs⟩ := s
 simp only [] at hf1 hs2 hF hn
 subst hf1
 subst hs2
 simp -implicitDefEqProofs only [go_sem, rB, rA, rS, rL, jL, jN, Fn.cells]
 refine callOk_of (few10 f2.body 100 (by decide) (by decide)) ?_
 rintro u ⟨b4, rfl, hfew⟩
 cases b4
 ·simp -implicitDefEqProofs only [go_sem, rB, rA, rS]
  refine callOk_of awake5 ?_
  rintro u rfl
  simp -implicitDefEqProofs only [go_sem, rB, rA, rS]
  refine post1 ?_
  simp -implicitDefEqProofs only [go_sem, rB, rA, rS]
 obtain ⟨hcnt, hsm⟩ := hfew rfl
 have hF := hF.1 rfl
 simp only [] at hF
 have hs : (Src.mk vs bs [f]).Short := hs
 have hfS := hs.s f lC
 have hf2 : f2.Short := ⟨by rw [hpar]; exact hfS.p, by rw [hloc]; exact hfS.l, hsm, by omega⟩
 have hsc : scF ⟨vs, bs, [f]⟩ f = scF ⟨vs, bs, [f2]⟩ f2 := by
  unfold scF slotsF
  rw [hpar, hres, hloc]
 rw [hsc] at hcw
 have hcw2 : ∀ x ∈ f2.body, CW' (scF ⟨vs, bs, [f2]⟩ f2) x := fun x hx => ⟨0, hcw x hx⟩
 have hok : Okl (scF ⟨vs, bs, [f2]⟩ f2) f2.body := ⟨hcw2, ⟨40, hsm⟩, by omega⟩
 have hvs : vs.length ≤ 70 := hs.v
 obtain ⟨hinv, hg2, hgl⟩ := gStmts_I (scF ⟨vs, bs, [f2]⟩ f2) 40 f2.body (fun x hx => ⟨hsm x hx, hcw2 x hx⟩)
 have hfit0 : Fit (scF ⟨vs, bs, [f2]⟩ f2) (run0 vs st ins) (List.replicate (slotsF f2).length 0) := fit0 vs bs f2 st ins hS hF.fits hb hn 1500 (by decide) (by decide)
 obtain ⟨N, q, hq⟩ := exL_total (scF ⟨vs, bs, [f2]⟩ f2) 40 f2.body hsm hcw2 _ _ hfit0
 obtain ⟨hfit2, _⟩ := (ex_keep (scF ⟨vs, bs, [f2]⟩ f2) N).1 _ _ _ _ hcw2 hfit0 hq
 have hgp := graph_law (scF ⟨vs, bs, [f2]⟩ f2) 40 f2.body (fun x hx => ⟨hsm x hx, hcw2 x hx⟩) _ _ hfit0 rfl N q hq
 have hs12 := scan12 vs bs f2 hf2 st ins hS hF hb hn h0 hvs hin hok N q hq
 have hs14 := gscan14 vs bs f2 hf2 st ins hS hF hb hn hvs hin hok (gStmts 40 f2.body) hinv (by omega) q.1 q.2.1 hfit2 hgp
 have hendS : StShort (endSt st q.1.x q.1.fault) := by
  unfold endSt
  split
  ·exact hfit2.sh
  ·exact hS
 have hendB : ∀ b ∈ (endSt st q.1.x q.1.fault).blocks, b.length = 10 := by
  unfold endSt
  split
  ·exact hfit2.st.b10
  ·exact hb
 have hendL : (endOut vs st q.1.x q.1.fault).length < 4611686018427387904 := by
  have h1 := areaF_len 2 vs q.1.x.vars hfit2.sh.2.2
  have h2 := areaF_len 2 vs st.vars hS.2.2
  unfold endOut
  split
  ·omega
  ·rw [List.length_replicate]; omega
 simp -implicitDefEqProofs only [go_sem, rB, rA, rS, rL, jL, jN]
 refine callOk_of (stmtsG 40 f2.body hsm (by omega)) ?_
 rintro u rfl
 simp -implicitDefEqProofs only [go_sem, rB, rA, rS]
 refine callOk_of (right8 (gStmts 40 f2.body) (by omega) (fun x hx => by
  have hi := hinv x hx
  have := hi.few
  rw [hi.body, hi.els, hi.arms]
  simp only [List.length_nil]
  omega)) ?_
 rintro u rfl
 have hright := hinv.right (by omega)
 simp -implicitDefEqProofs only [go_sem, rB, rA, rS, rL, hright]
 refine .inl (Ret.mono _ _ _ _ _ ?_ (clone13 st hS hb))
 rintro u h5 ⟨ids, bv, rfl, hst⟩
 simp -implicitDefEqProofs only [go_sem, rB, rA, rS]
 refine callOk_drop (us := [(Src.mk vs bs [f2]).v, st.v, intsV ins, .int .i64 0, .int .i64 1500]) (StOwn ids bv) (.cons (.same _) (.cons hst.frz (.cons (.same _) (.cons (.same _) (.cons (.same _) .nil))))) hs12 ?_
 rintro u h6 rfl
 obtain ⟨nn, hnn⟩ : ∃ nn : Int, nn = (if q.1.fault ≠ 0 then 0 else 1500 - q.1.left) := ⟨_, rfl⟩
 obtain ⟨xe, hxe⟩ : ∃ xe, xe = endSt st q.1.x q.1.fault := ⟨_, rfl⟩
 obtain ⟨oe, hoe⟩ : ∃ oe, oe = endOut vs st q.1.x q.1.fault := ⟨_, rfl⟩
 have hsl : scanL vs st 1500 q.1 = [xe.v, intsV oe, .int .i64 nn] := by rw [scanL, hxe, hoe, hnn]
 rw [hsl] at hs14
 rw [← hxe] at hendS hendB
 rw [← hoe] at hendL
 simp -implicitDefEqProofs only [go_sem, rB, rA, rS, rL, hsl, Sta.cellsOf_v, Sta.cs]
 intro g10
 refine callOk_of hs14 ?_
 rintro u rfl
 simp -implicitDefEqProofs only [go_sem, rB, rA, rS, rL, Sta.cellsOf_v, Sta.cs]
 intro g14
 refine br_intro (fun c3 => ?_) (fun c3 => ?_)
 ·simp -implicitDefEqProofs only [go_sem, rB, rA, rS, rL, c3, beq_self_eq_true]
  refine callOk_of awake5 ?_
  rintro u rfl
  simp -implicitDefEqProofs only [go_sem, rB, rA, rS]
  refine post1 ?_
  simp -implicitDefEqProofs only [go_sem, rB, rA, rS]
 simp -implicitDefEqProofs only [go_sem, rB, rA, rS, rL, c3, Sta.fold]
 refine callOk_of (same15 xe hendS hendB) ?_
 rintro u rfl
 simp -implicitDefEqProofs only [go_sem, rB, rA, rS]
 refine callOk_of (ints28 oe oe hendL) ?_
 rintro u rfl
 simp -implicitDefEqProofs only [go_sem, rB, rA, rS, all2_refl, beq_self_eq_true]
 refine callOk_of awake5 ?_
 rintro u rfl
 simp -implicitDefEqProofs only [go_sem, rB, rA, rS]
 refine post1 ?_
 simp -implicitDefEqProofs only [go_sem, rB, rA, rS]
end TryzT
end Go.Abs
