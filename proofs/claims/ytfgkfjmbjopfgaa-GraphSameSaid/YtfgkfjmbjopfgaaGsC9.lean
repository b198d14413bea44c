/-
  Contract: do two graphs go together?
-/
import Derived.Test.YtfgkfjmbjopfgaaGsC8
import Derived.Test.YtfgkfjmbjopfgaaGsL2
set_option linter.unusedVariables false
set_option linter.unusedSimpArgs false
set_option maxRecDepth 100000
set_option maxHeartbeats 4000000
namespace Go.Abs
open Go
/-- Short graphs. -/
structure ShortG (l : List Ev) : Prop where
  len : l.length ≤ 4096
  next : ∀ x ∈ l, x.next.length ≤ 4096
  cost : ∀ x ∈ l, 0 ≤ x.s.cost ∧ x.s.cost ≤ 1048576
  s : ∀ x ∈ l, x.s.Short
theorem ShortG.cheap {l : List Ev} (h : ShortG l) : Cheap l := ⟨by have := h.len; omega, h.cost⟩
theorem St.bare_of {m : Nat} {x : Ev} (h : Ev.right m x = true) : x.s.Bare := Ev.right_bare h
/-- A statement without its cost. -/
def St.free : St → St
  | .mk k _ n m e i l args body els arms => .mk k 0 n m e i l args body els arms
theorem St.free_cs (x : St) : x.free.cs = [.int .i64 x.kind, .int .i64 0, .int .i64 x.n, .int .i64 x.m, .int .i64 x.e.op, .int .i64 x.e.t, .int .i64 x.e.n, .int .i64 x.e.m, .fsl 5 (x.e.l.map Ex.cells), .int .i64 x.i.op, .int .i64 x.i.t, .int .i64 x.i.n, .int .i64 x.i.m, .fsl 5 (x.i.l.map Ex.cells), .fsl 5 (x.l.map Ex.cells), .fsl 6 (x.args.map Ar.cells), .fsl 19 (x.body.map St.cells), .fsl 19 (x.els.map St.cells), .fsl 2 (x.arms.map Am.cells)] := by cases x; rfl
theorem St.free_one (x y : St) : (x.free.cost == y.free.cost && x.free.one y.free) = x.one y := by
  cases x; cases y; simp [St.free, St.one, St.cost, St.kind, St.n, St.m, St.e, St.i, St.l, St.args]
theorem St.free_bare {x : St} (h : x.Bare) : x.free.Bare := by cases x; exact h
theorem St.free_short {x : St} (h : x.Short) : x.free.Short := by cases x; exact ⟨h.e, h.i, h.l, h.a, h.ae⟩
theorem behV_cases (r : Option (Nat × Int)) : ∃ J C : Int, behV r = .tup [.int .i64 J, .int .i64 C] ∧ ((r = none ∧ J = -1 ∧ C = 0) ∨ ∃ (j : Nat) (n : Int), r = some (j, n) ∧ J = j ∧ C = n) := by
  cases r with
  | none => exact ⟨-1, 0, rfl, .inl ⟨rfl, rfl, rfl⟩⟩
  | some r => exact ⟨r.1, r.2, rfl, .inr ⟨r.1, r.2, rfl, rfl, rfl⟩⟩
/-- A pair in cells. -/
def pairC (p : Nat × Nat) : List V := [.int .i64 p.1, .int .i64 p.2]
def pairK (p : Nat × Nat) : V × V := (.agg (pairC p), .int .i64 1)
theorem findPair (ms : List (Nat × Nat)) (j m : Nat) : (findKey (.agg [.int .i64 j, .int .i64 m]) (ms.map pairK) = some none ∧ (j, m) ∉ ms) ∨ ∃ i, findKey (.agg [.int .i64 j, .int .i64 m]) (ms.map pairK) = some (some i) ∧ ms[i]? = some (j, m) := by
  induction ms with
  | nil => exact .inl ⟨rfl, by simp⟩
  | cons p l ih =>
    obtain ⟨j', m'⟩ := p
    have e : keyEq (.agg [.int .i64 j, .int .i64 m]) (pairK (j', m')).1 = some ((j : Int) == j' && (m : Int) == m') := by simp [keyEq, pairK, pairC]
    rw [List.map_cons, findKey, e]
    by_cases h : j = j' ∧ m = m'
    · obtain ⟨rfl, rfl⟩ := h
      exact .inr ⟨0, by simp, by simp⟩
    · have : ((j : Int) == j' && (m : Int) == m') = false := by
        rw [Bool.eq_false_iff]; intro hh; apply h; simpa [Int.natCast_inj] using hh
      rw [this]
      rcases ih with ⟨h1, h2⟩ | ⟨i, h1, h2⟩
      · refine .inl ⟨by simp [h1], fun hm => ?_⟩
        rcases List.mem_cons.1 hm with hm | hm
        · injection hm with q1 q2; exact h ⟨q1, q2⟩
        · exact h2 hm
      · exact .inr ⟨i + 1, by simp [h1], by simpa using h2⟩
theorem upd_1 (h : Heap) (i j : Nat) (b : Option Blk) : (h.upd i b) j = if j = i then b else h j := rfl
/-- What a loop over waiting pairs has. -/
structure GS where
  idm : Nat
  idw : Nat
  ws : List (Nat × Nat)
  rest : List (List V)
  ms : List (Nat × Nat)
  h : Heap
namespace TryT
theorem same6 (a b : List Ev) (ha : ShortG a) (hb : ShortG b) : Ret prog 6 [evsV a, evsV b] Heap.none fun r _ => ∃ t : Bool, r = .bool t ∧ (t = true ↔ Goes a b) := by
  have hla := ha.len
  have hlb := hb.len
  refine Ret.by_text rfl rfl ?_
  simp -implicitDefEqProofs only [number, W_region, W_seq, Thn_normal, wOps_nil, wOps_cons, val_0, valK_eq, onPut_some, call_0, callK_eq, ev_E, ev_c, set_E, look_cons, look_nil, cond_true, cond_false, Nat.reduceBEq, Nat.reduceAdd, Nat.reduceSub, List.map_cons, List.map_nil, AVal.eval, a6]
  refine callOk_pure (right7 a (by omega) (fun x hx => by have := ha.next x hx; omega)) ?_
  simp -implicitDefEqProofs only [wOps_cons, val_0, val_g, valK_eq, onPut_some, onGuard_bool, br_not, beq_false', retK_some, ev_E, set_E, look_cons, look_nil, cond_true, cond_false, Nat.reduceBEq, Nat.reduceAdd, Nat.reduceSub, AVal.eval, unOf]
  refine br_intro2 (fun h1 => ?_) (fun h1 => ?_)
  · simp -implicitDefEqProofs only [W_region, W_seq, W_cond, W_ret, Thn_normal, Thn_ret, wOps_nil, wOps_cons, val_0, val_g, valK_eq, onPut_some, onGuard_bool, onBool_bool, br_true, br_false, beq_false', skipK_some, call_g, ev_E, ev_c, set_E, look_cons, look_nil, cond_true, cond_false, Nat.reduceBEq, Nat.reduceAdd, Nat.reduceSub, if_true, Bool.not_true, Bool.not_false, AVal.eval, h1]
    refine post1 ?_
    simp -implicitDefEqProofs only [ev_E, look_cons, look_nil, cond_true, cond_false, Nat.reduceBEq, Nat.reduceAdd, Nat.reduceSub]
    exact ⟨false, rfl, by simp [Goes, h1]⟩
  simp -implicitDefEqProofs only [wOps_cons, valK_eq, onPut_some, onGuard_bool, br_true, beq_false', callK_eq, call_g, ev_E, set_E, look_cons, look_nil, cond_true, cond_false, Nat.reduceBEq, Nat.reduceAdd, Nat.reduceSub, Bool.not_true, Bool.not_false, List.map_cons, List.map_nil, AVal.eval, h1]
  refine callOk_pure (right7 b (by omega) (fun x hx => by have := hb.next x hx; omega)) ?_
  simp -implicitDefEqProofs only [W_cond, Thn_normal, wOps_nil, wOps_cons, val_0, val_g, valK_eq, onPut_some, onGuard_bool, onBool_bool, br_true, br_not, beq_false', retK_some, ev_E, ev_c, set_E, look_cons, look_nil, cond_true, cond_false, Nat.reduceBEq, Nat.reduceAdd, Nat.reduceSub, if_false, Bool.false_eq_true, Bool.not_false, AVal.eval, unOf]
  refine br_intro2 (fun h2 => ?_) (fun h2 => ?_)
  · simp -implicitDefEqProofs only [W_region, W_seq, W_ret, Thn_normal, Thn_ret, wOps_nil, wOps_cons, val_0, valK_eq, onPut_some, ev_c, set_E, Bool.not_false, AVal.eval, h2]
    refine post1 ?_
    simp -implicitDefEqProofs only [ev_E, look_cons, look_nil, cond_true, cond_false, Nat.reduceBEq, Nat.reduceAdd, Nat.reduceSub]
    exact ⟨false, rfl, by simp [Goes, h2]⟩
  simp -implicitDefEqProofs only [W_skip, W_region, W_seq, W_block, W_loop, keep_eq, Thn_normal, wOps_nil, wOps_cons, val_0, valK_eq, onPut_some, onCells_some, bsl_0, bslK_eq, fill, range_one, rep_one, mkm_0, mkmK_eq, ev_E, ev_c, set_E, look_cons, look_nil, lookB_nil, cond_true, cond_false, Nat.reduceBEq, Nat.reduceAdd, Nat.reduceSub, Nat.reduceMul, Nat.reduceLeDiff, if_true, over, List.append_nil, Bool.not_true, and_self, List.length_cons, List.length_nil, List.drop_succ_cons, List.drop_zero, List.take_succ_cons, List.take_zero, List.take_nil, List.drop_nil, List.map_cons, List.map_nil, List.nil_append, List.cons_append, AVal.eval, cellsOf_agg, cellsOf_int, Option.map_some, h2]
  intro idm0 hidm0 idw0 hidw0
  have hL : a.length * b.length ≤ 16777216 := Nat.le_trans (Nat.mul_le_mul hla hlb) (by decide)
  refine Loop.rec (α := GS) (fun k => (a.length * b.length - k.ms.length) * 4097 + k.ws.length) (fun k => ⟨E 136 [(0, evsV a), (1, evsV b), (5, .map k.idm), (6, .msl k.idw 0 k.ws.length)], B 136 [], k.h⟩)
    (fun k => k.h k.idm = some (.map (k.ms.map pairK)) ∧ k.h k.idw = some (.arr 2 (k.ws.map pairC ++ k.rest)) ∧ k.idm ≠ k.idw ∧ Inv a b k.ws k.ms ∧ k.ws.length ≤ 4096 * k.ms.length + 1 ∧ ∀ p ∈ k.ws, p.1 < a.length ∧ p.2 < b.length) ?_
    ⟨idm0, idw0, [(0, 0)], [], [], (Heap.none.upd idm0 (some (.map []))).upd idw0 (some (.arr 2 [[.int .i64 0, .int .i64 0]]))⟩ ⟨(upd_other _ _ (ne_of_some (upd_self _ _ _) hidw0)).trans (upd_self _ _ _), upd_self _ _ _, ne_of_some (upd_self _ _ _) hidw0, Inv.begin a b, by simp, fun p hp => by simp at hp; subst hp; exact ⟨right_pos h1, right_pos h2⟩⟩ rfl
  rintro ⟨idm, idw, ws, rest, ms, h⟩ ⟨hm, hw, hne, hinv, hwl, hin⟩ hrec
  simp only [] at hm hw hne hinv hwl hin
  have hfew := hinv.few
  simp -implicitDefEqProofs only [W_region, W_seq, W_cond, Thn_normal, wOps_nil, wOps_cons, val_0, valK_eq, onPut_some, onBool_bool, ev_E, ev_c, set_E, look_cons, look_nil, cond_true, cond_false, Nat.reduceBEq, Nat.reduceAdd, Nat.reduceSub, if_true, AVal.eval, binOf, intOf]
  refine br_intro (fun h3 => ?_) (fun h3 => ?_)
  · simp -implicitDefEqProofs only [W_skip, W_region, W_seq, W_block, Thn_normal, wOps_cons, val_0, valK_eq, onPut_some, ev_E, ev_c, set_E, look_cons, look_nil, cond_true, cond_false, Nat.reduceBEq, Nat.reduceAdd, Nat.reduceSub, if_true, AVal.eval, binOf, intOf, h3]
    have hpos : 0 < ws.length := by simpa using h3
    obtain ⟨ws, ⟨i, k⟩, rfl⟩ : ∃ l p, ws = l ++ [p] := ⟨_, _, (List.dropLast_concat_getLast (List.ne_nil_of_length_pos hpos)).symm⟩
    rw [List.length_append, List.length_cons, List.length_nil, Nat.zero_add] at hwl hpos
    replace hw : h idw = some (.arr 2 (List.map pairC ws ++ [.int .i64 i, .int .i64 k] :: rest)) := by simpa [pairC] using hw
    have hpair : (List.map pairC ws ++ [V.int .i64 i, V.int .i64 k] :: rest)[ws.length]? = some [.int .i64 i, .int .i64 k] := by simp
    have f1 : IntKind.i64.wrap (((ws ++ [(i, k)]).length : Int) - 1) = (ws.length : Int) := by rw [List.length_append, List.length_cons, List.length_nil, wrap_in ⟨by omega, by omega⟩]; omega
    have f2 : ((ws.length : Int) < ((ws ++ [(i, k)]).length : Int)) = True := eq_true (by rw [List.length_append, List.length_cons, List.length_nil]; omega)
    have f3 : (ws.length ≤ (ws ++ [(i, k)]).length) = True := by simp
    have f4 : ((0 : Int) < ((2 : Nat) : Int)) = True := by simp
    have f5 : ((1 : Int) < ((2 : Nat) : Int)) = True := by simp
    obtain ⟨hia, hkb⟩ := hin (i, k) (by simp)
    simp -implicitDefEqProofs only [W_region, W_seq, Thn_normal, wOps_nil, wOps_cons, val_0, valK_eq, onPut_some, box_0, onCells_some, boxK_eq, st_0, stK_eq, onS_some, ev_E, ev_c, set_E, set_B, getD_B, look_cons, lookB_cons, look_nil, lookB_nil, cond_true, cond_false, Nat.reduceBEq, Nat.reduceAdd, Nat.reduceSub, Nat.reduceLeDiff, if_true, storeOf, storeCells, over, List.append_nil, true_and, and_true, and_self, List.getElem?_cons_zero, List.length_cons, List.length_nil, List.drop_succ_cons, List.drop_zero, List.take_succ_cons, List.take_zero, List.take_nil, List.drop_nil, List.nil_append, AVal.eval, cellsOf_agg, nat_le, Int.toNat_natCast, loadOf, cellsAt, boxOf, partOf, binOf, intOf, f1, f2, hw, Nat.zero_add, hpair]
    intro g
    simp -implicitDefEqProofs only [W_region, W_seq, Thn_normal, wOps_nil, wOps_cons, val_0, valK_eq, onPut_some, call_0, callK_eq, ev_E, ev_c, set_E, getD_B, look_cons, lookB_cons, look_nil, lookB_nil, cond_true, cond_false, Nat.reduceBEq, Nat.reduceAdd, Nat.reduceSub, Nat.reduceMul, Nat.reduceLeDiff, if_true, if_false, Bool.false_eq_true, and_self, List.getElem?_cons_zero, List.length_cons, List.length_nil, List.drop_zero, List.take_succ_cons, List.take_zero, List.map_cons, List.map_nil, AVal.eval, nat_le, Int.toNat_natCast, Int.reduceLE, Int.reduceToNat, loadOf, cellsAt, boxOf, partOf, bound, f3, f4, Nat.sub_zero, Nat.zero_le]
    refine callOk_of (behind12 a i h1 ha.cheap hia) ?_
    rintro u ⟨r1, hr1, rfl⟩
    obtain ⟨J1, C1, e1, hJ1⟩ := behV_cases r1
    simp -implicitDefEqProofs only [W_region, W_seq, Thn_normal, wOps_nil, wOps_cons, val_0, valK_eq, onPut_some, call_0, callK_eq, retK_some, ev_E, ev_c, set_E, getD_B, look_cons, lookB_cons, look_nil, lookB_nil, cond_true, cond_false, Nat.reduceBEq, Nat.reduceAdd, Nat.reduceSub, Nat.reduceMul, Nat.reduceLeDiff, if_true, if_false, Bool.false_eq_true, and_self, List.getElem?_cons_zero, List.getElem?_cons_succ, List.length_cons, List.length_nil, List.drop_succ_cons, List.drop_zero, List.take_succ_cons, List.take_nil, List.map_cons, List.map_nil, AVal.eval, Int.reduceLE, Int.reduceToNat, loadOf, cellsAt, boxOf, partOf, f5, e1]
    refine callOk_of (behind12 b k h2 hb.cheap hkb) ?_
    rintro u ⟨r2, hr2, rfl⟩
    obtain ⟨J2, C2, e2, hJ2⟩ := behV_cases r2
    simp -implicitDefEqProofs only [W_region, W_seq, Thn_normal, wOps_nil, wOps_cons, val_0, val_g, valK_eq, onPut_some, onGuard_bool, br_not, beq_false', retK_some, ev_E, ev_c, set_E, look_cons, look_nil, cond_true, cond_false, Nat.reduceBEq, Nat.reduceAdd, Nat.reduceSub, if_true, List.getElem?_cons_zero, List.getElem?_cons_succ, AVal.eval, binOf, intOf, e2]
    clear e1 e2
    have hrest : ∀ (rest2 : List (List V)) (h' : Heap), h' idm = some (Blk.map (List.map pairK ms)) → h' idw = some (.arr 2 (List.map pairC ws ++ rest2)) → Done a b ms i k → Loop (Ret prog) _ _ _ _ _ := fun rest2 h' q1 q2 q3 => hrec ⟨idm, idw, ws, rest2, ms, h'⟩ (by simp only [List.length_append, List.length_cons, List.length_nil]; omega) ⟨q1, q2, hne, hinv.done q3, by simp only []; omega, fun p hp => hin p (by simp [hp])⟩
    rcases hJ1 with ⟨rfl, rfl, rfl⟩ | ⟨j, n, rfl, rfl, rfl⟩
    · rcases hJ2 with ⟨rfl, rfl, rfl⟩ | ⟨m, o, rfl, rfl, rfl⟩
      · simp -implicitDefEqProofs only [W_skip, W_region, W_seq, W_cond, W_exit, W_ret, Again_normal, Again_exit, keep_eq, Thn_normal, Thn_exit, Bl_exit, wOps_nil, wOps_cons, val_0, val_g, valK_eq, onPut_some, onGuard_bool, onBool_bool, br_true, br_false, beq_false', skipK_some, ev_E, ev_c, set_E, look_cons, lookB_cons, look_nil, lookB_nil, cond_true, cond_false, Nat.reduceBEq, Nat.reduceAdd, Nat.reduceSub, if_true, Bool.not_true, List.map_cons, List.map_nil, AVal.eval, binOf, intOf, show decide ((-1 : Int) < 0) = true from rfl, bne_self_eq_false]
        exact hrest _ _ hm hw (.inl ⟨hr1, hr2⟩)
      · have f6 : ((-1 : Int) != (m : Int)) = true := by rw [bne_iff_ne]; omega
        simp -implicitDefEqProofs only [W_region, W_seq, W_cond, W_ret, Again_ret, Thn_normal, Thn_ret, Bl_ret, wOps_nil, wOps_cons, val_0, val_g, valK_eq, onPut_some, onGuard_bool, onBool_bool, br_true, br_false, beq_false', skipK_some, ev_E, ev_c, set_E, look_cons, look_nil, cond_true, cond_false, Nat.reduceBEq, Nat.reduceAdd, Nat.reduceSub, if_true, Bool.not_true, AVal.eval, binOf, intOf, show decide ((-1 : Int) < 0) = true from rfl, f6]
        refine post1 ?_
        simp -implicitDefEqProofs only [ev_E, look_cons, look_nil, cond_true, cond_false, Nat.reduceBEq, Nat.reduceAdd, Nat.reduceSub]
        refine ⟨false, rfl, ?_⟩
        simp only [Bool.false_eq_true, false_iff]
        exact fun hg => Fits.none_some hr1 hr2 (hg.2.2 _ _ (hinv.meets (i, k) (by simp)))
    · have f7 : decide ((j : Int) < 0) = false := by simp
      rcases hJ2 with ⟨rfl, rfl, rfl⟩ | ⟨m, o, rfl, rfl, rfl⟩
      · have f6 : ((j : Int) != (-1 : Int)) = true := by rw [bne_iff_ne]; omega
        simp -implicitDefEqProofs only [W_region, W_seq, W_cond, W_ret, Again_ret, Thn_normal, Thn_ret, Bl_ret, wOps_nil, wOps_cons, val_0, val_g, valK_eq, onPut_some, onGuard_bool, onBool_bool, br_true, br_false, beq_false', ev_E, ev_c, set_E, look_cons, look_nil, cond_true, cond_false, Nat.reduceBEq, Nat.reduceAdd, Nat.reduceSub, if_true, if_false, Bool.false_eq_true, Bool.not_false, AVal.eval, binOf, intOf, f7, show decide ((-1 : Int) < 0) = true from rfl, f6]
        refine post1 ?_
        simp -implicitDefEqProofs only [ev_E, look_cons, look_nil, cond_true, cond_false, Nat.reduceBEq, Nat.reduceAdd, Nat.reduceSub]
        refine ⟨false, rfl, ?_⟩
        simp only [Bool.false_eq_true, false_iff]
        exact fun hg => Fits.some_none hr1 hr2 (hg.2.2 _ _ (hinv.meets (i, k) (by simp)))
      · have f8 : decide ((m : Int) < 0) = false := by simp
        obtain ⟨x, hx, _⟩ := hr1.at_end
        obtain ⟨y, hy, _⟩ := hr2.at_end
        simp only [] at hx hy
        have hbad : C1 ≠ C2 ∨ x.s.one y.s = false → ∃ t : Bool, V.bool false = V.bool t ∧ (t = true ↔ Goes a b) := by
          intro hno
          refine ⟨false, rfl, ?_⟩
          simp only [Bool.false_eq_true, false_iff]
          intro hg
          obtain ⟨e1, e2⟩ := Fits.some_some hr1 hr2 hx hy (hg.2.2 _ _ (hinv.meets (i, k) (by simp)))
          rcases hno with hno | hno
          · exact hno e1
          · rw [e2] at hno; cases hno
        simp -implicitDefEqProofs only [W_skip, W_region, W_seq, W_cond, Thn_normal, wOps_nil, wOps_cons, val_0, val_g, valK_eq, onPut_some, onGuard_bool, onBool_bool, br_true, br_false, beq_false', fill, ev_E, ev_c, set_E, look_cons, look_nil, cond_true, cond_false, Nat.reduceBEq, Nat.reduceAdd, Nat.reduceSub, Nat.reduceLeDiff, if_true, if_false, over, List.append_nil, Bool.false_eq_true, Bool.not_false, and_self, List.length_cons, List.length_nil, List.drop_succ_cons, List.drop_zero, List.take_succ_cons, List.take_zero, List.drop_nil, List.nil_append, List.cons_append, AVal.eval, cellsOf_int, List.getElem?_map, Option.map_some, binOf, intOf, f7, f8, hm, keyIs]
        rcases findPair ms j m with ⟨hf, hnm⟩ | ⟨t, hf, ht⟩
        · simp -implicitDefEqProofs only [W_skip, W_region, W_seq, W_cond, Thn_normal, wOps_nil, wOps_cons, val_0, val_g, valK_eq, onPut_some, onGuard_bool, onBool_bool, br_false, br_not, beq_false', box_0, onCells_some, boxK_eq, st_0, stK_eq, onS_some, ev_E, ev_c, set_E, set_B, getD_B, look_cons, lookB_cons, look_nil, lookB_nil, cond_true, cond_false, Nat.reduceBEq, Nat.reduceAdd, Nat.reduceSub, Nat.reduceLeDiff, if_true, storeOf, storeCells, over, List.append_nil, true_and, and_self, List.getElem?_cons_zero, List.length_cons, List.length_nil, List.drop_succ_cons, List.drop_zero, List.take_succ_cons, List.take_zero, List.drop_nil, List.nil_append, List.cons_append, AVal.eval, cellsOf_agg, cellsOf_int, nat_le, Int.toNat_natCast, List.getElem?_map, Option.map_some, loadOf, cellsAt, boxOf, partOf, binOf, intOf, hf, show decide ((0 : Int) > 0) = false from rfl, evsV, hx, hy, x.cells_cs, y.cells_cs, Ev.cs]
          intro g12 g13
          refine br_intro (fun h9 => ?_) (fun h9 => ?_)
          · simp -implicitDefEqProofs only [W_region, W_seq, W_cond, W_ret, Again_ret, Thn_normal, Thn_ret, Bl_ret, wOps_nil, wOps_cons, val_0, val_g, valK_eq, onPut_some, onGuard_bool, onBool_bool, br_true, br_false, beq_false', skipK_some, call_g, bsl_g, ev_E, ev_c, set_E, look_cons, look_nil, cond_true, cond_false, Nat.reduceBEq, Nat.reduceAdd, Nat.reduceSub, if_true, Bool.not_true, AVal.eval, h9]
            refine post1 ?_
            simp -implicitDefEqProofs only [ev_E, look_cons, look_nil, cond_true, cond_false, Nat.reduceBEq, Nat.reduceAdd, Nat.reduceSub]
            exact hbad (.inl (by simpa using h9))
          have e : C1 = C2 := by simpa using h9
          subst e
          simp -implicitDefEqProofs only [wOps_cons, val_g, valK_eq, onPut_some, onGuard_bool, br_true, beq_false', onCells_some, callK_eq, call_g, bslK_eq, bsl_g, bslS_eq, fill, range_one, rep_one, ev_E, set_E, getD_B, look_cons, lookB_cons, look_nil, lookB_nil, cond_true, cond_false, Nat.reduceBEq, Nat.reduceAdd, Nat.reduceSub, Nat.reduceMul, Nat.reduceLeDiff, if_true, over, List.append_nil, Bool.not_false, and_self, List.getElem?_cons_zero, List.length_cons, List.length_nil, List.drop_succ_cons, List.drop_zero, List.take_succ_cons, List.take_zero, List.take_nil, List.drop_nil, List.map_cons, List.map_nil, List.nil_append, AVal.eval, cellsOf_agg, loadOf, cellsAt, boxOf, partOf, h9]
          intro id1 hid1 id2 hid2
          have rx := right_at h1 hx
          have ry := right_at h2 hy
          refine callOk_frz (us := [stsV [x.s.free], stsV [y.s.free]]) (fun i => i = id1 ∨ i = id2) (.cons (by
            rw [stsV, List.map_cons, List.map_nil, St.cells_cs, St.free_cs]
            exact Frz.whole (ids := fun i => i = id1 ∨ i = id2) (.inl rfl) ((upd_other _ _ (ne_of_some (upd_self _ _ _) hid2)).trans (upd_self _ _ _)) rfl) (.cons (by
            rw [stsV, List.map_cons, List.map_nil, St.cells_cs, St.free_cs]
            exact Frz.whole (ids := fun i => i = id1 ∨ i = id2) (.inr rfl) (upd_self _ _ _) rfl) .nil)) (same13 x.s.free y.s.free (St.free_bare (St.bare_of rx)) (St.free_bare (St.bare_of ry)) (St.free_short (ha.s x (List.mem_of_getElem? hx)))) ?_
          rintro u rfl
          rw [St.free_one]
          refine ⟨.bool _, ?_⟩
          have n1 : idm ≠ id1 := ne_of_some hm hid1
          have n2 : idw ≠ id1 := ne_of_some hw hid1
          rw [upd_1] at hid2
          split at hid2
          · cases hid2
          have n3 : idm ≠ id2 := ne_of_some hm hid2
          have n4 : idw ≠ id2 := ne_of_some hw hid2
          generalize hh : (h.upd id1 _).upd id2 _ = h2'
          have hm2 : h2' idm = some (Blk.map (List.map pairK ms)) := by rw [← hh, upd_other _ _ n3, upd_other _ _ n1, hm]
          have hw2 : h2' idw = some (.arr 2 (List.map pairC ws ++ [.int .i64 i, .int .i64 k] :: rest)) := by rw [← hh, upd_other _ _ n4, upd_other _ _ n2, hw]
          clear hh hid1 hid2 n1 n2 n3 n4
          simp -implicitDefEqProofs only [W_cond, Thn_normal, wOps_nil, wOps_cons, val_0, val_g, valK_eq, onPut_some, onGuard_bool, onBool_bool, br_true, br_not, beq_false', retK_some, ev_E, ev_c, set_E, look_cons, look_nil, cond_true, cond_false, Nat.reduceBEq, Nat.reduceAdd, Nat.reduceSub, if_false, Bool.false_eq_true, Bool.not_false, AVal.eval, unOf]
          refine br_intro2 (fun h10 => ?_) (fun h10 => ?_)
          · simp -implicitDefEqProofs only [W_region, W_seq, W_ret, Again_ret, Thn_normal, Thn_ret, Bl_ret, wOps_nil, wOps_cons, val_0, valK_eq, onPut_some, ev_c, set_E, Bool.not_false, AVal.eval, h10]
            refine post1 ?_
            simp -implicitDefEqProofs only [ev_E, look_cons, look_nil, cond_true, cond_false, Nat.reduceBEq, Nat.reduceAdd, Nat.reduceSub]
            exact hbad (.inr h10)
          simp -implicitDefEqProofs only [W_skip, W_region, W_seq, Thn_normal, wOps_cons, val_0, valK_eq, onPut_some, fill, men_0, ev_E, ev_c, set_E, look_cons, look_nil, cond_true, cond_false, Nat.reduceBEq, Nat.reduceAdd, Nat.reduceSub, Nat.reduceLeDiff, if_true, over, List.append_nil, Bool.not_true, and_self, List.length_cons, List.length_nil, List.drop_succ_cons, List.drop_zero, List.take_succ_cons, List.take_zero, List.drop_nil, List.nil_append, List.cons_append, AVal.eval, cellsOf_int, Option.map_some, binOf, intOf, h10, hm2, hf, keyIs, show IntKind.i64.wrap (0 + 1) = 1 from rfl]
          refine menK_new hm2 rfl hf ?_
          simp -implicitDefEqProofs only [wOps_cons, val_0, valK_eq, onPut_some, mst_0, ev_E, set_E, look_cons, look_nil, cond_true, cond_false, Nat.reduceBEq, Nat.reduceAdd, Nat.reduceSub, List.getElem?_cons_zero, List.getElem?_cons_succ, AVal.eval, List.length_map]
          refine mstK_at (x := (.agg [.int .i64 j, .int .i64 m], .int .i64 0)) (upd_self _ _ _) (by simp) ?_
          rw [upd_upd]
          have e3 : (List.map pairK ms ++ [(V.agg [.int .i64 j, .int .i64 m], V.int .i64 0)]).set ms.length (V.agg [.int .i64 j, .int .i64 m], V.int .i64 1) = List.map pairK (ms ++ [(j, m)]) := by
            rw [List.map_append, List.set_append_right _ _ (by simp)]
            simp [pairK, pairC]
          simp only [e3]
          generalize hh : h2'.upd idm _ = h3'
          have hm3 : h3' idm = some (Blk.map (List.map pairK (ms ++ [(j, m)]))) := by rw [← hh, upd_self]
          have hw3 : h3' idw = some (.arr 2 (List.map pairC ws ++ [.int .i64 i, .int .i64 k] :: rest)) := by rw [← hh, upd_other _ _ (Ne.symm hne), hw2]
          clear hh hm2 hw2 e3
          have hnx := ha.next x (List.mem_of_getElem? hx)
          have hny := hb.next y (List.mem_of_getElem? hy)
          have hmx : (if (y.next.length : Int) > (x.next.length : Int) then (y.next.length : Int) else (x.next.length : Int)) = ((max x.next.length y.next.length : Nat) : Int) := by split <;> omega
          simp -implicitDefEqProofs only [W_region, W_seq, W_block, W_loop, keep_eq, Thn_normal, wOps_nil, wOps_cons, val_0, valK_eq, onPut_some, ev_E, ev_c, set_E, look_cons, lookB_cons, look_nil, lookB_nil, cond_true, cond_false, Nat.reduceBEq, Nat.reduceAdd, Nat.reduceSub, Nat.reduceLeDiff, if_true, if_false, Bool.false_eq_true, and_self, List.getElem?_cons_zero, List.getElem?_cons_succ, List.length_cons, List.length_nil, List.drop_succ_cons, List.drop_zero, List.take_succ_cons, List.take_nil, List.map_cons, List.map_nil, AVal.eval, nat_le, Int.toNat_natCast, List.getElem?_map, List.length_map, Option.map_some, loadOf, cellsAt, partOf, hx, hy, x.cells_cs, y.cells_cs, Ev.cs, hmx]
          have hmore := hinv.more hr1 hr2 hx hy h10 hnm
          have hfew2 := hmore.few
          rw [List.length_append, List.length_cons, List.length_nil, Nat.zero_add] at hfew2
          generalize hM : max x.next.length y.next.length = M at hmx hmore ⊢
          have hM2 : M ≤ 4096 := by omega
          refine Loop.rec (α := Nat × Nat × List (List V) × Heap) (fun c => M - c.1) (fun c => ⟨E 136 [(0, evsV a), (1, evsV b), (5, .map idm), (6, .msl c.2.1 0 (ws ++ nexts x y c.1).length), (8, .int .i64 j), (10, .int .i64 m), (115, .int .i64 M), (116, .int .i64 c.1)], B 136 [], c.2.2.2⟩)
            (fun c => c.1 ≤ M ∧ c.2.2.2 idm = some (Blk.map (List.map pairK (ms ++ [(j, m)]))) ∧ c.2.2.2 c.2.1 = some (.arr 2 (List.map pairC (ws ++ nexts x y c.1) ++ c.2.2.1)) ∧ idm ≠ c.2.1) ?_
            (0, idw, [.int .i64 i, .int .i64 k] :: rest, h3') ⟨Nat.zero_le _, hm3, by simpa [nexts] using hw3, hne⟩ (by simp [nexts, evsV])
          rintro ⟨c, idw2, rest2, h4⟩ ⟨hc, hm4, hw4, hne4⟩ hrec2
          simp only [] at hc hm4 hw4 hne4
          have hnl : (nexts x y c).length = c := by simp [nexts]
          simp -implicitDefEqProofs only [W_region, W_seq, W_cond, Thn_normal, wOps_nil, wOps_cons, val_0, valK_eq, onPut_some, onBool_bool, ev_E, set_E, look_cons, look_nil, cond_true, cond_false, Nat.reduceBEq, Nat.reduceAdd, Nat.reduceSub, if_true, AVal.eval, binOf, intOf]
          refine br_intro (fun h11 => ?_) (fun h11 => ?_)
          · have hcM : c < M := by simpa using h11
            simp -implicitDefEqProofs only [W_skip, W_region, W_seq, W_block, Thn_normal, wOps_nil, wOps_cons, val_0, valK_eq, onPut_some, call_0, callK_eq, ev_E, set_E, look_cons, look_nil, cond_true, cond_false, Nat.reduceBEq, Nat.reduceAdd, Nat.reduceSub, if_true, and_self, List.map_cons, List.map_nil, AVal.eval, nat_le, Int.toNat_natCast, List.getElem?_map, Option.map_some, loadOf, cellsAt, h11, evsV, hx, partAll (show x.cells.length = 20 by rw [Ev.cells_cs]; rfl), partAll (show y.cells.length = 20 by rw [Ev.cells_cs]; rfl)]
            obtain ⟨hxp, hyp⟩ : 0 < x.next.length ∧ 0 < y.next.length := by
              rcases Ev.both_next rx ry h10 with q | q <;> omega
            refine callOk_pure (next14 x a.length c rx hxp (by omega)) ?_
            simp -implicitDefEqProofs only [wOps_cons, val_0, valK_eq, onPut_some, call_0, callK_eq, retK_some, ev_E, set_E, look_cons, look_nil, cond_true, cond_false, Nat.reduceBEq, Nat.reduceAdd, Nat.reduceSub, if_true, and_self, List.map_cons, List.map_nil, AVal.eval, nat_le, Int.toNat_natCast, List.getElem?_map, Option.map_some, hy, partAll (show y.cells.length = 20 by rw [Ev.cells_cs]; rfl)]
            refine callOk_pure (next14 y b.length c ry hyp (by omega)) ?_
            simp -implicitDefEqProofs only [wOps_cons, val_0, valK_eq, onPut_some, onCells_some, retK_some, bsl_0, bslK_eq, fill, range_one, rep_one, app_0, ev_E, set_E, look_cons, look_nil, cond_true, cond_false, Nat.reduceBEq, Nat.reduceAdd, Nat.reduceSub, Nat.reduceMul, Nat.reduceLeDiff, if_true, over, List.append_nil, and_self, List.length_cons, List.length_nil, List.drop_succ_cons, List.drop_zero, List.take_succ_cons, List.take_zero, List.take_nil, List.drop_nil, List.map_cons, List.map_nil, List.nil_append, List.cons_append, AVal.eval, cellsOf_agg, cellsOf_int, Option.map_some]
            intro id3 hid3
            simp -implicitDefEqProofs only [onEls_some, Nat.reduceAdd, Nat.reduceLeDiff, if_true, List.length_cons, List.length_nil, List.drop_zero, List.take_succ_cons, List.take_nil, elemsOf, upd_self]
            have q1 : idw2 ≠ id3 := ne_of_some hw4 hid3
            have q2 : idm ≠ id3 := ne_of_some hm4 hid3
            have hwl2 := hinv.few
            refine appK_msl (els := List.map pairC (ws ++ nexts x y c) ++ rest2) (by rw [upd_other _ _ q1, hw4]) (by simp) (by simp) (by rw [List.length_append, hnl]; simp only [List.length_cons, List.length_nil]; omega) ?_
            intro id4 hid4 hne5
            have q3 : idm ≠ id4 := ne_of_some (by rw [upd_other _ _ q2]; exact hm4) hid4
            simp -implicitDefEqProofs only [W_region, Again_normal, keep_eq, Thn_normal, Bl_normal, wOps_nil, wOps_cons, val_0, valK_eq, onPut_some, ev_E, ev_c, set_E, look_cons, look_nil, lookB_nil, cond_true, cond_false, Nat.reduceBEq, Nat.reduceAdd, Nat.reduceSub, if_true, List.length_cons, List.length_nil, List.drop_zero, List.map_cons, List.map_nil, AVal.eval, binOf, intOf, wrap_succ (show c < 9223372036854775807 by omega)]
            have e4 : List.drop 0 (List.map pairC (ws ++ nexts x y c) ++ rest2) = List.map pairC (ws ++ nexts x y c) ++ rest2 := rfl
            have e5 : List.take (ws ++ nexts x y c).length (List.map pairC (ws ++ nexts x y c) ++ rest2) = List.map pairC (ws ++ nexts x y c) := by
              rw [List.take_append_of_le_length (by simp), List.take_of_length_le (by simp)]
            have := hrec2 (c + 1, id4, [], ((h4.upd id3 (some (Blk.arr 2 [[V.int IntKind.i64 ↑(x.nx c), V.int IntKind.i64 ↑(y.nx c)]]))).upd idw2 none).upd id4 (some (Blk.arr 2 (List.map pairC (ws ++ nexts x y (c + 1)))))) (by simp only []; omega)
              ⟨by simp only []; omega, by simp only []; rw [upd_other _ _ q3, upd_other _ _ hne4, upd_other _ _ q2, hm4], by simp only []; rw [upd_self, List.append_nil], q3⟩
            simp only [nexts_succ, ← List.append_assoc, List.map_append, List.map_cons, List.map_nil, pairC, List.length_append, List.length_cons, List.length_nil] at this e5 ⊢
            simp only [e5] at this ⊢
            exact this
          · simp -implicitDefEqProofs only [W_region, W_seq, W_exit, W_ret, Again_normal, Again_exit, keep_eq, Thn_normal, Thn_exit, Bl_normal, Bl_exit, wOps_nil, wOps_cons, val_0, valK_eq, onPut_some, ev_c, set_E, look_cons, look_nil, lookB_nil, cond_true, cond_false, Nat.reduceBEq, List.map_cons, List.map_nil, AVal.eval, h11]
            have : c = M := by simp at h11; omega
            subst this
            exact hrec ⟨idm, idw2, ws ++ nexts x y c, rest2, ms ++ [(j, m)], h4⟩ (by
              simp only [List.length_append, List.length_cons, List.length_nil, hnl]
              omega) ⟨hm4, hw4, hne4, hmore, by simp only [List.length_append, hnl, List.length_cons, List.length_nil]; omega, fun p hp => by
                rcases List.mem_append.1 hp with hp | hp
                · exact hin p (by simp [hp])
                · simp only [nexts, List.mem_map, List.mem_range] at hp
                  obtain ⟨t, ht, rfl⟩ := hp
                  rcases Ev.both_next rx ry h10 with q | q
                  · obtain ⟨_, _, w1, w2⟩ := Ev.nx_at rx (c := t) q.1
                    obtain ⟨_, _, w3, w4⟩ := Ev.nx_at ry (c := t) q.2
                    exact ⟨by simp only []; omega, by simp only []; omega⟩
                  · omega⟩
        · simp -implicitDefEqProofs only [W_region, W_seq, W_cond, Thn_normal, wOps_nil, wOps_cons, val_0, valK_eq, onPut_some, onBool_bool, br_true, ev_E, ev_c, set_E, look_cons, look_nil, cond_true, cond_false, Nat.reduceBEq, Nat.reduceAdd, Nat.reduceSub, if_true, AVal.eval, Option.map_some, binOf, intOf, hf, ht, pairK, show decide ((1 : Int) > 0) = true from rfl]
          refine br_intro (fun h9 => ?_) (fun h9 => ?_)
          · simp -implicitDefEqProofs only [W_region, W_seq, W_ret, Again_ret, Thn_normal, Thn_ret, Bl_ret, wOps_nil, wOps_cons, val_0, valK_eq, onPut_some, ev_c, set_E, AVal.eval, h9]
            refine post1 ?_
            simp -implicitDefEqProofs only [ev_E, look_cons, look_nil, cond_true, cond_false, Nat.reduceBEq, Nat.reduceAdd, Nat.reduceSub]
            exact hbad (.inl (by simpa using h9))
          · have e : C1 = C2 := by simpa using h9
            subst e
            simp -implicitDefEqProofs only [W_skip, W_region, W_seq, W_exit, W_ret, Again_normal, Again_exit, keep_eq, Thn_normal, Thn_exit, Bl_exit, wOps_nil, wOps_cons, val_0, valK_eq, onPut_some, ev_c, set_E, look_cons, lookB_cons, look_nil, lookB_nil, cond_true, cond_false, Nat.reduceBEq, List.map_cons, List.map_nil, AVal.eval, h9]
            exact hrest _ _ hm hw (.inr ⟨j, m, C1, hr1, hr2, List.mem_of_getElem? ht⟩)
  · simp -implicitDefEqProofs only [W_region, W_seq, W_exit, W_ret, Again_exit, Thn_normal, Thn_exit, Bl_exit, wOps_nil, wOps_cons, val_0, valK_eq, onPut_some, ev_c, set_E, cond_true, Nat.reduceBEq, AVal.eval, h3]
    refine post1 ?_
    simp -implicitDefEqProofs only [ev_E, look_cons, look_nil, cond_true, cond_false, Nat.reduceBEq, Nat.reduceAdd, Nat.reduceSub]
    have : ws = [] := by
      cases ws with
      | nil => rfl
      | cons => simp at h3
    subst this
    exact ⟨true, rfl, by simp only [true_iff]; exact hinv.final h1 h2⟩
end TryT
end Go.Abs
