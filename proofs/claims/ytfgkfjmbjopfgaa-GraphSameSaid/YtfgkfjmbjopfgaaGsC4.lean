/-
  Contracts: is a graph right?
-/
import Derived.Test.YtfgkfjmbjopfgaaGsC3
set_option linter.unusedVariables false
set_option linter.unusedSimpArgs false
set_option maxRecDepth 100000
namespace Go.Abs
open Go

/-- As many next ones as the kind asks for. -/
def kindOk (k : Int) (n : Nat) : Bool := (decide (0 ≤ k) && decide (k ≤ 6) && n == 1) || (k == 7 && n == 2) || (k == 11 && decide (0 < n)) || (k == 14 && n == 0)
def Ev.right (m : Nat) (x : Ev) : Bool := x.s.body.isEmpty && x.s.els.isEmpty && x.s.arms.isEmpty && kindOk x.s.kind x.next.length && x.next.all fun k => decide (0 ≤ k) && decide (k < m)
def right (l : List Ev) : Bool := l.all (Ev.right l.length) && decide (0 < l.length)

theorem all_drop {α : Type} {f : α → Bool} {l : List α} {k : Nat} {x : α} (hx : l[k]? = some x) : (l.drop k).all f = (f x && (l.drop (k + 1)).all f) := by
  obtain ⟨a, e⟩ := List.getElem?_eq_some_iff.1 hx
  rw [List.drop_eq_getElem_cons a, e, List.all_cons]
theorem right_false {l : List Ev} {k : Nat} {x : Ev} (hall : l.all (Ev.right l.length) = (l.drop k).all (Ev.right l.length)) (hx : l[k]? = some x) (hf : Ev.right l.length x = false) : right l = false := by
  rw [right, hall, all_drop hx, hf]; rfl
theorem cast_beq0 (n : Nat) : ((n : Int) == 0) = (n == 0) := by rw [Bool.eq_iff_iff]; simp
theorem cast_beq1 (n : Nat) : ((n : Int) == 1) = (n == 1) := by rw [Bool.eq_iff_iff]; simp; omega
theorem cast_beq2 (n : Nat) : ((n : Int) == 2) = (n == 2) := by rw [Bool.eq_iff_iff]; simp; omega
theorem pos_false {α : Type} {l : List α} (h : decide ((l.length : Int) > 0) = true) : l.isEmpty = false := by
  cases l <;> simp_all
theorem zero_true {α : Type} {l : List α} (h : decide ((l.length : Int) > 0) = false) : l.isEmpty = true := by
  cases l <;> simp_all

namespace TryT
theorem right7 (l : List Ev) (hl : l.length < 1000000) (hn : ∀ x ∈ l, x.next.length < 1000000) : Ret prog 7 [evsV l] Heap.none fun r _ => r = .bool (right l) := by
  refine Ret.by_text rfl rfl ?_
  simp -implicitDefEqProofs only [number, W_region, W_seq, W_block, W_loop, keep_eq, Thn_normal, wOps_nil, wOps_cons, val_0, valK_eq, onPut_some, ev_E, ev_c, set_E, look_cons, look_nil, lookB_nil, cond_true, cond_false, Nat.reduceBEq, Nat.reduceAdd, Nat.reduceSub, List.map_cons, List.map_nil, AVal.eval, List.length_map, a7, evsV]
  refine Loop.rec (fun k : Nat => l.length - k) (fun k => ⟨E 91 [(0, evsV l), (8, evsV l), (9, .int .i64 l.length), (10, .int .i64 k)], B 91 [], Heap.none⟩)
    (fun k => k ≤ l.length ∧ l.all (Ev.right l.length) = (l.drop k).all (Ev.right l.length)) ?_ 0 ⟨Nat.zero_le _, rfl⟩ rfl
  intro k ⟨hk, hall⟩ hi
  simp -implicitDefEqProofs only [W_region, W_seq, W_cond, Thn_normal, wOps_nil, wOps_cons, val_0, valK_eq, onPut_some, onBool_bool, ev_E, set_E, look_cons, look_nil, cond_true, cond_false, Nat.reduceBEq, Nat.reduceAdd, Nat.reduceSub, if_true, AVal.eval, binOf, intOf, evsV]
  refine br_intro (fun h6 => ?_) (fun h6 => ?_)
  · have h7 : k < l.length := by simpa using h6
    obtain ⟨x, hx⟩ : ∃ x, l[k]? = some x := ⟨_, List.getElem?_eq_getElem h7⟩
    simp -implicitDefEqProofs only [W_skip, W_region, W_seq, W_block, Thn_normal, wOps_nil, wOps_cons, val_0, val_g, valK_eq, onPut_some, onGuard_bool, br_not, beq_false', box_0, onCells_some, boxK_eq, st_0, stK_eq, onS_some, ev_E, ev_c, set_E, set_B, getD_B, look_cons, lookB_cons, look_nil, lookB_nil, cond_true, cond_false, Nat.reduceBEq, Nat.reduceAdd, Nat.reduceSub, Nat.reduceLeDiff, if_true, if_false, storeOf, storeCells, over, List.append_nil, Bool.false_eq_true, true_and, and_self, List.getElem?_cons_zero, List.getElem?_cons_succ, List.length_cons, List.length_nil, List.drop_succ_cons, List.drop_zero, List.take_succ_cons, List.take_zero, List.take_nil, List.drop_nil, List.nil_append, AVal.eval, cellsOf_agg, nat_le, Int.toNat_natCast, List.getElem?_map, List.length_map, Option.map_some, loadOf, cellsAt, boxOf, partOf, binOf, intOf, h6, hx, x.cells_cs, Ev.cs]
    intro g
    refine br_intro (fun c1 => ?_) (fun c1 => ?_)
    · simp -implicitDefEqProofs only [W_region, W_seq, W_cond, W_ret, Again_ret, Thn_normal, Thn_ret, Bl_ret, wOps_nil, wOps_cons, val_0, val_g, valK_eq, onPut_some, onGuard_bool, onBool_bool, br_true, br_false, beq_false', skipK_some, ev_E, ev_c, set_E, look_cons, look_nil, cond_true, cond_false, Nat.reduceBEq, Nat.reduceAdd, Nat.reduceSub, if_true, Bool.not_true, AVal.eval, c1]
      refine post1 ?_
      simp -implicitDefEqProofs only [ev_E, look_cons, look_nil, cond_true, cond_false, Nat.reduceBEq, Nat.reduceAdd, Nat.reduceSub]
      rw [right_false hall hx (by first | simp [Ev.right, pos_false c1] | simp [Ev.right, pos_false c2] | simp [Ev.right, pos_false c3])]
    simp -implicitDefEqProofs only [wOps_cons, val_0, val_g, valK_eq, onPut_some, onGuard_bool, br_true, br_not, beq_false', ev_E, ev_c, set_E, getD_B, look_cons, lookB_cons, look_nil, lookB_nil, cond_true, cond_false, Nat.reduceBEq, Nat.reduceAdd, Nat.reduceSub, Nat.reduceLeDiff, if_true, if_false, Bool.false_eq_true, Bool.not_false, List.getElem?_cons_zero, List.getElem?_cons_succ, List.length_cons, List.length_nil, List.drop_succ_cons, List.drop_zero, List.take_succ_cons, List.take_zero, AVal.eval, List.length_map, loadOf, cellsAt, boxOf, partOf, binOf, intOf, c1]
    refine br_intro (fun c2 => ?_) (fun c2 => ?_)
    · simp -implicitDefEqProofs only [W_region, W_seq, W_cond, W_ret, Again_ret, Thn_normal, Thn_ret, Bl_ret, wOps_nil, wOps_cons, val_0, val_g, valK_eq, onPut_some, onGuard_bool, onBool_bool, br_true, br_false, beq_false', skipK_some, ev_E, ev_c, set_E, look_cons, look_nil, cond_true, cond_false, Nat.reduceBEq, Nat.reduceAdd, Nat.reduceSub, if_true, Bool.not_true, AVal.eval, c2]
      refine post1 ?_
      simp -implicitDefEqProofs only [ev_E, look_cons, look_nil, cond_true, cond_false, Nat.reduceBEq, Nat.reduceAdd, Nat.reduceSub]
      rw [right_false hall hx (by first | simp [Ev.right, pos_false c1] | simp [Ev.right, pos_false c2] | simp [Ev.right, pos_false c3])]
    simp -implicitDefEqProofs only [W_cond, Thn_normal, wOps_nil, wOps_cons, val_0, val_g, valK_eq, onPut_some, onGuard_bool, onBool_bool, br_true, beq_false', ev_E, ev_c, set_E, getD_B, look_cons, lookB_cons, look_nil, lookB_nil, cond_true, cond_false, Nat.reduceBEq, Nat.reduceAdd, Nat.reduceSub, Nat.reduceLeDiff, if_true, if_false, Bool.false_eq_true, Bool.not_false, List.getElem?_cons_zero, List.getElem?_cons_succ, List.length_cons, List.length_nil, List.drop_succ_cons, List.drop_zero, List.take_succ_cons, List.take_zero, AVal.eval, List.length_map, loadOf, cellsAt, boxOf, partOf, binOf, intOf, c2]
    refine br_intro (fun c3 => ?_) (fun c3 => ?_)
    · simp -implicitDefEqProofs only [W_region, W_seq, W_ret, Again_ret, Thn_normal, Thn_ret, Bl_ret, wOps_nil, wOps_cons, val_0, valK_eq, onPut_some, ev_c, set_E, AVal.eval, c3]
      refine post1 ?_
      simp -implicitDefEqProofs only [ev_E, look_cons, look_nil, cond_true, cond_false, Nat.reduceBEq, Nat.reduceAdd, Nat.reduceSub]
      rw [right_false hall hx (by first | simp [Ev.right, pos_false c1] | simp [Ev.right, pos_false c2] | simp [Ev.right, pos_false c3])]
    simp -implicitDefEqProofs only [W_skip, W_region, W_seq, Thn_normal, wOps_nil, wOps_cons, val_0, valK_eq, onPut_some, ev_E, ev_c, set_E, getD_B, look_cons, lookB_cons, look_nil, lookB_nil, cond_true, cond_false, Nat.reduceBEq, Nat.reduceAdd, Nat.reduceSub, Nat.reduceLeDiff, if_true, if_false, Bool.false_eq_true, List.getElem?_cons_zero, List.length_cons, List.length_nil, List.drop_zero, List.take_succ_cons, List.take_zero, AVal.eval, loadOf, cellsAt, boxOf, partOf, c3]
    refine W_meet (fun s2 => ∃ q, s2 = ⟨E 91 q, B 91 [(4, some (g, x.cs))], Heap.none⟩ ∧ look q 0 = evsV l ∧ look q 4 = .lp 4 g 0 ∧ look q 5 = .bool (kindOk x.s.kind x.next.length) ∧ look q 8 = evsV l ∧ look q 9 = .int .i64 l.length ∧ look q 10 = .int .i64 k) ?_ ?_
    · simp -implicitDefEqProofs only [W_region, W_seq, W_cond, W_block, Thn_normal, wOps_nil, wOps_cons, val_0, valK_eq, onPut_some, onBool_bool, ev_E, ev_c, set_E, look_cons, look_nil, cond_true, cond_false, Nat.reduceBEq, Nat.reduceAdd, Nat.reduceSub, if_true, AVal.eval, binOf, intOf, a7_b2, Ev.cs]
      refine br_intro (fun k1 => ?_) (fun k1 => ?_)
      · simp -implicitDefEqProofs only [W_skip, W_region, W_cond, Thn_normal, Bl_normal, Met_normal, wOps_nil, wOps_cons, val_0, valK_eq, onPut_some, onBool_bool, br_true, ev_E, ev_c, set_E, getD_B, look_cons, lookB_cons, look_nil, lookB_nil, cond_true, cond_false, Nat.reduceBEq, Nat.reduceAdd, Nat.reduceSub, Nat.reduceLeDiff, if_true, if_false, Bool.false_eq_true, List.getElem?_cons_zero, List.getElem?_cons_succ, List.length_cons, List.length_nil, List.drop_succ_cons, List.drop_zero, List.take_succ_cons, List.take_nil, AVal.eval, List.length_map, loadOf, cellsAt, boxOf, partOf, binOf, intOf, k1]
        simp only [beq_iff_eq] at k1
        refine ⟨_, rfl, rfl, rfl, ?_, rfl, rfl, rfl⟩
        simp -implicitDefEqProofs only [look_cons, look_nil, cond_true, cond_false, Nat.reduceBEq, dec_true, Int.reduceLE, kindOk, k1]
        simp [cast_beq1]
      simp -implicitDefEqProofs only [W_region, W_seq, W_cond, Thn_normal, wOps_nil, wOps_cons, val_0, valK_eq, onPut_some, onBool_bool, ev_E, ev_c, set_E, look_cons, look_nil, cond_true, cond_false, Nat.reduceBEq, Nat.reduceAdd, Nat.reduceSub, if_true, AVal.eval, binOf, intOf, k1]
      refine br_intro (fun k2 => ?_) (fun k2 => ?_)
      · simp -implicitDefEqProofs only [W_skip, W_region, W_cond, Thn_normal, Bl_normal, Met_normal, wOps_nil, wOps_cons, val_0, valK_eq, onPut_some, onBool_bool, br_true, ev_E, ev_c, set_E, getD_B, look_cons, lookB_cons, look_nil, lookB_nil, cond_true, cond_false, Nat.reduceBEq, Nat.reduceAdd, Nat.reduceSub, Nat.reduceLeDiff, if_true, if_false, Bool.false_eq_true, List.getElem?_cons_zero, List.getElem?_cons_succ, List.length_cons, List.length_nil, List.drop_succ_cons, List.drop_zero, List.take_succ_cons, List.take_nil, AVal.eval, List.length_map, loadOf, cellsAt, boxOf, partOf, binOf, intOf, k2]
        simp only [beq_iff_eq] at k2
        refine ⟨_, rfl, rfl, rfl, ?_, rfl, rfl, rfl⟩
        simp -implicitDefEqProofs only [look_cons, look_nil, cond_true, cond_false, Nat.reduceBEq, dec_true, Int.reduceLE, kindOk, k2]
        simp [cast_beq1]
      simp -implicitDefEqProofs only [W_region, W_seq, W_cond, Thn_normal, wOps_nil, wOps_cons, val_0, valK_eq, onPut_some, onBool_bool, ev_E, ev_c, set_E, look_cons, look_nil, cond_true, cond_false, Nat.reduceBEq, Nat.reduceAdd, Nat.reduceSub, if_true, AVal.eval, binOf, intOf, k2]
      refine br_intro (fun k3 => ?_) (fun k3 => ?_)
      · simp -implicitDefEqProofs only [W_skip, W_region, W_cond, Thn_normal, Bl_normal, Met_normal, wOps_nil, wOps_cons, val_0, valK_eq, onPut_some, onBool_bool, br_true, ev_E, ev_c, set_E, getD_B, look_cons, lookB_cons, look_nil, lookB_nil, cond_true, cond_false, Nat.reduceBEq, Nat.reduceAdd, Nat.reduceSub, Nat.reduceLeDiff, if_true, if_false, Bool.false_eq_true, List.getElem?_cons_zero, List.getElem?_cons_succ, List.length_cons, List.length_nil, List.drop_succ_cons, List.drop_zero, List.take_succ_cons, List.take_nil, AVal.eval, List.length_map, loadOf, cellsAt, boxOf, partOf, binOf, intOf, k3]
        simp only [beq_iff_eq] at k3
        refine ⟨_, rfl, rfl, rfl, ?_, rfl, rfl, rfl⟩
        simp -implicitDefEqProofs only [look_cons, look_nil, cond_true, cond_false, Nat.reduceBEq, dec_true, Int.reduceLE, kindOk, k3]
        simp [cast_beq1]
      simp -implicitDefEqProofs only [W_region, W_seq, W_cond, Thn_normal, wOps_nil, wOps_cons, val_0, valK_eq, onPut_some, onBool_bool, ev_E, ev_c, set_E, look_cons, look_nil, cond_true, cond_false, Nat.reduceBEq, Nat.reduceAdd, Nat.reduceSub, if_true, AVal.eval, binOf, intOf, k3]
      refine br_intro (fun k4 => ?_) (fun k4 => ?_)
      · simp -implicitDefEqProofs only [W_skip, W_region, W_cond, Thn_normal, Bl_normal, Met_normal, wOps_nil, wOps_cons, val_0, valK_eq, onPut_some, onBool_bool, br_true, ev_E, ev_c, set_E, getD_B, look_cons, lookB_cons, look_nil, lookB_nil, cond_true, cond_false, Nat.reduceBEq, Nat.reduceAdd, Nat.reduceSub, Nat.reduceLeDiff, if_true, if_false, Bool.false_eq_true, List.getElem?_cons_zero, List.getElem?_cons_succ, List.length_cons, List.length_nil, List.drop_succ_cons, List.drop_zero, List.take_succ_cons, List.take_nil, AVal.eval, List.length_map, loadOf, cellsAt, boxOf, partOf, binOf, intOf, k4]
        simp only [beq_iff_eq] at k4
        refine ⟨_, rfl, rfl, rfl, ?_, rfl, rfl, rfl⟩
        simp -implicitDefEqProofs only [look_cons, look_nil, cond_true, cond_false, Nat.reduceBEq, dec_true, Int.reduceLE, kindOk, k4]
        simp [cast_beq1]
      simp -implicitDefEqProofs only [W_region, W_seq, W_cond, Thn_normal, wOps_nil, wOps_cons, val_0, valK_eq, onPut_some, onBool_bool, ev_E, ev_c, set_E, look_cons, look_nil, cond_true, cond_false, Nat.reduceBEq, Nat.reduceAdd, Nat.reduceSub, if_true, AVal.eval, binOf, intOf, k4]
      refine br_intro (fun k5 => ?_) (fun k5 => ?_)
      · simp -implicitDefEqProofs only [W_skip, W_region, W_cond, Thn_normal, Bl_normal, Met_normal, wOps_nil, wOps_cons, val_0, valK_eq, onPut_some, onBool_bool, br_true, ev_E, ev_c, set_E, getD_B, look_cons, lookB_cons, look_nil, lookB_nil, cond_true, cond_false, Nat.reduceBEq, Nat.reduceAdd, Nat.reduceSub, Nat.reduceLeDiff, if_true, if_false, Bool.false_eq_true, List.getElem?_cons_zero, List.getElem?_cons_succ, List.length_cons, List.length_nil, List.drop_succ_cons, List.drop_zero, List.take_succ_cons, List.take_nil, AVal.eval, List.length_map, loadOf, cellsAt, boxOf, partOf, binOf, intOf, k5]
        simp only [beq_iff_eq] at k5
        refine ⟨_, rfl, rfl, rfl, ?_, rfl, rfl, rfl⟩
        simp -implicitDefEqProofs only [look_cons, look_nil, cond_true, cond_false, Nat.reduceBEq, dec_true, Int.reduceLE, kindOk, k5]
        simp [cast_beq1]
      simp -implicitDefEqProofs only [W_region, W_seq, W_cond, Thn_normal, wOps_nil, wOps_cons, val_0, valK_eq, onPut_some, onBool_bool, ev_E, ev_c, set_E, look_cons, look_nil, cond_true, cond_false, Nat.reduceBEq, Nat.reduceAdd, Nat.reduceSub, if_true, AVal.eval, binOf, intOf, k5]
      refine br_intro (fun k6 => ?_) (fun k6 => ?_)
      · simp -implicitDefEqProofs only [W_skip, W_region, W_cond, Thn_normal, Bl_normal, Met_normal, wOps_nil, wOps_cons, val_0, valK_eq, onPut_some, onBool_bool, br_true, ev_E, ev_c, set_E, getD_B, look_cons, lookB_cons, look_nil, lookB_nil, cond_true, cond_false, Nat.reduceBEq, Nat.reduceAdd, Nat.reduceSub, Nat.reduceLeDiff, if_true, if_false, Bool.false_eq_true, List.getElem?_cons_zero, List.getElem?_cons_succ, List.length_cons, List.length_nil, List.drop_succ_cons, List.drop_zero, List.take_succ_cons, List.take_nil, AVal.eval, List.length_map, loadOf, cellsAt, boxOf, partOf, binOf, intOf, k6]
        simp only [beq_iff_eq] at k6
        refine ⟨_, rfl, rfl, rfl, ?_, rfl, rfl, rfl⟩
        simp -implicitDefEqProofs only [look_cons, look_nil, cond_true, cond_false, Nat.reduceBEq, dec_true, Int.reduceLE, kindOk, k6]
        simp [cast_beq1]
      simp -implicitDefEqProofs only [W_region, W_cond, Thn_normal, wOps_nil, wOps_cons, val_0, valK_eq, onPut_some, onBool_bool, ev_E, ev_c, set_E, look_cons, look_nil, cond_true, cond_false, Nat.reduceBEq, Nat.reduceAdd, Nat.reduceSub, if_true, AVal.eval, binOf, intOf, k6]
      refine br_intro (fun k0 => ?_) (fun k0 => ?_)
      · simp -implicitDefEqProofs only [W_region, Bl_normal, Met_normal, wOps_nil, wOps_cons, val_0, valK_eq, onPut_some, ev_E, ev_c, set_E, getD_B, look_cons, lookB_cons, look_nil, lookB_nil, cond_true, cond_false, Nat.reduceBEq, Nat.reduceAdd, Nat.reduceSub, Nat.reduceLeDiff, if_true, if_false, Bool.false_eq_true, List.getElem?_cons_zero, List.getElem?_cons_succ, List.length_cons, List.length_nil, List.drop_succ_cons, List.drop_zero, List.take_succ_cons, List.take_nil, AVal.eval, List.length_map, loadOf, cellsAt, boxOf, partOf, binOf, intOf, k0]
        simp only [beq_iff_eq] at k0
        refine ⟨_, rfl, rfl, rfl, ?_, rfl, rfl, rfl⟩
        simp -implicitDefEqProofs only [look_cons, look_nil, cond_true, cond_false, Nat.reduceBEq, dec_true, Int.reduceLE, kindOk, k0]
        simp [cast_beq1]
      simp -implicitDefEqProofs only [W_region, W_seq, W_cond, Thn_normal, wOps_nil, wOps_cons, val_0, valK_eq, onPut_some, onBool_bool, ev_E, ev_c, set_E, look_cons, look_nil, cond_true, cond_false, Nat.reduceBEq, Nat.reduceAdd, Nat.reduceSub, if_true, AVal.eval, binOf, intOf, k0]
      refine br_intro (fun k7 => ?_) (fun k7 => ?_)
      · simp -implicitDefEqProofs only [W_region, Bl_normal, Met_normal, wOps_nil, wOps_cons, val_0, valK_eq, onPut_some, ev_E, ev_c, set_E, getD_B, look_cons, lookB_cons, look_nil, lookB_nil, cond_true, cond_false, Nat.reduceBEq, Nat.reduceAdd, Nat.reduceSub, Nat.reduceLeDiff, if_true, if_false, Bool.false_eq_true, List.getElem?_cons_zero, List.getElem?_cons_succ, List.length_cons, List.length_nil, List.drop_succ_cons, List.drop_zero, List.take_succ_cons, List.take_nil, AVal.eval, List.length_map, loadOf, cellsAt, boxOf, partOf, binOf, intOf, k7]
        simp only [beq_iff_eq] at k7
        refine ⟨_, rfl, rfl, rfl, ?_, rfl, rfl, rfl⟩
        simp -implicitDefEqProofs only [look_cons, look_nil, cond_true, cond_false, Nat.reduceBEq, dec_true, dec_false, Int.reduceLE, kindOk, k7]
        simp [cast_beq2]
      simp -implicitDefEqProofs only [W_region, W_seq, W_cond, Thn_normal, wOps_nil, wOps_cons, val_0, valK_eq, onPut_some, onBool_bool, ev_E, ev_c, set_E, look_cons, look_nil, cond_true, cond_false, Nat.reduceBEq, Nat.reduceAdd, Nat.reduceSub, if_true, AVal.eval, binOf, intOf, k7]
      refine br_intro (fun k11 => ?_) (fun k11 => ?_)
      · simp -implicitDefEqProofs only [W_region, Bl_normal, Met_normal, wOps_nil, wOps_cons, val_0, valK_eq, onPut_some, ev_E, ev_c, set_E, getD_B, look_cons, lookB_cons, look_nil, lookB_nil, cond_true, cond_false, Nat.reduceBEq, Nat.reduceAdd, Nat.reduceSub, Nat.reduceLeDiff, if_true, if_false, Bool.false_eq_true, List.getElem?_cons_zero, List.getElem?_cons_succ, List.length_cons, List.length_nil, List.drop_succ_cons, List.drop_zero, List.take_succ_cons, List.take_nil, AVal.eval, List.length_map, loadOf, cellsAt, boxOf, partOf, binOf, intOf, k11]
        simp only [beq_iff_eq] at k11
        refine ⟨_, rfl, rfl, rfl, ?_, rfl, rfl, rfl⟩
        simp -implicitDefEqProofs only [look_cons, look_nil, cond_true, cond_false, Nat.reduceBEq, dec_true, dec_false, Int.reduceLE, kindOk, k11]
        simp []
      simp -implicitDefEqProofs only [W_region, W_seq, W_cond, Thn_normal, wOps_nil, wOps_cons, val_0, valK_eq, onPut_some, onBool_bool, ev_E, ev_c, set_E, look_cons, look_nil, cond_true, cond_false, Nat.reduceBEq, Nat.reduceAdd, Nat.reduceSub, if_true, AVal.eval, binOf, intOf, k11]
      refine br_intro (fun k14 => ?_) (fun k14 => ?_)
      · simp -implicitDefEqProofs only [W_region, Bl_normal, Met_normal, wOps_nil, wOps_cons, val_0, valK_eq, onPut_some, ev_E, ev_c, set_E, getD_B, look_cons, lookB_cons, look_nil, lookB_nil, cond_true, cond_false, Nat.reduceBEq, Nat.reduceAdd, Nat.reduceSub, Nat.reduceLeDiff, if_true, if_false, Bool.false_eq_true, List.getElem?_cons_zero, List.getElem?_cons_succ, List.length_cons, List.length_nil, List.drop_succ_cons, List.drop_zero, List.take_succ_cons, List.take_nil, AVal.eval, List.length_map, loadOf, cellsAt, boxOf, partOf, binOf, intOf, k14]
        simp only [beq_iff_eq] at k14
        refine ⟨_, rfl, rfl, rfl, ?_, rfl, rfl, rfl⟩
        simp -implicitDefEqProofs only [look_cons, look_nil, cond_true, cond_false, Nat.reduceBEq, dec_true, dec_false, Int.reduceLE, kindOk, k14]
        simp [cast_beq0]
      simp -implicitDefEqProofs only [W_skip, Bl_normal, Met_normal, k14]
      refine ⟨_, rfl, rfl, rfl, ?_, rfl, rfl, rfl⟩
      simp -implicitDefEqProofs only [look_cons, look_nil, cond_true, cond_false, Nat.reduceBEq, kindOk]
      simp only [beq_eq_false_iff_ne, ne_eq] at k0 k1 k2 k3 k4 k5 k6 k7 k11 k14
      have : ¬ (0 ≤ x.s.kind ∧ x.s.kind ≤ 6) := by omega
      simp [k7, k11, k14]
      omega
    · rintro s2 ⟨q, rfl, q0, q4, q5, q8, q9, q10⟩
      simp -implicitDefEqProofs only [W_region, W_seq, W_block, W_loop, keep_eq, Thn_normal, wOps_nil, wOps_cons, val_0, valK_eq, onPut_some, ev_E, ev_c, set_E, getD_B, look_cons, lookB_cons, lookB_nil, cond_true, cond_false, Nat.reduceBEq, Nat.reduceAdd, Nat.reduceSub, Nat.reduceLeDiff, if_true, if_false, Bool.false_eq_true, List.getElem?_cons_zero, List.getElem?_cons_succ, List.length_cons, List.length_nil, List.drop_succ_cons, List.drop_zero, List.take_succ_cons, List.take_nil, List.map_cons, List.map_nil, AVal.eval, List.length_map, loadOf, cellsAt, boxOf, partOf, q0, q4, q5, q8, q9, q10, Ev.cs, evsV]
      have hnx := hn x (List.mem_of_getElem? hx)
      refine Loop.rec (α := Bool × Nat) (fun j => x.next.length - j.2) (fun j => ⟨E 91 [(0, evsV l), (5, .bool j.1), (8, evsV l), (9, .int .i64 l.length), (10, .int .i64 k), (67, intsV x.next), (68, .int .i64 x.next.length), (69, .int .i64 j.2)], B 91 [], Heap.none⟩)
        (fun j => j.2 ≤ x.next.length ∧ (kindOk x.s.kind x.next.length && x.next.all fun k => decide (0 ≤ k) && decide (k < l.length)) = (j.1 && (x.next.drop j.2).all fun k => decide (0 ≤ k) && decide (k < l.length))) ?_ (kindOk x.s.kind x.next.length, 0) ⟨Nat.zero_le _, rfl⟩ rfl
      intro ⟨o, j⟩ ⟨hj, ho⟩ hi2
      simp only [] at hj ho
      simp -implicitDefEqProofs only [W_region, W_seq, W_cond, Thn_normal, wOps_nil, wOps_cons, val_0, valK_eq, onPut_some, onBool_bool, ev_E, set_E, look_cons, look_nil, cond_true, cond_false, Nat.reduceBEq, Nat.reduceAdd, Nat.reduceSub, if_true, AVal.eval, binOf, intOf, intsV]
      refine br_intro (fun h8 => ?_) (fun h8 => ?_)
      · have h9 : j < x.next.length := by simpa using h8
        obtain ⟨y, hy⟩ : ∃ y, x.next[j]? = some y := ⟨_, List.getElem?_eq_getElem h9⟩
        rw [all_drop hy] at ho
        simp -implicitDefEqProofs only [W_skip, W_region, W_seq, W_block, Thn_normal, wOps_nil, wOps_cons, val_0, val_g, valK_eq, onPut_some, onGuard_bool, beq_true', ev_E, set_E, look_cons, look_nil, cond_true, cond_false, Nat.reduceBEq, Nat.reduceAdd, Nat.reduceSub, Nat.reduceLeDiff, if_true, if_false, Bool.false_eq_true, and_self, List.getElem?_cons_zero, List.length_cons, List.length_nil, List.drop_zero, List.take_succ_cons, List.take_nil, AVal.eval, nat_le, Int.toNat_natCast, List.getElem?_map, Option.map_some, loadOf, cellsAt, partOf, h8, hy, intC, evsV]
        refine br_intro (fun d1 => ?_) (fun d1 => ?_)
        · simp -implicitDefEqProofs only [wOps_cons, val_0, val_g, valK_eq, onPut_some, onGuard_bool, br_true, beq_true', ev_E, ev_c, set_E, look_cons, look_nil, cond_true, cond_false, Nat.reduceBEq, Nat.reduceAdd, Nat.reduceSub, if_true, AVal.eval, binOf, intOf, d1]
          refine br_intro (fun d2 => ?_) (fun d2 => ?_)
          · simp -implicitDefEqProofs only [W_region, Again_normal, keep_eq, Thn_normal, Bl_normal, wOps_nil, wOps_cons, val_0, val_g, valK_eq, onPut_some, onGuard_bool, br_true, beq_true', ev_E, ev_c, set_E, look_cons, look_nil, lookB_nil, cond_true, cond_false, Nat.reduceBEq, Nat.reduceAdd, Nat.reduceSub, if_true, List.map_cons, List.map_nil, AVal.eval, List.length_map, binOf, intOf, d2, wrap_succ (show j < 9223372036854775807 by omega)]
            exact hi2 (decide (y < l.length), j + 1) (by simp only []; omega) ⟨by simp only []; omega, by rw [ho, d1]; simp only [ge_iff_le] at d2; rw [d2]; simp⟩
          · simp -implicitDefEqProofs only [W_region, Again_normal, keep_eq, Thn_normal, Bl_normal, wOps_nil, wOps_cons, val_0, val_g, valK_eq, onPut_some, onGuard_bool, br_false, beq_true', skipK_some, ev_E, ev_c, set_E, look_cons, look_nil, lookB_nil, cond_true, cond_false, Nat.reduceBEq, Nat.reduceAdd, Nat.reduceSub, if_true, if_false, Bool.false_eq_true, List.map_cons, List.map_nil, AVal.eval, binOf, intOf, d2, wrap_succ (show j < 9223372036854775807 by omega)]
            exact hi2 (false, j + 1) (by simp only []; omega) ⟨by simp only []; omega, by rw [ho, d1]; simp only [ge_iff_le] at d2; rw [d2]; simp⟩
        · simp -implicitDefEqProofs only [W_region, Again_normal, keep_eq, Thn_normal, Bl_normal, wOps_nil, wOps_cons, val_0, val_g, valK_eq, onPut_some, onGuard_bool, br_false, beq_true', skipK_some, ev_E, ev_c, set_E, look_cons, look_nil, lookB_nil, cond_true, cond_false, Nat.reduceBEq, Nat.reduceAdd, Nat.reduceSub, if_true, if_false, Bool.false_eq_true, List.map_cons, List.map_nil, AVal.eval, binOf, intOf, d1, wrap_succ (show j < 9223372036854775807 by omega)]
          exact hi2 (false, j + 1) (by simp only []; omega) ⟨by simp only []; omega, by rw [ho, d1]; simp⟩
      · have h9 : ¬ j < x.next.length := by simpa using h8
        rw [List.drop_eq_nil_of_le (by omega)] at ho
        have hr : Ev.right l.length x = o := by
          rw [Ev.right, zero_true c1, zero_true c2, zero_true c3]
          simpa using ho
        simp -implicitDefEqProofs only [W_region, W_seq, W_cond, W_exit, Again_normal, Again_exit, keep_eq, Thn_normal, Thn_exit, Bl_exit, wOps_nil, wOps_cons, val_0, valK_eq, onPut_some, onBool_bool, br_not, ev_E, ev_c, set_E, look_cons, look_nil, lookB_nil, cond_true, cond_false, Nat.reduceBEq, Nat.reduceAdd, Nat.reduceSub, if_true, List.map_cons, List.map_nil, AVal.eval, binOf, intOf, unOf, h8]
        refine br_intro (fun d1 => ?_) (fun d1 => ?_)
        · simp -implicitDefEqProofs only [W_skip, W_region, Again_normal, keep_eq, Thn_normal, Bl_normal, wOps_nil, wOps_cons, val_0, valK_eq, onPut_some, ev_E, ev_c, set_E, look_cons, look_nil, lookB_nil, cond_true, cond_false, Nat.reduceBEq, Nat.reduceAdd, Nat.reduceSub, if_true, Bool.not_true, List.map_cons, List.map_nil, AVal.eval, binOf, intOf, d1, wrap_succ (show k < 9223372036854775807 by omega)]
          exact hi (k + 1) (by omega) ⟨by omega, by rw [hall, all_drop hx, hr, d1, Bool.true_and]⟩
        · simp -implicitDefEqProofs only [W_region, W_seq, W_ret, Again_ret, Thn_normal, Thn_ret, Bl_ret, wOps_nil, wOps_cons, val_0, valK_eq, onPut_some, ev_c, set_E, Bool.not_false, AVal.eval, d1]
          refine post1 ?_
          simp -implicitDefEqProofs only [ev_E, look_cons, look_nil, cond_true, cond_false, Nat.reduceBEq, Nat.reduceAdd, Nat.reduceSub]
          rw [right_false hall hx (by rw [hr]; exact d1)]
  · simp -implicitDefEqProofs only [W_region, W_seq, W_exit, W_ret, Again_exit, Thn_normal, Thn_exit, Bl_exit, wOps_nil, wOps_cons, val_0, valK_eq, onPut_some, ev_E, ev_c, set_E, look_cons, look_nil, cond_true, cond_false, Nat.reduceBEq, Nat.reduceAdd, Nat.reduceSub, if_true, AVal.eval, List.length_map, binOf, intOf, h6]
    refine post1 ?_
    simp -implicitDefEqProofs only [ev_E, look_cons, look_nil, cond_true, cond_false, Nat.reduceBEq, Nat.reduceAdd, Nat.reduceSub]
    have h7 : ¬ k < l.length := by simpa using h6
    rw [right, hall, List.drop_eq_nil_of_le (by omega)]
    simp
end TryT
end Go.Abs
