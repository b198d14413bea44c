/-
  Contracts: is a graph right, as the document says it?
-/
import Derived.Test.YtfgkfjmbjopfgaaGsC4
set_option linter.unusedVariables false
set_option linter.unusedSimpArgs false
set_option maxRecDepth 100000
namespace Go.Abs
open Go
namespace TryT
theorem right8 (l : List Ev) (hl : l.length < 1000000) (hn : ∀ x ∈ l, x.next.length < 1000000 ∧ x.s.body.length < 1000000 ∧ x.s.els.length < 1000000 ∧ x.s.arms.length < 1000000) : Ret prog 8 [evsV l] Heap.none fun r _ => r = .bool (right l) := by
  refine Ret.by_text rfl rfl ?_
  simp -implicitDefEqProofs only [number, W_region, W_seq, W_block, W_loop, keep_eq, Thn_normal, wOps_nil, wOps_cons, val_0, valK_eq, onPut_some, ev_c, set_E, look_cons, look_nil, lookB_nil, cond_true, cond_false, Nat.reduceBEq, List.map_cons, List.map_nil, AVal.eval, a8, evsV]
  refine Loop.rec (fun k : Nat => l.length - k) (fun k => ⟨E 105 [(0, evsV l), (3, .int .i64 k)], B 105 [], Heap.none⟩)
    (fun k => k ≤ l.length ∧ l.all (Ev.right l.length) = (l.drop k).all (Ev.right l.length)) ?_ 0 ⟨Nat.zero_le _, rfl⟩ rfl
  intro k ⟨hk, hall⟩ hi
  simp -implicitDefEqProofs only [W_region, W_seq, W_cond, Thn_normal, wOps_nil, wOps_cons, val_0, valK_eq, onPut_some, onBool_bool, ev_E, set_E, look_cons, look_nil, cond_true, cond_false, Nat.reduceBEq, Nat.reduceAdd, Nat.reduceSub, if_true, AVal.eval, List.length_map, binOf, intOf, evsV]
  refine br_intro (fun h6 => ?_) (fun h6 => ?_)
  · have h7 : k < l.length := by simpa using h6
    obtain ⟨x, hx⟩ : ∃ x, l[k]? = some x := ⟨_, List.getElem?_eq_getElem h7⟩
    obtain ⟨hnx, hb, he, ha⟩ := hn x (List.mem_of_getElem? hx)
    simp -implicitDefEqProofs only [W_skip, W_region, W_seq, W_block, Thn_normal, wOps_nil, wOps_cons, val_0, valK_eq, onPut_some, box_0, onCells_some, boxK_eq, st_0, stK_eq, onS_some, ev_E, ev_c, set_E, set_B, getD_B, look_cons, lookB_cons, look_nil, lookB_nil, cond_true, cond_false, Nat.reduceBEq, Nat.reduceAdd, Nat.reduceSub, Nat.reduceLeDiff, if_true, if_false, storeOf, storeCells, over, List.append_nil, Bool.false_eq_true, true_and, and_self, List.getElem?_cons_zero, List.getElem?_cons_succ, List.length_cons, List.length_nil, List.drop_succ_cons, List.drop_zero, List.take_succ_cons, List.take_zero, List.take_nil, List.drop_nil, List.nil_append, AVal.eval, cellsOf_agg, nat_le, Int.toNat_natCast, List.getElem?_map, List.length_map, Option.map_some, loadOf, cellsAt, boxOf, partOf, h6, hx, x.cells_cs, Ev.cs]
    intro g
    refine W_meet (fun s2 => ∃ q, s2 = ⟨E 105 q, B 105 [(4, some (g, x.cs))], Heap.none⟩ ∧ look q 0 = evsV l ∧ look q 3 = .int .i64 k ∧ look q 4 = .lp 4 g 0 ∧ look q 5 = .int .i64 x.next.length ∧ look q 7 = .bool (kindOk x.s.kind x.next.length)) ?_ ?_
    · have hc : (0 ≤ x.s.kind ∧ x.s.kind ≤ 6) ∨ x.s.kind = 7 ∨ x.s.kind = 11 ∨ x.s.kind = 14 ∨ (¬ (0 ≤ x.s.kind ∧ x.s.kind ≤ 6) ∧ x.s.kind ≠ 7 ∧ x.s.kind ≠ 11 ∧ x.s.kind ≠ 14) := by omega
      rcases hc with ⟨p1, p2⟩ | p1 | p1 | p1 | ⟨p1, p2, p3, p4⟩
      · have n7 : (x.s.kind == 7) = false := by simp; omega
        have n11 : (x.s.kind == 11) = false := by simp; omega
        have n14 : (x.s.kind == 14) = false := by simp; omega
        have m0 : decide (x.s.kind ≥ 0) = true := by simpa using p1
        have m6 : decide (x.s.kind ≤ 6) = true := by simpa using p2
        simp -implicitDefEqProofs only [W_region, wOps_cons, val_0, val_g, valK_eq, onPut_some, onGuard_bool, br_true, br_not, beq_true', beq_false', ev_E, ev_c, set_E, look_cons, look_nil, cond_true, cond_false, Nat.reduceBEq, Nat.reduceAdd, Nat.reduceSub, if_true, AVal.eval, binOf, intOf, a8_r7, m0, m6]
        refine br_intro (fun e => ?_) (fun e => ?_)
        all_goals (simp -implicitDefEqProofs only [Met_normal, wOps_nil, wOps_cons, val_0, val_g, valK_eq, onPut_some, onGuard_bool, onGuard_skip, br_true, br_false, beq_true', beq_false', skipK_some, ev_E, ev_c, set_E, look_cons, look_nil, cond_true, cond_false, Nat.reduceBEq, Nat.reduceAdd, Nat.reduceSub, if_true, if_false, Bool.false_eq_true, Bool.not_true, Bool.not_false, AVal.eval, binOf, intOf, e, n7, n11, n14]; refine ⟨_, rfl, rfl, rfl, rfl, rfl, ?_⟩; simp -implicitDefEqProofs only [look_cons, look_nil, cond_true, cond_false, Nat.reduceBEq, kindOk, m6, n7, n11, n14]; simp [cast_beq1] at e; simp [p1, e])
      · have m0 : decide (x.s.kind ≥ 0) = true := by simp [p1]
        have m6 : decide (x.s.kind ≤ 6) = false := by simp [p1]
        have n7 : (x.s.kind == 7) = true := by simp [p1]
        have n11 : (x.s.kind == 11) = false := by simp [p1]
        have n14 : (x.s.kind == 14) = false := by simp [p1]
        simp -implicitDefEqProofs only [W_region, wOps_cons, val_0, val_g, valK_eq, onPut_some, onGuard_bool, br_true, br_false, br_not, beq_true', beq_false', skipK_some, ev_E, ev_c, set_E, look_cons, look_nil, cond_true, cond_false, Nat.reduceBEq, Nat.reduceAdd, Nat.reduceSub, if_true, if_false, Bool.false_eq_true, Bool.not_false, AVal.eval, binOf, intOf, a8_r7, m0, m6, n7]
        refine br_intro (fun e => ?_) (fun e => ?_)
        all_goals (simp -implicitDefEqProofs only [Met_normal, wOps_nil, wOps_cons, val_0, val_g, valK_eq, onPut_some, onGuard_bool, onGuard_skip, br_true, br_false, beq_true', beq_false', skipK_some, ev_E, ev_c, set_E, look_cons, look_nil, cond_true, cond_false, Nat.reduceBEq, Nat.reduceAdd, Nat.reduceSub, if_true, if_false, Bool.false_eq_true, Bool.not_true, Bool.not_false, AVal.eval, binOf, intOf, e, n11, n14]; refine ⟨_, rfl, rfl, rfl, rfl, rfl, ?_⟩; simp [cast_beq2] at e; simp [look, kindOk, p1, e])
      · have m0 : decide (x.s.kind ≥ 0) = true := by simp [p1]
        have m6 : decide (x.s.kind ≤ 6) = false := by simp [p1]
        have n7 : (x.s.kind == 7) = false := by simp [p1]
        have n11 : (x.s.kind == 11) = true := by simp [p1]
        have n14 : (x.s.kind == 14) = false := by simp [p1]
        simp -implicitDefEqProofs only [W_region, wOps_cons, val_0, val_g, valK_eq, onPut_some, onGuard_bool, br_true, br_false, br_not, beq_true', beq_false', skipK_some, ev_E, ev_c, set_E, look_cons, look_nil, cond_true, cond_false, Nat.reduceBEq, Nat.reduceAdd, Nat.reduceSub, if_true, if_false, Bool.false_eq_true, Bool.not_false, AVal.eval, binOf, intOf, a8_r7, m0, m6, n7, n11]
        refine br_intro (fun e => ?_) (fun e => ?_)
        all_goals (simp -implicitDefEqProofs only [Met_normal, wOps_nil, wOps_cons, val_0, val_g, valK_eq, onPut_some, onGuard_bool, onGuard_skip, br_true, br_false, beq_true', beq_false', skipK_some, ev_E, ev_c, set_E, look_cons, look_nil, cond_true, cond_false, Nat.reduceBEq, Nat.reduceAdd, Nat.reduceSub, if_true, if_false, Bool.false_eq_true, Bool.not_true, Bool.not_false, AVal.eval, binOf, intOf, e, n14]; refine ⟨_, rfl, rfl, rfl, rfl, rfl, ?_⟩; simp at e; simp [look, kindOk, p1, e])
      · have m0 : decide (x.s.kind ≥ 0) = true := by simp [p1]
        have m6 : decide (x.s.kind ≤ 6) = false := by simp [p1]
        have n7 : (x.s.kind == 7) = false := by simp [p1]
        have n11 : (x.s.kind == 11) = false := by simp [p1]
        have n14 : (x.s.kind == 14) = true := by simp [p1]
        simp -implicitDefEqProofs only [W_region, Met_normal, wOps_nil, wOps_cons, val_0, val_g, valK_eq, onPut_some, onGuard_bool, br_true, br_false, beq_true', beq_false', skipK_some, ev_E, ev_c, set_E, look_cons, look_nil, cond_true, cond_false, Nat.reduceBEq, Nat.reduceAdd, Nat.reduceSub, if_true, if_false, Bool.false_eq_true, Bool.not_false, AVal.eval, binOf, intOf, a8_r7, m0, m6, n7, n11, n14]
        refine ⟨_, rfl, rfl, rfl, rfl, rfl, ?_⟩
        simp [look, kindOk, p1, cast_beq0]
      · have n7 : (x.s.kind == 7) = false := by simpa using p2
        have n11 : (x.s.kind == 11) = false := by simpa using p3
        have n14 : (x.s.kind == 14) = false := by simpa using p4
        simp -implicitDefEqProofs only [W_region, wOps_cons, val_0, val_g, valK_eq, onPut_some, onGuard_bool, beq_true', ev_E, ev_c, set_E, look_cons, look_nil, cond_true, cond_false, Nat.reduceBEq, Nat.reduceAdd, Nat.reduceSub, if_true, AVal.eval, binOf, intOf, a8_r7]
        refine br_intro (fun e => ?_) (fun e => ?_)
        · have m6 : decide (x.s.kind ≤ 6) = false := by simp at e ⊢; omega
          simp -implicitDefEqProofs only [Met_normal, wOps_nil, wOps_cons, val_0, val_g, valK_eq, onPut_some, onGuard_bool, br_true, br_false, beq_true', beq_false', skipK_some, ev_E, ev_c, set_E, look_cons, look_nil, cond_true, cond_false, Nat.reduceBEq, Nat.reduceAdd, Nat.reduceSub, if_true, if_false, Bool.false_eq_true, Bool.not_false, AVal.eval, binOf, intOf, e, m6, n7, n11, n14]
          refine ⟨_, rfl, rfl, rfl, rfl, rfl, ?_⟩
          simp [look, kindOk, p2, p3, p4]
          simp at m6
          omega
        · simp -implicitDefEqProofs only [Met_normal, wOps_nil, wOps_cons, val_0, val_g, valK_eq, onPut_some, onGuard_bool, br_true, br_false, beq_true', beq_false', skipK_some, ev_E, ev_c, set_E, look_cons, look_nil, cond_true, cond_false, Nat.reduceBEq, Nat.reduceAdd, Nat.reduceSub, if_true, if_false, Bool.false_eq_true, Bool.not_false, AVal.eval, binOf, intOf, e, n7, n11, n14]
          refine ⟨_, rfl, rfl, rfl, rfl, rfl, ?_⟩
          simp at e
          simp [look, kindOk, p2, p3, p4]
          omega
    · rintro s2 ⟨q, rfl, q0, q3, q4, q5, q7⟩
      simp -implicitDefEqProofs only [W_region, W_seq, W_block, W_loop, keep_eq, Thn_normal, wOps_nil, wOps_cons, val_0, valK_eq, onPut_some, ev_c, set_E, look_cons, lookB_cons, lookB_nil, cond_true, cond_false, Nat.reduceBEq, List.map_cons, List.map_nil, AVal.eval, q0, q3, q4, q5, q7, Ev.cs, evsV]
      refine Loop.rec (α := Bool × Nat) (fun j => x.next.length - j.2) (fun j => ⟨E 105 [(0, evsV l), (3, .int .i64 k), (4, .lp 4 g 0), (5, .int .i64 x.next.length), (7, .bool j.1), (8, .int .i64 j.2)], B 105 [(4, some (g, x.cs))], Heap.none⟩)
        (fun j => j.2 ≤ x.next.length ∧ (kindOk x.s.kind x.next.length && x.next.all fun k => decide (0 ≤ k) && decide (k < l.length)) = (j.1 && (x.next.drop j.2).all fun k => decide (0 ≤ k) && decide (k < l.length))) ?_ (kindOk x.s.kind x.next.length, 0) ⟨Nat.zero_le _, rfl⟩ rfl
      intro ⟨o, j⟩ ⟨hj, ho⟩ hi2
      simp only [] at hj ho
      simp -implicitDefEqProofs only [W_region, W_seq, W_cond, Thn_normal, wOps_nil, wOps_cons, val_0, valK_eq, onPut_some, onBool_bool, ev_E, set_E, look_cons, look_nil, cond_true, cond_false, Nat.reduceBEq, Nat.reduceAdd, Nat.reduceSub, if_true, AVal.eval, binOf, intOf, Ev.cs, evsV]
      refine br_intro (fun h8 => ?_) (fun h8 => ?_)
      · have h9 : j < x.next.length := by simpa using h8
        obtain ⟨y, hy⟩ : ∃ y, x.next[j]? = some y := ⟨_, List.getElem?_eq_getElem h9⟩
        rw [all_drop hy] at ho
        simp -implicitDefEqProofs only [W_skip, W_seq, W_block, Thn_normal, h8]
        refine W_meet (fun s2 => ∃ q, s2 = ⟨E 105 q, B 105 [(4, some (g, x.cs))], Heap.none⟩ ∧ look q 0 = evsV l ∧ look q 3 = .int .i64 k ∧ look q 4 = .lp 4 g 0 ∧ look q 5 = .int .i64 x.next.length ∧ look q 8 = .int .i64 j ∧ look q 7 = .bool (o && (decide (0 ≤ y) && decide (y < l.length)))) ?_ ?_
        · simp -implicitDefEqProofs only [W_region, wOps_cons, val_0, val_g, valK_eq, onPut_some, onGuard_bool, beq_true', ev_E, set_E, look_cons, look_nil, cond_true, cond_false, Nat.reduceBEq, Nat.reduceAdd, Nat.reduceSub, AVal.eval, a8_r11]
          refine br_intro (fun d1 => ?_) (fun d1 => ?_)
          · simp -implicitDefEqProofs only [wOps_cons, val_0, val_g, valK_eq, onPut_some, onGuard_bool, br_true, beq_true', ev_E, ev_c, set_E, getD_B, look_cons, lookB_cons, look_nil, lookB_nil, cond_true, cond_false, Nat.reduceBEq, Nat.reduceAdd, Nat.reduceSub, Nat.reduceLeDiff, if_true, if_false, Bool.false_eq_true, and_self, List.getElem?_cons_zero, List.getElem?_cons_succ, List.length_cons, List.length_nil, List.drop_succ_cons, List.drop_zero, List.take_succ_cons, List.take_nil, AVal.eval, nat_le, Int.toNat_natCast, List.getElem?_map, Option.map_some, loadOf, cellsAt, boxOf, partOf, binOf, intOf, d1, hy, intC]
            refine br_intro (fun d2 => ?_) (fun d2 => ?_)
            · simp -implicitDefEqProofs only [Met_normal, wOps_nil, wOps_cons, val_0, val_g, valK_eq, onPut_some, onGuard_bool, br_true, beq_true', ev_E, ev_c, set_E, getD_B, look_cons, lookB_cons, look_nil, lookB_nil, cond_true, cond_false, Nat.reduceBEq, Nat.reduceAdd, Nat.reduceSub, Nat.reduceLeDiff, if_true, if_false, Bool.false_eq_true, and_self, List.getElem?_cons_zero, List.getElem?_cons_succ, List.length_cons, List.length_nil, List.drop_succ_cons, List.drop_zero, List.take_succ_cons, List.take_nil, AVal.eval, nat_le, Int.toNat_natCast, List.getElem?_map, List.length_map, Option.map_some, loadOf, cellsAt, boxOf, partOf, binOf, intOf, d2, hy, intC]
              refine ⟨_, rfl, rfl, rfl, rfl, rfl, rfl, ?_⟩
              simp -implicitDefEqProofs only [look_cons, look_nil, cond_true, cond_false, Nat.reduceBEq]
              simp only [ge_iff_le] at d2
              simp []
            · simp -implicitDefEqProofs only [Met_normal, wOps_nil, wOps_cons, val_0, val_g, valK_eq, onPut_some, onGuard_bool, br_false, beq_true', skipK_some, ev_E, ev_c, set_E, look_cons, look_nil, cond_true, cond_false, Nat.reduceBEq, Nat.reduceAdd, Nat.reduceSub, if_false, Bool.false_eq_true, AVal.eval, d2]
              refine ⟨_, rfl, rfl, rfl, rfl, rfl, rfl, ?_⟩
              simp -implicitDefEqProofs only [look_cons, look_nil, cond_true, cond_false, Nat.reduceBEq]
              simp only [ge_iff_le] at d2
              simp []
          · simp -implicitDefEqProofs only [Met_normal, wOps_nil, wOps_cons, val_0, val_g, valK_eq, onPut_some, onGuard_bool, br_false, beq_true', skipK_some, ev_E, ev_c, set_E, look_cons, look_nil, cond_true, cond_false, Nat.reduceBEq, Nat.reduceAdd, Nat.reduceSub, if_false, Bool.false_eq_true, AVal.eval, d1]
            refine ⟨_, rfl, rfl, rfl, rfl, rfl, rfl, ?_⟩
            simp -implicitDefEqProofs only [look_cons, look_nil, cond_true, cond_false, Nat.reduceBEq]
            simp
        · rintro s2 ⟨q, rfl, q0, q3, q4, q5, q8, q7⟩
          simp -implicitDefEqProofs only [W_region, Again_normal, keep_eq, Thn_normal, Bl_normal, wOps_nil, wOps_cons, val_0, valK_eq, onPut_some, ev_E, ev_c, set_E, look_cons, lookB_cons, lookB_nil, cond_true, cond_false, Nat.reduceBEq, Nat.reduceAdd, Nat.reduceSub, if_true, List.map_cons, List.map_nil, AVal.eval, binOf, intOf, q0, q3, q4, q5, q7, q8, Ev.cs, wrap_succ (show j < 9223372036854775807 by omega)]
          exact hi2 (_, j + 1) (by simp only []; omega) ⟨by simp only []; omega, by rw [ho]; cases o <;> simp [Bool.and_assoc]⟩
      · have h9 : ¬ j < x.next.length := by simpa using h8
        rw [List.drop_eq_nil_of_le (by omega)] at ho
        have hr : Ev.right l.length x = (x.s.body.isEmpty && x.s.els.isEmpty && x.s.arms.isEmpty && o) := by
          rw [Ev.right, Bool.and_assoc, ho]; simp
        have hw1 : IntKind.i64.wrap ((x.s.body.length : Int) + x.s.els.length) = ((x.s.body.length + x.s.els.length : Nat) : Int) := by rw [wrap_in ⟨by omega, by omega⟩]; omega
        have hw2 : IntKind.i64.wrap (((x.s.body.length + x.s.els.length : Nat) : Int) + x.s.arms.length) = ((x.s.body.length + x.s.els.length + x.s.arms.length : Nat) : Int) := by rw [wrap_in ⟨by omega, by omega⟩]; omega
        simp -implicitDefEqProofs only [W_region, W_seq, W_exit, W_ret, Again_normal, Again_exit, keep_eq, Thn_normal, Thn_exit, Bl_exit, wOps_nil, wOps_cons, val_0, val_g, valK_eq, onPut_some, onGuard_bool, br_not, beq_false', ev_E, ev_c, set_E, look_cons, lookB_cons, look_nil, lookB_nil, cond_true, cond_false, Nat.reduceBEq, Nat.reduceAdd, Nat.reduceSub, if_true, List.map_cons, List.map_nil, AVal.eval, List.length_map, binOf, intOf, unOf, h8]
        refine br_intro2 (fun d1 => ?_) (fun d1 => ?_)
        · simp -implicitDefEqProofs only [W_region, W_seq, W_cond, W_ret, Again_ret, Thn_normal, Thn_ret, Bl_ret, wOps_nil, wOps_cons, val_0, val_g, valK_eq, onPut_some, onGuard_bool, onBool_bool, br_true, br_false, beq_false', skipK_some, ev_E, ev_c, set_E, look_cons, look_nil, cond_true, cond_false, Nat.reduceBEq, Nat.reduceAdd, Nat.reduceSub, if_true, Bool.not_true, Bool.not_false, AVal.eval, d1]
          refine post1 ?_
          simp -implicitDefEqProofs only [ev_E, look_cons, look_nil, cond_true, cond_false, Nat.reduceBEq, Nat.reduceAdd, Nat.reduceSub]
          rw [right_false hall hx (by rw [hr, d1]; simp)]
        · simp -implicitDefEqProofs only [W_cond, Thn_normal, wOps_nil, wOps_cons, val_0, val_g, valK_eq, onPut_some, onGuard_bool, onBool_bool, br_true, beq_false', ev_E, ev_c, set_E, getD_B, look_cons, lookB_cons, look_nil, lookB_nil, cond_true, cond_false, Nat.reduceBEq, Nat.reduceAdd, Nat.reduceSub, Nat.reduceLeDiff, if_true, if_false, Bool.false_eq_true, Bool.not_true, Bool.not_false, List.getElem?_cons_zero, List.getElem?_cons_succ, List.length_cons, List.length_nil, List.drop_succ_cons, List.drop_zero, List.take_succ_cons, List.take_zero, AVal.eval, List.length_map, loadOf, cellsAt, boxOf, partOf, binOf, intOf, d1, hw1, hw2]
          refine br_intro (fun d2 => ?_) (fun d2 => ?_)
          · simp -implicitDefEqProofs only [W_region, W_seq, W_ret, Again_ret, Thn_normal, Thn_ret, Bl_ret, wOps_nil, wOps_cons, val_0, valK_eq, onPut_some, ev_c, set_E, AVal.eval, d2]
            refine post1 ?_
            simp -implicitDefEqProofs only [ev_E, look_cons, look_nil, cond_true, cond_false, Nat.reduceBEq, Nat.reduceAdd, Nat.reduceSub]
            rw [right_false hall hx (by
              rw [hr]
              cases hh : (x.s.body.isEmpty && x.s.els.isEmpty && x.s.arms.isEmpty)
              · rfl
              · simp at hh d2; simp [hh] at d2)]
          · simp -implicitDefEqProofs only [W_skip, W_region, Again_normal, keep_eq, Thn_normal, Bl_normal, wOps_nil, wOps_cons, val_0, valK_eq, onPut_some, ev_E, ev_c, set_E, look_cons, lookB_cons, look_nil, lookB_nil, cond_true, cond_false, Nat.reduceBEq, Nat.reduceAdd, Nat.reduceSub, if_true, List.map_cons, List.map_nil, AVal.eval, binOf, intOf, d2, wrap_succ (show k < 9223372036854775807 by omega)]
            refine hi (k + 1) (by omega) ⟨by omega, ?_⟩
            rw [hall, all_drop hx, hr, d1]
            have d3 : ¬ (0 < x.s.body.length + x.s.els.length + x.s.arms.length) := by simp at d2; omega
            rw [List.isEmpty_iff.2 (List.eq_nil_of_length_eq_zero (by omega)), List.isEmpty_iff.2 (List.eq_nil_of_length_eq_zero (by omega)), List.isEmpty_iff.2 (List.eq_nil_of_length_eq_zero (by omega))]
            rfl
  · simp -implicitDefEqProofs only [W_region, W_seq, W_exit, W_ret, Again_exit, Thn_normal, Thn_exit, Bl_exit, wOps_nil, wOps_cons, val_0, valK_eq, onPut_some, ev_E, ev_c, set_E, look_cons, look_nil, cond_true, cond_false, Nat.reduceBEq, Nat.reduceAdd, Nat.reduceSub, if_true, AVal.eval, List.length_map, binOf, intOf, h6]
    refine post1 ?_
    simp -implicitDefEqProofs only [ev_E, look_cons, look_nil, cond_true, cond_false, Nat.reduceBEq, Nat.reduceAdd, Nat.reduceSub]
    have h7 : ¬ k < l.length := by simpa using h6
    rw [right, hall, List.drop_eq_nil_of_le (by omega)]
    simp
end TryT
end Go.Abs
