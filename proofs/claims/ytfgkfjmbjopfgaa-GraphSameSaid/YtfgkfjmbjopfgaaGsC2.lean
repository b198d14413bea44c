/-
  Contracts: are there few?
-/
import Derived.Test.YtfgkfjmbjopfgaaGsC1
set_option linter.unusedVariables false
set_option linter.unusedSimpArgs false
set_option maxRecDepth 100000
namespace Go.Abs
open Go
namespace TryT

/-- What is left. -/
def Left2 (n : Nat) (most : Int) (v : V) : Prop := ∃ r : Int, v = .int .i64 r ∧ -1 ≤ r ∧ (0 ≤ r → (n : Int) + r ≤ most)

theorem room41 : ∀ (deep : Nat) (e : Ex) (most : Int), deep ≤ 1000 → -1 ≤ most → most ≤ 1073741824 → Ret prog 41 [e.v, .int .i64 most, .int .i64 deep] Heap.none fun r _ => Left2 e.size most r := by
  intro deep
  induction deep with
  | zero =>
    intro e most hd h1 h2
    refine Ret.by_text rfl rfl ?_
    simp -implicitDefEqProofs only [number, W_region, W_seq, Thn_normal, wOps_nil, wOps_cons, val_0, val_g, valK_eq, onPut_some, onGuard_bool, br_not, beq_false', box_0, onCells_some, boxK_eq, ev_E, ev_c, set_E, set_B, getD_B, look_cons, look_nil, lookB_nil, cond_true, cond_false, Nat.reduceBEq, Nat.reduceAdd, Nat.reduceSub, if_true, true_and, List.length_cons, List.length_nil, AVal.eval, binOf, intOf, a41, Ex.cellsOf_v]
    intro g1
    refine br_intro (fun h3 => ?_) (fun h3 => ?_)
    · simp -implicitDefEqProofs only [W_region, W_seq, W_cond, W_ret, Thn_normal, Thn_ret, wOps_nil, wOps_cons, val_0, val_g, valK_eq, onPut_some, onGuard_bool, onBool_bool, br_true, br_false, beq_false', skipK_some, ev_E, ev_c, set_E, look_cons, look_nil, cond_true, cond_false, Nat.reduceBEq, Nat.reduceAdd, Nat.reduceSub, if_true, Bool.not_true, AVal.eval, h3]
      refine post1 ?_
      simp -implicitDefEqProofs only [ev_E, look_cons, look_nil, cond_true, cond_false, Nat.reduceBEq, Nat.reduceAdd, Nat.reduceSub]
      exact ⟨-1, rfl, by omega, by omega⟩
    · simp -implicitDefEqProofs only [W_region, W_seq, W_cond, W_ret, Thn_normal, Thn_ret, wOps_nil, wOps_cons, val_0, val_g, valK_eq, onPut_some, onGuard_bool, onBool_bool, br_true, beq_false', ev_E, ev_c, set_E, look_cons, look_nil, cond_true, cond_false, Nat.reduceBEq, Nat.reduceAdd, Nat.reduceSub, if_true, if_false, Bool.false_eq_true, Bool.not_false, AVal.eval, binOf, intOf, h3, show (decide (((0 : Nat) : Int) < 1)) = true from rfl]
      refine post1 ?_
      simp -implicitDefEqProofs only [ev_E, look_cons, look_nil, cond_true, cond_false, Nat.reduceBEq, Nat.reduceAdd, Nat.reduceSub]
      exact ⟨-1, rfl, by omega, by omega⟩
  | succ d ih =>
    intro e most hd h1 h2
    have hz := e.size_eq
    refine Ret.by_text rfl rfl ?_
    simp -implicitDefEqProofs only [number, W_region, W_seq, Thn_normal, wOps_nil, wOps_cons, val_0, val_g, valK_eq, onPut_some, onGuard_bool, br_not, beq_false', box_0, onCells_some, boxK_eq, ev_E, ev_c, set_E, set_B, getD_B, look_cons, look_nil, lookB_nil, cond_true, cond_false, Nat.reduceBEq, Nat.reduceAdd, Nat.reduceSub, if_true, true_and, List.length_cons, List.length_nil, AVal.eval, binOf, intOf, a41, Ex.cellsOf_v]
    intro g1
    refine br_intro (fun h3 => ?_) (fun h3 => ?_)
    · simp -implicitDefEqProofs only [W_region, W_seq, W_cond, W_ret, Thn_normal, Thn_ret, wOps_nil, wOps_cons, val_0, val_g, valK_eq, onPut_some, onGuard_bool, onBool_bool, br_true, br_false, beq_false', skipK_some, ev_E, ev_c, set_E, look_cons, look_nil, cond_true, cond_false, Nat.reduceBEq, Nat.reduceAdd, Nat.reduceSub, if_true, Bool.not_true, AVal.eval, h3]
      refine post1 ?_
      simp -implicitDefEqProofs only [ev_E, look_cons, look_nil, cond_true, cond_false, Nat.reduceBEq, Nat.reduceAdd, Nat.reduceSub]
      exact ⟨-1, rfl, by omega, by omega⟩
    · have h4 : 1 ≤ most := by simpa using h3
      have h5 : decide (((d + 1 : Nat) : Int) < 1) = false := by simp; omega
      simp -implicitDefEqProofs only [W_skip, W_region, W_seq, W_cond, W_block, W_loop, keep_eq, Thn_normal, wOps_nil, wOps_cons, val_0, val_g, valK_eq, onPut_some, onGuard_bool, onBool_bool, br_true, br_false, beq_false', ev_E, ev_c, set_E, look_cons, lookB_cons, look_nil, lookB_nil, cond_true, cond_false, Nat.reduceBEq, Nat.reduceAdd, Nat.reduceSub, if_true, if_false, Bool.false_eq_true, Bool.not_false, List.map_cons, List.map_nil, AVal.eval, binOf, intOf, h3, h5, wrap_in (show -9223372036854775808 ≤ most - 1 ∧ most - 1 ≤ 9223372036854775807 by omega)]
      refine Loop.rec (α := Int × Nat) (fun k => e.l.length - k.2) (fun k => ⟨E 35 [(1, .int .i64 k.1), (2, .int .i64 (d + 1 : Nat)), (3, .lp 3 g1 0), (7, .int .i64 k.2)], B 35 [(3, some (g1, e.cs))], Heap.none⟩)
        (fun k => k.2 ≤ e.l.length ∧ 0 ≤ k.1 ∧ (e.size : Int) + k.1 ≤ most + sizeL (e.l.drop k.2)) ?_ (most - 1, 0) ⟨Nat.zero_le _, by simp only []; omega, by simp only [List.drop_zero]; omega⟩ rfl
      intro ⟨mo, k⟩ ⟨hk, hm, hs⟩ hi
      simp only [] at hk hm hs
      have hst := size_take e.l k hk
      simp -implicitDefEqProofs only [W_region, W_seq, W_cond, Thn_normal, wOps_nil, wOps_cons, val_0, valK_eq, onPut_some, onBool_bool, ev_E, set_E, getD_B, look_cons, lookB_cons, look_nil, lookB_nil, cond_true, cond_false, Nat.reduceBEq, Nat.reduceAdd, Nat.reduceSub, Nat.reduceLeDiff, if_true, if_false, Bool.false_eq_true, List.getElem?_cons_zero, List.getElem?_cons_succ, List.length_cons, List.length_nil, List.drop_succ_cons, List.drop_zero, List.take_succ_cons, List.take_nil, AVal.eval, List.length_map, loadOf, cellsAt, boxOf, partOf, binOf, intOf, Ex.cs]
      refine br_intro (fun h6 => ?_) (fun h6 => ?_)
      · have h7 : k < e.l.length := by simpa using h6
        obtain ⟨x, hx⟩ : ∃ x, e.l[k]? = some x := ⟨_, List.getElem?_eq_getElem h7⟩
        have hsx := size_drop hx
        simp -implicitDefEqProofs only [W_skip, W_region, W_seq, W_block, Thn_normal, wOps_cons, val_0, valK_eq, onPut_some, call_0, callK_eq, ev_E, ev_c, set_E, getD_B, look_cons, lookB_cons, look_nil, lookB_nil, cond_true, cond_false, Nat.reduceBEq, Nat.reduceAdd, Nat.reduceSub, Nat.reduceLeDiff, if_true, if_false, Bool.false_eq_true, and_self, List.getElem?_cons_zero, List.getElem?_cons_succ, List.length_cons, List.length_nil, List.drop_succ_cons, List.drop_zero, List.take_succ_cons, List.take_nil, List.map_cons, List.map_nil, AVal.eval, nat_le, Int.toNat_natCast, List.getElem?_map, Option.map_some, loadOf, cellsAt, boxOf, partOf, binOf, intOf, hx, x.cells_eq, Ex.fold, wrap_pred (show d < 9223372036854775807 by omega)]
        refine callOk_of (ih x mo (by omega) (by omega) (by omega)) ?_
        rintro u ⟨r, rfl, hr1, hr2⟩
        simp -implicitDefEqProofs only [W_region, W_seq, W_cond, Thn_normal, wOps_nil, wOps_cons, val_0, valK_eq, onPut_some, onBool_bool, retK_some, ev_E, ev_c, set_E, look_cons, look_nil, cond_true, cond_false, Nat.reduceBEq, Nat.reduceAdd, Nat.reduceSub, if_true, AVal.eval, binOf, intOf]
        refine br_intro (fun h8 => ?_) (fun h8 => ?_)
        · simp -implicitDefEqProofs only [W_region, W_seq, W_ret, Again_ret, Thn_normal, Thn_ret, Bl_ret, wOps_nil, wOps_cons, val_0, valK_eq, onPut_some, ev_c, set_E, AVal.eval]
          refine post1 ?_
          simp -implicitDefEqProofs only [ev_E, look_cons, look_nil, cond_true, cond_false, Nat.reduceBEq, Nat.reduceAdd, Nat.reduceSub]
          exact ⟨-1, rfl, by omega, by omega⟩
        · simp -implicitDefEqProofs only [W_skip, W_region, Again_normal, keep_eq, Thn_normal, Bl_normal, wOps_nil, wOps_cons, val_0, valK_eq, onPut_some, ev_E, ev_c, set_E, look_cons, lookB_cons, look_nil, lookB_nil, cond_true, cond_false, Nat.reduceBEq, Nat.reduceAdd, Nat.reduceSub, if_true, List.map_cons, List.map_nil, AVal.eval, binOf, intOf, wrap_succ (show k < 9223372036854775807 by omega)]
          have h9 : 0 ≤ r := by simpa using h8
          have := hr2 h9
          exact hi (r, k + 1) (by simp only []; omega) ⟨by simp only []; omega, h9, by simp only []; omega⟩
      · simp -implicitDefEqProofs only [W_region, W_seq, W_exit, W_ret, Again_exit, Thn_normal, Thn_exit, Bl_exit, wOps_nil, wOps_cons, val_0, valK_eq, onPut_some, ev_E, set_E, look_cons, look_nil, cond_true, cond_false, Nat.reduceBEq, Nat.reduceAdd, Nat.reduceSub, AVal.eval]
        refine post1 ?_
        simp -implicitDefEqProofs only [ev_E, look_cons, look_nil, cond_true, cond_false, Nat.reduceBEq, Nat.reduceAdd, Nat.reduceSub]
        have h7 : ¬ k < e.l.length := by simpa using h6
        rw [List.drop_eq_nil_of_le (by omega)] at hs
        simp only [sizeL] at hs
        exact ⟨mo, rfl, by omega, by omega⟩

theorem few30 (e : Ex) (most : Int) (h1 : -1 ≤ most) (h2 : most ≤ 1073741824) : Ret prog 30 [e.v, .int .i64 most] Heap.none fun r _ => ∃ b : Bool, r = .bool b ∧ (b = true → (e.size : Int) ≤ most) := by
  refine Ret.by_text rfl rfl ?_
  simp -implicitDefEqProofs only [number, W_region, W_seq, Thn_normal, wOps_nil, wOps_cons, val_0, valK_eq, onPut_some, box_0, onCells_some, boxK_eq, call_0, callK_eq, ev_E, ev_c, set_E, set_B, getD_B, look_cons, lookB_cons, look_nil, lookB_nil, cond_true, cond_false, Nat.reduceBEq, Nat.reduceAdd, Nat.reduceSub, Nat.reduceLeDiff, if_true, true_and, List.getElem?_cons_zero, List.length_cons, List.length_nil, List.drop_zero, List.take_succ_cons, List.take_nil, List.map_cons, List.map_nil, AVal.eval, loadOf, cellsAt, boxOf, partOf, a30, Ex.cellsOf_v]
  intro g1
  simp -implicitDefEqProofs only [Ex.fold]
  refine callOk_of (room41 40 e most (by omega) h1 h2) ?_
  rintro u ⟨r, rfl, hr1, hr2⟩
  simp -implicitDefEqProofs only [W_ret, Thn_normal, wOps_nil, wOps_cons, val_0, valK_eq, onPut_some, retK_some, ev_E, ev_c, set_E, look_cons, look_nil, cond_true, cond_false, Nat.reduceBEq, Nat.reduceAdd, Nat.reduceSub, if_true, AVal.eval, binOf, intOf]
  refine post1 ?_
  simp -implicitDefEqProofs only [ev_E, look_cons, look_nil, cond_true, cond_false, Nat.reduceBEq, Nat.reduceAdd, Nat.reduceSub]
  refine ⟨_, rfl, fun h => ?_⟩
  have h3 : 0 ≤ r := by simpa using h
  have := hr2 h3
  omega
end TryT
end Go.Abs
