/-
  Contracts: expressions and lists of them are the same; how large an expression is.
-/
import Derived.Test.YtfgkfjmbjopfgaaAbsT
import Derived.Test.YtfgkfjmbjopfgaaGsTy
set_option linter.unusedVariables false
set_option linter.unusedSimpArgs false
set_option maxRecDepth 100000
namespace Go.Abs
open Go
namespace TryT

theorem same26 (a : Ex) : ∀ (b : Ex), a.size < 4611686018427387904 → Ret prog 26 [a.v, b.v] Heap.none fun r _ => r = .bool (a.same b) := by
  induction hn : a.size using Nat.strongRecOn generalizing a with
  | ind n ih =>
  intro b hb
  subst hn
  have hz := a.size_eq
  have hl := size_len a.l
  refine Ret.by_text rfl rfl ?_
  simp -implicitDefEqProofs only [number, W_region, W_seq, Thn_normal, wOps_nil, wOps_cons, val_0, val_g, valK_eq, onPut_some, onGuard_bool, br_not, beq_false', box_0, onCells_some, boxK_eq, ev_E, ev_c, set_E, set_B, getD_B, look_cons, lookB_cons, look_nil, lookB_nil, cond_true, cond_false, Nat.reduceBEq, Nat.reduceAdd, Nat.reduceSub, Nat.reduceLeDiff, if_true, if_false, Bool.false_eq_true, true_and, List.getElem?_cons_zero, List.length_cons, List.length_nil, List.drop_zero, List.take_succ_cons, List.take_zero, AVal.eval, loadOf, cellsAt, boxOf, partOf, binOf, intOf, a26, Ex.cellsOf_v]
  intro g1 g2
  refine br_intro (fun h1 => ?_) (fun h1 => ?_)
  · simp -implicitDefEqProofs only [W_region, W_seq, W_cond, W_ret, Thn_normal, Thn_ret, wOps_nil, wOps_cons, val_0, val_g, valK_eq, onPut_some, onGuard_bool, onBool_bool, br_true, br_false, beq_false', skipK_some, ev_E, ev_c, set_E, look_cons, look_nil, cond_true, cond_false, Nat.reduceBEq, Nat.reduceAdd, Nat.reduceSub, if_true, Bool.not_true, AVal.eval, h1]
    refine post1 ?_
    simp -implicitDefEqProofs only [ev_E, look_cons, look_nil, cond_true, cond_false, Nat.reduceBEq, Nat.reduceAdd, Nat.reduceSub, Ex.same_eq, sameL_eq]
    first | (rw [all2_len (by simpa [Int.natCast_inj] using h5), Bool.and_false]) | simp_all
  simp -implicitDefEqProofs only [wOps_cons, val_0, val_g, valK_eq, onPut_some, onGuard_bool, br_true, br_not, beq_false', ev_E, ev_c, set_E, getD_B, look_cons, lookB_cons, look_nil, lookB_nil, cond_true, cond_false, Nat.reduceBEq, Nat.reduceAdd, Nat.reduceSub, Nat.reduceLeDiff, if_true, if_false, Bool.false_eq_true, Bool.not_false, List.getElem?_cons_zero, List.getElem?_cons_succ, List.length_cons, List.length_nil, List.drop_succ_cons, List.drop_zero, List.take_succ_cons, List.take_zero, AVal.eval, loadOf, cellsAt, boxOf, partOf, binOf, intOf, h1]
  refine br_intro (fun h2 => ?_) (fun h2 => ?_)
  · simp -implicitDefEqProofs only [W_region, W_seq, W_cond, W_ret, Thn_normal, Thn_ret, wOps_nil, wOps_cons, val_0, val_g, valK_eq, onPut_some, onGuard_bool, onBool_bool, br_true, br_false, beq_false', skipK_some, ev_E, ev_c, set_E, look_cons, look_nil, cond_true, cond_false, Nat.reduceBEq, Nat.reduceAdd, Nat.reduceSub, if_true, Bool.not_true, AVal.eval, h2]
    refine post1 ?_
    simp -implicitDefEqProofs only [ev_E, look_cons, look_nil, cond_true, cond_false, Nat.reduceBEq, Nat.reduceAdd, Nat.reduceSub, Ex.same_eq, sameL_eq]
    first | (rw [all2_len (by simpa [Int.natCast_inj] using h5), Bool.and_false]) | simp_all
  simp -implicitDefEqProofs only [wOps_cons, val_0, val_g, valK_eq, onPut_some, onGuard_bool, br_true, br_not, beq_false', ev_E, ev_c, set_E, getD_B, look_cons, lookB_cons, look_nil, lookB_nil, cond_true, cond_false, Nat.reduceBEq, Nat.reduceAdd, Nat.reduceSub, Nat.reduceLeDiff, if_true, if_false, Bool.false_eq_true, Bool.not_false, List.getElem?_cons_zero, List.getElem?_cons_succ, List.length_cons, List.length_nil, List.drop_succ_cons, List.drop_zero, List.take_succ_cons, List.take_zero, AVal.eval, loadOf, cellsAt, boxOf, partOf, binOf, intOf, h2]
  refine br_intro (fun h3 => ?_) (fun h3 => ?_)
  · simp -implicitDefEqProofs only [W_region, W_seq, W_cond, W_ret, Thn_normal, Thn_ret, wOps_nil, wOps_cons, val_0, val_g, valK_eq, onPut_some, onGuard_bool, onBool_bool, br_true, br_false, beq_false', skipK_some, ev_E, ev_c, set_E, look_cons, look_nil, cond_true, cond_false, Nat.reduceBEq, Nat.reduceAdd, Nat.reduceSub, if_true, Bool.not_true, AVal.eval, h3]
    refine post1 ?_
    simp -implicitDefEqProofs only [ev_E, look_cons, look_nil, cond_true, cond_false, Nat.reduceBEq, Nat.reduceAdd, Nat.reduceSub, Ex.same_eq, sameL_eq]
    first | (rw [all2_len (by simpa [Int.natCast_inj] using h5), Bool.and_false]) | simp_all
  simp -implicitDefEqProofs only [wOps_cons, val_0, val_g, valK_eq, onPut_some, onGuard_bool, br_true, br_not, beq_false', ev_E, ev_c, set_E, getD_B, look_cons, lookB_cons, look_nil, lookB_nil, cond_true, cond_false, Nat.reduceBEq, Nat.reduceAdd, Nat.reduceSub, Nat.reduceLeDiff, if_true, if_false, Bool.false_eq_true, Bool.not_false, List.getElem?_cons_zero, List.getElem?_cons_succ, List.length_cons, List.length_nil, List.drop_succ_cons, List.drop_zero, List.take_succ_cons, List.take_zero, AVal.eval, loadOf, cellsAt, boxOf, partOf, binOf, intOf, h3]
  refine br_intro (fun h4 => ?_) (fun h4 => ?_)
  · simp -implicitDefEqProofs only [W_region, W_seq, W_cond, W_ret, Thn_normal, Thn_ret, wOps_nil, wOps_cons, val_0, val_g, valK_eq, onPut_some, onGuard_bool, onBool_bool, br_true, br_false, beq_false', skipK_some, ev_E, ev_c, set_E, look_cons, look_nil, cond_true, cond_false, Nat.reduceBEq, Nat.reduceAdd, Nat.reduceSub, if_true, Bool.not_true, AVal.eval, h4]
    refine post1 ?_
    simp -implicitDefEqProofs only [ev_E, look_cons, look_nil, cond_true, cond_false, Nat.reduceBEq, Nat.reduceAdd, Nat.reduceSub, Ex.same_eq, sameL_eq]
    first | (rw [all2_len (by simpa [Int.natCast_inj] using h5), Bool.and_false]) | simp_all
  simp -implicitDefEqProofs only [W_cond, Thn_normal, wOps_nil, wOps_cons, val_0, val_g, valK_eq, onPut_some, onGuard_bool, onBool_bool, br_true, beq_false', ev_E, ev_c, set_E, getD_B, look_cons, lookB_cons, look_nil, lookB_nil, cond_true, cond_false, Nat.reduceBEq, Nat.reduceAdd, Nat.reduceSub, Nat.reduceLeDiff, if_true, if_false, Bool.false_eq_true, Bool.not_false, List.getElem?_cons_zero, List.getElem?_cons_succ, List.length_cons, List.length_nil, List.drop_succ_cons, List.drop_zero, List.take_succ_cons, List.take_nil, AVal.eval, List.length_map, loadOf, cellsAt, boxOf, partOf, binOf, intOf, h4]
  refine br_intro (fun h5 => ?_) (fun h5 => ?_)
  · simp -implicitDefEqProofs only [W_region, W_seq, W_ret, Thn_normal, Thn_ret, wOps_nil, wOps_cons, val_0, valK_eq, onPut_some, ev_c, set_E, AVal.eval, h5]
    refine post1 ?_
    simp -implicitDefEqProofs only [ev_E, look_cons, look_nil, cond_true, cond_false, Nat.reduceBEq, Nat.reduceAdd, Nat.reduceSub, Ex.same_eq, sameL_eq]
    first | (rw [all2_len (by simpa [Int.natCast_inj] using h5), Bool.and_false]) | simp_all
  simp -implicitDefEqProofs only [W_skip, W_region, W_seq, W_block, W_loop, keep_eq, Thn_normal, wOps_nil, wOps_cons, val_0, valK_eq, onPut_some, ev_c, set_E, look_cons, lookB_cons, look_nil, lookB_nil, cond_true, cond_false, Nat.reduceBEq, List.map_cons, List.map_nil, AVal.eval, h5]
  simp only [bne_eq_false_iff_eq, Int.natCast_inj] at h1 h2 h3 h4 h5
  refine Loop.rec (fun k : Nat => a.l.length - k) (fun k => ⟨E 60 [(2, .lp 2 g1 0), (3, .lp 3 g2 0), (5, .int .i64 k)], B 60 [(2, some (g1, a.cs)), (3, some (g2, b.cs))], Heap.none⟩)
    (fun k => k ≤ a.l.length ∧ a.same b = all2 Ex.same (a.l.drop k) (b.l.drop k)) ?_ 0 ⟨Nat.zero_le _, by simp [Ex.same_eq, sameL_eq, h1, h2, h3, h4]⟩ rfl
  intro k hk hi
  simp -implicitDefEqProofs only [W_region, W_seq, W_cond, Thn_normal, wOps_nil, wOps_cons, val_0, valK_eq, onPut_some, onBool_bool, ev_E, set_E, getD_B, look_cons, lookB_cons, look_nil, lookB_nil, cond_true, cond_false, Nat.reduceBEq, Nat.reduceAdd, Nat.reduceSub, Nat.reduceLeDiff, if_true, if_false, Bool.false_eq_true, List.getElem?_cons_zero, List.getElem?_cons_succ, List.length_cons, List.length_nil, List.drop_succ_cons, List.drop_zero, List.take_succ_cons, List.take_nil, AVal.eval, List.length_map, loadOf, cellsAt, boxOf, partOf, binOf, intOf, Ex.cs]
  refine br_intro (fun h6 => ?_) (fun h6 => ?_)
  · have h7 : k < a.l.length := by simpa using h6
    obtain ⟨x, hx⟩ : ∃ x, a.l[k]? = some x := ⟨_, List.getElem?_eq_getElem h7⟩
    obtain ⟨y, hy⟩ : ∃ y, b.l[k]? = some y := ⟨_, List.getElem?_eq_getElem (h5 ▸ h7)⟩
    have hs := size_mem hx
    simp -implicitDefEqProofs only [W_skip, W_region, W_seq, W_block, Thn_normal, wOps_cons, val_0, valK_eq, onPut_some, call_0, callK_eq, ev_E, set_E, getD_B, look_cons, lookB_cons, look_nil, lookB_nil, cond_true, cond_false, Nat.reduceBEq, Nat.reduceAdd, Nat.reduceSub, Nat.reduceLeDiff, if_true, if_false, Bool.false_eq_true, and_self, List.getElem?_cons_zero, List.getElem?_cons_succ, List.length_cons, List.length_nil, List.drop_succ_cons, List.drop_zero, List.take_succ_cons, List.take_nil, List.map_cons, List.map_nil, AVal.eval, nat_le, Int.toNat_natCast, List.getElem?_map, Option.map_some, loadOf, cellsAt, boxOf, partOf, hx, hy, x.cells_eq, y.cells_eq, Ex.fold]
    first | refine callOk_pure (ih _ (by omega) x rfl y (by omega)) ?_ | refine callPure_pure (ih _ (by omega) x rfl y (by omega)) ?_
    simp -implicitDefEqProofs only [W_cond, Thn_normal, wOps_nil, wOps_cons, val_0, valK_eq, onPut_some, onBool_bool, br_not, retK_some, ev_E, set_E, look_cons, look_nil, cond_true, cond_false, Nat.reduceBEq, Nat.reduceAdd, Nat.reduceSub, AVal.eval, unOf]
    refine br_intro (fun h8 => ?_) (fun h8 => ?_)
    · simp -implicitDefEqProofs only [W_skip, W_region, Again_normal, keep_eq, Thn_normal, Bl_normal, wOps_nil, wOps_cons, val_0, valK_eq, onPut_some, ev_E, ev_c, set_E, look_cons, lookB_cons, look_nil, lookB_nil, cond_true, cond_false, Nat.reduceBEq, Nat.reduceAdd, Nat.reduceSub, if_true, List.map_cons, List.map_nil, AVal.eval, binOf, intOf, wrap_succ (show k < 9223372036854775807 by omega)]
      exact hi (k + 1) (by omega) ⟨by omega, by rw [hk.2, all2_drop hx hy, h8, Bool.true_and]⟩
    · simp -implicitDefEqProofs only [W_region, W_seq, W_ret, Again_ret, Thn_normal, Thn_ret, Bl_ret, wOps_nil, wOps_cons, val_0, valK_eq, onPut_some, ev_c, set_E, AVal.eval]
      refine post1 ?_
      simp -implicitDefEqProofs only [ev_E, look_cons, look_nil, cond_true, cond_false, Nat.reduceBEq, Nat.reduceAdd, Nat.reduceSub]
      rw [hk.2, all2_drop hx hy, h8, Bool.false_and]
  · simp -implicitDefEqProofs only [W_region, W_seq, W_exit, W_ret, Again_exit, Thn_normal, Thn_exit, Bl_exit, wOps_nil, wOps_cons, val_0, valK_eq, onPut_some, ev_c, set_E, cond_true, Nat.reduceBEq, AVal.eval]
    refine post1 ?_
    simp -implicitDefEqProofs only [ev_E, look_cons, look_nil, cond_true, cond_false, Nat.reduceBEq, Nat.reduceAdd, Nat.reduceSub]
    have h7 : ¬ k < a.l.length := by simpa using h6
    rw [hk.2, all2_end (by omega) h5]

theorem same33 (a : Ex) : ∀ (b : Ex), a.size < 4611686018427387904 → Ret prog 33 [a.v, b.v] Heap.none fun r _ => r = .bool (a.same b) := by
  induction hn : a.size using Nat.strongRecOn generalizing a with
  | ind n ih =>
  intro b hb
  subst hn
  have hz := a.size_eq
  have hl := size_len a.l
  refine Ret.by_text rfl rfl ?_
  simp -implicitDefEqProofs only [number, W_region, W_seq, Thn_normal, wOps_nil, wOps_cons, val_0, val_g, valK_eq, onPut_some, onGuard_bool, br_not, beq_false', box_0, onCells_some, boxK_eq, ev_E, ev_c, set_E, set_B, getD_B, look_cons, lookB_cons, look_nil, lookB_nil, cond_true, cond_false, Nat.reduceBEq, Nat.reduceAdd, Nat.reduceSub, Nat.reduceLeDiff, if_true, if_false, Bool.false_eq_true, true_and, List.getElem?_cons_zero, List.length_cons, List.length_nil, List.drop_zero, List.take_succ_cons, List.take_zero, AVal.eval, loadOf, cellsAt, boxOf, partOf, binOf, intOf, a33, Ex.cellsOf_v]
  intro g1 g2
  refine br_intro (fun h1 => ?_) (fun h1 => ?_)
  · simp -implicitDefEqProofs only [W_region, W_seq, W_cond, W_ret, Thn_normal, Thn_ret, wOps_nil, wOps_cons, val_0, val_g, valK_eq, onPut_some, onGuard_bool, onBool_bool, br_true, br_false, beq_false', skipK_some, ev_E, ev_c, set_E, look_cons, look_nil, cond_true, cond_false, Nat.reduceBEq, Nat.reduceAdd, Nat.reduceSub, if_true, Bool.not_true, AVal.eval, h1]
    refine post1 ?_
    simp -implicitDefEqProofs only [ev_E, look_cons, look_nil, cond_true, cond_false, Nat.reduceBEq, Nat.reduceAdd, Nat.reduceSub, Ex.same_eq, sameL_eq]
    first | (rw [all2_len (by simpa [Int.natCast_inj] using h5), Bool.and_false]) | simp_all
  simp -implicitDefEqProofs only [wOps_cons, val_0, val_g, valK_eq, onPut_some, onGuard_bool, br_true, br_not, beq_false', ev_E, ev_c, set_E, getD_B, look_cons, lookB_cons, look_nil, lookB_nil, cond_true, cond_false, Nat.reduceBEq, Nat.reduceAdd, Nat.reduceSub, Nat.reduceLeDiff, if_true, if_false, Bool.false_eq_true, Bool.not_false, List.getElem?_cons_zero, List.getElem?_cons_succ, List.length_cons, List.length_nil, List.drop_succ_cons, List.drop_zero, List.take_succ_cons, List.take_zero, AVal.eval, loadOf, cellsAt, boxOf, partOf, binOf, intOf, h1]
  refine br_intro (fun h2 => ?_) (fun h2 => ?_)
  · simp -implicitDefEqProofs only [W_region, W_seq, W_cond, W_ret, Thn_normal, Thn_ret, wOps_nil, wOps_cons, val_0, val_g, valK_eq, onPut_some, onGuard_bool, onBool_bool, br_true, br_false, beq_false', skipK_some, ev_E, ev_c, set_E, look_cons, look_nil, cond_true, cond_false, Nat.reduceBEq, Nat.reduceAdd, Nat.reduceSub, if_true, Bool.not_true, AVal.eval, h2]
    refine post1 ?_
    simp -implicitDefEqProofs only [ev_E, look_cons, look_nil, cond_true, cond_false, Nat.reduceBEq, Nat.reduceAdd, Nat.reduceSub, Ex.same_eq, sameL_eq]
    first | (rw [all2_len (by simpa [Int.natCast_inj] using h5), Bool.and_false]) | simp_all
  simp -implicitDefEqProofs only [wOps_cons, val_0, val_g, valK_eq, onPut_some, onGuard_bool, br_true, br_not, beq_false', ev_E, ev_c, set_E, getD_B, look_cons, lookB_cons, look_nil, lookB_nil, cond_true, cond_false, Nat.reduceBEq, Nat.reduceAdd, Nat.reduceSub, Nat.reduceLeDiff, if_true, if_false, Bool.false_eq_true, Bool.not_false, List.getElem?_cons_zero, List.getElem?_cons_succ, List.length_cons, List.length_nil, List.drop_succ_cons, List.drop_zero, List.take_succ_cons, List.take_zero, AVal.eval, loadOf, cellsAt, boxOf, partOf, binOf, intOf, h2]
  refine br_intro (fun h3 => ?_) (fun h3 => ?_)
  · simp -implicitDefEqProofs only [W_region, W_seq, W_cond, W_ret, Thn_normal, Thn_ret, wOps_nil, wOps_cons, val_0, val_g, valK_eq, onPut_some, onGuard_bool, onBool_bool, br_true, br_false, beq_false', skipK_some, ev_E, ev_c, set_E, look_cons, look_nil, cond_true, cond_false, Nat.reduceBEq, Nat.reduceAdd, Nat.reduceSub, if_true, Bool.not_true, AVal.eval, h3]
    refine post1 ?_
    simp -implicitDefEqProofs only [ev_E, look_cons, look_nil, cond_true, cond_false, Nat.reduceBEq, Nat.reduceAdd, Nat.reduceSub, Ex.same_eq, sameL_eq]
    first | (rw [all2_len (by simpa [Int.natCast_inj] using h5), Bool.and_false]) | simp_all
  simp -implicitDefEqProofs only [wOps_cons, val_0, val_g, valK_eq, onPut_some, onGuard_bool, br_true, br_not, beq_false', ev_E, ev_c, set_E, getD_B, look_cons, lookB_cons, look_nil, lookB_nil, cond_true, cond_false, Nat.reduceBEq, Nat.reduceAdd, Nat.reduceSub, Nat.reduceLeDiff, if_true, if_false, Bool.false_eq_true, Bool.not_false, List.getElem?_cons_zero, List.getElem?_cons_succ, List.length_cons, List.length_nil, List.drop_succ_cons, List.drop_zero, List.take_succ_cons, List.take_zero, AVal.eval, loadOf, cellsAt, boxOf, partOf, binOf, intOf, h3]
  refine br_intro (fun h4 => ?_) (fun h4 => ?_)
  · simp -implicitDefEqProofs only [W_region, W_seq, W_cond, W_ret, Thn_normal, Thn_ret, wOps_nil, wOps_cons, val_0, val_g, valK_eq, onPut_some, onGuard_bool, onBool_bool, br_true, br_false, beq_false', skipK_some, ev_E, ev_c, set_E, look_cons, look_nil, cond_true, cond_false, Nat.reduceBEq, Nat.reduceAdd, Nat.reduceSub, if_true, Bool.not_true, AVal.eval, h4]
    refine post1 ?_
    simp -implicitDefEqProofs only [ev_E, look_cons, look_nil, cond_true, cond_false, Nat.reduceBEq, Nat.reduceAdd, Nat.reduceSub, Ex.same_eq, sameL_eq]
    first | (rw [all2_len (by simpa [Int.natCast_inj] using h5), Bool.and_false]) | simp_all
  simp -implicitDefEqProofs only [W_cond, Thn_normal, wOps_nil, wOps_cons, val_0, val_g, valK_eq, onPut_some, onGuard_bool, onBool_bool, br_true, beq_false', ev_E, ev_c, set_E, getD_B, look_cons, lookB_cons, look_nil, lookB_nil, cond_true, cond_false, Nat.reduceBEq, Nat.reduceAdd, Nat.reduceSub, Nat.reduceLeDiff, if_true, if_false, Bool.false_eq_true, Bool.not_false, List.getElem?_cons_zero, List.getElem?_cons_succ, List.length_cons, List.length_nil, List.drop_succ_cons, List.drop_zero, List.take_succ_cons, List.take_nil, AVal.eval, List.length_map, loadOf, cellsAt, boxOf, partOf, binOf, intOf, h4]
  refine br_intro (fun h5 => ?_) (fun h5 => ?_)
  · simp -implicitDefEqProofs only [W_region, W_seq, W_ret, Thn_normal, Thn_ret, wOps_nil, wOps_cons, val_0, valK_eq, onPut_some, ev_c, set_E, AVal.eval, h5]
    refine post1 ?_
    simp -implicitDefEqProofs only [ev_E, look_cons, look_nil, cond_true, cond_false, Nat.reduceBEq, Nat.reduceAdd, Nat.reduceSub, Ex.same_eq, sameL_eq]
    first | (rw [all2_len (by simpa [Int.natCast_inj] using h5), Bool.and_false]) | simp_all
  simp -implicitDefEqProofs only [W_skip, W_region, W_seq, W_block, W_loop, keep_eq, Thn_normal, wOps_nil, wOps_cons, val_0, valK_eq, onPut_some, ev_E, ev_c, set_E, getD_B, look_cons, lookB_cons, look_nil, lookB_nil, cond_true, cond_false, Nat.reduceBEq, Nat.reduceAdd, Nat.reduceSub, Nat.reduceLeDiff, if_true, if_false, Bool.false_eq_true, List.getElem?_cons_zero, List.getElem?_cons_succ, List.length_cons, List.length_nil, List.drop_succ_cons, List.drop_zero, List.take_succ_cons, List.take_nil, List.map_cons, List.map_nil, AVal.eval, List.length_map, loadOf, cellsAt, boxOf, partOf, h5]
  simp only [bne_eq_false_iff_eq, Int.natCast_inj] at h1 h2 h3 h4 h5
  refine Loop.rec (fun k : Nat => a.l.length - k) (fun k => ⟨E 60 [(2, .lp 2 g1 0), (3, .lp 3 g2 0), (43, .int .i64 a.l.length), (44, .int .i64 k)], B 60 [(2, some (g1, a.cs)), (3, some (g2, b.cs))], Heap.none⟩)
    (fun k => k ≤ a.l.length ∧ a.same b = all2 Ex.same (a.l.drop k) (b.l.drop k)) ?_ 0 ⟨Nat.zero_le _, by simp [Ex.same_eq, sameL_eq, h1, h2, h3, h4]⟩ rfl
  intro k hk hi
  simp -implicitDefEqProofs only [W_region, W_seq, W_cond, Thn_normal, wOps_nil, wOps_cons, val_0, valK_eq, onPut_some, onBool_bool, ev_E, set_E, look_cons, look_nil, cond_true, cond_false, Nat.reduceBEq, Nat.reduceAdd, Nat.reduceSub, if_true, AVal.eval, binOf, intOf, Ex.cs]
  refine br_intro (fun h6 => ?_) (fun h6 => ?_)
  · have h7 : k < a.l.length := by simpa using h6
    obtain ⟨x, hx⟩ : ∃ x, a.l[k]? = some x := ⟨_, List.getElem?_eq_getElem h7⟩
    obtain ⟨y, hy⟩ : ∃ y, b.l[k]? = some y := ⟨_, List.getElem?_eq_getElem (h5 ▸ h7)⟩
    have hs := size_mem hx
    simp -implicitDefEqProofs only [W_skip, W_region, W_seq, W_block, Thn_normal, wOps_nil, wOps_cons, val_0, valK_eq, onPut_some, call_0, callK_eq, ev_E, set_E, getD_B, look_cons, lookB_cons, look_nil, lookB_nil, cond_true, cond_false, Nat.reduceBEq, Nat.reduceAdd, Nat.reduceSub, Nat.reduceLeDiff, if_true, if_false, Bool.false_eq_true, and_self, List.getElem?_cons_zero, List.getElem?_cons_succ, List.length_cons, List.length_nil, List.drop_succ_cons, List.drop_zero, List.take_succ_cons, List.take_nil, List.map_cons, List.map_nil, AVal.eval, nat_le, Int.toNat_natCast, List.getElem?_map, Option.map_some, loadOf, cellsAt, boxOf, partOf, hx, hy, x.cells_eq, y.cells_eq, Ex.fold]
    first | refine callOk_pure (ih _ (by omega) x rfl y (by omega)) ?_ | refine callPure_pure (ih _ (by omega) x rfl y (by omega)) ?_
    simp -implicitDefEqProofs only [W_cond, Thn_normal, wOps_nil, wOps_cons, val_0, valK_eq, onPut_some, onBool_bool, br_not, retK_some, ev_E, set_E, look_cons, look_nil, cond_true, cond_false, Nat.reduceBEq, Nat.reduceAdd, Nat.reduceSub, AVal.eval, unOf]
    refine br_intro (fun h8 => ?_) (fun h8 => ?_)
    · simp -implicitDefEqProofs only [W_skip, W_region, Again_normal, keep_eq, Thn_normal, Bl_normal, wOps_nil, wOps_cons, val_0, valK_eq, onPut_some, ev_E, ev_c, set_E, look_cons, lookB_cons, look_nil, lookB_nil, cond_true, cond_false, Nat.reduceBEq, Nat.reduceAdd, Nat.reduceSub, if_true, List.map_cons, List.map_nil, AVal.eval, binOf, intOf, wrap_succ (show k < 9223372036854775807 by omega)]
      exact hi (k + 1) (by omega) ⟨by omega, by rw [hk.2, all2_drop hx hy, h8, Bool.true_and]⟩
    · simp -implicitDefEqProofs only [W_region, W_seq, W_ret, Again_ret, Thn_normal, Thn_ret, Bl_ret, wOps_nil, wOps_cons, val_0, valK_eq, onPut_some, ev_c, set_E, AVal.eval]
      refine post1 ?_
      simp -implicitDefEqProofs only [ev_E, look_cons, look_nil, cond_true, cond_false, Nat.reduceBEq, Nat.reduceAdd, Nat.reduceSub]
      rw [hk.2, all2_drop hx hy, h8, Bool.false_and]
  · simp -implicitDefEqProofs only [W_region, W_seq, W_exit, W_ret, Again_exit, Thn_normal, Thn_exit, Bl_exit, wOps_nil, wOps_cons, val_0, valK_eq, onPut_some, ev_c, set_E, cond_true, Nat.reduceBEq, AVal.eval]
    refine post1 ?_
    simp -implicitDefEqProofs only [ev_E, look_cons, look_nil, cond_true, cond_false, Nat.reduceBEq, Nat.reduceAdd, Nat.reduceSub]
    have h7 : ¬ k < a.l.length := by simpa using h6
    rw [hk.2, all2_end (by omega) h5]

theorem ints28 (a b : List Int) (hb : a.length < 4611686018427387904) : Ret prog 28 [intsV a, intsV b] Heap.none fun r _ => r = .bool (all2 (fun x y => x == y) a b) := by
  refine Ret.by_text rfl rfl ?_
  simp -implicitDefEqProofs only [number, W_region, W_seq, W_cond, Thn_normal, wOps_nil, wOps_cons, val_0, valK_eq, onPut_some, onBool_bool, ev_E, ev_c, set_E, look_cons, look_nil, cond_true, cond_false, Nat.reduceBEq, Nat.reduceAdd, Nat.reduceSub, if_true, AVal.eval, List.length_map, binOf, intOf, a28, intsV]
  refine br_intro (fun h5 => ?_) (fun h5 => ?_)
  · simp -implicitDefEqProofs only [W_region, W_seq, W_ret, Thn_normal, Thn_ret, wOps_nil, wOps_cons, val_0, valK_eq, onPut_some, ev_c, set_E, AVal.eval, h5]
    refine post1 ?_
    simp -implicitDefEqProofs only [ev_E, look_cons, look_nil, cond_true, cond_false, Nat.reduceBEq, Nat.reduceAdd, Nat.reduceSub]
    rw [all2_len (by simpa [Int.natCast_inj] using h5)]
  simp -implicitDefEqProofs only [W_skip, W_region, W_seq, W_block, W_loop, keep_eq, Thn_normal, wOps_nil, wOps_cons, val_0, valK_eq, onPut_some, ev_c, set_E, look_cons, look_nil, lookB_nil, cond_true, cond_false, Nat.reduceBEq, List.map_cons, List.map_nil, AVal.eval, h5]
  simp only [bne_eq_false_iff_eq, Int.natCast_inj] at h5
  refine Loop.rec (fun k : Nat => a.length - k) (fun k => ⟨E 26 [(0, intsV a), (1, intsV b), (5, .int .i64 k)], B 26 [], Heap.none⟩)
    (fun k => k ≤ a.length ∧ all2 (fun x y => x == y) a b = all2 (fun x y => x == y) (a.drop k) (b.drop k)) ?_ 0 ⟨Nat.zero_le _, rfl⟩ rfl
  intro k hk hi
  simp -implicitDefEqProofs only [W_region, W_seq, W_cond, Thn_normal, wOps_nil, wOps_cons, val_0, valK_eq, onPut_some, onBool_bool, ev_E, set_E, look_cons, look_nil, cond_true, cond_false, Nat.reduceBEq, Nat.reduceAdd, Nat.reduceSub, if_true, AVal.eval, List.length_map, binOf, intOf, intsV]
  refine br_intro (fun h6 => ?_) (fun h6 => ?_)
  · have h7 : k < a.length := by simpa using h6
    obtain ⟨x, hx⟩ : ∃ x, a[k]? = some x := ⟨_, List.getElem?_eq_getElem h7⟩
    obtain ⟨y, hy⟩ : ∃ y, b[k]? = some y := ⟨_, List.getElem?_eq_getElem (h5 ▸ h7)⟩
    simp -implicitDefEqProofs only [W_skip, W_region, W_seq, W_cond, W_block, Thn_normal, wOps_nil, wOps_cons, val_0, valK_eq, onPut_some, onBool_bool, ev_E, set_E, look_cons, look_nil, cond_true, cond_false, Nat.reduceBEq, Nat.reduceAdd, Nat.reduceSub, Nat.reduceLeDiff, if_true, if_false, Bool.false_eq_true, and_self, List.getElem?_cons_zero, List.length_cons, List.length_nil, List.drop_zero, List.take_succ_cons, List.take_nil, AVal.eval, nat_le, Int.toNat_natCast, List.getElem?_map, Option.map_some, loadOf, cellsAt, partOf, binOf, intOf, hx, hy, intC]
    refine br_intro (fun h8 => ?_) (fun h8 => ?_)
    · simp -implicitDefEqProofs only [W_region, W_seq, W_ret, Again_ret, Thn_normal, Thn_ret, Bl_ret, wOps_nil, wOps_cons, val_0, valK_eq, onPut_some, ev_c, set_E, AVal.eval, h8]
      refine post1 ?_
      simp -implicitDefEqProofs only [ev_E, look_cons, look_nil, cond_true, cond_false, Nat.reduceBEq, Nat.reduceAdd, Nat.reduceSub]
      rw [hk.2, all2_drop hx hy, show (x == y) = false by simpa [bne] using h8, Bool.false_and]
    · simp -implicitDefEqProofs only [W_skip, W_region, Again_normal, keep_eq, Thn_normal, Bl_normal, wOps_nil, wOps_cons, val_0, valK_eq, onPut_some, ev_E, ev_c, set_E, look_cons, look_nil, lookB_nil, cond_true, cond_false, Nat.reduceBEq, Nat.reduceAdd, Nat.reduceSub, if_true, List.map_cons, List.map_nil, AVal.eval, binOf, intOf, h8, wrap_succ (show k < 9223372036854775807 by omega)]
      exact hi (k + 1) (by omega) ⟨by omega, by rw [hk.2, all2_drop hx hy, show (x == y) = true by simpa [bne] using h8, Bool.true_and]⟩
  · simp -implicitDefEqProofs only [W_region, W_seq, W_exit, W_ret, Again_exit, Thn_normal, Thn_exit, Bl_exit, wOps_nil, wOps_cons, val_0, valK_eq, onPut_some, ev_c, set_E, cond_true, Nat.reduceBEq, AVal.eval]
    refine post1 ?_
    simp -implicitDefEqProofs only [ev_E, look_cons, look_nil, cond_true, cond_false, Nat.reduceBEq, Nat.reduceAdd, Nat.reduceSub]
    have h7 : ¬ k < a.length := by simpa using h6
    rw [hk.2, all2_end (by omega) h5]

theorem exprs27 (a b : List Ex) (hb : sizeL a < 4611686018427387904) : Ret prog 27 [exsV a, exsV b] Heap.none fun r _ => r = .bool (all2 Ex.same a b) := by
  have hl := size_len a
  refine Ret.by_text rfl rfl ?_
  simp -implicitDefEqProofs only [number, W_region, W_seq, W_cond, Thn_normal, wOps_nil, wOps_cons, val_0, valK_eq, onPut_some, onBool_bool, ev_E, ev_c, set_E, look_cons, look_nil, cond_true, cond_false, Nat.reduceBEq, Nat.reduceAdd, Nat.reduceSub, if_true, AVal.eval, List.length_map, binOf, intOf, a27, exsV]
  refine br_intro (fun h5 => ?_) (fun h5 => ?_)
  · simp -implicitDefEqProofs only [W_region, W_seq, W_ret, Thn_normal, Thn_ret, wOps_nil, wOps_cons, val_0, valK_eq, onPut_some, ev_c, set_E, AVal.eval, h5]
    refine post1 ?_
    simp -implicitDefEqProofs only [ev_E, look_cons, look_nil, cond_true, cond_false, Nat.reduceBEq, Nat.reduceAdd, Nat.reduceSub]
    rw [all2_len (by simpa [Int.natCast_inj] using h5)]
  simp -implicitDefEqProofs only [W_skip, W_region, W_seq, W_block, W_loop, keep_eq, Thn_normal, wOps_nil, wOps_cons, val_0, valK_eq, onPut_some, ev_c, set_E, look_cons, look_nil, lookB_nil, cond_true, cond_false, Nat.reduceBEq, List.map_cons, List.map_nil, AVal.eval, h5]
  simp only [bne_eq_false_iff_eq, Int.natCast_inj] at h5
  refine Loop.rec (fun k : Nat => a.length - k) (fun k => ⟨E 27 [(0, exsV a), (1, exsV b), (5, .int .i64 k)], B 27 [], Heap.none⟩)
    (fun k => k ≤ a.length ∧ all2 Ex.same a b = all2 Ex.same (a.drop k) (b.drop k)) ?_ 0 ⟨Nat.zero_le _, rfl⟩ rfl
  intro k hk hi
  simp -implicitDefEqProofs only [W_region, W_seq, W_cond, Thn_normal, wOps_nil, wOps_cons, val_0, valK_eq, onPut_some, onBool_bool, ev_E, set_E, look_cons, look_nil, cond_true, cond_false, Nat.reduceBEq, Nat.reduceAdd, Nat.reduceSub, if_true, AVal.eval, List.length_map, binOf, intOf, exsV]
  refine br_intro (fun h6 => ?_) (fun h6 => ?_)
  · have h7 : k < a.length := by simpa using h6
    obtain ⟨x, hx⟩ : ∃ x, a[k]? = some x := ⟨_, List.getElem?_eq_getElem h7⟩
    obtain ⟨y, hy⟩ : ∃ y, b[k]? = some y := ⟨_, List.getElem?_eq_getElem (h5 ▸ h7)⟩
    have hs := size_mem hx
    simp -implicitDefEqProofs only [W_skip, W_region, W_seq, W_block, Thn_normal, wOps_cons, val_0, valK_eq, onPut_some, call_0, callK_eq, ev_E, set_E, look_cons, look_nil, cond_true, cond_false, Nat.reduceBEq, Nat.reduceAdd, Nat.reduceSub, Nat.reduceLeDiff, if_true, and_self, List.getElem?_cons_zero, List.length_cons, List.length_nil, List.drop_zero, List.take_succ_cons, List.take_nil, List.map_cons, List.map_nil, AVal.eval, nat_le, Int.toNat_natCast, List.getElem?_map, Option.map_some, loadOf, cellsAt, partOf, hx, hy, x.cells_eq, y.cells_eq, Ex.fold]
    refine callOk_pure (same26 x y (by omega)) ?_
    simp -implicitDefEqProofs only [W_cond, Thn_normal, wOps_nil, wOps_cons, val_0, valK_eq, onPut_some, onBool_bool, br_not, retK_some, ev_E, set_E, look_cons, look_nil, cond_true, cond_false, Nat.reduceBEq, Nat.reduceAdd, Nat.reduceSub, AVal.eval, unOf]
    refine br_intro (fun h8 => ?_) (fun h8 => ?_)
    · simp -implicitDefEqProofs only [W_skip, W_region, Again_normal, keep_eq, Thn_normal, Bl_normal, wOps_nil, wOps_cons, val_0, valK_eq, onPut_some, ev_E, ev_c, set_E, look_cons, look_nil, lookB_nil, cond_true, cond_false, Nat.reduceBEq, Nat.reduceAdd, Nat.reduceSub, if_true, List.map_cons, List.map_nil, AVal.eval, binOf, intOf, wrap_succ (show k < 9223372036854775807 by omega)]
      exact hi (k + 1) (by omega) ⟨by omega, by rw [hk.2, all2_drop hx hy, h8, Bool.true_and]⟩
    · simp -implicitDefEqProofs only [W_region, W_seq, W_ret, Again_ret, Thn_normal, Thn_ret, Bl_ret, wOps_nil, wOps_cons, val_0, valK_eq, onPut_some, ev_c, set_E, AVal.eval]
      refine post1 ?_
      simp -implicitDefEqProofs only [ev_E, look_cons, look_nil, cond_true, cond_false, Nat.reduceBEq, Nat.reduceAdd, Nat.reduceSub]
      rw [hk.2, all2_drop hx hy, h8, Bool.false_and]
  · simp -implicitDefEqProofs only [W_region, W_seq, W_exit, W_ret, Again_exit, Thn_normal, Thn_exit, Bl_exit, wOps_nil, wOps_cons, val_0, valK_eq, onPut_some, ev_c, set_E, cond_true, Nat.reduceBEq, AVal.eval]
    refine post1 ?_
    simp -implicitDefEqProofs only [ev_E, look_cons, look_nil, cond_true, cond_false, Nat.reduceBEq, Nat.reduceAdd, Nat.reduceSub]
    have h7 : ¬ k < a.length := by simpa using h6
    rw [hk.2, all2_end (by omega) h5]
end TryT
end Go.Abs
