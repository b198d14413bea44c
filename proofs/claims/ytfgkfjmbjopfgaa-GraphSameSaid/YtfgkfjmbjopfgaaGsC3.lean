/-
  Contracts: are there few statements?
-/
import Derived.Test.YtfgkfjmbjopfgaaGsC2
set_option linter.unusedVariables false
set_option linter.unusedSimpArgs false
set_option maxRecDepth 100000
namespace Go.Abs
open Go

mutual
def St.cnt : St → Nat
  | .mk _ _ _ _ _ _ _ _ body els arms => 1 + cntL body + cntL els + cntA arms
def cntL : List St → Nat
  | [] => 0
  | x :: l => x.cnt + cntL l
def Am.cnt : Am → Nat
  | .mk _ body => cntL body
def cntA : List Am → Nat
  | [] => 0
  | x :: l => x.cnt + cntA l
end
theorem St.cnt_eq (x : St) : x.cnt = 1 + cntL x.body + cntL x.els + cntA x.arms := by cases x; rfl
theorem Am.cnt_eq (x : Am) : x.cnt = cntL x.body := by cases x; rfl
theorem cnt_drop {l : List St} {k : Nat} {x : St} (h : l[k]? = some x) : cntL (l.drop k) = x.cnt + cntL (l.drop (k + 1)) := by
  obtain ⟨a, e1⟩ := List.getElem?_eq_some_iff.1 h
  rw [List.drop_eq_getElem_cons a, e1]; rfl
theorem cntA_drop {l : List Am} {k : Nat} {x : Am} (h : l[k]? = some x) : cntA (l.drop k) = x.cnt + cntA (l.drop (k + 1)) := by
  obtain ⟨a, e1⟩ := List.getElem?_eq_some_iff.1 h
  rw [List.drop_eq_getElem_cons a, e1]; rfl
theorem cnt_take (l : List St) : ∀ (k : Nat), k ≤ l.length → k + cntL (l.drop k) ≤ cntL l := by
  induction l with
  | nil => intro k h; simp at h; subst h; simp [cntL]
  | cons x l ih =>
    intro k h
    cases k with
    | zero => simp
    | succ k => have := ih k (by simpa using h); have := x.cnt_eq; simp [cntL]; omega

theorem cntA_le (l : List Am) : ∀ (k : Nat), cntA (l.drop k) ≤ cntA l := by
  induction l with
  | nil => intro k; simp
  | cons x l ih =>
    intro k
    cases k with
    | zero => simp
    | succ k => have := ih k; simp [cntA]; omega

/-- What a statement has by itself is small. -/
structure St.Flat (x : St) : Prop where
  e : x.e.size ≤ 100
  i : x.i.size ≤ 100
  ll : x.l.length ≤ 20
  l : ∀ y ∈ x.l, y.size ≤ 100
  al : x.args.length ≤ 20
  a : ∀ y ∈ x.args, y.e.size ≤ 100
  rl : x.arms.length ≤ 60
def St.Small : Nat → St → Prop
  | 0, _ => False
  | d + 1, x => x.Flat ∧ (∀ y ∈ x.body, St.Small d y) ∧ (∀ y ∈ x.els, St.Small d y) ∧ ∀ a ∈ x.arms, a.labels.length ≤ 300 ∧ ∀ y ∈ a.body, St.Small d y

namespace TryT
/-- What 'room' tells. -/
def Room (d : Nat) (l : List St) (most : Int) (v : V) : Prop := ∃ r : Int, v = .int .i64 r ∧ -1 ≤ r ∧ (0 ≤ r → (cntL l : Int) + r ≤ most ∧ ∀ x ∈ l, St.Small d x)

theorem room18 : ∀ (deep : Nat) (l : List St) (most : Int), deep ≤ 1000 → -1 ≤ most → most ≤ 1073741824 → Ret prog 18 [stsV l, .int .i64 most, .int .i64 deep] Heap.none fun r _ => Room deep l most r := by
  intro deep
  induction deep with
  | zero =>
    intro l most hd h1 h2
    refine Ret.by_text rfl rfl ?_
    simp -implicitDefEqProofs only [number, W_region, W_seq, Thn_normal, wOps_nil, wOps_cons, val_0, val_g, valK_eq, onPut_some, onGuard_bool, br_not, beq_false', ev_E, ev_c, set_E, look_cons, look_nil, cond_true, cond_false, Nat.reduceBEq, Nat.reduceAdd, Nat.reduceSub, if_true, AVal.eval, List.length_map, binOf, intOf, a18, stsV]
    refine br_intro (fun h3 => ?_) (fun h3 => ?_)
    · simp -implicitDefEqProofs only [W_region, W_seq, W_cond, W_ret, Thn_normal, Thn_ret, wOps_nil, wOps_cons, val_0, val_g, valK_eq, onPut_some, onGuard_bool, onBool_bool, br_true, br_false, beq_false', skipK_some, ev_E, ev_c, set_E, look_cons, look_nil, cond_true, cond_false, Nat.reduceBEq, Nat.reduceAdd, Nat.reduceSub, if_true, Bool.not_true, AVal.eval, h3]
      refine post1 ?_
      simp -implicitDefEqProofs only [ev_E, look_cons, look_nil, cond_true, cond_false, Nat.reduceBEq, Nat.reduceAdd, Nat.reduceSub]
      exact ⟨-1, rfl, by omega, by omega⟩
    · simp -implicitDefEqProofs only [W_region, W_seq, W_cond, W_ret, Thn_normal, Thn_ret, wOps_nil, wOps_cons, val_0, val_g, valK_eq, onPut_some, onGuard_bool, onBool_bool, br_true, beq_false', ev_E, ev_c, set_E, look_cons, look_nil, cond_true, cond_false, Nat.reduceBEq, Nat.reduceAdd, Nat.reduceSub, if_true, if_false, Bool.false_eq_true, Bool.not_false, AVal.eval, binOf, intOf, h3, show (decide (((0 : Nat) : Int) < 1)) = true from rfl]
      refine post1 ?_
      simp -implicitDefEqProofs only [ev_E, look_cons, look_nil, cond_true, cond_false, Nat.reduceBEq, Nat.reduceAdd, Nat.reduceSub]
      exact ⟨-1, rfl, by omega, by omega⟩
  | succ d ih =>
    intro l most hd h1 h2
    refine Ret.by_text rfl rfl ?_
    have h5 : decide (((d + 1 : Nat) : Int) < 1) = false := by simp; omega
    simp -implicitDefEqProofs only [number, W_region, W_seq, Thn_normal, wOps_nil, wOps_cons, val_0, val_g, valK_eq, onPut_some, onGuard_bool, br_not, beq_false', ev_E, ev_c, set_E, look_cons, look_nil, cond_true, cond_false, Nat.reduceBEq, Nat.reduceAdd, Nat.reduceSub, if_true, AVal.eval, List.length_map, binOf, intOf, a18, stsV]
    refine br_intro (fun h3 => ?_) (fun h3 => ?_)
    · simp -implicitDefEqProofs only [W_region, W_seq, W_cond, W_ret, Thn_normal, Thn_ret, wOps_nil, wOps_cons, val_0, val_g, valK_eq, onPut_some, onGuard_bool, onBool_bool, br_true, br_false, beq_false', skipK_some, ev_E, ev_c, set_E, look_cons, look_nil, cond_true, cond_false, Nat.reduceBEq, Nat.reduceAdd, Nat.reduceSub, if_true, Bool.not_true, AVal.eval, h3]
      refine post1 ?_
      simp -implicitDefEqProofs only [ev_E, look_cons, look_nil, cond_true, cond_false, Nat.reduceBEq, Nat.reduceAdd, Nat.reduceSub]
      exact ⟨-1, rfl, by omega, by omega⟩
    · have h4 : (l.length : Int) ≤ most := by simpa using h3
      simp -implicitDefEqProofs only [W_skip, W_region, W_seq, W_cond, W_block, W_loop, keep_eq, Thn_normal, wOps_nil, wOps_cons, val_0, val_g, valK_eq, onPut_some, onGuard_bool, onBool_bool, br_true, br_false, beq_false', ev_E, ev_c, set_E, look_cons, look_nil, lookB_nil, cond_true, cond_false, Nat.reduceBEq, Nat.reduceAdd, Nat.reduceSub, if_true, if_false, Bool.false_eq_true, Bool.not_false, List.map_cons, List.map_nil, AVal.eval, binOf, intOf, h3, h5]
      refine Loop.rec (α := Int × Nat) (fun k => l.length - k.2) (fun k => ⟨E 138 [(0, stsV l), (1, .int .i64 k.1), (2, .int .i64 (d + 1 : Nat)), (7, .int .i64 k.2)], B 138 [], Heap.none⟩)
        (fun k => k.2 ≤ l.length ∧ 0 ≤ k.1 ∧ (cntL l : Int) + k.1 ≤ most + cntL (l.drop k.2) ∧ ∀ i x, i < k.2 → l[i]? = some x → St.Small (d + 1) x) ?_ (most, 0) ⟨Nat.zero_le _, by simp only []; omega, by simp only [List.drop_zero]; omega, fun i x h => by simp at h⟩ rfl
      intro ⟨mo, k⟩ ⟨hk, hm, hs, hall⟩ hi
      simp only [] at hk hm hs hall
      have hst := cnt_take l k hk
      simp -implicitDefEqProofs only [W_region, W_seq, W_cond, Thn_normal, wOps_nil, wOps_cons, val_0, valK_eq, onPut_some, onBool_bool, ev_E, set_E, look_cons, look_nil, cond_true, cond_false, Nat.reduceBEq, Nat.reduceAdd, Nat.reduceSub, if_true, AVal.eval, List.length_map, binOf, intOf, stsV]
      refine br_intro (fun h6 => ?_) (fun h6 => ?_)
      · have h7 : k < l.length := by simpa using h6
        obtain ⟨x, hx⟩ : ∃ x, l[k]? = some x := ⟨_, List.getElem?_eq_getElem h7⟩
        have hsx := cnt_drop hx
        simp -implicitDefEqProofs only [W_skip, W_region, W_seq, W_block, Thn_normal, wOps_nil, wOps_cons, val_0, val_g, valK_eq, onPut_some, onGuard_bool, br_not, beq_false', box_0, onCells_some, boxK_eq, st_0, stK_eq, onS_some, ev_E, ev_c, set_E, set_B, getD_B, look_cons, lookB_cons, look_nil, lookB_nil, cond_true, cond_false, Nat.reduceBEq, Nat.reduceAdd, Nat.reduceSub, Nat.reduceLeDiff, if_true, storeOf, storeCells, over, List.append_nil, true_and, and_self, List.getElem?_cons_zero, List.length_cons, List.length_nil, List.drop_succ_cons, List.drop_zero, List.take_succ_cons, List.take_zero, List.take_nil, List.drop_nil, List.nil_append, AVal.eval, cellsOf_agg, nat_le, Int.toNat_natCast, List.getElem?_map, Option.map_some, loadOf, cellsAt, boxOf, partOf, binOf, intOf, hx, x.cells_eq, St.fold, St.cellsOf_v, St.cs]
        intro g
        refine br_intro (fun c1 => ?_) (fun c1 => ?_)
        · simp -implicitDefEqProofs only [W_region, W_seq, W_cond, W_ret, Again_ret, Thn_normal, Thn_ret, Bl_ret, wOps_nil, wOps_cons, val_0, val_g, valK_eq, onPut_some, onGuard_bool, onBool_bool, br_true, br_false, beq_false', skipK_some, call_g, ev_E, ev_c, set_E, look_cons, look_nil, cond_true, cond_false, Nat.reduceBEq, Nat.reduceAdd, Nat.reduceSub, if_true, Bool.not_true, AVal.eval, c1]
          refine post1 ?_
          simp -implicitDefEqProofs only [ev_E, look_cons, look_nil, cond_true, cond_false, Nat.reduceBEq, Nat.reduceAdd, Nat.reduceSub]
          exact ⟨-1, rfl, by omega, by omega⟩
        simp -implicitDefEqProofs only [wOps_cons, val_0, val_g, valK_eq, onPut_some, onGuard_bool, br_true, br_not, beq_false', ev_E, ev_c, set_E, getD_B, look_cons, lookB_cons, look_nil, lookB_nil, cond_true, cond_false, Nat.reduceBEq, Nat.reduceAdd, Nat.reduceSub, Nat.reduceLeDiff, if_true, if_false, Bool.false_eq_true, Bool.not_false, List.getElem?_cons_zero, List.getElem?_cons_succ, List.length_cons, List.length_nil, List.drop_succ_cons, List.drop_zero, List.take_succ_cons, List.take_zero, AVal.eval, List.length_map, loadOf, cellsAt, boxOf, partOf, binOf, intOf, c1]
        refine br_intro (fun c2 => ?_) (fun c2 => ?_)
        · simp -implicitDefEqProofs only [W_region, W_seq, W_cond, W_ret, Again_ret, Thn_normal, Thn_ret, Bl_ret, wOps_nil, wOps_cons, val_0, val_g, valK_eq, onPut_some, onGuard_bool, onBool_bool, br_true, br_false, beq_false', skipK_some, call_g, ev_E, ev_c, set_E, look_cons, look_nil, cond_true, cond_false, Nat.reduceBEq, Nat.reduceAdd, Nat.reduceSub, if_true, Bool.not_true, AVal.eval, c2]
          refine post1 ?_
          simp -implicitDefEqProofs only [ev_E, look_cons, look_nil, cond_true, cond_false, Nat.reduceBEq, Nat.reduceAdd, Nat.reduceSub]
          exact ⟨-1, rfl, by omega, by omega⟩
        simp -implicitDefEqProofs only [wOps_cons, val_0, val_g, valK_eq, onPut_some, onGuard_bool, br_true, br_not, beq_false', ev_E, ev_c, set_E, getD_B, look_cons, lookB_cons, look_nil, lookB_nil, cond_true, cond_false, Nat.reduceBEq, Nat.reduceAdd, Nat.reduceSub, Nat.reduceLeDiff, if_true, if_false, Bool.false_eq_true, Bool.not_false, List.getElem?_cons_zero, List.getElem?_cons_succ, List.length_cons, List.length_nil, List.drop_succ_cons, List.drop_zero, List.take_succ_cons, List.take_zero, AVal.eval, List.length_map, loadOf, cellsAt, boxOf, partOf, binOf, intOf, c2]
        refine br_intro (fun c3 => ?_) (fun c3 => ?_)
        · simp -implicitDefEqProofs only [W_region, W_seq, W_cond, W_ret, Again_ret, Thn_normal, Thn_ret, Bl_ret, wOps_nil, wOps_cons, val_0, val_g, valK_eq, onPut_some, onGuard_bool, onBool_bool, br_true, br_false, beq_false', skipK_some, call_g, ev_E, ev_c, set_E, look_cons, look_nil, cond_true, cond_false, Nat.reduceBEq, Nat.reduceAdd, Nat.reduceSub, if_true, Bool.not_true, AVal.eval, c3]
          refine post1 ?_
          simp -implicitDefEqProofs only [ev_E, look_cons, look_nil, cond_true, cond_false, Nat.reduceBEq, Nat.reduceAdd, Nat.reduceSub]
          exact ⟨-1, rfl, by omega, by omega⟩
        simp -implicitDefEqProofs only [wOps_cons, val_0, val_g, valK_eq, onPut_some, onGuard_bool, br_true, br_not, beq_false', ev_E, ev_c, set_E, getD_B, look_cons, lookB_cons, look_nil, lookB_nil, cond_true, cond_false, Nat.reduceBEq, Nat.reduceAdd, Nat.reduceSub, Nat.reduceLeDiff, if_true, if_false, Bool.false_eq_true, Bool.not_false, List.getElem?_cons_zero, List.getElem?_cons_succ, List.length_cons, List.length_nil, List.drop_succ_cons, List.drop_zero, List.take_succ_cons, List.take_nil, AVal.eval, List.length_map, loadOf, cellsAt, boxOf, partOf, binOf, intOf, c3]
        refine br_intro (fun c4 => ?_) (fun c4 => ?_)
        · simp -implicitDefEqProofs only [W_region, W_seq, W_cond, W_ret, Again_ret, Thn_normal, Thn_ret, Bl_ret, wOps_nil, wOps_cons, val_0, val_g, valK_eq, onPut_some, onGuard_bool, onBool_bool, br_true, br_false, beq_false', skipK_some, call_g, ev_E, ev_c, set_E, look_cons, look_nil, cond_true, cond_false, Nat.reduceBEq, Nat.reduceAdd, Nat.reduceSub, if_true, Bool.not_true, AVal.eval, c4]
          refine post1 ?_
          simp -implicitDefEqProofs only [ev_E, look_cons, look_nil, cond_true, cond_false, Nat.reduceBEq, Nat.reduceAdd, Nat.reduceSub]
          exact ⟨-1, rfl, by omega, by omega⟩
        simp -implicitDefEqProofs only [wOps_cons, val_g, valK_eq, onPut_some, onGuard_bool, br_true, beq_false', callK_eq, call_g, ev_E, ev_c, set_E, getD_B, look_cons, lookB_cons, look_nil, lookB_nil, cond_true, cond_false, Nat.reduceBEq, Nat.reduceAdd, Nat.reduceSub, Nat.reduceLeDiff, if_true, Bool.not_false, List.getElem?_cons_zero, List.getElem?_cons_succ, List.length_cons, List.length_nil, List.drop_succ_cons, List.drop_zero, List.take_succ_cons, List.take_zero, List.map_cons, List.map_nil, AVal.eval, loadOf, cellsAt, boxOf, partOf, c4]
        simp only [Ex.fold]
        refine callOk_of (few30 x.e 100 (by omega) (by omega)) ?_
        rintro u ⟨b1, rfl, hb1⟩
        simp -implicitDefEqProofs only [wOps_cons, val_0, val_g, valK_eq, onPut_some, onGuard_bool, br_true, br_not, beq_false', retK_some, ev_E, ev_c, set_E, look_cons, look_nil, cond_true, cond_false, Nat.reduceBEq, Nat.reduceAdd, Nat.reduceSub, if_false, Bool.false_eq_true, Bool.not_false, AVal.eval, unOf]
        refine br_intro2 (fun c5 => ?_) (fun c5 => ?_)
        · simp -implicitDefEqProofs only [W_region, W_seq, W_cond, W_ret, Again_ret, Thn_normal, Thn_ret, Bl_ret, wOps_nil, wOps_cons, val_0, val_g, valK_eq, onPut_some, onGuard_bool, onBool_bool, br_true, br_false, beq_false', skipK_some, call_g, ev_E, ev_c, set_E, look_cons, look_nil, cond_true, cond_false, Nat.reduceBEq, Nat.reduceAdd, Nat.reduceSub, if_true, Bool.not_true, Bool.not_false, AVal.eval, c5]
          refine post1 ?_
          simp -implicitDefEqProofs only [ev_E, look_cons, look_nil, cond_true, cond_false, Nat.reduceBEq, Nat.reduceAdd, Nat.reduceSub]
          exact ⟨-1, rfl, by omega, by omega⟩
        simp -implicitDefEqProofs only [wOps_cons, val_g, valK_eq, onPut_some, onGuard_bool, br_true, beq_false', callK_eq, call_g, ev_E, ev_c, set_E, getD_B, look_cons, lookB_cons, look_nil, lookB_nil, cond_true, cond_false, Nat.reduceBEq, Nat.reduceAdd, Nat.reduceSub, Nat.reduceLeDiff, if_true, Bool.not_true, Bool.not_false, List.getElem?_cons_zero, List.getElem?_cons_succ, List.length_cons, List.length_nil, List.drop_succ_cons, List.drop_zero, List.take_succ_cons, List.take_zero, List.map_cons, List.map_nil, AVal.eval, loadOf, cellsAt, boxOf, partOf, c5, Ex.fold]
        refine callOk_of (few30 x.i 100 (by omega) (by omega)) ?_
        rintro u ⟨b2, rfl, hb2⟩
        simp -implicitDefEqProofs only [W_cond, Thn_normal, wOps_nil, wOps_cons, val_0, val_g, valK_eq, onPut_some, onGuard_bool, onBool_bool, br_true, br_not, beq_false', retK_some, ev_E, ev_c, set_E, look_cons, look_nil, cond_true, cond_false, Nat.reduceBEq, Nat.reduceAdd, Nat.reduceSub, if_false, Bool.false_eq_true, Bool.not_false, AVal.eval, unOf]
        refine br_intro2 (fun c6 => ?_) (fun c6 => ?_)
        · simp -implicitDefEqProofs only [W_region, W_seq, W_ret, Again_ret, Thn_normal, Thn_ret, Bl_ret, wOps_nil, wOps_cons, val_0, valK_eq, onPut_some, ev_c, set_E, Bool.not_false, AVal.eval, c6]
          refine post1 ?_
          simp -implicitDefEqProofs only [ev_E, look_cons, look_nil, cond_true, cond_false, Nat.reduceBEq, Nat.reduceAdd, Nat.reduceSub]
          exact ⟨-1, rfl, by omega, by omega⟩
        simp -implicitDefEqProofs only [W_skip, W_region, W_seq, W_block, W_loop, keep_eq, Thn_normal, wOps_nil, wOps_cons, val_0, valK_eq, onPut_some, ev_c, set_E, look_cons, lookB_cons, look_nil, lookB_nil, cond_true, cond_false, Nat.reduceBEq, Bool.not_true, List.map_cons, List.map_nil, AVal.eval, c6]
        refine Loop.rec (fun j : Nat => x.l.length - j) (fun j => ⟨E 138 [(0, stsV l), (1, .int .i64 mo), (2, .int .i64 (d + 1 : Nat)), (7, .int .i64 k), (8, .lp 8 g 0), (9, .int .i64 j)], B 138 [(8, some (g, x.cs))], Heap.none⟩)
          (fun j => j ≤ x.l.length ∧ ∀ i y, i < j → x.l[i]? = some y → y.size ≤ 100) ?_ 0 ⟨Nat.zero_le _, fun i y h => by omega⟩ rfl
        intro j ⟨hj, hja⟩ hi2
        simp -implicitDefEqProofs only [W_region, W_seq, W_cond, Thn_normal, wOps_nil, wOps_cons, val_0, valK_eq, onPut_some, onBool_bool, ev_E, set_E, getD_B, look_cons, lookB_cons, look_nil, lookB_nil, cond_true, cond_false, Nat.reduceBEq, Nat.reduceAdd, Nat.reduceSub, Nat.reduceLeDiff, if_true, if_false, Bool.false_eq_true, List.getElem?_cons_zero, List.getElem?_cons_succ, List.length_cons, List.length_nil, List.drop_succ_cons, List.drop_zero, List.take_succ_cons, List.take_zero, AVal.eval, List.length_map, loadOf, cellsAt, boxOf, partOf, binOf, intOf, St.cs]
        have hl20 : x.l.length ≤ 20 := by simp at c2; omega
        refine br_intro (fun h8 => ?_) (fun h8 => ?_)
        · have h9 : j < x.l.length := by simpa using h8
          obtain ⟨y, hy⟩ : ∃ y, x.l[j]? = some y := ⟨_, List.getElem?_eq_getElem h9⟩
          simp -implicitDefEqProofs only [W_skip, W_region, W_seq, W_block, Thn_normal, wOps_cons, val_0, valK_eq, onPut_some, call_0, callK_eq, ev_E, ev_c, set_E, getD_B, look_cons, lookB_cons, look_nil, lookB_nil, cond_true, cond_false, Nat.reduceBEq, Nat.reduceAdd, Nat.reduceSub, Nat.reduceLeDiff, if_true, if_false, Bool.false_eq_true, and_self, List.getElem?_cons_zero, List.getElem?_cons_succ, List.length_cons, List.length_nil, List.drop_succ_cons, List.drop_zero, List.take_succ_cons, List.take_zero, List.take_nil, List.map_cons, List.map_nil, AVal.eval, nat_le, Int.toNat_natCast, List.getElem?_map, Option.map_some, loadOf, cellsAt, boxOf, partOf, hy, y.cells_eq, Ex.fold]
          refine callOk_of (few30 y 100 (by omega) (by omega)) ?_
          rintro u ⟨b3, rfl, hb3⟩
          simp -implicitDefEqProofs only [W_cond, Thn_normal, wOps_nil, wOps_cons, val_0, valK_eq, onPut_some, onBool_bool, br_not, retK_some, ev_E, set_E, look_cons, look_nil, cond_true, cond_false, Nat.reduceBEq, Nat.reduceAdd, Nat.reduceSub, AVal.eval, unOf]
          refine br_intro2 (fun c7 => ?_) (fun c7 => ?_)
          · simp -implicitDefEqProofs only [W_region, W_seq, W_ret, Again_ret, Thn_normal, Thn_ret, Bl_ret, wOps_nil, wOps_cons, val_0, valK_eq, onPut_some, ev_c, set_E, Bool.not_false, AVal.eval, c7]
            refine post1 ?_
            simp -implicitDefEqProofs only [ev_E, look_cons, look_nil, cond_true, cond_false, Nat.reduceBEq, Nat.reduceAdd, Nat.reduceSub]
            exact ⟨-1, rfl, by omega, by omega⟩
          · simp -implicitDefEqProofs only [W_skip, W_region, Again_normal, keep_eq, Thn_normal, Bl_normal, wOps_nil, wOps_cons, val_0, valK_eq, onPut_some, ev_E, ev_c, set_E, look_cons, lookB_cons, look_nil, lookB_nil, cond_true, cond_false, Nat.reduceBEq, Nat.reduceAdd, Nat.reduceSub, if_true, Bool.not_true, List.map_cons, List.map_nil, AVal.eval, binOf, intOf, c7, wrap_succ (show j < 9223372036854775807 by omega)]
            refine hi2 (j + 1) (by omega) ⟨by omega, fun i z hij hz => ?_⟩
            rcases Nat.lt_succ_iff_lt_or_eq.1 hij with h | h
            · exact hja i z h hz
            · subst h; rw [hy] at hz; injection hz with hz; subst hz; exact Int.ofNat_le.1 (hb3 c7)
        have h9 : ¬ j < x.l.length := by simpa using h8
        have hLall : ∀ y ∈ x.l, y.size ≤ 100 := by
          intro y hy
          obtain ⟨i, hil, e⟩ := List.getElem_of_mem hy
          exact hja i y (by omega) (by rw [← e]; exact List.getElem?_eq_getElem hil)
        simp -implicitDefEqProofs only [W_region, W_seq, W_block, W_exit, W_ret, W_loop, Again_normal, Again_exit, keep_eq, Thn_normal, Thn_exit, Bl_exit, wOps_nil, wOps_cons, val_0, valK_eq, onPut_some, ev_E, ev_c, set_E, look_cons, lookB_cons, look_nil, lookB_nil, cond_true, cond_false, Nat.reduceBEq, Nat.reduceAdd, Nat.reduceSub, if_true, List.map_cons, List.map_nil, AVal.eval, binOf, intOf, h8]
        clear hi2
        refine Loop.rec (fun j : Nat => x.args.length - j) (fun j => ⟨E 138 [(0, stsV l), (1, .int .i64 mo), (2, .int .i64 (d + 1 : Nat)), (7, .int .i64 k), (8, .lp 8 g 0), (10, .int .i64 j)], B 138 [(8, some (g, x.cs))], Heap.none⟩)
          (fun j => j ≤ x.args.length ∧ ∀ i y, i < j → x.args[i]? = some y → y.e.size ≤ 100) ?_ 0 ⟨Nat.zero_le _, fun i y h => by omega⟩ rfl
        intro j2 ⟨hj2, hja2⟩ hi2
        simp -implicitDefEqProofs only [W_region, W_seq, W_cond, Thn_normal, wOps_nil, wOps_cons, val_0, valK_eq, onPut_some, onBool_bool, ev_E, set_E, getD_B, look_cons, lookB_cons, look_nil, lookB_nil, cond_true, cond_false, Nat.reduceBEq, Nat.reduceAdd, Nat.reduceSub, Nat.reduceLeDiff, if_true, if_false, Bool.false_eq_true, List.getElem?_cons_zero, List.getElem?_cons_succ, List.length_cons, List.length_nil, List.drop_succ_cons, List.drop_zero, List.take_succ_cons, List.take_zero, AVal.eval, List.length_map, loadOf, cellsAt, boxOf, partOf, binOf, intOf, St.cs]
        have ha20 : x.args.length ≤ 20 := by simp at c3; omega
        refine br_intro (fun h10 => ?_) (fun h10 => ?_)
        · have h11 : j2 < x.args.length := by simpa using h10
          obtain ⟨y, hy⟩ : ∃ y, x.args[j2]? = some y := ⟨_, List.getElem?_eq_getElem h11⟩
          simp -implicitDefEqProofs only [W_skip, W_region, W_seq, W_block, Thn_normal, wOps_cons, val_0, valK_eq, onPut_some, call_0, callK_eq, ev_E, ev_c, set_E, getD_B, look_cons, lookB_cons, look_nil, lookB_nil, cond_true, cond_false, Nat.reduceBEq, Nat.reduceAdd, Nat.reduceSub, Nat.reduceLeDiff, if_true, if_false, Bool.false_eq_true, and_self, List.getElem?_cons_zero, List.getElem?_cons_succ, List.length_cons, List.length_nil, List.drop_succ_cons, List.drop_zero, List.take_succ_cons, List.take_zero, List.take_nil, List.map_cons, List.map_nil, AVal.eval, nat_le, Int.toNat_natCast, List.getElem?_map, Option.map_some, loadOf, cellsAt, boxOf, partOf, hy, y.cells_eq, Ex.fold]
          refine callOk_of (few30 y.e 100 (by omega) (by omega)) ?_
          rintro u ⟨b3, rfl, hb3⟩
          simp -implicitDefEqProofs only [W_cond, Thn_normal, wOps_nil, wOps_cons, val_0, valK_eq, onPut_some, onBool_bool, br_not, retK_some, ev_E, set_E, look_cons, look_nil, cond_true, cond_false, Nat.reduceBEq, Nat.reduceAdd, Nat.reduceSub, AVal.eval, unOf]
          refine br_intro2 (fun c7 => ?_) (fun c7 => ?_)
          · simp -implicitDefEqProofs only [W_region, W_seq, W_ret, Again_ret, Thn_normal, Thn_ret, Bl_ret, wOps_nil, wOps_cons, val_0, valK_eq, onPut_some, ev_c, set_E, Bool.not_false, AVal.eval, c7]
            refine post1 ?_
            simp -implicitDefEqProofs only [ev_E, look_cons, look_nil, cond_true, cond_false, Nat.reduceBEq, Nat.reduceAdd, Nat.reduceSub]
            exact ⟨-1, rfl, by omega, by omega⟩
          · simp -implicitDefEqProofs only [W_skip, W_region, Again_normal, keep_eq, Thn_normal, Bl_normal, wOps_nil, wOps_cons, val_0, valK_eq, onPut_some, ev_E, ev_c, set_E, look_cons, lookB_cons, look_nil, lookB_nil, cond_true, cond_false, Nat.reduceBEq, Nat.reduceAdd, Nat.reduceSub, if_true, Bool.not_true, List.map_cons, List.map_nil, AVal.eval, binOf, intOf, c7, wrap_succ (show j2 < 9223372036854775807 by omega)]
            refine hi2 (j2 + 1) (by omega) ⟨by omega, fun i z hij hz => ?_⟩
            rcases Nat.lt_succ_iff_lt_or_eq.1 hij with h | h
            · exact hja2 i z h hz
            · subst h; rw [hy] at hz; injection hz with hz; subst hz; exact Int.ofNat_le.1 (hb3 c7)
        have h11 : ¬ j2 < x.args.length := by simpa using h10
        have hAall : ∀ y ∈ x.args, y.e.size ≤ 100 := by
          intro y hy
          obtain ⟨i, hil, e⟩ := List.getElem_of_mem hy
          exact hja2 i y (by omega) (by rw [← e]; exact List.getElem?_eq_getElem hil)
        simp -implicitDefEqProofs only [W_region, W_seq, W_exit, W_ret, Again_normal, Again_exit, keep_eq, Thn_normal, Thn_exit, Bl_exit, wOps_nil, wOps_cons, val_0, valK_eq, onPut_some, call_0, callK_eq, ev_E, ev_c, set_E, getD_B, look_cons, lookB_cons, look_nil, lookB_nil, cond_true, cond_false, Nat.reduceBEq, Nat.reduceAdd, Nat.reduceSub, Nat.reduceLeDiff, if_true, if_false, Bool.false_eq_true, List.getElem?_cons_zero, List.getElem?_cons_succ, List.length_cons, List.length_nil, List.drop_succ_cons, List.drop_zero, List.take_succ_cons, List.take_zero, List.map_cons, List.map_nil, AVal.eval, loadOf, cellsAt, boxOf, partOf, binOf, intOf, h10]
        clear hi2
        have c1' : 1 ≤ mo := by simpa using c1
        have hfl : b1 = true ∧ b2 = true := ⟨c5, c6⟩
        have hflat : x.Flat := ⟨Int.ofNat_le.1 (hb1 c5), Int.ofNat_le.1 (hb2 c6), hl20, hLall, ha20, hAall, by simp at c4; omega⟩
        simp only [wrap_in (show -9223372036854775808 ≤ mo - 1 ∧ mo - 1 ≤ 9223372036854775807 by omega), wrap_pred (show d < 9223372036854775807 by omega)]
        have hcx := x.cnt_eq
        refine callOk_of (ih x.body (mo - 1) (by omega) (by omega) (by omega)) ?_
        rintro u ⟨r1, rfl, hr1, hr2⟩
        simp -implicitDefEqProofs only [W_region, W_seq, W_cond, Thn_normal, wOps_nil, wOps_cons, val_0, valK_eq, onPut_some, onBool_bool, retK_some, ev_E, ev_c, set_E, look_cons, look_nil, cond_true, cond_false, Nat.reduceBEq, Nat.reduceAdd, Nat.reduceSub, if_true, AVal.eval, binOf, intOf]
        refine br_intro2 (fun c8 => ?_) (fun c8 => ?_)
        · have c9 : r1 < 0 := by simpa using c8
          simp -implicitDefEqProofs only [W_skip, W_region, W_seq, W_block, W_loop, keep_eq, Thn_normal, wOps_nil, wOps_cons, val_0, valK_eq, onPut_some, ev_c, set_E, look_cons, lookB_cons, look_nil, lookB_nil, cond_true, cond_false, Nat.reduceBEq, List.map_cons, List.map_nil, AVal.eval, c8]
          refine Loop.step ?_
          simp -implicitDefEqProofs only [W_region, W_seq, wOps_cons, val_0, val_g, valK_eq, onPut_some, onGuard_bool, beq_true', ev_E, set_E, getD_B, look_cons, lookB_cons, look_nil, lookB_nil, cond_true, cond_false, Nat.reduceBEq, Nat.reduceAdd, Nat.reduceSub, Nat.reduceLeDiff, if_true, if_false, Bool.false_eq_true, List.getElem?_cons_zero, List.getElem?_cons_succ, List.length_cons, List.length_nil, List.drop_succ_cons, List.drop_zero, List.take_succ_cons, List.take_nil, AVal.eval, List.length_map, loadOf, cellsAt, boxOf, partOf, binOf, intOf]
          refine br_intro (fun c10 => ?_) (fun c10 => ?_)
          · simp -implicitDefEqProofs only [W_region, W_seq, W_cond, W_exit, W_ret, Again_normal, Again_exit, Again_ret, keep_eq, Thn_normal, Thn_exit, Thn_ret, Bl_exit, Bl_ret, wOps_nil, wOps_cons, val_0, val_g, valK_eq, onPut_some, onGuard_bool, onBool_bool, br_true, br_false, beq_true', ev_E, ev_c, set_E, look_cons, lookB_cons, look_nil, lookB_nil, cond_true, cond_false, Nat.reduceBEq, Nat.reduceAdd, Nat.reduceSub, if_true, List.map_cons, List.map_nil, AVal.eval, binOf, intOf, c8, c10, show (decide (r1 < 0)) = true by simpa using c9]
            refine post1 ?_
            simp -implicitDefEqProofs only [ev_E, look_cons, look_nil, cond_true, cond_false, Nat.reduceBEq, Nat.reduceAdd, Nat.reduceSub]
            exact ⟨-1, rfl, by omega, by omega⟩
          · simp -implicitDefEqProofs only [W_region, W_seq, W_cond, W_exit, W_ret, Again_normal, Again_exit, Again_ret, keep_eq, Thn_normal, Thn_exit, Thn_ret, Bl_exit, Bl_ret, wOps_nil, wOps_cons, val_0, val_g, valK_eq, onPut_some, onGuard_bool, onBool_bool, br_true, br_false, beq_true', skipK_some, ev_E, ev_c, set_E, look_cons, lookB_cons, look_nil, lookB_nil, cond_true, cond_false, Nat.reduceBEq, Nat.reduceAdd, Nat.reduceSub, if_true, if_false, Bool.false_eq_true, List.map_cons, List.map_nil, AVal.eval, binOf, intOf, c10, show (decide (r1 < 0)) = true by simpa using c9]
            refine post1 ?_
            simp -implicitDefEqProofs only [ev_E, look_cons, look_nil, cond_true, cond_false, Nat.reduceBEq, Nat.reduceAdd, Nat.reduceSub]
            exact ⟨-1, rfl, by omega, by omega⟩
        have c9 : 0 ≤ r1 := by simpa using c8
        obtain ⟨hr3, hr4⟩ := hr2 c9
        simp -implicitDefEqProofs only [W_region, wOps_cons, val_0, valK_eq, onPut_some, call_0, callK_eq, ev_E, ev_c, set_E, getD_B, look_cons, lookB_cons, look_nil, lookB_nil, cond_true, cond_false, Nat.reduceBEq, Nat.reduceAdd, Nat.reduceSub, Nat.reduceLeDiff, if_true, if_false, Bool.false_eq_true, List.getElem?_cons_zero, List.getElem?_cons_succ, List.length_cons, List.length_nil, List.drop_succ_cons, List.drop_zero, List.take_succ_cons, List.take_zero, List.map_cons, List.map_nil, AVal.eval, loadOf, cellsAt, boxOf, partOf, binOf, intOf, c8, wrap_pred (show d < 9223372036854775807 by omega)]
        refine callOk_of (ih x.els r1 (by omega) (by omega) (by omega)) ?_
        rintro u ⟨r2, rfl, hq1, hq2⟩
        simp -implicitDefEqProofs only [W_region, W_seq, W_block, W_loop, keep_eq, Thn_normal, wOps_nil, wOps_cons, val_0, valK_eq, onPut_some, retK_some, ev_E, ev_c, set_E, look_cons, lookB_cons, look_nil, lookB_nil, cond_true, cond_false, Nat.reduceBEq, Nat.reduceAdd, Nat.reduceSub, List.map_cons, List.map_nil, AVal.eval]
        refine Loop.rec (α := Int × Nat) (fun j => x.arms.length - j.2) (fun j => ⟨E 138 [(0, stsV l), (1, .int .i64 j.1), (2, .int .i64 (d + 1 : Nat)), (7, .int .i64 k), (8, .lp 8 g 0), (11, .int .i64 j.2)], B 138 [(8, some (g, x.cs))], Heap.none⟩)
          (fun j => j.2 ≤ x.arms.length ∧ -1 ≤ j.1 ∧ (0 ≤ j.1 → (cntL x.body : Int) + cntL x.els + cntA x.arms + j.1 ≤ mo - 1 + cntA (x.arms.drop j.2) ∧ (∀ y ∈ x.els, St.Small d y) ∧ ∀ i a, i < j.2 → x.arms[i]? = some a → a.labels.length ≤ 300 ∧ ∀ y ∈ a.body, St.Small d y)) ?_ (r2, 0)
          ⟨Nat.zero_le _, hq1, fun h => by obtain ⟨e1, e2⟩ := hq2 h; exact ⟨by simp only [List.drop_zero]; omega, e2, fun i a h => by simp at h⟩⟩ rfl
        intro ⟨mo3, j3⟩ ⟨hj3, hm3, hp3⟩ hi2
        simp only [] at hj3 hm3 hp3
        have hr60 := hflat.rl
        simp -implicitDefEqProofs only [W_region, W_seq, wOps_cons, val_0, val_g, valK_eq, onPut_some, onGuard_bool, beq_true', ev_E, set_E, getD_B, look_cons, lookB_cons, look_nil, lookB_nil, cond_true, cond_false, Nat.reduceBEq, Nat.reduceAdd, Nat.reduceSub, Nat.reduceLeDiff, if_true, if_false, Bool.false_eq_true, List.getElem?_cons_zero, List.getElem?_cons_succ, List.length_cons, List.length_nil, List.drop_succ_cons, List.drop_zero, List.take_succ_cons, List.take_nil, AVal.eval, List.length_map, loadOf, cellsAt, boxOf, partOf, binOf, intOf, St.cs]
        refine br_intro (fun h12 => ?_) (fun h12 => ?_)
        · have h13 : j3 < x.arms.length := by simpa using h12
          simp -implicitDefEqProofs only [W_cond, Thn_normal, wOps_nil, wOps_cons, val_0, val_g, valK_eq, onPut_some, onGuard_bool, onBool_bool, br_true, beq_true', ev_E, ev_c, set_E, look_cons, look_nil, cond_true, cond_false, Nat.reduceBEq, Nat.reduceAdd, Nat.reduceSub, if_true, AVal.eval, binOf, intOf, h12]
          refine br_intro (fun h14 => ?_) (fun h14 => ?_)
          · have h15 : 0 ≤ mo3 := by simpa using h14
            obtain ⟨q1, q2, q3⟩ := hp3 h15
            obtain ⟨y, hy⟩ : ∃ y, x.arms[j3]? = some y := ⟨_, List.getElem?_eq_getElem h13⟩
            have hcy := cntA_drop hy
            have hcy2 := y.cnt_eq
            simp -implicitDefEqProofs only [W_skip, W_region, W_seq, W_cond, W_block, Thn_normal, wOps_nil, wOps_cons, val_0, valK_eq, onPut_some, onBool_bool, ev_E, ev_c, set_E, getD_B, look_cons, lookB_cons, look_nil, lookB_nil, cond_true, cond_false, Nat.reduceBEq, Nat.reduceAdd, Nat.reduceSub, Nat.reduceLeDiff, if_true, if_false, Bool.false_eq_true, and_self, List.getElem?_cons_zero, List.getElem?_cons_succ, List.length_cons, List.length_nil, List.drop_succ_cons, List.drop_zero, List.take_succ_cons, List.take_zero, List.take_nil, AVal.eval, nat_le, Int.toNat_natCast, List.getElem?_map, List.length_map, Option.map_some, loadOf, cellsAt, boxOf, partOf, binOf, intOf, h14, hy, y.cells_eq]
            refine br_intro (fun h16 => ?_) (fun h16 => ?_)
            · simp -implicitDefEqProofs only [W_region, W_seq, W_ret, Again_ret, Thn_normal, Thn_ret, Bl_ret, wOps_nil, wOps_cons, val_0, valK_eq, onPut_some, ev_c, set_E, AVal.eval, h16]
              refine post1 ?_
              simp -implicitDefEqProofs only [ev_E, look_cons, look_nil, cond_true, cond_false, Nat.reduceBEq, Nat.reduceAdd, Nat.reduceSub]
              exact ⟨-1, rfl, by omega, by omega⟩
            · simp -implicitDefEqProofs only [W_skip, W_region, Thn_normal, wOps_cons, val_0, valK_eq, onPut_some, call_0, callK_eq, ev_E, ev_c, set_E, getD_B, look_cons, lookB_cons, look_nil, lookB_nil, cond_true, cond_false, Nat.reduceBEq, Nat.reduceAdd, Nat.reduceSub, Nat.reduceLeDiff, if_true, if_false, Bool.false_eq_true, and_self, List.getElem?_cons_zero, List.getElem?_cons_succ, List.length_cons, List.length_nil, List.drop_succ_cons, List.drop_zero, List.take_succ_cons, List.take_nil, List.map_cons, List.map_nil, AVal.eval, nat_le, Int.toNat_natCast, List.getElem?_map, Option.map_some, loadOf, cellsAt, boxOf, partOf, binOf, intOf, h16, wrap_pred (show d < 9223372036854775807 by omega), hy, y.cells_eq]
              have hle : mo3 ≤ mo := by
                have := cntA_le x.arms j3
                omega
              refine callOk_of (ih y.body mo3 (by omega) (by omega) (by omega)) ?_
              rintro u ⟨r3, rfl, hs1, hs2⟩
              simp -implicitDefEqProofs only [W_region, Again_normal, keep_eq, Thn_normal, Bl_normal, wOps_nil, wOps_cons, val_0, valK_eq, onPut_some, retK_some, ev_E, ev_c, set_E, look_cons, lookB_cons, look_nil, lookB_nil, cond_true, cond_false, Nat.reduceBEq, Nat.reduceAdd, Nat.reduceSub, if_true, List.map_cons, List.map_nil, AVal.eval, binOf, intOf, wrap_succ (show j3 < 9223372036854775807 by omega)]
              refine hi2 (r3, j3 + 1) (by simp only []; omega) ⟨by simp only []; omega, hs1, fun h => ?_⟩
              simp only [] at h ⊢
              obtain ⟨e1, e2⟩ := hs2 h
              refine ⟨by omega, q2, fun i a hia ha => ?_⟩
              rcases Nat.lt_succ_iff_lt_or_eq.1 hia with h | h
              · exact q3 i a h ha
              · subst h; rw [hy] at ha; injection ha with ha; subst ha
                exact ⟨by simp [] at h16; omega, e2⟩
          · have h15 : mo3 < 0 := by simpa using h14
            simp -implicitDefEqProofs only [W_region, W_seq, W_cond, W_exit, W_ret, Again_normal, Again_exit, Again_ret, keep_eq, Thn_normal, Thn_exit, Thn_ret, Bl_exit, Bl_ret, wOps_nil, wOps_cons, val_0, valK_eq, onPut_some, onBool_bool, br_true, ev_E, ev_c, set_E, look_cons, lookB_cons, look_nil, lookB_nil, cond_true, cond_false, Nat.reduceBEq, Nat.reduceAdd, Nat.reduceSub, if_true, List.map_cons, List.map_nil, AVal.eval, binOf, intOf, h14, show (decide (mo3 < 0)) = true by simpa using h15]
            refine post1 ?_
            simp -implicitDefEqProofs only [ev_E, look_cons, look_nil, cond_true, cond_false, Nat.reduceBEq, Nat.reduceAdd, Nat.reduceSub]
            exact ⟨-1, rfl, by omega, by omega⟩
        · have h13 : ¬ j3 < x.arms.length := by simpa using h12
          simp -implicitDefEqProofs only [W_region, W_seq, W_cond, W_exit, W_ret, Again_normal, Again_exit, keep_eq, Thn_normal, Thn_exit, Bl_exit, wOps_nil, wOps_cons, val_0, val_g, valK_eq, onPut_some, onGuard_bool, onBool_bool, br_false, beq_true', skipK_some, ev_E, ev_c, set_E, look_cons, lookB_cons, look_nil, lookB_nil, cond_true, cond_false, Nat.reduceBEq, Nat.reduceAdd, Nat.reduceSub, if_true, if_false, Bool.false_eq_true, List.map_cons, List.map_nil, AVal.eval, binOf, intOf, h12]
          refine br_intro (fun h14 => ?_) (fun h14 => ?_)
          · simp -implicitDefEqProofs only [W_region, W_seq, W_ret, Again_ret, Thn_normal, Thn_ret, Bl_ret, wOps_nil, wOps_cons, val_0, valK_eq, onPut_some, ev_c, set_E, AVal.eval, h14]
            refine post1 ?_
            simp -implicitDefEqProofs only [ev_E, look_cons, look_nil, cond_true, cond_false, Nat.reduceBEq, Nat.reduceAdd, Nat.reduceSub]
            exact ⟨-1, rfl, by omega, by omega⟩
          · have h15 : 0 ≤ mo3 := by simpa using h14
            obtain ⟨q1, q2, q3⟩ := hp3 h15
            simp -implicitDefEqProofs only [W_skip, W_region, Again_normal, keep_eq, Thn_normal, Bl_normal, wOps_nil, wOps_cons, val_0, valK_eq, onPut_some, ev_E, ev_c, set_E, look_cons, lookB_cons, look_nil, lookB_nil, cond_true, cond_false, Nat.reduceBEq, Nat.reduceAdd, Nat.reduceSub, if_true, List.map_cons, List.map_nil, AVal.eval, binOf, intOf, h14, wrap_succ (show k < 9223372036854775807 by omega)]
            rw [List.drop_eq_nil_of_le (by omega)] at q1
            simp only [cntA] at q1
            refine hi (mo3, k + 1) (by simp only []; omega) ⟨by simp only []; omega, h15, by simp only []; omega, fun i z hij hz => ?_⟩
            rcases Nat.lt_succ_iff_lt_or_eq.1 hij with h | h
            · exact hall i z h hz
            · subst h; rw [hx] at hz; injection hz with hz; subst hz
              refine ⟨hflat, hr4, q2, fun a ha => ?_⟩
              obtain ⟨i, hil, e⟩ := List.getElem_of_mem ha
              exact q3 i a (by omega) (by rw [← e]; exact List.getElem?_eq_getElem hil)
      · simp -implicitDefEqProofs only [W_region, W_seq, W_exit, W_ret, Again_exit, Thn_normal, Thn_exit, Bl_exit, wOps_nil, wOps_cons, val_0, valK_eq, onPut_some, ev_E, set_E, look_cons, look_nil, cond_true, cond_false, Nat.reduceBEq, Nat.reduceAdd, Nat.reduceSub, AVal.eval]
        refine post1 ?_
        simp -implicitDefEqProofs only [ev_E, look_cons, look_nil, cond_true, cond_false, Nat.reduceBEq, Nat.reduceAdd, Nat.reduceSub]
        have h7 : ¬ k < l.length := by simpa using h6
        rw [List.drop_eq_nil_of_le (by omega)] at hs
        simp only [cntL] at hs
        refine ⟨mo, rfl, by omega, fun _ => ⟨by omega, fun x hx => ?_⟩⟩
        obtain ⟨i, hil, e⟩ := List.getElem_of_mem hx
        exact hall i x (by omega) (by rw [← e]; exact List.getElem?_eq_getElem hil)

theorem few10 (l : List St) (most : Int) (h1 : -1 ≤ most) (h2 : most ≤ 1073741824) : Ret prog 10 [stsV l, .int .i64 most] Heap.none fun r _ => ∃ b : Bool, r = .bool b ∧ (b = true → (cntL l : Int) ≤ most ∧ ∀ x ∈ l, St.Small 40 x) := by
  refine Ret.by_text rfl rfl ?_
  simp -implicitDefEqProofs only [number, W_region, W_seq, Thn_normal, wOps_nil, wOps_cons, val_0, valK_eq, onPut_some, call_0, callK_eq, ev_E, ev_c, set_E, look_cons, look_nil, cond_true, cond_false, Nat.reduceBEq, Nat.reduceAdd, Nat.reduceSub, List.map_cons, List.map_nil, AVal.eval, a10]
  refine callOk_of (room18 40 l most (by omega) h1 h2) ?_
  rintro u ⟨r, rfl, hr1, hr2⟩
  simp -implicitDefEqProofs only [W_ret, Thn_normal, wOps_nil, wOps_cons, val_0, valK_eq, onPut_some, retK_some, ev_E, ev_c, set_E, look_cons, look_nil, cond_true, cond_false, Nat.reduceBEq, Nat.reduceAdd, Nat.reduceSub, if_true, AVal.eval, binOf, intOf]
  refine post1 ?_
  simp -implicitDefEqProofs only [ev_E, look_cons, look_nil, cond_true, cond_false, Nat.reduceBEq, Nat.reduceAdd, Nat.reduceSub]
  refine ⟨_, rfl, fun h => ?_⟩
  have h3 : 0 ≤ r := by simpa using h
  have := hr2 h3
  exact ⟨by omega, this.2⟩

/-- A small event. -/
structure _root_.Go.Abs.Ev.Ok (x : Ev) : Prop where
  next : x.next.length ≤ 40
  cost0 : 0 ≤ x.s.cost
  cost : x.s.cost ≤ 1048576
  s : St.Small 40 x.s
  cnt : x.s.cnt ≤ 4

theorem few4 (l : List Ev) (most : Int) (h1 : -1 ≤ most) (h2 : most ≤ 1073741824) : Ret prog 4 [evsV l, .int .i64 most] Heap.none fun r _ => ∃ b : Bool, r = .bool b ∧ (b = true → (l.length : Int) ≤ most ∧ ∀ x ∈ l, x.Ok) := by
  refine Ret.by_text rfl rfl ?_
  simp -implicitDefEqProofs only [number, W_region, W_seq, W_cond, Thn_normal, wOps_nil, wOps_cons, val_0, valK_eq, onPut_some, onBool_bool, ev_E, ev_c, set_E, look_cons, look_nil, cond_true, cond_false, Nat.reduceBEq, Nat.reduceAdd, Nat.reduceSub, if_true, AVal.eval, List.length_map, binOf, intOf, a4, evsV]
  refine br_intro (fun h3 => ?_) (fun h3 => ?_)
  · simp -implicitDefEqProofs only [W_region, W_seq, W_ret, Thn_normal, Thn_ret, wOps_nil, wOps_cons, val_0, valK_eq, onPut_some, ev_c, set_E, AVal.eval, h3]
    refine post1 ?_
    simp -implicitDefEqProofs only [ev_E, look_cons, look_nil, cond_true, cond_false, Nat.reduceBEq, Nat.reduceAdd, Nat.reduceSub]
    exact ⟨false, rfl, by simp⟩
  have h4 : (l.length : Int) ≤ most := by simpa using h3
  simp -implicitDefEqProofs only [W_skip, W_region, W_seq, W_block, W_loop, keep_eq, Thn_normal, wOps_nil, wOps_cons, val_0, valK_eq, onPut_some, ev_c, set_E, look_cons, look_nil, lookB_nil, cond_true, cond_false, Nat.reduceBEq, List.map_cons, List.map_nil, AVal.eval, h3]
  refine Loop.rec (fun k : Nat × Heap => l.length - k.1) (fun k => ⟨E 51 [(0, evsV l), (5, .int .i64 k.1)], B 51 [], k.2⟩)
    (fun k => k.1 ≤ l.length ∧ ∀ i x, i < k.1 → l[i]? = some x → x.Ok) ?_ (0, Heap.none) ⟨Nat.zero_le _, fun i x h => by simp at h⟩ rfl
  intro ⟨k, hp⟩ ⟨hk, hall⟩ hi
  simp only [] at hk hall
  simp -implicitDefEqProofs only [W_region, W_seq, W_cond, Thn_normal, wOps_nil, wOps_cons, val_0, valK_eq, onPut_some, onBool_bool, ev_E, set_E, look_cons, look_nil, cond_true, cond_false, Nat.reduceBEq, Nat.reduceAdd, Nat.reduceSub, if_true, AVal.eval, List.length_map, binOf, intOf, evsV]
  refine br_intro (fun h6 => ?_) (fun h6 => ?_)
  · have h7 : k < l.length := by simpa using h6
    obtain ⟨x, hx⟩ : ∃ x, l[k]? = some x := ⟨_, List.getElem?_eq_getElem h7⟩
    simp -implicitDefEqProofs only [W_skip, W_region, W_seq, W_block, Thn_normal, wOps_cons, val_0, val_g, valK_eq, onPut_some, onGuard_bool, br_not, beq_false', ev_E, ev_c, set_E, look_cons, look_nil, cond_true, cond_false, Nat.reduceBEq, Nat.reduceAdd, Nat.reduceSub, Nat.reduceLeDiff, if_true, if_false, Bool.false_eq_true, and_self, List.getElem?_cons_zero, List.getElem?_cons_succ, List.length_cons, List.length_nil, List.drop_succ_cons, List.drop_zero, List.take_succ_cons, List.take_nil, AVal.eval, nat_le, Int.toNat_natCast, List.getElem?_map, List.length_map, Option.map_some, loadOf, cellsAt, partOf, binOf, intOf, hx, x.cells_cs, Ev.cs]
    refine br_intro (fun c1 => ?_) (fun c1 => ?_)
    · simp -implicitDefEqProofs only [W_region, W_seq, W_cond, W_ret, Again_ret, Thn_normal, Thn_ret, Bl_ret, wOps_nil, wOps_cons, val_0, val_g, valK_eq, onPut_some, onGuard_bool, onBool_bool, br_true, br_false, beq_false', skipK_some, call_g, bsl_g, ev_E, ev_c, set_E, look_cons, look_nil, cond_true, cond_false, Nat.reduceBEq, Nat.reduceAdd, Nat.reduceSub, if_true, Bool.not_true, AVal.eval, c1]
      refine post1 ?_
      simp -implicitDefEqProofs only [ev_E, look_cons, look_nil, cond_true, cond_false, Nat.reduceBEq, Nat.reduceAdd, Nat.reduceSub]
      exact ⟨false, rfl, by simp⟩
    simp -implicitDefEqProofs only [wOps_cons, val_0, val_g, valK_eq, onPut_some, onGuard_bool, br_true, br_not, beq_false', ev_E, ev_c, set_E, look_cons, look_nil, cond_true, cond_false, Nat.reduceBEq, Nat.reduceAdd, Nat.reduceSub, Nat.reduceLeDiff, if_true, if_false, Bool.false_eq_true, Bool.not_false, and_self, List.getElem?_cons_zero, List.getElem?_cons_succ, List.length_cons, List.length_nil, List.drop_succ_cons, List.drop_zero, List.take_succ_cons, List.take_zero, AVal.eval, nat_le, Int.toNat_natCast, List.getElem?_map, Option.map_some, loadOf, cellsAt, partOf, binOf, intOf, c1, hx, x.cells_cs, Ev.cs]
    refine br_intro (fun c2 => ?_) (fun c2 => ?_)
    · simp -implicitDefEqProofs only [W_region, W_seq, W_cond, W_ret, Again_ret, Thn_normal, Thn_ret, Bl_ret, wOps_nil, wOps_cons, val_0, val_g, valK_eq, onPut_some, onGuard_bool, onBool_bool, br_true, br_false, beq_false', skipK_some, call_g, bsl_g, ev_E, ev_c, set_E, look_cons, look_nil, cond_true, cond_false, Nat.reduceBEq, Nat.reduceAdd, Nat.reduceSub, if_true, Bool.not_true, AVal.eval, c2]
      refine post1 ?_
      simp -implicitDefEqProofs only [ev_E, look_cons, look_nil, cond_true, cond_false, Nat.reduceBEq, Nat.reduceAdd, Nat.reduceSub]
      exact ⟨false, rfl, by simp⟩
    simp -implicitDefEqProofs only [wOps_cons, val_0, val_g, valK_eq, onPut_some, onGuard_bool, br_true, br_not, beq_false', ev_E, ev_c, set_E, look_cons, look_nil, cond_true, cond_false, Nat.reduceBEq, Nat.reduceAdd, Nat.reduceSub, Nat.reduceLeDiff, if_true, if_false, Bool.false_eq_true, Bool.not_false, and_self, List.getElem?_cons_zero, List.getElem?_cons_succ, List.length_cons, List.length_nil, List.drop_succ_cons, List.drop_zero, List.take_succ_cons, List.take_zero, AVal.eval, nat_le, Int.toNat_natCast, List.getElem?_map, Option.map_some, loadOf, cellsAt, partOf, binOf, intOf, c2, hx, x.cells_cs, Ev.cs]
    refine br_intro (fun c3 => ?_) (fun c3 => ?_)
    · simp -implicitDefEqProofs only [W_region, W_seq, W_cond, W_ret, Again_ret, Thn_normal, Thn_ret, Bl_ret, wOps_nil, wOps_cons, val_0, val_g, valK_eq, onPut_some, onGuard_bool, onBool_bool, br_true, br_false, beq_false', skipK_some, call_g, bsl_g, ev_E, ev_c, set_E, look_cons, look_nil, cond_true, cond_false, Nat.reduceBEq, Nat.reduceAdd, Nat.reduceSub, if_true, Bool.not_true, AVal.eval, c3]
      refine post1 ?_
      simp -implicitDefEqProofs only [ev_E, look_cons, look_nil, cond_true, cond_false, Nat.reduceBEq, Nat.reduceAdd, Nat.reduceSub]
      exact ⟨false, rfl, by simp⟩
    simp -implicitDefEqProofs only [wOps_cons, val_g, valK_eq, onPut_some, onGuard_bool, br_true, beq_false', onCells_some, callK_eq, call_g, bslK_eq, bsl_g, bslS_eq, fill, range_one, rep_one, ev_E, ev_c, set_E, look_cons, look_nil, cond_true, cond_false, Nat.reduceBEq, Nat.reduceAdd, Nat.reduceSub, Nat.reduceMul, Nat.reduceLeDiff, if_true, over, List.append_nil, Bool.not_false, and_self, List.getElem?_cons_zero, List.length_cons, List.length_nil, List.drop_succ_cons, List.drop_zero, List.take_succ_cons, List.take_zero, List.take_nil, List.drop_nil, List.map_cons, List.map_nil, List.nil_append, AVal.eval, cellsOf_agg, nat_le, Int.toNat_natCast, List.getElem?_map, Option.map_some, loadOf, cellsAt, partOf, c3, hx, x.cells_cs, Ev.cs]
    intro id hid
    refine callOk_frz (us := [stsV [x.s], .int .i64 4]) (fun i => i = id) (.cons (by rw [stsV, List.map_cons, List.map_nil, St.cells_eq]; exact Frz.whole (ids := fun i => i = id) rfl (upd_self _ _ _) rfl) (.cons (.same _) .nil)) (few10 [x.s] 4 (by omega) (by omega)) ?_
    rintro u ⟨b1, rfl, hb1⟩
    refine ⟨.bool _, ?_⟩
    simp -implicitDefEqProofs only [W_cond, Thn_normal, wOps_nil, wOps_cons, val_0, val_g, valK_eq, onPut_some, onGuard_bool, onBool_bool, br_true, br_not, beq_false', retK_some, ev_E, ev_c, set_E, look_cons, look_nil, cond_true, cond_false, Nat.reduceBEq, Nat.reduceAdd, Nat.reduceSub, if_false, Bool.false_eq_true, Bool.not_false, AVal.eval, unOf]
    refine br_intro2 (fun c4 => ?_) (fun c4 => ?_)
    · simp -implicitDefEqProofs only [W_region, W_seq, W_ret, Again_ret, Thn_normal, Thn_ret, Bl_ret, wOps_nil, wOps_cons, val_0, valK_eq, onPut_some, ev_c, set_E, Bool.not_false, AVal.eval, c4]
      refine post1 ?_
      simp -implicitDefEqProofs only [ev_E, look_cons, look_nil, cond_true, cond_false, Nat.reduceBEq, Nat.reduceAdd, Nat.reduceSub]
      exact ⟨false, rfl, by simp⟩
    · simp -implicitDefEqProofs only [W_skip, W_region, Again_normal, keep_eq, Thn_normal, Bl_normal, wOps_nil, wOps_cons, val_0, valK_eq, onPut_some, ev_E, ev_c, set_E, look_cons, look_nil, lookB_nil, cond_true, cond_false, Nat.reduceBEq, Nat.reduceAdd, Nat.reduceSub, if_true, Bool.not_true, List.map_cons, List.map_nil, AVal.eval, binOf, intOf, c4, wrap_succ (show k < 9223372036854775807 by omega)]
      refine hi (k + 1, _) (by simp only []; omega) ⟨by simp only []; omega, fun i z hij hz => ?_⟩
      rcases Nat.lt_succ_iff_lt_or_eq.1 hij with h | h
      · exact hall i z h hz
      · subst h; rw [hx] at hz; injection hz with hz; subst hz
        obtain ⟨e1, e2⟩ := hb1 c4
        exact ⟨by simp at c1; omega, by simpa using c2, by simpa using c3, e2 _ (by simp), by simp [cntL] at e1; omega⟩
  · simp -implicitDefEqProofs only [W_region, W_seq, W_exit, W_ret, Again_exit, Thn_normal, Thn_exit, Bl_exit, wOps_nil, wOps_cons, val_0, valK_eq, onPut_some, ev_c, set_E, cond_true, Nat.reduceBEq, AVal.eval]
    refine post1 ?_
    simp -implicitDefEqProofs only [ev_E, look_cons, look_nil, cond_true, cond_false, Nat.reduceBEq, Nat.reduceAdd, Nat.reduceSub]
    have h7 : ¬ k < l.length := by simpa using h6
    refine ⟨true, rfl, fun _ => ⟨h4, fun x hx => ?_⟩⟩
    obtain ⟨i, hil, e⟩ := List.getElem_of_mem hx
    exact hall i x (by omega) (by rw [← e]; exact List.getElem?_eq_getElem hil)
end TryT
end Go.Abs
