/-
  Contracts: what is behind StSkip; the next one by a label.
-/
import Derived.Test.YtfgkfjmbjopfgaaGsC6
import Derived.Test.YtfgkfjmbjopfgaaGsL1
set_option linter.unusedVariables false
set_option linter.unusedSimpArgs false
set_option maxRecDepth 100000
namespace Go.Abs
open Go
/-- What 'behind' tells. -/
def behV : Option (Nat × Int) → V
  | some r => .tup [.int .i64 r.1, .int .i64 r.2]
  | none => .tup [.int .i64 (-1), .int .i64 0]
/-- Costs that may be. -/
def Cheap (l : List Ev) : Prop := l.length ≤ 65536 ∧ ∀ x ∈ l, 0 ≤ x.s.cost ∧ x.s.cost ≤ 1048576
namespace TryT
theorem new21f (n : Nat) (hn : n ≤ 65536) : Ret prog 21 [.int .i64 n] Heap.none fun r _ => SetIs n (fun _ => false) r := by
  refine Ret.by_text rfl rfl ?_
  simp -implicitDefEqProofs only [number, W_region, W_seq, Thn_normal, wOps_nil, wOps_cons, val_0, valK_eq, onPut_some, box_0, onCells_some, boxK_eq, ev_E, ev_c, set_E, set_B, getD_B, look_cons, look_nil, lookB_nil, cond_true, cond_false, Nat.reduceBEq, Nat.reduceAdd, Nat.reduceSub, if_true, true_and, List.length_cons, List.length_nil, AVal.eval, cellsOf_agg, binOf, intOf, a21]
  intro g
  have f1 : (if (65536 : Int) < (n : Int) then 65536 else (n : Int)) = n := if_neg (by omega)
  have f2 : (if (n : Int) > 0 then (n : Int) else 0) = n := by split <;> omega
  have f3 : IntKind.i64.wrap ((n : Int) + 63) = ((n + 63 : Nat) : Int) := by rw [wrap_in ⟨by omega, by omega⟩]; omega
  have f4 : IntKind.i64.wrap (((n + 63 : Nat) : Int).tdiv 64) = (((n + 63) / 64 : Nat) : Int) := by
    rw [Int.tdiv_eq_ediv_of_nonneg (by omega), wrap_in ⟨by omega, by omega⟩]; omega
  simp -implicitDefEqProofs only [W_ret, Thn_normal, wOps_nil, wOps_cons, val_0, valK_eq, onPut_some, st_0, stK_eq, onS_some, fill, onInts_int, mksK_eq, mks_0, ev_E, set_E, set_B, getD_B, look_cons, lookB_cons, look_nil, lookB_nil, cond_true, cond_false, Nat.reduceBEq, Nat.reduceAdd, Nat.reduceSub, Nat.reduceLeDiff, if_true, if_false, storeOf, storeCells, over, List.append_nil, true_and, and_self, List.length_cons, List.length_nil, List.drop_succ_cons, List.drop_zero, List.take_succ_cons, List.take_zero, List.drop_nil, List.nil_append, List.cons_append, AVal.eval, cellsOf_agg, cellsOf_int, cellsOf_msl, nat_le, Int.toNat_natCast, Option.map_some, boxOf, f1, f2, f3, f4, show ((64 : Int) = 0) = False by simp]
  refine ⟨by omega, by omega, by omega, fun id hid => ?_⟩
  refine postCF (v := .agg [.int .i64 n, .msl id 0 ((n + 63) / 64)]) (u := setV n ((List.replicate ((n + 63) / 64) 0).map fun (x : Nat) => (x : Int))) (h2 := Heap.none) (fun k => k = id) (by simp -implicitDefEqProofs only [ev_E, getD_B, look_cons, lookB_cons, look_nil, lookB_nil, cond_true, cond_false, Nat.reduceBEq, Nat.reduceAdd, Nat.reduceSub, Nat.reduceLeDiff, if_true, List.getElem?_cons_zero, List.length_cons, List.length_nil, List.drop_zero, List.take_succ_cons, List.take_nil, loadOf, cellsAt, boxOf, partOf]) ?_ (fun k b h => by cases h) (fun k _ => rfl) ?_
  · refine Frz.aggL (.cons (.same _) (.cons (Frz.whole rfl (Eq.trans (upd_self _ _ _) ?_) (by simp)) .nil))
    simp [wordC]
  · refine ⟨_, rfl, by simp, fun y hy => ?_, fun k hk => ?_⟩
    · rw [(List.mem_replicate.1 hy).2]; decide
    · rw [List.getElem?_replicate, if_pos (by omega)]; simp

theorem behind12 (l : List Ev) (i : Nat) (hr : right l = true) (hc : Cheap l) (hi : i < l.length) : Ret prog 12 [evsV l, .int .i64 i] Heap.none fun r _ => ∃ b, Beh l i b ∧ r = behV b := by
  obtain ⟨hl, hco⟩ := hc
  refine Ret.by_text rfl rfl ?_
  simp -implicitDefEqProofs only [number, W_region, W_seq, Thn_normal, wOps_nil, wOps_cons, val_0, valK_eq, onPut_some, call_0, callK_eq, ev_E, ev_c, set_E, look_cons, look_nil, cond_true, cond_false, Nat.reduceBEq, Nat.reduceAdd, Nat.reduceSub, List.map_cons, List.map_nil, AVal.eval, List.length_map, a12, evsV]
  refine callOk_of (new21f l.length hl) ?_
  rintro u ⟨w0, rfl, hw0, hb0, hS0⟩
  simp -implicitDefEqProofs only [W_seq, W_block, W_loop, keep_eq, Thn_normal, wOps_nil, wOps_cons, box_0, onCells_some, boxK_eq, st_0, stK_eq, onS_some, retK_some, ev_E, ev_c, set_E, set_B, getD_B, look_cons, lookB_cons, look_nil, lookB_nil, cond_true, cond_false, Nat.reduceBEq, Nat.reduceAdd, Nat.reduceSub, Nat.reduceLeDiff, if_true, storeOf, storeCells, over, List.append_nil, true_and, and_self, List.length_cons, List.length_nil, List.drop_succ_cons, List.take_zero, List.drop_nil, List.map_cons, List.map_nil, List.nil_append, cellsOf_agg, boxOf, setV]
  intro g
  refine Loop.rec (α := Nat × List Nat × Int × List Nat) (fun k => l.length - k.2.1.length) (fun k => ⟨E 48 [(0, evsV l), (1, .int .i64 k.1), (6, .int .i64 k.2.2.1), (7, .lp 7 g 0)], B 48 [(7, some (g, [.int .i64 l.length, .fsl 1 ((k.2.2.2.map fun (x : Nat) => (x : Int)).map wordC)]))], Heap.none⟩)
    (fun k => Way l i k.2.1 k.2.2.1 k.1 ∧ k.2.1.Nodup ∧ SetIs l.length (fun j => k.2.1.contains j) (setV l.length (k.2.2.2.map fun (x : Nat) => (x : Int))) ∧ 0 ≤ k.2.2.1 ∧ k.2.2.1 ≤ k.2.1.length * 1048576 ∧ k.1 < l.length) ?_
    (i, [], 0, w0) ⟨.nil i, by simp, ⟨w0, rfl, hw0, hb0, hS0⟩, by simp, by simp, hi⟩ rfl
  rintro ⟨j, vs, c, w⟩ ⟨hw, hd, hs, hc0, hc1, hj⟩ hrec
  simp only [] at hw hd hs hc0 hc1 hj
  have hvl : vs.length ≤ l.length := nodup_len _ _ hd hw.mem
  obtain ⟨x, hx⟩ : ∃ x, l[j]? = some x := ⟨_, List.getElem?_eq_getElem hj⟩
  obtain ⟨q0, q1⟩ := hco x (List.mem_of_getElem? hx)
  have hrx := right_at hr hx
  simp -implicitDefEqProofs only [W_region, W_seq, W_cond, Thn_normal, wOps_nil, wOps_cons, val_0, valK_eq, onPut_some, onBool_bool, ev_E, ev_c, set_E, look_cons, look_nil, cond_true, cond_false, Nat.reduceBEq, Nat.reduceAdd, Nat.reduceSub, Nat.reduceLeDiff, if_true, if_false, Bool.false_eq_true, and_self, List.getElem?_cons_zero, List.length_cons, List.length_nil, List.drop_zero, List.take_succ_cons, List.take_zero, AVal.eval, nat_le, Int.toNat_natCast, List.getElem?_map, Option.map_some, loadOf, cellsAt, partOf, binOf, intOf, evsV, hx, x.cells_cs, Ev.cs]
  refine br_intro (fun h1 => ?_) (fun h1 => ?_)
  · obtain ⟨k, hk1, hk2, hk3⟩ := Ev.nx_at hrx (c := 0) (by rw [Ev.one_next hrx h1]; omega)
    rw [Nat.zero_min] at hk1
    simp -implicitDefEqProofs only [W_skip, W_region, W_seq, W_block, Thn_normal, wOps_cons, val_0, valK_eq, onPut_some, call_0, callK_eq, ev_E, set_E, getD_B, look_cons, lookB_cons, look_nil, lookB_nil, cond_true, cond_false, Nat.reduceBEq, Nat.reduceAdd, Nat.reduceSub, Nat.reduceLeDiff, if_true, List.getElem?_cons_zero, List.length_cons, List.length_nil, List.drop_zero, List.take_succ_cons, List.take_nil, List.map_cons, List.map_nil, AVal.eval, loadOf, cellsAt, boxOf, partOf, h1]
    refine callOk_pure (has22 hs hl j (by omega)) ?_
    simp -implicitDefEqProofs only [W_cond, Thn_normal, wOps_nil, onBool_bool, retK_some, ev_E, set_E, look_cons, look_nil, cond_true, cond_false, Nat.reduceBEq, Nat.reduceAdd, Nat.reduceSub, show decide (j < l.length) = true by simpa using hj]
    refine br_intro (fun h2 => ?_) (fun h2 => ?_)
    · simp -implicitDefEqProofs only [W_region, W_seq, W_ret, Again_ret, Thn_normal, Thn_ret, Bl_ret, wOps_nil, wOps_cons, val_0, valK_eq, onPut_some, ev_c, set_E, AVal.eval, h2]
      refine post2 ?_
      simp -implicitDefEqProofs only [ev_E, look_cons, look_nil, cond_true, cond_false, Nat.reduceBEq, Nat.reduceAdd, Nat.reduceSub]
      exact ⟨none, hw.again (by simpa using h2), rfl⟩
    · have hjv : j ∉ vs := by simpa using h2
      simp -implicitDefEqProofs only [W_skip, W_region, W_seq, Thn_normal, wOps_cons, val_0, valK_eq, onPut_some, call_0, callK_eq, ev_E, set_E, getD_B, look_cons, lookB_cons, look_nil, lookB_nil, cond_true, cond_false, Nat.reduceBEq, Nat.reduceAdd, Nat.reduceSub, Nat.reduceLeDiff, if_true, List.getElem?_cons_zero, List.length_cons, List.length_nil, List.drop_zero, List.take_succ_cons, List.take_nil, List.map_cons, List.map_nil, AVal.eval, loadOf, cellsAt, boxOf, partOf, h2]
      refine callOk_of (with23 hs hl j hj) ?_
      rintro u ⟨w2, rfl, hw2, hb2, hS2⟩
      simp -implicitDefEqProofs only [W_region, W_seq, Again_normal, keep_eq, Thn_normal, Bl_normal, wOps_nil, wOps_cons, val_0, valK_eq, onPut_some, st_0, stK_eq, onS_some, retK_some, ev_E, ev_c, set_E, set_B, getD_B, look_cons, lookB_cons, look_nil, lookB_nil, cond_true, cond_false, Nat.reduceBEq, Nat.reduceAdd, Nat.reduceSub, Nat.reduceLeDiff, if_true, if_false, storeOf, storeCells, over, List.append_nil, Bool.false_eq_true, and_self, List.getElem?_cons_zero, List.getElem?_cons_succ, List.length_cons, List.length_nil, List.drop_succ_cons, List.drop_zero, List.take_succ_cons, List.take_zero, List.take_nil, List.drop_nil, List.map_cons, List.map_nil, List.nil_append, AVal.eval, cellsOf_agg, nat_le, Int.toNat_natCast, Int.reduceLE, Int.reduceToNat, List.getElem?_map, Option.map_some, loadOf, cellsAt, boxOf, partOf, binOf, intOf, setV, hx, x.cells_cs, Ev.cs, hk1, intC, wrap_in (show -9223372036854775808 ≤ c + x.s.cost ∧ c + x.s.cost ≤ 9223372036854775807 by omega)]
      have hv2 : (vs ++ [j]).Nodup := by
        rw [List.nodup_append]
        exact ⟨hd, by simp, fun a ha b hb e => by simp at hb; subst hb; subst e; exact hjv ha⟩
      have hw3 : Way l i (vs ++ [j]) (c + x.s.cost) (x.nx 0) := .snoc hw hx h1
      have hvl2 := nodup_len _ _ hv2 hw3.mem
      rw [hk2] at hw3
      simp only [List.length_append, List.length_cons, List.length_nil] at hvl2
      refine hrec (k, vs ++ [j], c + x.s.cost, w2) (by simp; omega) ⟨hw3, hv2, ⟨w2, rfl, hw2, hb2, fun m hm => by rw [hS2 m hm]; exact Bool.eq_iff_iff.2 (by simp)⟩, by simp only []; omega, by simp; omega, hk3⟩
  · simp -implicitDefEqProofs only [W_region, W_seq, W_exit, W_ret, Again_exit, Thn_normal, Thn_exit, Bl_exit, wOps_nil, wOps_cons, val_0, valK_eq, onPut_some, ev_E, set_E, look_cons, look_nil, cond_true, cond_false, Nat.reduceBEq, Nat.reduceAdd, Nat.reduceSub, Nat.reduceLeDiff, if_true, if_false, Bool.false_eq_true, and_self, List.getElem?_cons_zero, List.getElem?_cons_succ, List.length_cons, List.length_nil, List.drop_succ_cons, List.drop_zero, List.take_succ_cons, List.take_zero, AVal.eval, nat_le, Int.toNat_natCast, List.getElem?_map, Option.map_some, loadOf, cellsAt, partOf, binOf, intOf, h1, hx, x.cells_cs, Ev.cs, wrap_in (show -9223372036854775808 ≤ c + x.s.cost ∧ c + x.s.cost ≤ 9223372036854775807 by omega)]
    refine post2 ?_
    simp -implicitDefEqProofs only [ev_E, look_cons, look_nil, cond_true, cond_false, Nat.reduceBEq, Nat.reduceAdd, Nat.reduceSub]
    exact ⟨_, hw.beh (Beh.stop hx h1), rfl⟩

theorem behind15 (l : List Ev) (i : Nat) (hr : right l = true) (hc : Cheap l) (hi : i < l.length) : Ret prog 15 [evsV l, .int .i64 i] Heap.none fun r _ => ∃ b, Beh l i b ∧ r = behV b := by
  obtain ⟨hl, hco⟩ := hc
  refine Ret.by_text rfl rfl ?_
  simp -implicitDefEqProofs only [number, W_region, W_seq, W_block, W_loop, keep_eq, Thn_normal, wOps_nil, wOps_cons, val_0, valK_eq, onPut_some, ev_c, set_E, look_cons, look_nil, lookB_nil, cond_true, cond_false, Nat.reduceBEq, Nat.reduceAdd, List.map_cons, List.map_nil, AVal.eval, a15, evsV]
  refine Loop.rec (α := Nat × List Nat × Int) (fun k => l.length + 1 - k.2.1.length) (fun k => ⟨E 45 [(0, evsV l), (1, .int .i64 k.1), (6, .int .i64 k.2.2), (7, .int .i64 k.2.1.length)], B 45 [], Heap.none⟩)
    (fun k => Way l i k.2.1 k.2.2 k.1 ∧ k.2.1.length ≤ l.length + 1 ∧ 0 ≤ k.2.2 ∧ k.2.2 ≤ k.2.1.length * 1048576 ∧ k.1 < l.length) ?_
    (i, [], 0) ⟨.nil i, by simp, by simp, by simp, hi⟩ rfl
  rintro ⟨j, vs, c⟩ ⟨hw, hvl, hc0, hc1, hj⟩ hrec
  simp only [] at hw hvl hc0 hc1 hj
  obtain ⟨x, hx⟩ : ∃ x, l[j]? = some x := ⟨_, List.getElem?_eq_getElem hj⟩
  obtain ⟨q0, q1⟩ := hco x (List.mem_of_getElem? hx)
  have hrx := right_at hr hx
  simp -implicitDefEqProofs only [W_region, W_seq, W_cond, Thn_normal, wOps_nil, wOps_cons, val_0, valK_eq, onPut_some, onBool_bool, ev_E, set_E, look_cons, look_nil, cond_true, cond_false, Nat.reduceBEq, Nat.reduceAdd, Nat.reduceSub, if_true, AVal.eval, List.length_map, binOf, intOf, evsV]
  refine br_intro (fun h0 => ?_) (fun h0 => ?_)
  · have h0' : vs.length ≤ l.length := by simpa using h0
    simp -implicitDefEqProofs only [W_skip, W_region, W_seq, W_cond, W_block, Thn_normal, wOps_nil, wOps_cons, val_0, valK_eq, onPut_some, onBool_bool, ev_E, ev_c, set_E, look_cons, look_nil, cond_true, cond_false, Nat.reduceBEq, Nat.reduceAdd, Nat.reduceSub, Nat.reduceLeDiff, if_true, if_false, Bool.false_eq_true, and_self, List.getElem?_cons_zero, List.length_cons, List.length_nil, List.drop_zero, List.take_succ_cons, List.take_zero, AVal.eval, nat_le, Int.toNat_natCast, List.getElem?_map, Option.map_some, loadOf, cellsAt, partOf, binOf, intOf, h0, hx, x.cells_cs, Ev.cs]
    refine br_intro (fun h1 => ?_) (fun h1 => ?_)
    · simp -implicitDefEqProofs only [W_region, W_seq, W_ret, Again_ret, Thn_normal, Thn_ret, Bl_ret, wOps_nil, wOps_cons, val_0, valK_eq, onPut_some, ev_E, set_E, look_cons, look_nil, cond_true, cond_false, Nat.reduceBEq, Nat.reduceAdd, Nat.reduceSub, Nat.reduceLeDiff, if_true, if_false, Bool.false_eq_true, and_self, List.getElem?_cons_zero, List.getElem?_cons_succ, List.length_cons, List.length_nil, List.drop_succ_cons, List.drop_zero, List.take_succ_cons, List.take_zero, AVal.eval, nat_le, Int.toNat_natCast, List.getElem?_map, Option.map_some, loadOf, cellsAt, partOf, binOf, intOf, h1, hx, x.cells_cs, Ev.cs, wrap_in (show -9223372036854775808 ≤ c + x.s.cost ∧ c + x.s.cost ≤ 9223372036854775807 by omega)]
      refine post2 ?_
      simp -implicitDefEqProofs only [ev_E, look_cons, look_nil, cond_true, cond_false, Nat.reduceBEq, Nat.reduceAdd, Nat.reduceSub]
      exact ⟨_, hw.beh (Beh.stop hx (by simpa [bne] using h1)), rfl⟩
    · have h1' : (x.s.kind == 0) = true := by simpa [bne] using h1
      obtain ⟨k, hk1, hk2, hk3⟩ := Ev.nx_at hrx (c := 0) (by rw [Ev.one_next hrx h1']; omega)
      rw [Nat.zero_min] at hk1
      simp -implicitDefEqProofs only [W_skip, W_region, W_seq, Again_normal, keep_eq, Thn_normal, Bl_normal, wOps_nil, wOps_cons, val_0, valK_eq, onPut_some, ev_E, ev_c, set_E, look_cons, look_nil, lookB_nil, cond_true, cond_false, Nat.reduceBEq, Nat.reduceAdd, Nat.reduceSub, Nat.reduceLeDiff, if_true, if_false, Bool.false_eq_true, and_self, List.getElem?_cons_zero, List.getElem?_cons_succ, List.length_cons, List.length_nil, List.drop_succ_cons, List.drop_zero, List.take_succ_cons, List.take_zero, List.take_nil, List.map_cons, List.map_nil, AVal.eval, nat_le, Int.toNat_natCast, Int.reduceLE, Int.reduceToNat, List.getElem?_map, Option.map_some, loadOf, cellsAt, partOf, binOf, intOf, h1, hx, x.cells_cs, Ev.cs, hk1, intC, wrap_in (show -9223372036854775808 ≤ c + x.s.cost ∧ c + x.s.cost ≤ 9223372036854775807 by omega), wrap_succ (show vs.length < 9223372036854775807 by omega)]
      have hw3 : Way l i (vs ++ [j]) (c + x.s.cost) (x.nx 0) := .snoc hw hx h1'
      rw [hk2] at hw3
      have := hrec (k, vs ++ [j], c + x.s.cost) (by simp; omega) ⟨hw3, by simp; omega, by simp only []; omega, by simp; omega, hk3⟩
      simp only [List.length_append, List.length_cons, List.length_nil, Nat.zero_add] at this
      exact this
  · simp -implicitDefEqProofs only [W_region, W_seq, W_exit, W_ret, Again_exit, Thn_normal, Thn_exit, Bl_exit, wOps_nil, wOps_cons, val_0, valK_eq, onPut_some, ev_c, set_E, cond_true, Nat.reduceBEq, AVal.eval, h0]
    refine post2 ?_
    simp -implicitDefEqProofs only [ev_E, look_cons, look_nil, cond_true, cond_false, Nat.reduceBEq, Nat.reduceAdd, Nat.reduceSub]
    exact ⟨none, hw.long (by simpa using h0), rfl⟩

theorem next14 (x : Ev) (m c : Nat) (hr : Ev.right m x = true) (hp : 0 < x.next.length) (hn : x.next.length < 1000000) : Ret prog 14 [x.v, .int .i64 c] Heap.none fun r _ => r = .int .i64 (x.nx c) := by
  obtain ⟨k, hk1, hk2, hk3⟩ := Ev.nx_at hr (c := c) hp
  refine Ret.by_text rfl rfl ?_
  have f1 : IntKind.i64.wrap ((x.next.length : Int) - 1) = ((x.next.length - 1 : Nat) : Int) := by rw [wrap_in ⟨by omega, by omega⟩]; omega
  have f2 : (if (((x.next.length - 1 : Nat) : Int)) < (c : Int) then (((x.next.length - 1 : Nat) : Int)) else (c : Int)) = ((min c (x.next.length - 1) : Nat) : Int) := by split <;> omega
  simp -implicitDefEqProofs only [number, W_region, W_seq, Thn_normal, wOps_nil, wOps_cons, val_0, valK_eq, onPut_some, box_0, onCells_some, boxK_eq, ev_E, ev_c, set_E, set_B, getD_B, look_cons, lookB_cons, look_nil, lookB_nil, cond_true, cond_false, Nat.reduceBEq, Nat.reduceAdd, Nat.reduceSub, Nat.reduceLeDiff, if_true, if_false, Bool.false_eq_true, true_and, and_true, List.getElem?_cons_zero, List.getElem?_cons_succ, List.length_cons, List.length_nil, List.drop_succ_cons, List.drop_zero, List.take_succ_cons, List.take_nil, AVal.eval, List.getElem?_map, List.length_map, loadOf, cellsAt, boxOf, partOf, binOf, intOf, a14, Ev.cellsOf_v, Ev.cs]
  intro g
  simp -implicitDefEqProofs only [W_ret, Thn_normal, wOps_nil, wOps_cons, val_0, valK_eq, onPut_some, ev_E, set_E, look_cons, look_nil, cond_true, cond_false, Nat.reduceBEq, Nat.reduceAdd, Nat.reduceSub, Nat.reduceLeDiff, if_true, if_false, Bool.false_eq_true, List.getElem?_cons_zero, List.length_cons, List.length_nil, List.drop_zero, List.take_succ_cons, List.take_nil, AVal.eval, nat_le, Int.toNat_natCast, Option.map_some, loadOf, cellsAt, partOf, f1, f2, hk1, intC]
  refine post1 ?_
  simp -implicitDefEqProofs only [ev_E, look_cons, look_nil, cond_true, cond_false, Nat.reduceBEq, Nat.reduceAdd, Nat.reduceSub, hk2]

theorem label17 (x : Ev) (m c : Nat) (hr : Ev.right m x = true) (hp : 0 < x.next.length) (hn : x.next.length < 1000000) : Ret prog 17 [x.v, .int .i64 c] Heap.none fun r _ => r = .int .i64 (x.nx c) := by
  obtain ⟨k, hk1, hk2, hk3⟩ := Ev.nx_at hr (c := c) hp
  refine Ret.by_text rfl rfl ?_
  have f1 : IntKind.i64.wrap ((x.next.length : Int) - 1) = ((x.next.length - 1 : Nat) : Int) := by rw [wrap_in ⟨by omega, by omega⟩]; omega
  simp -implicitDefEqProofs only [number, W_region, W_seq, W_cond, Thn_normal, wOps_nil, wOps_cons, val_0, valK_eq, onPut_some, onBool_bool, box_0, onCells_some, boxK_eq, ev_E, ev_c, set_E, set_B, getD_B, look_cons, lookB_cons, look_nil, lookB_nil, cond_true, cond_false, Nat.reduceBEq, Nat.reduceAdd, Nat.reduceSub, Nat.reduceLeDiff, if_true, if_false, Bool.false_eq_true, true_and, List.getElem?_cons_zero, List.getElem?_cons_succ, List.length_cons, List.length_nil, List.drop_succ_cons, List.drop_zero, List.take_succ_cons, List.take_nil, AVal.eval, List.length_map, loadOf, cellsAt, boxOf, partOf, binOf, intOf, a17, Ev.cellsOf_v, Ev.cs]
  intro g
  refine br_intro (fun h1 => ?_) (fun h1 => ?_)
  · have : min c (x.next.length - 1) = x.next.length - 1 := by simp at h1; omega
    rw [this] at hk1
    simp -implicitDefEqProofs only [W_region, W_seq, W_ret, Thn_normal, Thn_ret, wOps_nil, wOps_cons, val_0, valK_eq, onPut_some, ev_E, ev_c, set_E, getD_B, look_cons, lookB_cons, look_nil, lookB_nil, cond_true, cond_false, Nat.reduceBEq, Nat.reduceAdd, Nat.reduceSub, Nat.reduceLeDiff, if_true, if_false, Bool.false_eq_true, and_self, List.getElem?_cons_zero, List.getElem?_cons_succ, List.length_cons, List.length_nil, List.drop_succ_cons, List.drop_zero, List.take_succ_cons, List.take_nil, AVal.eval, nat_le, Int.toNat_natCast, List.getElem?_map, List.length_map, Option.map_some, loadOf, cellsAt, boxOf, partOf, binOf, intOf, h1, f1, hk1, intC]
    refine post1 ?_
    simp -implicitDefEqProofs only [ev_E, look_cons, look_nil, cond_true, cond_false, Nat.reduceBEq, Nat.reduceAdd, Nat.reduceSub, hk2]
  · have : min c (x.next.length - 1) = c := by simp at h1; omega
    rw [this] at hk1
    simp -implicitDefEqProofs only [W_skip, W_region, W_seq, W_ret, Thn_normal, wOps_nil, wOps_cons, val_0, valK_eq, onPut_some, ev_E, set_E, getD_B, look_cons, lookB_cons, look_nil, lookB_nil, cond_true, cond_false, Nat.reduceBEq, Nat.reduceAdd, Nat.reduceSub, Nat.reduceLeDiff, if_true, if_false, Bool.false_eq_true, and_self, List.getElem?_cons_zero, List.getElem?_cons_succ, List.length_cons, List.length_nil, List.drop_succ_cons, List.drop_zero, List.take_succ_cons, List.take_nil, AVal.eval, nat_le, Int.toNat_natCast, List.getElem?_map, Option.map_some, loadOf, cellsAt, boxOf, partOf, h1, hk1, intC]
    refine post1 ?_
    simp -implicitDefEqProofs only [ev_E, look_cons, look_nil, cond_true, cond_false, Nat.reduceBEq, Nat.reduceAdd, Nat.reduceSub, hk2]
end TryT
end Go.Abs
