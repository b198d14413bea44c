/-
  A part of the proof. Conditions: none.
-/
import Derived.Test.YtfgkfjmbjopfgaaGreatP7
set_option linter.unusedVariables false
set_option linter.unusedSimpArgs false
set_option maxRecDepth 100000
set_option maxHeartbeats 16000000
open Nat renaming reduceBEq → rB, reduceAdd → rA, reduceSub → rS, reduceLeDiff → rL, reduceMul → rM, reduceEqDiff → rE
open Int renaming reduceLE → jL, reduceToNat → jN, reduceBEq → jB, reduceLT → jT
open List renaming getElem?_eq_getElem → lG, mem_of_getElem? → lM, mem_cons_self → lC
namespace Go.Abs
open Go
namespace TryzT
def PlainP (s : Sc) (x : St) : Prop := (x.kind = 1 ∨ x.kind = 3 → VarOk s x) ∧ (x.kind = 2 → SlotOk s x) ∧ (x.kind = 4 → InOk s x.n x.e) ∧ (x.kind = 5 → BlockOk s x) ∧ 1 ≤ x.kind ∧ x.kind ≤ 5
theorem plain_1 (s : Sc) (x : St) (k1 : (x.kind == 1) = true) (k3 : (x.kind == 3) = false) : Ret prog 87 [s.v, x.v] Heap.none fun r _ => YesP (VarOk s x) r := by
 obtain ⟨_, ⟨t, rfl, gx, bx⟩, hx⟩ := d_type s x.e
 have hk : x.kind ≠ 3 := by simpa using k3
 by_cases hr : 0 ≤ x.n ∧ x.n < (s.vars.length : Int)
 ·obtain ⟨k, hn, hkl⟩ := nat_of hr
  obtain ⟨v, hv⟩ : ∃ b, s.vars[k]? = some b := ⟨_, lG hkl⟩
  have f1 : decide ((k : Int) ≥ 0) = true := by simp
  have f2 : decide ((k : Int) < (s.vars.length : Int)) = true := by simp; omega
  refine Ret.by_text rfl rfl ?_
  simp -implicitDefEqProofs only [go_sem, rB, rA, rS, rL, a87, St.cellsOf_v, Sc.cellsOf_v, Sc.cs, St.cs, Sc.fold, Ex.fold, hn]
  repeat' first
   | (refine br_intro (fun hb => ?_) (fun hb => ?_) <;> simp -implicitDefEqProofs only [go_sem, rB, rA, rS, rL, hb, k1, k3, hv, Vr.cells])
   | (first | refine callOk_det (hx) ?_ | refine callPure_det (hx) ?_ | refine callOk_of (hx) ?_ | refine callPure_of (hx) ?_); rintro u rfl; simp -implicitDefEqProofs only [go_sem, rB, rA, rS, rL, k1, f2]
   | (refine fun (g : Nat) => ?_; simp -implicitDefEqProofs only [go_sem, rB, rA, rS, rM, rL, rE, jL, jN, Sc.cs, St.cs, Sc.fold, Ex.fold, k1, k3, hn, f1, f2, hv, Vr.cells])
   | refine fun (g : Nat) => ?_
   | (refine post_ret (v := _) (by simp -implicitDefEqProofs only [go_sem, rB, rA, rS, resultOf, mapM?, ARes.val]; exact rfl) ?_; first | exact YesP.no _ | exact ⟨_, rfl, fun _ => ⟨k, v, hn, hv, gx (by simp_all), fun h1 => bx (by simp_all), fun h3 => absurd h3 hk⟩⟩ | exact ⟨_, rfl, fun hq => ⟨k, v, hn, hv, gx (by simp_all), fun h1 => bx (by simp_all), fun h3 => absurd h3 hk⟩⟩)
 ·by_cases h0 : 0 ≤ x.n
  ·have f1 : decide (x.n ≥ 0) = true := by simp; omega
   have f2 : decide (x.n < (s.vars.length : Int)) = false := by simp; omega
   refine Ret.by_text rfl rfl ?_
   simp -implicitDefEqProofs only [go_sem, rB, rA, rS, rL, a87, St.cellsOf_v, Sc.cellsOf_v, Sc.cs, St.cs, Sc.fold, Ex.fold]
   repeat' first
    | (refine br_intro (fun hb => ?_) (fun hb => ?_) <;> simp -implicitDefEqProofs only [go_sem, rB, rA, rS, rM, rL, rE, jL, jN, hb, Sc.cs, St.cs, Sc.fold, Ex.fold, k1, k3, f1, f2])
    | (first | refine callOk_det (hx) ?_ | refine callPure_det (hx) ?_ | refine callOk_of (hx) ?_ | refine callPure_of (hx) ?_); rintro u rfl; simp -implicitDefEqProofs only [go_sem, rB, rA, rS, rL, k1, f1, f2]
    | (refine fun (g : Nat) => ?_; simp -implicitDefEqProofs only [go_sem, rB, rA, rS, rM, rL, rE, jL, jN, Sc.cs, St.cs, Sc.fold, Ex.fold, k1, k3, f1, f2])
    | refine fun (g : Nat) => ?_
    | (refine post_ret (v := _) (by simp -implicitDefEqProofs only [go_sem, rB, rA, rS, resultOf, mapM?, ARes.val]; exact rfl) ?_; exact YesP.no _)
  ·have f1 : decide (x.n ≥ 0) = false := by simp; omega
   refine Ret.by_text rfl rfl ?_
   simp -implicitDefEqProofs only [go_sem, rB, rA, rS, rL, a87, St.cellsOf_v, Sc.cellsOf_v, Sc.cs, St.cs, Sc.fold, Ex.fold]
   repeat' first
    | (refine br_intro (fun hb => ?_) (fun hb => ?_) <;> simp -implicitDefEqProofs only [go_sem, rB, rA, rS, rM, rL, rE, jL, jN, hb, Sc.cs, St.cs, Sc.fold, Ex.fold, k1, k3, f1])
    | (first | refine callOk_det (hx) ?_ | refine callPure_det (hx) ?_ | refine callOk_of (hx) ?_ | refine callPure_of (hx) ?_); rintro u rfl; simp -implicitDefEqProofs only [go_sem, rB, rA, rS, rL, k1, f1]
    | (refine fun (g : Nat) => ?_; simp -implicitDefEqProofs only [go_sem, rB, rA, rS, rM, rL, rE, jL, jN, Sc.cs, St.cs, Sc.fold, Ex.fold, k1, k3, f1])
    | refine fun (g : Nat) => ?_
    | (refine post_ret (v := _) (by simp -implicitDefEqProofs only [go_sem, rB, rA, rS, resultOf, mapM?, ARes.val]; exact rfl) ?_; exact YesP.no _)
theorem plain_3 (s : Sc) (x : St) (k1 : (x.kind == 1) = false) (k3 : (x.kind == 3) = true) : Ret prog 87 [s.v, x.v] Heap.none fun r _ => YesP (VarOk s x) r := by
 obtain ⟨_, ⟨t, rfl, gx, bx⟩, hx⟩ := d_type s x.e
 obtain ⟨_, ⟨t2, rfl, gi, _⟩, hi⟩ := d_type s x.i
 by_cases hr : 0 ≤ x.n ∧ x.n < (s.vars.length : Int)
 ·obtain ⟨k, hn, hkl⟩ := nat_of hr
  obtain ⟨v, hv⟩ : ∃ b, s.vars[k]? = some b := ⟨_, lG hkl⟩
  have f1 : decide ((k : Int) ≥ 0) = true := by simp
  have f2 : decide ((k : Int) < (s.vars.length : Int)) = true := by simp; omega
  refine Ret.by_text rfl rfl ?_
  simp -implicitDefEqProofs only [go_sem, rB, rA, rS, rL, a87, St.cellsOf_v, Sc.cellsOf_v, Sc.cs, St.cs, Sc.fold, Ex.fold, hn]
  repeat' first
   | (refine br_intro (fun hb => ?_) (fun hb => ?_) <;> simp -implicitDefEqProofs only [go_sem, rB, rA, rS, rL, hb, Sc.fold, Ex.fold, k1, k3, hv, Vr.cells])
   | (first | refine callOk_det (hx) ?_ | refine callPure_det (hx) ?_ | refine callOk_of (hx) ?_ | refine callPure_of (hx) ?_); rintro u rfl; simp -implicitDefEqProofs only [go_sem, rB, rA, rS, rL, k1, k3, f2]
   | (first | refine callOk_det (hi) ?_ | refine callPure_det (hi) ?_ | refine callOk_of (hi) ?_ | refine callPure_of (hi) ?_); rintro u rfl; simp -implicitDefEqProofs only [go_sem, rB, rA, rS]
   | (refine fun (g : Nat) => ?_; simp -implicitDefEqProofs only [go_sem, rB, rA, rS, rM, rL, rE, jL, jN, Sc.cs, St.cs, Sc.fold, Ex.fold, k1, k3, hn, f1, f2, hv, Vr.cells])
   | refine fun (g : Nat) => ?_
   | (refine post_ret (v := _) (by simp -implicitDefEqProofs only [go_sem, rB, rA, rS, resultOf, mapM?, ARes.val]; exact rfl) ?_; first | exact YesP.no _ | exact ⟨_, rfl, fun hq => ⟨k, v, hn, hv, gx (by simp_all), fun h1 => bx (by simp_all), fun h3 => gi (by simp at hq; omega)⟩⟩)
 ·by_cases h0 : 0 ≤ x.n
  ·have f1 : decide (x.n ≥ 0) = true := by simp; omega
   have f2 : decide (x.n < (s.vars.length : Int)) = false := by simp; omega
   refine Ret.by_text rfl rfl ?_
   simp -implicitDefEqProofs only [go_sem, rB, rA, rS, rL, a87, St.cellsOf_v, Sc.cellsOf_v, Sc.cs, St.cs, Sc.fold, Ex.fold]
   repeat' first
    | (refine br_intro (fun hb => ?_) (fun hb => ?_) <;> simp -implicitDefEqProofs only [go_sem, rB, rA, rS, rM, rL, rE, jL, jN, hb, Sc.cs, St.cs, Sc.fold, Ex.fold, k1, k3, f1, f2])
    | (first | refine callOk_det (hx) ?_ | refine callPure_det (hx) ?_ | refine callOk_of (hx) ?_ | refine callPure_of (hx) ?_); rintro u rfl; simp -implicitDefEqProofs only [go_sem, rB, rA, rS, rL, k1, k3, f1, f2]
    | (refine fun (g : Nat) => ?_; simp -implicitDefEqProofs only [go_sem, rB, rA, rS, rM, rL, rE, jL, jN, Sc.cs, St.cs, Sc.fold, Ex.fold, k1, k3, f1, f2])
    | refine fun (g : Nat) => ?_
    | (refine post_ret (v := _) (by simp -implicitDefEqProofs only [go_sem, rB, rA, rS, resultOf, mapM?, ARes.val]; exact rfl) ?_; exact YesP.no _)
  ·have f1 : decide (x.n ≥ 0) = false := by simp; omega
   refine Ret.by_text rfl rfl ?_
   simp -implicitDefEqProofs only [go_sem, rB, rA, rS, rL, a87, St.cellsOf_v, Sc.cellsOf_v, Sc.cs, St.cs, Sc.fold, Ex.fold]
   repeat' first
    | (refine br_intro (fun hb => ?_) (fun hb => ?_) <;> simp -implicitDefEqProofs only [go_sem, rB, rA, rS, rM, rL, rE, jL, jN, hb, Sc.cs, St.cs, Sc.fold, Ex.fold, k1, k3, f1])
    | (first | refine callOk_det (hx) ?_ | refine callPure_det (hx) ?_ | refine callOk_of (hx) ?_ | refine callPure_of (hx) ?_); rintro u rfl; simp -implicitDefEqProofs only [go_sem, rB, rA, rS, rL, k1, k3, f1]
    | (refine fun (g : Nat) => ?_; simp -implicitDefEqProofs only [go_sem, rB, rA, rS, rM, rL, rE, jL, jN, Sc.cs, St.cs, Sc.fold, Ex.fold, k1, k3, f1])
    | refine fun (g : Nat) => ?_
    | (refine post_ret (v := _) (by simp -implicitDefEqProofs only [go_sem, rB, rA, rS, resultOf, mapM?, ARes.val]; exact rfl) ?_; exact YesP.no _)
theorem plain_2 (s : Sc) (x : St) (k1 : (x.kind == 1) = false) (k3 : (x.kind == 3) = false) (k2 : (x.kind == 2) = true) : Ret prog 87 [s.v, x.v] Heap.none fun r _ => YesP (SlotOk s x) r := by
 obtain ⟨_, ⟨t, rfl, gx, bx⟩, hx⟩ := d_type s x.e
 by_cases hr : 0 ≤ x.n ∧ x.n < (s.slots.length : Int)
 ·obtain ⟨k, hn, hkl⟩ := nat_of hr
  obtain ⟨v, hv⟩ : ∃ b, s.slots[k]? = some b := ⟨_, lG hkl⟩
  have f1 : decide ((k : Int) ≥ 0) = true := by simp
  have f2 : decide ((k : Int) < (s.slots.length : Int)) = true := by simp; omega
  refine Ret.by_text rfl rfl ?_
  simp -implicitDefEqProofs only [go_sem, rB, rA, rS, rL, a87, St.cellsOf_v, Sc.cellsOf_v, Sc.cs, St.cs, Sc.fold, Ex.fold, hn]
  repeat' first
   | (refine br_intro (fun hb => ?_) (fun hb => ?_) <;> simp -implicitDefEqProofs only [go_sem, rB, rA, rS, rL, hb, hv, intC])
   | (first | refine callOk_det (hx) ?_ | refine callPure_det (hx) ?_ | refine callOk_of (hx) ?_ | refine callPure_of (hx) ?_); rintro u rfl; simp -implicitDefEqProofs only [go_sem, rB, rA, rS, rL, k1, k2, k3, f2]
   | (refine fun (g : Nat) => ?_; simp -implicitDefEqProofs only [go_sem, rB, rA, rS, rM, rL, rE, jL, jN, Sc.cs, St.cs, Sc.fold, Ex.fold, k1, k2, k3, hn, f1, f2, hv, intC])
   | refine fun (g : Nat) => ?_
   | (refine post_ret (v := _) (by simp -implicitDefEqProofs only [go_sem, rB, rA, rS, resultOf, mapM?, ARes.val]; exact rfl) ?_; first | exact YesP.no _ | exact ⟨_, rfl, fun hq => ⟨k, v, hn, hv, gx (by simp_all), fun h1 => bx (by simp_all)⟩⟩)
 ·by_cases h0 : 0 ≤ x.n
  ·have f1 : decide (x.n ≥ 0) = true := by simp; omega
   have f2 : decide (x.n < (s.slots.length : Int)) = false := by simp; omega
   refine Ret.by_text rfl rfl ?_
   simp -implicitDefEqProofs only [go_sem, rB, rA, rS, rL, a87, St.cellsOf_v, Sc.cellsOf_v, Sc.cs, St.cs, Sc.fold, Ex.fold]
   repeat' first
    | (refine br_intro (fun hb => ?_) (fun hb => ?_) <;> simp -implicitDefEqProofs only [go_sem, rB, rA, rS, rM, rL, rE, jL, jN, hb, Sc.cs, St.cs, Sc.fold, Ex.fold, k1, k2, k3, f1, f2])
    | (first | refine callOk_det (hx) ?_ | refine callPure_det (hx) ?_ | refine callOk_of (hx) ?_ | refine callPure_of (hx) ?_); rintro u rfl; simp -implicitDefEqProofs only [go_sem, rB, rA, rS, rL, k1, k2, k3, f1, f2]
    | (refine fun (g : Nat) => ?_; simp -implicitDefEqProofs only [go_sem, rB, rA, rS, rM, rL, rE, jL, jN, Sc.cs, St.cs, Sc.fold, Ex.fold, k1, k2, k3, f1, f2])
    | refine fun (g : Nat) => ?_
    | (refine post_ret (v := _) (by simp -implicitDefEqProofs only [go_sem, rB, rA, rS, resultOf, mapM?, ARes.val]; exact rfl) ?_; exact YesP.no _)
  ·have f1 : decide (x.n ≥ 0) = false := by simp; omega
   refine Ret.by_text rfl rfl ?_
   simp -implicitDefEqProofs only [go_sem, rB, rA, rS, rL, a87, St.cellsOf_v, Sc.cellsOf_v, Sc.cs, St.cs, Sc.fold, Ex.fold]
   repeat' first
    | (refine br_intro (fun hb => ?_) (fun hb => ?_) <;> simp -implicitDefEqProofs only [go_sem, rB, rA, rS, rM, rL, rE, jL, jN, hb, Sc.cs, St.cs, Sc.fold, Ex.fold, k1, k2, k3, f1])
    | (first | refine callOk_det (hx) ?_ | refine callPure_det (hx) ?_ | refine callOk_of (hx) ?_ | refine callPure_of (hx) ?_); rintro u rfl; simp -implicitDefEqProofs only [go_sem, rB, rA, rS, rL, k1, k2, k3, f1]
    | (refine fun (g : Nat) => ?_; simp -implicitDefEqProofs only [go_sem, rB, rA, rS, rM, rL, rE, jL, jN, Sc.cs, St.cs, Sc.fold, Ex.fold, k1, k2, k3, f1])
    | refine fun (g : Nat) => ?_
    | (refine post_ret (v := _) (by simp -implicitDefEqProofs only [go_sem, rB, rA, rS, resultOf, mapM?, ARes.val]; exact rfl) ?_; exact YesP.no _)
theorem plain_4 (s : Sc) (x : St) (k1 : (x.kind == 1) = false) (k3 : (x.kind == 3) = false) (k2 : (x.kind == 2) = false) (k4 : (x.kind == 4) = true) : Ret prog 87 [s.v, x.v] Heap.none fun r _ => YesP (InOk s x.n x.e) r := by
 obtain ⟨_, ⟨t, rfl, gx, bx⟩, hx⟩ := d_type s x.e
 refine Ret.by_text rfl rfl ?_
 simp -implicitDefEqProofs only [go_sem, rB, rA, rS, rL, a87, St.cellsOf_v, Sc.cellsOf_v, Sc.cs, St.cs, Sc.fold, Ex.fold]
 repeat' first
  | (refine br_intro (fun hb => ?_) (fun hb => ?_) <;> simp -implicitDefEqProofs only [go_sem, rB, rA, rS, rM, rL, rE, jL, jN, hb, Sc.cs, St.cs, Sc.fold, Ex.fold, k1, k2, k3, k4])
  | (first | refine callOk_det (hx) ?_ | refine callPure_det (hx) ?_ | refine callOk_of (hx) ?_ | refine callPure_of (hx) ?_); rintro u rfl; simp -implicitDefEqProofs only [go_sem, rB, rA, rS, rL, Sc.fold, Ex.fold, k1, k2, k3, k4]
  | (first | refine callOk_det (input101 _ _ _ _) ?_ | refine callPure_det (input101 _ _ _ _) ?_ | refine callOk_of (input101 _ _ _ _) ?_ | refine callPure_of (input101 _ _ _ _) ?_); rintro u ⟨_, rfl, hin⟩; simp -implicitDefEqProofs only [go_sem, rB, rA, rS]
  | (refine fun (g : Nat) => ?_; simp -implicitDefEqProofs only [go_sem, rB, rA, rS, rM, rL, rE, jL, jN, Sc.cs, St.cs, Sc.fold, Ex.fold, k1, k2, k3, k4])
  | refine fun (g : Nat) => ?_
  | (refine post_ret (v := _) (by simp -implicitDefEqProofs only [go_sem, rB, rA, rS, resultOf, mapM?, ARes.val]; exact rfl) ?_; exact ⟨_, rfl, hin⟩)
theorem plain_o (s : Sc) (hs : s.sigs.length ≤ 1) (x : St) (k1 : (x.kind == 1) = false) (k3 : (x.kind == 3) = false) (k2 : (x.kind == 2) = false) (k4 : (x.kind == 4) = false) (k5 : (x.kind == 5) = false) : Ret prog 87 [s.v, x.v] Heap.none fun r _ => r = .bool false := by
 obtain ⟨_, ⟨t, rfl, gx, bx⟩, hx⟩ := d_type s x.e
 refine Ret.by_text rfl rfl ?_
 simp -implicitDefEqProofs only [go_sem, rB, rA, rS, rL, a87, St.cellsOf_v, Sc.cellsOf_v, Sc.cs, St.cs, Sc.fold, Ex.fold]
 repeat' first
  | (refine br_intro (fun hb => ?_) (fun hb => ?_) <;> simp -implicitDefEqProofs only [go_sem, rB, rA, rS, rL, hb, Sc.fold, St.fold])
  | (first | refine callOk_det (hx) ?_ | refine callPure_det (hx) ?_ | refine callOk_of (hx) ?_ | refine callPure_of (hx) ?_); rintro u rfl; simp -implicitDefEqProofs only [go_sem, rB, rA, rS, rL, k1, k2, k3, k4, k5]
  | (first | refine callOk_det (call102 _ hs _) ?_ | refine callPure_det (call102 _ hs _) ?_ | refine callOk_of (call102 _ hs _) ?_ | refine callPure_of (call102 _ hs _) ?_); rintro u rfl; simp -implicitDefEqProofs only [go_sem, rB, rA, rS]
  | (refine fun (g : Nat) => ?_; simp -implicitDefEqProofs only [go_sem, rB, rA, rS, rM, rL, rE, jL, jN, Sc.cs, St.cs, Sc.fold, Ex.fold, St.fold, k1, k2, k3, k4, k5])
  | refine fun (g : Nat) => ?_
  | (refine post_ret (v := _) (by simp -implicitDefEqProofs only [go_sem, rB, rA, rS, resultOf, mapM?, ARes.val]; exact rfl) ?_; rfl)
theorem plain_5 (s : Sc) (x : St) (hl : x.args.length ≤ 20) (k1 : (x.kind == 1) = false) (k3 : (x.kind == 3) = false) (k2 : (x.kind == 2) = false) (k4 : (x.kind == 4) = false) (k5 : (x.kind == 5) = true) : Ret prog 87 [s.v, x.v] Heap.none fun r _ => YesP (BlockOk s x) r := by
 obtain ⟨_, ⟨t, rfl, gx, bx⟩, hx⟩ := d_type s x.e
 have nope : ∀ s2 : S, resultOf [ARes.tmp 4] s2 = some (.bool false) → post [ARes.tmp 4] (fun r _ => YesP (BlockOk s x) r) .ret s2 := fun s2 h => post_ret h (YesP.no _)
 refine Ret.by_text rfl rfl ?_
 simp -implicitDefEqProofs only [go_sem, rB, rA, rS, rL, a87, St.cellsOf_v, Sc.cellsOf_v, Sc.cs, St.cs, Sc.fold, Ex.fold]
 intro g1 g2
 refine callOk_of hx ?_
 rintro u rfl
 simp -implicitDefEqProofs only [go_sem, rB, rA, rS, rL, k1, k2, k3, k4, k5]
 refine Loop.rec (fun i : Nat => x.args.length - i) (fun i => ⟨E 166 [(2, .lp 2 g1 0), (3, .lp 3 g2 0), (6, .int .i64 i)], B 166 [(2, some (g1, s.cs)), (3, some (g2, x.cs))], Heap.none⟩) (fun i => i ≤ x.args.length ∧ ∀ (j : Nat) (a : Ar), j < i → x.args[j]? = some a → Good s a.e) ?_ 0 ⟨Nat.zero_le _, fun j a h => by simp at h⟩ rfl
 rintro i ⟨hi, hp⟩ hrec
 simp -implicitDefEqProofs only [go_sem, rB, rA, rS, rL, Sc.cs, St.cs]
 refine br_intro (fun h1 => ?_) (fun h1 => ?_)
 ·have h2 : i < x.args.length := by simpa using h1
  obtain ⟨a, ha⟩ : ∃ a, x.args[i]? = some a := ⟨_, lG h2⟩
  simp -implicitDefEqProofs only [go_sem, rB, h1]
  refine Loop.rec (fun k : Nat => i - k) (fun k => ⟨E 166 [(2, .lp 2 g1 0), (3, .lp 3 g2 0), (6, .int .i64 i), (7, .int .i64 k)], B 166 [(2, some (g1, s.cs)), (3, some (g2, x.cs))], Heap.none⟩) (fun k => k ≤ i) ?_ 0 (Nat.zero_le _) rfl
  intro k hk hrec2
  simp -implicitDefEqProofs only [go_sem, rB, rA, rS, Sc.cs, St.cs]
  refine br_intro (fun h3 => ?_) (fun h3 => ?_)
  ·have h4 : k < i := by simpa using h3
   obtain ⟨b, hb⟩ : ∃ a, x.args[k]? = some a := ⟨_, lG (by omega)⟩
   simp -implicitDefEqProofs only [go_sem, rB, rA, rS, rL, h3, ha, hb, Ar.cells_eq]
   refine br_intro (fun h5 => ?_) (fun h5 => ?_)
   ·simp -implicitDefEqProofs only [go_sem, h5]
    exact nope _ rfl
   simp -implicitDefEqProofs only [go_sem, rB, rA, rS, h5, wrap_succ (show k < 9223372036854775807 by omega)]
   exact hrec2 (k + 1) (by omega) (by omega)
  ·simp -implicitDefEqProofs only [go_sem, rB, rA, rS, rL, h3, ha, Ar.cells_eq, Sc.fold, Ex.fold]
   refine callOk_of (input101 s x.n a.field a.e) ?_
   rintro u ⟨b, rfl, hb⟩
   simp -implicitDefEqProofs only [go_sem, rB, rA, rS]
   refine br_intro (fun h5 => ?_) (fun h5 => ?_)
   ·obtain ⟨_, _, _, _, ga⟩ := hb h5
    simp -implicitDefEqProofs only [go_sem, rB, rA, rS, h5, wrap_succ (show i < 9223372036854775807 by omega)]
    refine hrec (i + 1) (by omega) ⟨by omega, fun j a' hj ha' => ?_⟩
    by_cases e : j = i
    ·subst e; rw [ha] at ha'; injection ha' with ha'; subst ha'; exact ga
    ·exact hp j a' (by omega) ha'
   ·simp -implicitDefEqProofs only [go_sem, h5]
    exact nope _ rfl
 ·have h2 : ¬ i < x.args.length := by simpa using h1
  simp -implicitDefEqProofs only [go_sem, rB, rA, rS, rL, h1]
  refine br_intro (fun h3 => ?_) (fun h3 => ?_)
  ·simp -implicitDefEqProofs only [go_sem, rB, rA, rS, rL, h3]
   refine post1 ?_
   simp -implicitDefEqProofs only [go_sem, rB, rA, rS]
   refine ⟨_, rfl, fun h4 => ?_⟩
   obtain ⟨k, hn, hkl⟩ := nat_of (n := x.n) (k := s.blocks.length) (by simp at h3 h4; omega)
   refine ⟨⟨k, _, hn, lG hkl⟩, fun a hm => ?_⟩
   obtain ⟨j, hj, e⟩ := List.getElem_of_mem hm
   exact hp j a (by omega) (by rw [← e]; exact lG hj)
  ·simp -implicitDefEqProofs only [go_sem, rB, rA, rS, h3]
   exact nope _ rfl
theorem plain87 (s : Sc) (hs : s.sigs.length ≤ 1) (x : St) (hl : x.args.length ≤ 20) : Ret prog 87 [s.v, x.v] Heap.none fun r _ => YesP (PlainP s x) r := by
 have up : ∀ {P : Prop}, (P → PlainP s x) → Ret prog 87 [s.v, x.v] Heap.none (fun r _ => YesP P r) → Ret prog 87 [s.v, x.v] Heap.none fun r _ => YesP (PlainP s x) r :=
  fun {P} hP h => Ret.mono _ _ _ (fun u _ => YesP P u) _ (fun u _ ⟨b, e, hb⟩ => ⟨b, e, fun h => hP (hb h)⟩) h
 by_cases h1 : x.kind = 1
 ·exact up (fun h => ⟨fun _ => h, fun h => by omega, fun h => by omega, fun h => by omega, by omega, by omega⟩) (plain_1 s x (by simpa using h1) (by simp; omega))
 by_cases h3 : x.kind = 3
 ·exact up (fun h => ⟨fun _ => h, fun h => by omega, fun h => by omega, fun h => by omega, by omega, by omega⟩) (plain_3 s x (by simpa using h1) (by simpa using h3))
 by_cases h2 : x.kind = 2
 ·exact up (fun h => ⟨fun h => by omega, fun _ => h, fun h => by omega, fun h => by omega, by omega, by omega⟩) (plain_2 s x (by simpa using h1) (by simpa using h3) (by simpa using h2))
 by_cases h4 : x.kind = 4
 ·exact up (fun h => ⟨fun h => by omega, fun h => by omega, fun _ => h, fun h => by omega, by omega, by omega⟩) (plain_4 s x (by simpa using h1) (by simpa using h3) (by simpa using h2) (by simpa using h4))
 by_cases h5 : x.kind = 5
 ·exact up (fun h => ⟨fun h => by omega, fun h => by omega, fun h => by omega, fun _ => h, by omega, by omega⟩) (plain_5 s x hl (by simpa using h1) (by simpa using h3) (by simpa using h2) (by simpa using h4) (by simpa using h5))
 refine up (P := False) (fun h => h.elim) (Ret.mono _ _ _ (fun u _ => u = .bool false) _ (fun u _ e => ⟨false, e, fun h => by cases h⟩) (plain_o s hs x (by simpa using h1) (by simpa using h3) (by simpa using h2) (by simpa using h4) (by simpa using h5)))
end TryzT
end Go.Abs
namespace Go.Abs
open Go
theorem cnt_mem {l : List St} {x : St} (h : x ∈ l) : x.cnt ≤ cntL l := by
 induction l with
 | nil => cases h
 | cons y l ih =>
  simp only [cntL]
  rcases List.mem_cons.1 h with rfl | h
  ·omega
  ·have := ih h; omega
theorem cntA_mem {l : List Am} {x : Am} (h : x ∈ l) : cntL x.body ≤ cntA l := by
 induction l with
 | nil => cases h
 | cons y l ih =>
  simp only [cntA]
  rcases List.mem_cons.1 h with rfl | h
  ·rw [x.cnt_eq]; omega
  ·have := ih h; omega
def inner (k loop : Int) : Int := if k = 8 ∨ k = 9 then 1 else if k = 10 then 2 else loop
namespace TryzT
inductive WF (s : Sc) : Int → St → Prop
 | mk (loop : Int) (x : St) (hc : 0 ≤ x.cost) (hk : 0 ≤ x.kind ∧ x.kind ≤ 14) (hb : BareP x)
  (h13 : x.kind = 1 ∨ x.kind = 3 → VarOk s x) (h2 : x.kind = 2 → SlotOk s x) (h4 : x.kind = 4 → InOk s x.n x.e) (h5 : x.kind = 5 → BlockOk s x) (h6 : x.kind ≠ 6)
  (hg : x.kind = 7 ∨ x.kind = 8 ∨ x.kind = 10 ∨ x.kind = 11 → Good s x.e) (h8 : x.kind = 7 ∨ x.kind = 8 ∨ x.kind = 10 → B1 s x.e) (h9 : x.kind = 9 → x.cost = 0) (h11 : x.kind = 11 → ∀ a ∈ x.arms, LabOk a)
  (body : ∀ y ∈ x.body, WF s (inner x.kind loop) y) (els : ∀ y ∈ x.els, WF s loop y) (arms : ∀ a ∈ x.arms, ∀ y ∈ a.body, WF s loop y) : WF s loop x
theorem in58 (s : Sc) (hs : s.sigs.length ≤ 1) : ∀ (d : Nat) (l : List St) (loop : Int), (∀ x ∈ l, St.Small d x) → cntL l < 1000000 → Ret prog 58 [s.v, stsV l, .int .i64 loop] Heap.none fun r _ => YesP (∀ x ∈ l, WF s loop x) r := by
 intro d
 induction d with
 | zero =>
  intro l loop hl hc
  have : l = [] := by
   cases l with
   | nil => rfl
   | cons x l => exact (hl x lC).elim
  subst this
  refine Ret.by_text rfl rfl ?_
  simp -implicitDefEqProofs only [go_sem, rB, rA, rS, a58, Sc.cellsOf_v, Sc.cs, stsV]
  intro g
  refine Loop.step ?_
  simp -implicitDefEqProofs only [go_sem, rB, rA, rS]
  refine post1 ?_
  simp -implicitDefEqProofs only [go_sem]
  exact ⟨true, rfl, fun _ x hx => by cases hx⟩
 | succ d ih =>
 intro l loop hl hc
 have hll := cntL_len l
 have nope : ∀ s2 : S, resultOf [ARes.tmp 6] s2 = some (.bool false) → post [ARes.tmp 6] (fun r _ => YesP (∀ x ∈ l, WF s loop x) r) .ret s2 := fun s2 h => post_ret h (YesP.no _)
 refine Ret.by_text rfl rfl ?_
 simp -implicitDefEqProofs only [go_sem, rB, rA, rS, a58, Sc.cellsOf_v, show s.cs.length = 4 from rfl]
 intro g
 refine Loop.rec (fun k : Nat => l.length - k) (fun k => ⟨E 141 [(1, stsV l), (2, .int .i64 loop), (3, .lp 3 g 0), (7, .int .i64 k)], B 141 [(3, some (g, s.cs))], Heap.none⟩) (fun k => k ≤ l.length ∧ ∀ (i : Nat) (x : St), i < k → l[i]? = some x → WF s loop x) ?_ 0 ⟨Nat.zero_le _, fun i x h => by omega⟩ rfl
 rintro k ⟨hk, hp⟩ hrec
 simp -implicitDefEqProofs only [go_sem, rB, rA, rS, stsV]
 refine br_intro (fun h1 => ?_) (fun h1 => ?_)
 ·have h2 : k < l.length := by simpa using h1
  obtain ⟨x, hx⟩ : ∃ x, l[k]? = some x := ⟨_, lG h2⟩
  have hm := lM hx
  obtain ⟨hf, sb, se, sa⟩ := hl x hm
  have hcx := cnt_mem hm
  have hce := x.cnt_eq
  have next : WF s loop x → _ := fun hw => hrec (k + 1) (by omega) ⟨by omega, fun i y hi hy => by
   by_cases e : i = k
   ·subst e; rw [hx] at hy; injection hy with hy; subst hy; exact hw
   ·exact hp i y (by omega) hy⟩
  have hws := wrap_succ (show k < 9223372036854775807 by omega)
  simp -implicitDefEqProofs only [go_sem, rB, rA, rS, rL, h1, hx, x.cells_cs, St.cs]
  intro g2
  refine br_intro (fun c1 => ?_) (fun c1 => ?_)
  ·simp -implicitDefEqProofs only [go_sem, rB, rA, rS, c1]
   exact nope _ rfl
  simp -implicitDefEqProofs only [go_sem, rB, rA, rS, rL, c1]
  refine br_intro (fun c2 => ?_) (fun c2 => ?_)
  ·simp -implicitDefEqProofs only [go_sem, rB, rA, rS, c2]
   exact nope _ rfl
  simp -implicitDefEqProofs only [go_sem, rB, rA, rS, rL, c2, St.fold]
  refine callOk_of (bare x hf.e hf.i) ?_
  rintro u ⟨b, rfl, hb⟩
  simp -implicitDefEqProofs only [go_sem, rB, rA, rS]
  refine br_intro2 (fun c3 => ?_) (fun c3 => ?_)
  ·simp -implicitDefEqProofs only [go_sem, c3]
   exact nope _ rfl
  obtain ⟨hB, hK⟩ := hb c3
  have hc0 : 0 ≤ x.cost := by simpa using c1
  obtain ⟨_, ⟨t, rfl, gx, bx⟩, ht⟩ := d_type s x.e
  simp -implicitDefEqProofs only [go_sem, rB, rA, rS, rL, c3, Sc.cs, Sc.fold, Ex.fold]
  refine callOk_of ht ?_
  rintro u rfl
  have plainCase : x.kind ≠ 0 → x.kind ≠ 7 → x.kind ≠ 8 → x.kind ≠ 9 → x.kind ≠ 10 → x.kind ≠ 11 → x.kind ≠ 12 → x.kind ≠ 13 → x.kind ≠ 14 → PlainP s x → WF s loop x := fun q0 q7 q8 q9 q10 q11 q12 q13 q14 hp =>
   .mk loop x hc0 hK hB hp.1 hp.2.1 hp.2.2.1 hp.2.2.2.1 (by have := hp.2.2.2.2; omega) (fun h => by omega) (fun h => by omega) (fun h => by omega) (fun h => by omega)
    (fun y hy => by rw [hB.1 (by have := hp.2.2.2.2; omega)] at hy; cases hy) (fun y hy => by rw [hB.2.1 (by omega) (by omega)] at hy; cases hy) (fun a ha => by rw [hB.2.2 (by omega)] at ha; cases ha)
  have noBody : x.kind = 0 ∨ x.kind = 12 ∨ x.kind = 13 ∨ x.kind = 14 → WF s loop x := fun q =>
   .mk loop x hc0 hK hB (fun h => by omega) (fun h => by omega) (fun h => by omega) (fun h => by omega) (by omega) (fun h => by omega) (fun h => by omega) (fun h => by omega) (fun h => by omega)
    (fun y hy => by rw [hB.1 (by omega)] at hy; cases hy) (fun y hy => by rw [hB.2.1 (by omega) (by omega)] at hy; cases hy) (fun a ha => by rw [hB.2.2 (by omega)] at ha; cases ha)
  by_cases e0 : x.kind = 0
  ·simp -implicitDefEqProofs only [go_sem, rB, rA, rS, rL, show (x.kind == 0) = true by simpa using e0, hws]
   exact next (noBody (by omega))
  have f0 : (x.kind == 0) = false := by simpa using e0
  by_cases e14 : x.kind = 14
  ·simp -implicitDefEqProofs only [go_sem, rB, rA, rS, rL, f0, show (x.kind == 14) = true by simpa using e14, hws]
   exact next (noBody (by omega))
  have f14 : (x.kind == 14) = false := by simpa using e14
  by_cases e12 : x.kind = 12
  ·simp -implicitDefEqProofs only [go_sem, rB, rA, rS, rL, f0, f14, show (x.kind == 12) = true by simpa using e12]
   refine br_intro2 (fun c4 => ?_) (fun c4 => ?_)
   ·simp -implicitDefEqProofs only [go_sem, c4]
    exact nope _ rfl
   simp -implicitDefEqProofs only [go_sem, rB, rA, rS, c4, hws]
   exact next (noBody (by omega))
  have f12 : (x.kind == 12) = false := by simpa using e12
  by_cases e13 : x.kind = 13
  ·simp -implicitDefEqProofs only [go_sem, rB, rA, rS, rL, f0, f14, f12, show (x.kind == 13) = true by simpa using e13]
   refine br_intro2 (fun c4 => ?_) (fun c4 => ?_)
   ·simp -implicitDefEqProofs only [go_sem, c4]
    exact nope _ rfl
   simp -implicitDefEqProofs only [go_sem, rB, rA, rS, c4, hws]
   exact next (noBody (by omega))
  have f13 : (x.kind == 13) = false := by simpa using e13
  have ihB : ∀ lp, Ret prog 58 [s.v, stsV x.body, .int .i64 lp] Heap.none fun r _ => YesP (∀ y ∈ x.body, WF s lp y) r := fun lp => ih x.body lp sb (by omega)
  have ihE : ∀ lp, Ret prog 58 [s.v, stsV x.els, .int .i64 lp] Heap.none fun r _ => YesP (∀ y ∈ x.els, WF s lp y) r := fun lp => ih x.els lp se (by omega)
  by_cases e7 : x.kind = 7
  ·have f7 : (x.kind == 7) = true := by simpa using e7
   simp -implicitDefEqProofs only [go_sem, rB, rA, rS, rL, f0, f14, f12, f13, f7]
   refine br_intro2 (fun c4 => ?_) (fun c4 => ?_)
   ·simp -implicitDefEqProofs only [go_sem, rB, rA, rS, c4]
    exact nope _ rfl
   simp -implicitDefEqProofs only [go_sem, rB, rA, rS, rL, c4]
   refine callOk_of (ihB loop) ?_
   rintro u ⟨b1, rfl, hb1⟩
   simp -implicitDefEqProofs only [go_sem, rB, rA, rS]
   refine br_intro2 (fun c5 => ?_) (fun c5 => ?_)
   ·simp -implicitDefEqProofs only [go_sem, rB, rA, rS, c5]
    exact nope _ rfl
   simp -implicitDefEqProofs only [go_sem, rB, rA, rS, rL, c5]
   refine callOk_of (ihE loop) ?_
   rintro u ⟨b2, rfl, hb2⟩
   simp -implicitDefEqProofs only [go_sem, rB, rA, rS]
   refine br_intro2 (fun c6 => ?_) (fun c6 => ?_)
   ·simp -implicitDefEqProofs only [go_sem, c6]
    exact nope _ rfl
   simp -implicitDefEqProofs only [go_sem, rB, rA, rS, c6, hws]
   have e1 : t = 1 := by simpa using c4
   refine next (.mk loop x hc0 hK hB (fun h => by omega) (fun h => by omega) (fun h => by omega) (fun h => by omega) (by omega) (fun _ => gx (by omega)) (fun _ => bx e1) (fun h => by omega) (fun h => by omega) ?_ (hb2 c6) (fun a ha => by rw [hB.2.2 (by omega)] at ha; cases ha))
   simp only [inner, e7]
   exact hb1 c5
  have f7 : (x.kind == 7) = false := by simpa using e7
  have noEls : 8 ≤ x.kind ∧ x.kind ≤ 10 → (∀ y ∈ x.els, WF s loop y) ∧ ∀ a ∈ x.arms, ∀ y ∈ a.body, WF s loop y := fun q =>
   ⟨fun y hy => (by rw [hB.2.1 (by omega) (by omega)] at hy; cases hy), fun a ha => (by rw [hB.2.2 (by omega)] at ha; cases ha)⟩
  by_cases e8 : x.kind = 8
  ·have f8 : (x.kind == 8) = true := by simpa using e8
   simp -implicitDefEqProofs only [go_sem, rB, rA, rS, rL, f0, f14, f12, f13, f7, f8]
   refine br_intro2 (fun c4 => ?_) (fun c4 => ?_)
   ·simp -implicitDefEqProofs only [go_sem, rB, rA, rS, c4]
    exact nope _ rfl
   simp -implicitDefEqProofs only [go_sem, rB, rA, rS, rL, c4]
   refine callOk_of (ihB 1) ?_
   rintro u ⟨b1, rfl, hb1⟩
   simp -implicitDefEqProofs only [go_sem, rB, rA, rS]
   refine br_intro2 (fun c5 => ?_) (fun c5 => ?_)
   ·simp -implicitDefEqProofs only [go_sem, c5]
    exact nope _ rfl
   simp -implicitDefEqProofs only [go_sem, rB, rA, rS, c5, hws]
   have e1 : t = 1 := by simpa using c4
   obtain ⟨p1, p2⟩ := noEls (by omega)
   refine next (.mk loop x hc0 hK hB (fun h => by omega) (fun h => by omega) (fun h => by omega) (fun h => by omega) (by omega) (fun _ => gx (by omega)) (fun _ => bx e1) (fun h => by omega) (fun h => by omega) ?_ p1 p2)
   simp only [inner, e8]
   exact hb1 c5
  have f8 : (x.kind == 8) = false := by simpa using e8
  by_cases e9 : x.kind = 9
  ·have f9 : (x.kind == 9) = true := by simpa using e9
   simp -implicitDefEqProofs only [go_sem, rB, rA, rS, rL, f0, f14, f12, f13, f7, f8, f9]
   refine br_intro2 (fun c4 => ?_) (fun c4 => ?_)
   ·simp -implicitDefEqProofs only [go_sem, rB, rA, rS, c4]
    exact nope _ rfl
   simp -implicitDefEqProofs only [go_sem, rB, rA, rS, rL, c4]
   refine callOk_of (ihB 1) ?_
   rintro u ⟨b1, rfl, hb1⟩
   simp -implicitDefEqProofs only [go_sem, rB, rA, rS]
   refine br_intro2 (fun c5 => ?_) (fun c5 => ?_)
   ·simp -implicitDefEqProofs only [go_sem, c5]
    exact nope _ rfl
   simp -implicitDefEqProofs only [go_sem, rB, rA, rS, c5, hws]
   have e1 : x.cost = 0 := by simpa using c4
   obtain ⟨p1, p2⟩ := noEls (by omega)
   refine next (.mk loop x hc0 hK hB (fun h => by omega) (fun h => by omega) (fun h => by omega) (fun h => by omega) (by omega) (fun h => by omega) (fun h => by omega) (fun _ => e1) (fun h => by omega) ?_ p1 p2)
   simp only [inner, e9]
   exact hb1 c5
  have f9 : (x.kind == 9) = false := by simpa using e9
  by_cases e10 : x.kind = 10
  ·have f10 : (x.kind == 10) = true := by simpa using e10
   simp -implicitDefEqProofs only [go_sem, rB, rA, rS, rL, f0, f14, f12, f13, f7, f8, f9, f10]
   refine br_intro2 (fun c4 => ?_) (fun c4 => ?_)
   ·simp -implicitDefEqProofs only [go_sem, rB, rA, rS, c4]
    exact nope _ rfl
   simp -implicitDefEqProofs only [go_sem, rB, rA, rS, rL, c4]
   refine callOk_of (ihB 2) ?_
   rintro u ⟨b1, rfl, hb1⟩
   simp -implicitDefEqProofs only [go_sem, rB, rA, rS]
   refine br_intro2 (fun c5 => ?_) (fun c5 => ?_)
   ·simp -implicitDefEqProofs only [go_sem, c5]
    exact nope _ rfl
   simp -implicitDefEqProofs only [go_sem, rB, rA, rS, c5, hws]
   have e1 : t = 1 := by simpa using c4
   obtain ⟨p1, p2⟩ := noEls (by omega)
   refine next (.mk loop x hc0 hK hB (fun h => by omega) (fun h => by omega) (fun h => by omega) (fun h => by omega) (by omega) (fun _ => gx (by omega)) (fun _ => bx e1) (fun h => by omega) (fun h => by omega) ?_ p1 p2)
   simp only [inner, e10]
   exact hb1 c5
  have f10 : (x.kind == 10) = false := by simpa using e10
  by_cases e11 : x.kind = 11
  ·have f11 : (x.kind == 11) = true := by simpa using e11
   simp -implicitDefEqProofs only [go_sem, rB, rA, rS, rL, f0, f14, f12, f13, f7, f8, f9, f10, f11]
   have done : ∀ (o : Bool) (m : Nat), m = x.arms.length → (o = true → (t = 2 ∧ (∀ a ∈ x.arms, LabOk a) ∧ ∀ y ∈ x.els, WF s loop y) ∧ ∀ (i : Nat) (a : Am), i < m → x.arms[i]? = some a → ∀ y ∈ a.body, WF s loop y) → o = true → WF s loop x := by
    intro o m hm2 ho h
    obtain ⟨⟨t2, lo, le⟩, la⟩ := ho h
    refine .mk loop x hc0 hK hB (fun h => by omega) (fun h => by omega) (fun h => by omega) (fun h => by omega) (by omega) (fun _ => gx (by omega)) (fun h => by omega) (fun h => by omega) (fun _ => lo) (fun y hy => by rw [hB.1 (by omega)] at hy; cases hy) le ?_
    intro a ha
    obtain ⟨i, hi, e⟩ := List.getElem_of_mem ha
    exact la i a (by omega) (by rw [← e]; exact lG hi)
   have rl := hf.rl
   refine br_intro2 (fun c4 => ?_) (fun c4 => ?_)
   case' refine_1 => simp -implicitDefEqProofs only [go_sem, rB, rA, rS, c4]
   case' refine_2 =>
    simp -implicitDefEqProofs only [go_sem, rB, rA, rS, rL, c4]
    refine callOk_of (labels86 x.arms rl (fun a ha => (sa a ha).1)) ?_
    rintro u ⟨b1, rfl, hb1⟩
    simp -implicitDefEqProofs only [go_sem, rB, rA, rS]
    refine br_intro2 (fun c5 => ?_) (fun c5 => ?_)
    case' refine_1 => simp -implicitDefEqProofs only [go_sem, rB, rA, rS, c5]
    case' refine_2 =>
     simp -implicitDefEqProofs only [go_sem, rB, rA, rS, rL, c5]
     refine callOk_of (ihE loop) ?_
     rintro u ⟨b2, rfl, hb2⟩
     simp -implicitDefEqProofs only [go_sem, rB, rA, rS]
   all_goals
    first
     | refine Loop.rec (α := Nat × Bool) (fun m => x.arms.length - m.1) (fun m => ⟨E 141 [(1, stsV l), (2, .int .i64 loop), (3, .lp 3 g 0), (7, .int .i64 k), (8, .lp 8 g2 0), (10, .bool m.2), (11, .int .i64 m.1)], B 141 [(3, some (g, s.cs)), (8, some (g2, x.cs))], Heap.none⟩) (fun m => m.1 ≤ x.arms.length ∧ (m.2 = true → (t = 2 ∧ (∀ a ∈ x.arms, LabOk a) ∧ ∀ y ∈ x.els, WF s loop y) ∧ ∀ (i : Nat) (a : Am), i < m.1 → x.arms[i]? = some a → ∀ y ∈ a.body, WF s loop y)) ?_ (0, false) ⟨Nat.zero_le _, fun h => by cases h⟩ rfl
     | refine Loop.rec (α := Nat × Bool) (fun m => x.arms.length - m.1) (fun m => ⟨E 141 [(1, stsV l), (2, .int .i64 loop), (3, .lp 3 g 0), (7, .int .i64 k), (8, .lp 8 g2 0), (10, .bool m.2), (11, .int .i64 m.1)], B 141 [(3, some (g, s.cs)), (8, some (g2, x.cs))], Heap.none⟩) (fun m => m.1 ≤ x.arms.length ∧ (m.2 = true → (t = 2 ∧ (∀ a ∈ x.arms, LabOk a) ∧ ∀ y ∈ x.els, WF s loop y) ∧ ∀ (i : Nat) (a : Am), i < m.1 → x.arms[i]? = some a → ∀ y ∈ a.body, WF s loop y)) ?_ (0, b2) ⟨Nat.zero_le _, fun h => ⟨⟨by simpa using c4, hb1 c5, hb2 h⟩, fun i a hi => by simp at hi⟩⟩ rfl
    rintro ⟨m, o⟩ ⟨hm2, ho⟩ hrec2
    simp only [] at hm2 ho
    simp -implicitDefEqProofs only [go_sem, rB, rA, rS, rL, Sc.cs, St.cs]
    refine br_intro (fun q1 => ?_) (fun q1 => ?_)
    ·have q2 : m < x.arms.length := by simpa using q1
     obtain ⟨a, ha⟩ : ∃ a, x.arms[m]? = some a := ⟨_, lG q2⟩
     have hma := lM ha
     have hcm := cntA_mem hma
     simp -implicitDefEqProofs only [go_sem, rB, rA, rS, q1]
     refine br_intro2 (fun q3 => ?_) (fun q3 => ?_)
     ·simp -implicitDefEqProofs only [go_sem, rB, rA, rS, q3, wrap_succ (show m < 9223372036854775807 by omega)]
      exact hrec2 (m + 1, false) (by simp only []; omega) ⟨by simp only []; omega, fun h => by cases h⟩
     simp -implicitDefEqProofs only [go_sem, rB, rA, rS, rL, q3, ha, Am.cells_eq, Sc.fold]
     refine callOk_of (ih a.body loop (fun y hy => (sa a hma).2 y hy) (by omega)) ?_
     rintro u ⟨b3, rfl, hb3⟩
     simp -implicitDefEqProofs only [go_sem, rB, rA, rS, wrap_succ (show m < 9223372036854775807 by omega)]
     refine hrec2 (m + 1, b3) (by simp only []; omega) ⟨by simp only []; omega, fun h => ⟨(ho q3).1, fun i a' hi ha' => ?_⟩⟩
     simp only [] at hi h
     by_cases e : i = m
     ·subst e; rw [ha] at ha'; injection ha' with ha'; subst ha'; exact hb3 h
     ·exact (ho q3).2 i a' (by omega) ha'
    ·have q2 : ¬ m < x.arms.length := by simpa using q1
     simp -implicitDefEqProofs only [go_sem, rB, rA, rS, q1]
     refine br_intro2 (fun q3 => ?_) (fun q3 => ?_)
     ·simp -implicitDefEqProofs only [go_sem, q3]
      exact nope _ rfl
     simp -implicitDefEqProofs only [go_sem, rB, rA, rS, q3, hws]
     exact next (done o m (by omega) ho q3)
  have f11 : (x.kind == 11) = false := by simpa using e11
  simp -implicitDefEqProofs only [go_sem, rB, rA, rS, rL, f0, f14, f12, f13, f7, f8, f9, f10, f11, St.fold, Sc.fold]
  refine callOk_of (plain87 s hs x hf.al) ?_
  rintro u ⟨b1, rfl, hb1⟩
  simp -implicitDefEqProofs only [go_sem, rB, rA, rS]
  refine br_intro2 (fun c4 => ?_) (fun c4 => ?_)
  ·simp -implicitDefEqProofs only [go_sem, c4]
   exact nope _ rfl
  simp -implicitDefEqProofs only [go_sem, rB, rA, rS, c4, hws]
  exact next (plainCase e0 e7 e8 e9 e10 e11 e12 e13 e14 (hb1 c4))
 ·have h2 : ¬ k < l.length := by simpa using h1
  simp -implicitDefEqProofs only [go_sem, rB, h1]
  refine post1 ?_
  simp -implicitDefEqProofs only [go_sem, rB, rA, rS]
  refine ⟨true, rfl, fun _ x hm => ?_⟩
  obtain ⟨i, hi, e⟩ := List.getElem_of_mem hm
  exact hp i x (by omega) (by rw [← e]; exact lG hi)
end TryzT
end Go.Abs
namespace Go.Abs
open Go
structure Fn where
 name : ByteArray
 params : List Int
 result : Int
 locals : List Int
 body : List St
def Fn.cells (f : Fn) : List V := [.str f.name, intsV f.params, .int .i64 f.result, intsV f.locals, stsV f.body]
structure Src where
 vars : List Vr
 blocks : List Bk
 funcs : List Fn
def Src.cs (s : Src) : List V := [.fsl 5 (s.vars.map Vr.cells), .fsl 2 (s.blocks.map Bk.cells), .fsl 5 (s.funcs.map Fn.cells)]
def Src.v (s : Src) : V := .agg s.cs
theorem Src.cellsOf_v (s : Src) : cellsOf s.v = some s.cs := rfl
theorem Src.fold (s : Src) : V.agg [.fsl 5 (s.vars.map Vr.cells), .fsl 2 (s.blocks.map Bk.cells), .fsl 5 (s.funcs.map Fn.cells)] = s.v := rfl
def InsOk (els : List (List V)) : Prop := ∀ z ∈ els, ∃ a b c : Int, z = [.int .i64 a, .int .i64 b, .int .i64 c]
theorem InsOk.app {a b : List (List V)} (ha : InsOk a) (hb : InsOk b) : InsOk (a ++ b) := fun z hz => by
 rcases List.mem_append.1 hz with h | h
 ·exact ha z h
 ·exact hb z h
theorem InsOk.len {a : List (List V)} (ha : InsOk a) : ∀ z ∈ a, z.length = 3 := fun z hz => by
 obtain ⟨_, _, _, rfl⟩ := ha z hz; rfl
theorem InsOk.one (a b c : Int) : InsOk [[.int .i64 a, .int .i64 b, .int .i64 c]] := fun z hz => by
 simp at hz; exact ⟨a, b, c, hz⟩
def CallsP (l : List St) (r : V) : Prop := ∃ els, r = .fsl 3 els ∧ InsOk els ∧ els.length ≤ cntL l
theorem Am.cnt_le {l : List Am} {j : Nat} {a : Am} (h : l[j]? = some a) : cntL a.body + cntA (l.drop (j + 1)) = cntA (l.drop j) := by
 rw [cntA_drop h, a.cnt_eq]
namespace TryzT
theorem calls60 : ∀ (d : Nat) (l : List St), (∀ x ∈ l, St.Small d x) → cntL l < 1000000 → Ret prog 60 [stsV l] Heap.none fun r _ => CallsP l r := by
 intro d
 induction d with
 | zero =>
  intro l hl hc
  have : l = [] := by
   cases l with
   | nil => rfl
   | cons x l => exact (hl x lC).elim
  subst this
  refine Ret.by_text rfl rfl ?_
  simp -implicitDefEqProofs only [go_sem, rB, a60, stsV]
  refine Loop.step ?_
  simp -implicitDefEqProofs only [go_sem, rB, rA, rS, show decide ((0 : Int) < ((0 : Nat) : Int)) = false from rfl]
  exact post_frz (h2 := Heap.none) (u := .fsl 3 []) (fun _ => True) rfl (.nsl 3) (fun _ _ e => by cases e) (fun _ _ => rfl) ⟨[], rfl, (fun z hz => by cases hz), by simp⟩
 | succ d ih =>
 intro l hl hc
 have hll := cntL_len l
 refine Ret.by_text rfl rfl ?_
 simp -implicitDefEqProofs only [go_sem, rB, a60, stsV]
 refine Loop.rec (α := Nat × Heap × V × List (List V)) (fun k => l.length - k.1) (fun k => ⟨E 66 [(0, stsV l), (3, k.2.2.1), (4, .int .i64 k.1)], B 66 [], k.2.1⟩)
  (fun k => k.1 ≤ l.length ∧ SlH 3 k.2.1 k.2.2.1 k.2.2.2 ∧ InsOk k.2.2.2 ∧ k.2.2.2.length + cntL (l.drop k.1) ≤ cntL l) ?_ (0, Heap.none, .nsl, []) ⟨Nat.zero_le _, SlH.nil _ _, (fun z hz => by cases hz), by simp⟩ rfl
 rintro ⟨k, h, out, els⟩ ⟨hk, hs, hi, hle⟩ hrec
 simp only [] at hk hs hi hle
 simp -implicitDefEqProofs only [go_sem, rB, rA, rS, stsV]
 refine br_intro (fun h1 => ?_) (fun h1 => ?_)
 ·have h2 : k < l.length := by simpa using h1
  obtain ⟨x, hx⟩ : ∃ x, l[k]? = some x := ⟨_, lG h2⟩
  have hcx := cnt_mem (lM hx)
  obtain ⟨hf, sb, se, sa⟩ := hl x (lM hx)
  have hce := x.cnt_eq
  have hd := cnt_drop hx
  have key : ∀ (y : List St), (∀ z ∈ y, St.Small d z) → cntL y < x.cnt → Ret prog 60 [stsV y] Heap.none fun r _ => CallsP y r := fun y hs hy => ih y hs (by omega)
  have hle2 : els.length + 1 + (cntL x.body + cntL x.els + cntA x.arms) + cntL (l.drop (k + 1)) ≤ cntL l := by omega
  simp -implicitDefEqProofs only [go_sem, rB, rA, rS, rL, h1, hx, x.cells_eq]
  refine br_intro (fun h3 => ?_) (fun h3 => ?_)
  case' refine_1 =>
   simp -implicitDefEqProofs only [go_sem, rB, rA, rS, rM, rL, h3, hx, x.cells_eq]
   intro idt hidt
   simp -implicitDefEqProofs only [go_sem, rA, rL, elemsOf, upd_self]
   refine appK_sl (hs.alloc hidt) (by simp) (by simp) (by simp; omega) fun id2 h hn hi2 hm => ?_
   have hs : SlH 3 h (.msl id2 0 (els.length + 1)) (els ++ [[.int .i64 33, .int .i64 x.n, .int .i64 0]]) := .mk hi2 (by simp)
   have hi := hi.app (InsOk.one 33 x.n 0)
   have hle : (els ++ [[V.int .i64 33, .int .i64 x.n, .int .i64 0]]).length + (cntL x.body + cntL x.els + cntA x.arms) + cntL (l.drop (k + 1)) ≤ cntL l := by simp only [List.length_append, List.length_cons, List.length_nil]; omega
   simp -implicitDefEqProofs only [go_sem, rB, rA, rS, rL, hx, x.cells_eq]
   generalize V.msl id2 0 (els.length + 1) = out at hs ⊢
   generalize els ++ [[V.int .i64 33, .int .i64 x.n, .int .i64 0]] = els at hs hi hle
  case' refine_2 =>
   have hle : els.length + (cntL x.body + cntL x.els + cntA x.arms) + cntL (l.drop (k + 1)) ≤ cntL l := by omega
   simp -implicitDefEqProofs only [go_sem, rB, rA, rS, rL, h3, hx, x.cells_eq]
  all_goals
   refine callOk_of (key x.body sb (by omega)) ?_
   rintro u ⟨e1, rfl, q1, q2⟩
   simp -implicitDefEqProofs only [go_sem, rB, rA, rS, elemsOf]
   refine appK_sl0 hs q1.len (by omega) fun out h hs _ _ => ?_
   have hi := hi.app q1
   simp -implicitDefEqProofs only [go_sem, rB, rA, rS, rL, hx, x.cells_eq]
   refine callOk_of (key x.els se (by omega)) ?_
   rintro u ⟨e2, rfl, q3, q4⟩
   simp -implicitDefEqProofs only [go_sem, rB, rA, rS, elemsOf]
   refine appK_sl0 hs q3.len (by simp only [List.length_append]; omega) fun out h hs _ _ => ?_
   have hi := hi.app q3
   have hle : (els ++ e1 ++ e2).length + cntA x.arms + cntL (l.drop (k + 1)) ≤ cntL l := by simp only [List.length_append]; omega
   generalize els ++ e1 ++ e2 = els at hs hi hle
   simp -implicitDefEqProofs only [go_sem, rB, rA, rS]
   refine Loop.rec (α := Nat × Heap × V × List (List V)) (fun j => x.arms.length - j.1) (fun j => ⟨E 66 [(0, stsV l), (3, j.2.2.1), (4, .int .i64 k), (5, .int .i64 j.1)], B 66 [], j.2.1⟩)
    (fun j => j.1 ≤ x.arms.length ∧ SlH 3 j.2.1 j.2.2.1 j.2.2.2 ∧ InsOk j.2.2.2 ∧ j.2.2.2.length + cntA (x.arms.drop j.1) + cntL (l.drop (k + 1)) ≤ cntL l) ?_ (0, h, out, els) ⟨Nat.zero_le _, hs, hi, by simpa using hle⟩ rfl
   rintro ⟨j, h, out, els⟩ ⟨hj, hs, hi, hle⟩ hrec2
   simp only [] at hj hs hi hle
   simp -implicitDefEqProofs only [go_sem, rB, rA, rS, rL, stsV, hx, x.cells_eq]
   refine br_intro (fun h4 => ?_) (fun h4 => ?_)
   ·have h5 : j < x.arms.length := by simpa using h4
    obtain ⟨a, ha⟩ : ∃ a, x.arms[j]? = some a := ⟨_, lG h5⟩
    have hca := cntA_mem (lM ha)
    have hcd := Am.cnt_le ha
    have hja := hf.rl
    simp -implicitDefEqProofs only [go_sem, rB, rA, rS, rL, h4, hx, x.cells_eq, ha, Am.cells_eq]
    refine callOk_of (key a.body (sa a (lM ha)).2 (by omega)) ?_
    rintro u ⟨e1, rfl, q1, q2⟩
    simp -implicitDefEqProofs only [go_sem, rB, rA, rS, elemsOf]
    refine appK_sl0 hs q1.len (by omega) fun out h hs _ _ => ?_
    simp -implicitDefEqProofs only [go_sem, rB, rA, rS, wrap_succ (show j < 9223372036854775807 by omega)]
    exact hrec2 (j + 1, h, out, els ++ e1) (by simp only []; omega) ⟨by simp only []; omega, hs, hi.app q1, by simp only [List.length_append]; omega⟩
   ·have h5 : ¬ j < x.arms.length := by simpa using h4
    rw [List.drop_eq_nil_of_le (by omega)] at hle
    simp -implicitDefEqProofs only [go_sem, rB, rA, rS, h4, wrap_succ (show k < 9223372036854775807 by omega)]
    exact hrec (k + 1, h, out, els) (by simp only []; omega) ⟨by simp only []; omega, hs, hi, by simp only []; simp only [cntA] at hle; omega⟩
 ·have h2 : ¬ k < l.length := by simpa using h1
  simp -implicitDefEqProofs only [go_sem, rB, rA, rS, h1]
  exact post_frz (h2 := Heap.none) (u := .fsl 3 els) (fun _ => True) rfl (hs.frz_self fun _ _ => trivial) (fun _ _ e => by cases e) (fun _ _ => rfl) ⟨els, rfl, hi, by omega⟩
end TryzT
end Go.Abs
namespace Go.Abs
open Go
theorem lt01 : decide ((0 : Int) < ((1 : Nat) : Int)) = true := rfl
theorem lt11 : decide ((1 : Int) < ((1 : Nat) : Int)) = false := rfl
theorem lt00 : decide ((0 : Int) < ((0 : Nat) : Int)) = false := rfl
theorem w01 : IntKind.i64.wrap ((0 : Int) + 1) = 1 := rfl
def slotsF (f : Fn) : List Int := f.params ++ (if f.result = 0 then [] else [f.result]) ++ f.locals
def unC (f : Fn) (els : List (List V)) : List V := [.str ⟨#[]⟩, intsV f.params, .int .i64 f.result, intsV f.locals, .fsl 3 els]
def scF (s : Src) (f : Fn) : Sc := ⟨s.vars, s.blocks, [⟨f.params, f.result⟩], slotsF f⟩
namespace TryzT
def UnitsP (f : Fn) (r : V) : Prop := ∃ els, r = .fsl 5 [unC f els] ∧ InsOk els ∧ els.length ≤ cntL f.body
theorem units41 (vs : List Vr) (bs : List Bk) (f : Fn) (hf : ∀ x ∈ f.body, St.Small 40 x) (hc : cntL f.body < 1000000) : Ret prog 41 [(Src.mk vs bs [f]).v] Heap.none fun r _ => UnitsP f r := by
 refine Ret.by_text rfl rfl ?_
 simp -implicitDefEqProofs only [go_sem, rB, rA, rS, a41, Src.cellsOf_v, Src.cs]
 intro g
 refine Loop.step ?_
 simp -implicitDefEqProofs only [go_sem, rB, rA, rS, rL, jL, jN, lt01, Fn.cells, intsV, stsV]
 intro g2
 refine callOk_of (calls60 40 f.body hf hc) ?_
 rintro u ⟨els, rfl, q1, q2⟩
 simp -implicitDefEqProofs only [go_sem, rB, rA, rS, rM, rL]
 intro idt hidt
 simp -implicitDefEqProofs only [go_sem, rA, rL, elemsOf, upd_self]
 refine appK_sl (v := .nsl) (els := []) ?_ ?_ ?_ ?_ fun id2 h2 hn hi hm => ?_
 ·exact (SlH.nil 5 Heap.none).alloc hidt
 ·simp
 ·simp
 ·simp
 simp -implicitDefEqProofs only [go_sem, rB, rA, rS, w01]
 refine Loop.step ?_
 simp -implicitDefEqProofs only [go_sem, rB, rA, rS, rL, lt11]
 exact post_frz (h2 := Heap.none) (u := .fsl 5 [unC f els]) (fun _ => True) rfl ((SlH.mk hi rfl).frz_self fun _ _ => trivial) (fun _ _ e => by cases e) (fun _ _ => rfl) ⟨els, rfl, q1, q2⟩
theorem slots64 (f : Fn) (els : List (List V)) (h1 : f.params.length < 1000000) (h2 : f.locals.length < 1000000) : Ret prog 64 [.agg (unC f els)] Heap.none fun r _ => r = intsV (slotsF f) := by
 have hmap : ∀ l : List Int, (∀ z ∈ l.map intC, z.length = 1) := fun l z hz => by
  obtain ⟨n, _, rfl⟩ := List.mem_map.1 hz; rfl
 refine Ret.by_text rfl rfl ?_
 simp -implicitDefEqProofs only [go_sem, rB, rA, rS, rL, a64, unC, intsV]
 intro g id0 hid0
 simp -implicitDefEqProofs only [go_sem, elemsOf]
 refine appK_sl0 (v := .msl id0 0 0) (els := []) (.mk ((upd_self _ _ _).trans rfl) rfl) (hmap _) (by simp; omega) fun out h hs _ _ => ?_
 simp -implicitDefEqProofs only [go_sem, rB, rA, rS, rL]
 simp only [List.nil_append] at hs
 refine br_intro (fun c1 => ?_) (fun c1 => ?_)
 case' refine_1 =>
  have hr : f.result ≠ 0 := by simpa using c1
  simp -implicitDefEqProofs only [go_sem, rB, rA, rS, rM, rL, c1]
  intro idt hidt
  simp -implicitDefEqProofs only [go_sem, rA, rL, elemsOf, upd_self]
  refine appK_sl (hs.alloc hidt) (by simp) (by simp) (by simp; omega) fun id2 h hn hi hm => ?_
  have hs : SlH 1 h (.msl id2 0 (f.params.length + 1)) ((f.params ++ [f.result]).map intC) := .mk (by rw [hi]; simp [intC]) (by simp)
  have he : f.params ++ [f.result] ++ f.locals = slotsF f := by simp [slotsF, hr]
  have hl : (f.params ++ [f.result]).length ≤ 1000001 := by simp; omega
  simp -implicitDefEqProofs only [go_sem, rB, rA, rS]
  generalize V.msl id2 0 (f.params.length + 1) = out at hs ⊢
  generalize f.params ++ [f.result] = l at hs he hl
 case' refine_2 =>
  have hr : f.result = 0 := by simpa using c1
  have he : f.params ++ f.locals = slotsF f := by simp [slotsF, hr]
  have hl : f.params.length ≤ 1000001 := by omega
  simp -implicitDefEqProofs only [go_sem, rB, c1]
  obtain ⟨l, hl0⟩ : ∃ l, l = f.params := ⟨_, rfl⟩
  rw [← hl0] at hs he hl
 all_goals
  refine Loop.rec (α := Nat × Heap × V) (fun k => f.locals.length - k.1) (fun k => ⟨E 33 [(1, .lp 1 g 0), (3, k.2.2), (4, .int .i64 k.1)], B 33 [(1, some (g, unC f els))], k.2.1⟩)
   (fun k => k.1 ≤ f.locals.length ∧ SlH 1 k.2.1 k.2.2 ((l ++ f.locals.take k.1).map intC)) ?_ (0, h, out) ⟨Nat.zero_le _, by simpa using hs⟩ (by simp only [unC, intsV]; rfl)
  rintro ⟨k, h, out⟩ ⟨hk, hs⟩ hrec
  simp only [] at hk hs
  simp -implicitDefEqProofs only [go_sem, rB, rA, rS, rL, unC, intsV]
  refine br_intro (fun h3 => ?_) (fun h3 => ?_)
  ·have h4 : k < f.locals.length := by simpa using h3
   obtain ⟨n, hn⟩ : ∃ a, f.locals[k]? = some a := ⟨_, lG h4⟩
   simp -implicitDefEqProofs only [go_sem, rB, rA, rS, rM, rL, h3, hn, intC]
   intro idt hidt
   simp -implicitDefEqProofs only [go_sem, rA, rL, elemsOf, upd_self]
   refine appK_sl (hs.alloc hidt) (by simp) (by simp) (by simp; omega) fun id2 h5 hn5 hi hm => ?_
   simp -implicitDefEqProofs only [go_sem, rB, rA, rS, wrap_succ (show k < 9223372036854775807 by omega)]
   have := hrec (k + 1, h5, .msl id2 0 (((l ++ f.locals.take k).map intC).length + 1)) (by simp only []; omega) ⟨by simp only []; omega, .mk (by
    show h5 id2 = _
    rw [hi, List.take_add_one, hn]; simp [intC]) (by simp only [List.length_map, List.length_append, List.length_take]; omega)⟩
   simp only [unC, intsV, List.length_map, List.length_append, List.length_take] at this ⊢
   exact this
  ·have h4 : ¬ k < f.locals.length := by simpa using h3
   simp -implicitDefEqProofs only [go_sem, rB, rA, rS, h3]
   rw [List.take_of_length_le (by omega), he] at hs
   exact post_frz (h2 := Heap.none) (u := intsV (slotsF f)) (fun _ => True) rfl (hs.frz_self fun _ _ => trivial) (fun _ _ e => by cases e) (fun _ _ => rfl) rfl
end TryzT
end Go.Abs
namespace Go.Abs
open Go
structure Fn.Short (f : Fn) : Prop where
 p : f.params.length ≤ 20
 l : f.locals.length ≤ 1100
 s : ∀ x ∈ f.body, St.Small 40 x
 c : cntL f.body ≤ 300
namespace TryzT
theorem scope46 (vs : List Vr) (bs : List Bk) (f : Fn) (els : List (List V)) (hf : f.Short) : Ret prog 46 [.agg [.nsl, .fsl 5 (vs.map Vr.cells), .fsl 2 (bs.map Bk.cells), .fsl 5 [unC f els]], .int .i64 0] Heap.none fun r _ => r = (scF ⟨vs, bs, [f]⟩ f).v := by
 have hp := hf.p
 have hl := hf.l
 refine Ret.by_text rfl rfl ?_
 simp -implicitDefEqProofs only [go_sem, rB, rA, rS, rL, a46]
 intro g2 g4 g5
 refine Loop.step ?_
 simp -implicitDefEqProofs only [go_sem, rB, rA, rS, rM, rL, jL, jN, lt01, unC, intsV]
 intro idt hidt
 simp -implicitDefEqProofs only [go_sem, rA, rL, elemsOf, upd_self]
 refine appK_sl (v := .nsl) (els := []) ?_ ?_ ?_ ?_ fun id2 h2 hn hi hm => ?_
 ·exact (SlH.nil 2 Heap.none).alloc hidt
 ·simp
 ·simp
 ·simp
 simp -implicitDefEqProofs only [go_sem, rB, rA, rS, rL, jL, jN, jB]
 refine callOk_of (slots64 f els (by omega) (by omega)) ?_
 rintro u rfl
 simp -implicitDefEqProofs only [go_sem, rB, rA, rS, rL, w01, intsV]
 refine Loop.step ?_
 simp -implicitDefEqProofs only [go_sem, rB, rA, rS, rL, lt11]
 refine post_frz (h2 := Heap.none) (u := (scF ⟨vs, bs, [f]⟩ f).v) (fun _ => True) (v := .agg [.fsl 5 (vs.map Vr.cells), .fsl 2 (bs.map Bk.cells), .msl id2 0 1, .fsl 1 ((slotsF f).map intC)]) (by simp -implicitDefEqProofs only [go_sem, rB, rA, rS, rL, resultOf, mapM?, ARes.val]) ?_ (fun _ _ e => by cases e) (fun _ _ => rfl) rfl
 refine Frz.aggL (.cons (.same _) (.cons (.same _) (.cons ?_ (.cons (.same _) .nil))))
 exact (SlH.mk (els := [[.fsl 1 (f.params.map intC), .int .i64 f.result]]) hi rfl).frz_self fun _ _ => trivial
theorem scope22 (vs : List Vr) (bs : List Bk) (f : Fn) (hf : f.Short) : Ret prog 22 [(Src.mk vs bs [f]).v, .int .i64 0] Heap.none fun r _ => r = (scF ⟨vs, bs, [f]⟩ f).v := by
 have hc := hf.c
 refine Ret.by_text rfl rfl ?_
 simp -implicitDefEqProofs only [go_sem, rB, rA, rS, rL, a22, Src.cellsOf_v, Src.cs]
 intro g2 g4
 simp -implicitDefEqProofs only [go_sem, show V.agg [.fsl 5 (vs.map Vr.cells), .fsl 2 (bs.map Bk.cells), .fsl 5 [f.cells]] = (Src.mk vs bs [f]).v from rfl]
 refine callOk_of (units41 vs bs f hf.s (by omega)) ?_
 rintro u ⟨els, rfl, q1, q2⟩
 simp -implicitDefEqProofs only [go_sem, rB, rA, rS, rL]
 refine callOk_of (scope46 vs bs f els hf) ?_
 rintro u rfl
 simp -implicitDefEqProofs only [go_sem, rB, rA, rS, rL, Sc.cellsOf_v, Sc.cs]
 refine post_ret (v := (scF ⟨vs, bs, [f]⟩ f).v) (by simp -implicitDefEqProofs only [go_sem, rB, rA, rS, rL, resultOf, mapM?, ARes.val]; rfl) rfl
end TryzT
end Go.Abs
namespace Go.Abs
open Go
def ErrP (P : Prop) (r : V) : Prop := ∃ n : Int, r = .int .i64 n ∧ (n = 0 → P)
theorem ErrP.of {P : Prop} (n : Int) (h : n ≠ 0) : ErrP P (.int .i64 n) := ⟨n, rfl, fun e => absurd e h⟩
namespace TryzT
theorem tables37 (vs : List Vr) (bs : List Bk) (hv : vs.length ≤ 70) (hb : bs.length ≤ 40) : Ret prog 37 [.fsl 5 (vs.map Vr.cells), .fsl 2 (bs.map Bk.cells)] Heap.none fun r _ => ErrP (∀ v ∈ vs, 1 ≤ v.n) r := by
 refine Ret.by_text rfl rfl ?_
 simp -implicitDefEqProofs only [go_sem, rB, rA, rS, a37]
 refine br_intro (fun c1 => ?_) (fun c1 => ?_)
 ·simp -implicitDefEqProofs only [go_sem, rB, rA, rS, c1]
  exact post_ret rfl (ErrP.of 5 (by decide))
 simp -implicitDefEqProofs only [go_sem, rB, rA, rS, c1]
 refine br_intro (fun c2 => ?_) (fun c2 => ?_)
 ·simp -implicitDefEqProofs only [go_sem, c2]
  exact post_ret rfl (ErrP.of 5 (by decide))
 simp -implicitDefEqProofs only [go_sem, rB, c2]
 refine Loop.rec (fun k : Nat => vs.length - k) (fun k => ⟨E 94 [(0, .fsl 5 (vs.map Vr.cells)), (1, .fsl 2 (bs.map Bk.cells)), (5, .int .i64 k)], B 94 [], Heap.none⟩) (fun k => k ≤ vs.length ∧ ∀ (i : Nat) (v : Vr), i < k → vs[i]? = some v → 1 ≤ v.n) ?_ 0 ⟨Nat.zero_le _, fun i v h => by omega⟩ rfl
 rintro k ⟨hk, hp⟩ hrec
 simp -implicitDefEqProofs only [go_sem, rB, rA, rS]
 refine br_intro (fun h1 => ?_) (fun h1 => ?_)
 ·have h2 : k < vs.length := by simpa using h1
  obtain ⟨v, hx⟩ : ∃ x, vs[k]? = some x := ⟨_, lG h2⟩
  have hws := wrap_succ (show k < 9223372036854775807 by omega)
  simp -implicitDefEqProofs only [go_sem, rB, rA, rS, rL, h1, hx, Vr.cells]
  repeat' first
   | (refine br_intro (fun hb => ?_) (fun hb => ?_) <;> simp -implicitDefEqProofs only [go_sem, rB, rA, rS, rL, hb, hx, Vr.cells, hws])
   | (first | refine callOk_det (d_right _) ?_ | refine callPure_det (d_right _) ?_ | refine callOk_of (d_right _) ?_ | refine callPure_of (d_right _) ?_); rintro u rfl; simp -implicitDefEqProofs only [go_sem, rB, rA, rS]
   | (first | refine callOk_det (d_in _ _) ?_ | refine callPure_det (d_in _ _) ?_ | refine callOk_of (d_in _ _) ?_ | refine callPure_of (d_in _ _) ?_); rintro u rfl; simp -implicitDefEqProofs only [go_sem, rB, rA, rS]
   | (refine fun (g : Nat) => ?_; simp -implicitDefEqProofs only [go_sem, rB, rA, rS, rM, rL, rE, jL, jN, hx, Vr.cells, hws])
   | refine fun (g : Nat) => ?_
   | (refine post_ret (v := _) (by simp -implicitDefEqProofs only [go_sem, rB, rA, rS, resultOf, mapM?, ARes.val]; exact rfl) ?_; exact ErrP.of 10 (by decide))
  all_goals
   refine hrec (k + 1) (by omega) ⟨by omega, fun i w hi hw => ?_⟩
   by_cases e : i = k
   ·subst e; rw [hx] at hw; injection hw with hw; subst hw
    simp_all
   ·exact hp i w (by omega) hw
 ·have h2 : ¬ k < vs.length := by simpa using h1
  simp -implicitDefEqProofs only [go_sem, rB, h1]
  refine Loop.rec (fun k : Nat => bs.length - k) (fun k => ⟨E 94 [(1, .fsl 2 (bs.map Bk.cells)), (6, .int .i64 k)], B 94 [], Heap.none⟩) (fun k => k ≤ bs.length) ?_ 0 (Nat.zero_le _) rfl
  intro j hj hrec2
  simp -implicitDefEqProofs only [go_sem, rB, rA, rS]
  refine br_intro (fun h3 => ?_) (fun h3 => ?_)
  ·have h4 : j < bs.length := by simpa using h3
   obtain ⟨b, hx⟩ : ∃ x, bs[j]? = some x := ⟨_, lG h4⟩
   have hws := wrap_succ (show j < 9223372036854775807 by omega)
   simp -implicitDefEqProofs only [go_sem, rB, rA, rS, rL, h3, hx, Bk.cells]
   repeat' first
    | (refine br_intro (fun hb => ?_) (fun hb => ?_) <;> simp -implicitDefEqProofs only [go_sem, rB, rA, rS, rL, hb, hx, Bk.cells, hws])
    | (refine fun (g : Nat) => ?_; simp -implicitDefEqProofs only [go_sem, rB, rA, rS, rM, rL, rE, jL, jN, hx, Bk.cells, hws])
    | refine fun (g : Nat) => ?_
    | (refine post_ret (v := _) (by simp -implicitDefEqProofs only [go_sem, rB, rA, rS, resultOf, mapM?, ARes.val]; exact rfl) ?_; exact ErrP.of 10 (by decide))
   all_goals exact hrec2 (j + 1) (by omega) (by omega)
  ·simp -implicitDefEqProofs only [go_sem, rB, h3]
   refine post_ret rfl ⟨0, rfl, fun _ v hm => ?_⟩
   obtain ⟨i, hi, e⟩ := List.getElem_of_mem hm
   exact hp i v (by omega) (by rw [← e]; exact lG hi)
theorem head38 (ps ls : List Int) (r : Int) (m : Bool) (h1 : ps.length ≤ 20) (h2 : ls.length ≤ 1100) : Ret prog 38 [intsV ps, .int .i64 r, intsV ls, .bool m] Heap.none fun u _ => ErrP True u := by
 have fin : ∀ n : Int, ErrP True (.int .i64 n) := fun n => ⟨n, rfl, fun _ => trivial⟩
 refine Ret.by_text rfl rfl ?_
 simp -implicitDefEqProofs only [go_sem, rB, rA, rS, a38, intsV]
 refine br_intro (fun c1 => ?_) (fun c1 => ?_)
 all_goals
  simp -implicitDefEqProofs only [go_sem, rB, rA, rS, c1]
  refine br_intro (fun c2 => ?_) (fun c2 => ?_)
  ·simp -implicitDefEqProofs only [go_sem, rB, rA, rS, c2]
   exact post_ret rfl (fin _)
  simp -implicitDefEqProofs only [go_sem, rB, rA, rS, c2]
  refine br_intro (fun c3 => ?_) (fun c3 => ?_)
  ·simp -implicitDefEqProofs only [go_sem, c3]
   exact post_ret rfl (fin _)
  simp -implicitDefEqProofs only [go_sem, rB, c3]
  refine Loop.rec (fun k : Nat => ps.length - k) (fun k => ⟨E 71 [(0, intsV ps), (1, .int .i64 r), (2, intsV ls), (3, .bool m), (10, .int .i64 k)], B 71 [], Heap.none⟩) (fun k => k ≤ ps.length) ?_ 0 (Nat.zero_le _) rfl
  intro k hk hrec
  simp -implicitDefEqProofs only [go_sem, rB, rA, rS, intsV]
  refine br_intro (fun h1 => ?_) (fun h1 => ?_)
  ·have h2 : k < ps.length := by simpa using h1
   obtain ⟨v, hx⟩ : ∃ x, ps[k]? = some x := ⟨_, lG h2⟩
   have hws := wrap_succ (show k < 9223372036854775807 by omega)
   simp -implicitDefEqProofs only [go_sem, rB, rA, rS, rL, h1, hx, intC]
   refine callOk_det (d_right _) ?_
   rintro u rfl
   simp -implicitDefEqProofs only [go_sem, rB, rA, rS]
   refine br_intro (fun c4 => ?_) (fun c4 => ?_)
   ·simp -implicitDefEqProofs only [go_sem, rB, rA, rS, c4, hws]
    exact hrec (k + 1) (by omega) (by omega)
   ·simp -implicitDefEqProofs only [go_sem, c4]
    exact post_ret rfl (fin _)
  ·simp -implicitDefEqProofs only [go_sem, rB, h1]
   refine Loop.rec (fun k : Nat => ls.length - k) (fun k => ⟨E 71 [(0, intsV ps), (1, .int .i64 r), (2, intsV ls), (3, .bool m), (11, .int .i64 k)], B 71 [], Heap.none⟩) (fun k => k ≤ ls.length) ?_ 0 (Nat.zero_le _) rfl
   intro k hk hrec
   simp -implicitDefEqProofs only [go_sem, rB, rA, rS, intsV]
   refine br_intro (fun h1 => ?_) (fun h1 => ?_)
   ·have h2 : k < ls.length := by simpa using h1
    obtain ⟨v, hx⟩ : ∃ x, ls[k]? = some x := ⟨_, lG h2⟩
    have hws := wrap_succ (show k < 9223372036854775807 by omega)
    simp -implicitDefEqProofs only [go_sem, rB, rA, rS, rL, h1, hx, intC]
    refine callOk_det (d_right _) ?_
    rintro u rfl
    simp -implicitDefEqProofs only [go_sem, rB, rA, rS]
    refine br_intro (fun c4 => ?_) (fun c4 => ?_)
    ·simp -implicitDefEqProofs only [go_sem, rB, rA, rS, c4, hws]
     exact hrec (k + 1) (by omega) (by omega)
    ·simp -implicitDefEqProofs only [go_sem, c4]
     exact post_ret rfl (fin _)
   ·simp -implicitDefEqProofs only [go_sem, rB, rA, rS, h1]
    repeat' first
     | (refine br_intro (fun hb => ?_) (fun hb => ?_) <;> simp -implicitDefEqProofs only [go_sem, rB, rA, rS, hb])
     | (first | refine callOk_det (d_right _) ?_ | refine callPure_det (d_right _) ?_ | refine callOk_of (d_right _) ?_ | refine callPure_of (d_right _) ?_); rintro u rfl; simp -implicitDefEqProofs only [go_sem, rB, rA, rS]
     | (refine fun (g : Nat) => ?_; simp -implicitDefEqProofs only [go_sem, rB, rA, rS, rM, rL, rE, jL, jN])
     | refine fun (g : Nat) => ?_
     | (refine post_ret (v := _) (by simp -implicitDefEqProofs only [go_sem, rB, rA, rS, resultOf, mapM?, ARes.val]; exact rfl) ?_; exact fin _)
theorem calls59 (f : Fn) (els : List (List V)) (he : InsOk els) (hl : els.length < 1000000) (c : Int) : Ret prog 59 [.fsl 5 [unC f els], .int .i64 0, .int .i64 c] Heap.none fun u _ => ∃ b : Bool, u = .bool b := by
 refine Ret.by_text rfl rfl ?_
 simp -implicitDefEqProofs only [go_sem, rB, rA, a59]
 refine Loop.rec (fun k : Nat => els.length - k) (fun k => ⟨E 41 [(0, .fsl 5 [unC f els]), (1, .int .i64 0), (2, .int .i64 c), (7, .int .i64 k)], B 41 [], Heap.none⟩) (fun k => k ≤ els.length) ?_ 0 (Nat.zero_le _) rfl
 intro k hk hrec
 simp -implicitDefEqProofs only [go_sem, rB, rA, rS, rL, jL, jN, unC]
 refine br_intro (fun h1 => ?_) (fun h1 => ?_)
 ·have h2 : k < els.length := by simpa using h1
  obtain ⟨z, hx⟩ : ∃ x, els[k]? = some x := ⟨_, lG h2⟩
  obtain ⟨o, p, q, hz⟩ := he z (lM hx)
  have hws := wrap_succ (show k < 9223372036854775807 by omega)
  simp -implicitDefEqProofs only [go_sem, rB, rA, rS, rL, jL, jN, h1, hx, hz]
  repeat' first
   | (refine br_intro (fun hb => ?_) (fun hb => ?_) <;> simp -implicitDefEqProofs only [go_sem, rB, rA, rS, rL, jL, jN, hb, hx, hz, hws])
   | (refine fun (g : Nat) => ?_; simp -implicitDefEqProofs only [go_sem, rB, rA, rS, rM, rL, rE, jL, jN, hx, hz, hws])
   | refine fun (g : Nat) => ?_
   | (refine post_ret (v := _) (by simp -implicitDefEqProofs only [go_sem, rB, rA, rS, resultOf, mapM?, ARes.val]; exact rfl) ?_; exact ⟨_, rfl⟩)
  all_goals exact hrec (k + 1) (by omega) (by omega)
 ·simp -implicitDefEqProofs only [go_sem, rB, h1]
  exact post_ret rfl ⟨_, rfl⟩
theorem right39 (s : Sc) (hs : s.sigs.length ≤ 1) (l : List St) (hl : ∀ x ∈ l, St.Small 40 x) (hc : cntL l < 1000000) : Ret prog 39 [s.v, stsV l] Heap.none fun r _ => YesP (∀ x ∈ l, WF s 0 x) r := by
 refine Ret.by_text rfl rfl ?_
 simp -implicitDefEqProofs only [go_sem, rB, rA, rS, rL, a39, Sc.cellsOf_v, Sc.cs, Sc.fold]
 repeat' first
  | (refine br_intro (fun hb => ?_) (fun hb => ?_) <;> simp -implicitDefEqProofs only [go_sem, rB, rA, rS, rM, rL, rE, jL, jN, hb, Sc.fold])
  | (first | refine callOk_det (in58 s hs 40 l 0 hl hc) ?_ | refine callPure_det (in58 s hs 40 l 0 hl hc) ?_ | refine callOk_of (in58 s hs 40 l 0 hl hc) ?_ | refine callPure_of (in58 s hs 40 l 0 hl hc) ?_); rintro u ⟨_, rfl, hb⟩; simp -implicitDefEqProofs only [go_sem, rB, rA, rS]
  | (refine fun (g : Nat) => ?_; simp -implicitDefEqProofs only [go_sem, rB, rA, rS, rM, rL, rE, jL, jN, Sc.fold])
  | refine fun (g : Nat) => ?_
  | (refine post_ret (v := _) (by simp -implicitDefEqProofs only [go_sem, rB, rA, rS, resultOf, mapM?, ARes.val]; exact rfl) ?_; exact ⟨_, rfl, hb⟩)
end TryzT
end Go.Abs
namespace Go.Abs
open Go
theorem w0m : IntKind.i64.wrap ((0 : Int) - 1) = -1 := rfl
namespace TryzT
theorem order40 (f : Fn) (els : List (List V)) (he : InsOk els) (hl : els.length < 1000000) : Ret prog 40 [.fsl 5 [unC f els]] Heap.none fun u _ => ∃ (o : V) (b : Bool), u = .tup [o, .bool b] := by
 refine Ret.by_text rfl rfl ?_
 simp -implicitDefEqProofs only [go_sem, rB, rA, rS, jL, a40, mksK_eq, Int.reduceMul, jT, jL, show (((1 : Nat) : Int)) = 1 from rfl, show ((1 : Int).toNat) = 1 from rfl, show List.replicate 1 [V.bool false] = [[V.bool false]] from rfl]
 intro idp hidp
 refine Loop.step ?_
 simp -implicitDefEqProofs only [go_sem, rB, rA, rS, jT, show decide ((0 : Int) < 1) = true from rfl, show IntKind.i64.wrap ((1 : Int) - 1) = 0 from rfl, show (((1 : Nat) : Int)) = 1 from rfl]
 refine Loop.step ?_
 simp -implicitDefEqProofs only [go_sem, rB, rA, rS, rL, jL, jN, show decide ((0 : Int) ≥ 0) = true from rfl, upd_self, jT, jL, jN, Nat.add_zero, show (((1 : Nat) : Int)) = 1 from rfl]
 refine Loop.step ?_
 simp -implicitDefEqProofs only [go_sem, rB, rA, rS, show decide ((0 : Int) < 1) = true from rfl, show (((1 : Nat) : Int)) = 1 from rfl]
 refine callOk_of (calls59 f els he hl 0) ?_
 rintro u ⟨b, rfl⟩
 have two : ∀ (r : Bool), r = r := fun _ => rfl
 simp -implicitDefEqProofs only [go_sem, rB, rA, rS]
 refine br_intro (fun c1 => ?_) (fun c1 => ?_)
 ·simp -implicitDefEqProofs only [go_sem, rB, rA, rS, rL, jL, jN, c1, upd_self, jT, jL, jN, Nat.add_zero, w01, show (((1 : Nat) : Int)) = 1 from rfl]
  refine Loop.step ?_
  simp -implicitDefEqProofs only [go_sem, rB, rA, rS, show decide ((1 : Int) < 1) = false from rfl, show (((1 : Nat) : Int)) = 1 from rfl, w0m]
  refine Loop.step ?_
  simp -implicitDefEqProofs only [go_sem, rB, rA, rS, show decide ((-1 : Int) ≥ 0) = false from rfl, show decide ((-1 : Int) < 0) = true from rfl]
  refine post_ret rfl ⟨_, _, rfl⟩
 ·simp -implicitDefEqProofs only [go_sem, rB, rA, rS, c1, w01]
  refine Loop.step ?_
  simp -implicitDefEqProofs only [go_sem, rB, rA, rS, show decide ((1 : Int) < 1) = false from rfl, show (((1 : Nat) : Int)) = 1 from rfl, w0m]
  refine Loop.step ?_
  simp -implicitDefEqProofs only [go_sem, rB, rA, rS, rM, rL, jL, jN, show decide ((-1 : Int) ≥ 0) = false from rfl, show decide ((0 : Int) < 0) = false from rfl, upd_self, jT, jL, jN, Nat.add_zero, show (((1 : Nat) : Int)) = 1 from rfl]
  intro idt hidt
  simp -implicitDefEqProofs only [go_sem, rA, rL, elemsOf, upd_self]
  refine appK_sl (v := .nsl) (els := []) ?_ ?_ ?_ ?_ fun id2 h2 hn hi hm => ?_
  ·exact SlH.nil 1 _
  ·simp
  ·simp
  ·simp
  simp -implicitDefEqProofs only [go_sem, rB, rA, rS]
  refine Loop.step ?_
  simp -implicitDefEqProofs only [go_sem, rB, rA, rS, show decide ((1 : Int) < 1) = false from rfl, show (((1 : Nat) : Int)) = 1 from rfl]
  refine post_ret rfl ⟨_, _, rfl⟩
def CheckP (s : Src) (f : Fn) (r : V) : Prop := ∃ n m : Int, r = .tup [.int .i64 n, .int .i64 m] ∧ (m = 0 → (∀ v ∈ s.vars, 1 ≤ v.n) ∧ ∀ x ∈ f.body, WF (scF s f) 0 x)
theorem check20 (vs : List Vr) (bs : List Bk) (f : Fn) (hf : f.Short) (hv : vs.length ≤ 70) (hb : bs.length ≤ 40) : Ret prog 20 [(Src.mk vs bs [f]).v] Heap.none fun u _ => CheckP ⟨vs, bs, [f]⟩ f u := by
 have hc := hf.c
 have no : ∀ n m : Int, m ≠ 0 → CheckP ⟨vs, bs, [f]⟩ f (.tup [.int .i64 n, .int .i64 m]) := fun n m h => ⟨n, m, rfl, fun e => absurd e h⟩
 refine Ret.by_text rfl rfl ?_
 simp -implicitDefEqProofs only [go_sem, rB, rA, rS, rL, a20, Src.cellsOf_v, Src.cs]
 intro g
 simp -implicitDefEqProofs only [go_sem, rB, rA, rS, rL, show decide (((1 : Nat) : Int) < 1) = false from rfl, show decide (((1 : Nat) : Int) > 8) = false from rfl]
 refine callOk_of (tables37 vs bs hv hb) ?_
 rintro u ⟨n, rfl, hn⟩
 simp -implicitDefEqProofs only [go_sem, rB, rA, rS]
 refine br_intro (fun c1 => ?_) (fun c1 => ?_)
 ·simp -implicitDefEqProofs only [go_sem, rB, rA, rS, c1]
  exact post_ret rfl (no _ _ (by simpa using c1))
 have hT := hn (by simpa using c1)
 simp -implicitDefEqProofs only [go_sem, rB, c1]
 refine Loop.step ?_
 simp -implicitDefEqProofs only [go_sem, rB, rA, rS, rL, jL, jN, lt01, Fn.cells, jB]
 intro g2
 refine callOk_of (head38 f.params f.locals f.result true hf.p hf.l) ?_
 rintro u ⟨m, rfl, _⟩
 simp -implicitDefEqProofs only [go_sem, rB, rA, rS]
 refine br_intro (fun c2 => ?_) (fun c2 => ?_)
 ·simp -implicitDefEqProofs only [go_sem, rB, rA, rS, c2]
  exact post_ret rfl (no _ _ (by simpa using c2))
 simp -implicitDefEqProofs only [go_sem, rB, rA, rS, rL, c2]
 first | refine callPure_of (scope22 vs bs f hf) ?_ | refine callOk_of (scope22 vs bs f hf) ?_
 rintro u rfl
 simp -implicitDefEqProofs only [go_sem, rB, rA, rS, rL]
 refine callOk_of (right39 (scF ⟨vs, bs, [f]⟩ f) (by simp [scF]) f.body hf.s (by omega)) ?_
 rintro u ⟨b, rfl, hw⟩
 simp -implicitDefEqProofs only [go_sem, rB, rA, rS]
 refine br_intro2 (fun c3 => ?_) (fun c3 => ?_)
 ·simp -implicitDefEqProofs only [go_sem, rB, rA, rS, c3]
  exact post_ret rfl (no _ _ (by decide))
 simp -implicitDefEqProofs only [go_sem, rB, rA, rS, c3, w01]
 refine Loop.step ?_
 simp -implicitDefEqProofs only [go_sem, rB, rA, rS, rL, lt11]
 refine callOk_of (units41 vs bs f hf.s (by omega)) ?_
 rintro u ⟨els, rfl, q1, q2⟩
 simp -implicitDefEqProofs only [go_sem, rB, rA, rS]
 refine callOk_of (order40 f els q1 (by omega)) ?_
 rintro u ⟨o, b2, rfl⟩
 simp -implicitDefEqProofs only [go_sem, rB, rA, rS]
 refine br_intro2 (fun c4 => ?_) (fun c4 => ?_)
 ·simp -implicitDefEqProofs only [go_sem, c4]
  exact post_ret rfl (no _ _ (by decide))
 simp -implicitDefEqProofs only [go_sem, c4]
 exact post_ret rfl ⟨_, _, rfl, fun _ => ⟨hT, hw c3⟩⟩
end TryzT
end Go.Abs
namespace Go.Abs
open Go
def StsP (n : Nat) (Q : St → Prop) (r : V) : Prop := ∃ l : List St, r = stsV l ∧ l.length ≤ n ∧ ∀ y ∈ l, Q y
theorem St.cells_mk (k c n m : Int) (e i : Ex) (l : List Ex) (args : List Ar) (body els : List St) (arms : List Am) : (St.mk k c n m e i l args body els arms).cells =
  [.int .i64 k, .int .i64 c, .int .i64 n, .int .i64 m, .int .i64 e.op, .int .i64 e.t, .int .i64 e.n, .int .i64 e.m, .fsl 5 (e.l.map Ex.cells), .int .i64 i.op, .int .i64 i.t, .int .i64 i.n, .int .i64 i.m, .fsl 5 (i.l.map Ex.cells), .fsl 5 (l.map Ex.cells), .fsl 6 (args.map Ar.cells), .fsl 19 (body.map St.cells), .fsl 19 (els.map St.cells), .fsl 2 (arms.map Am.cells)] := by rw [St.cells_cs]; rfl
theorem frz_st {h : Heap} {v : V} {elsA : List (List V)} {ams : List Am} (k c n m : Int) (e i : Ex) (l : List Ex) (args : List Ar) (body els : List St) (hs : SlH 2 h v elsA) (ha : elsA = ams.map Am.cells) :
  FrzL h (SlH.own v) [.int .i64 k, .int .i64 c, .int .i64 n, .int .i64 m, .int .i64 e.op, .int .i64 e.t, .int .i64 e.n, .int .i64 e.m, .fsl 5 (e.l.map Ex.cells), .int .i64 i.op, .int .i64 i.t, .int .i64 i.n, .int .i64 i.m, .fsl 5 (i.l.map Ex.cells), .fsl 5 (l.map Ex.cells), .fsl 6 (args.map Ar.cells), .fsl 19 (body.map St.cells), .fsl 19 (els.map St.cells), v] (St.mk k c n m e i l args body els ams).cells := by
 rw [St.cells_mk]
 subst ha
 exact .cons (.same _) (.cons (.same _) (.cons (.same _) (.cons (.same _) (.cons (.same _) (.cons (.same _) (.cons (.same _) (.cons (.same _) (.cons (.same _) (.cons (.same _) (.cons (.same _) (.cons (.same _) (.cons (.same _) (.cons (.same _) (.cons (.same _) (.cons (.same _) (.cons (.same _) (.cons (.same _) (.cons (hs.frz_self fun _ h => h) .nil))))))))))))))))))
theorem SlH.some_own {sz : Nat} {h : Heap} {v : V} {els : List (List V)} (hs : SlH sz h v els) {i : Nat} (hi : SlH.own v i) : ∃ b, h i = some b := by
 obtain ⟨n, rfl⟩ := hi
 rcases hs with ⟨_, e⟩ | ⟨id, e, hid⟩
 ·cases e
 ·injection e with e _ _; subst e; exact ⟨_, hid⟩
theorem one_len {α : Type} {P : α → Prop} {z : α} (h : P z) : ∀ y ∈ [z], P y := fun y hy => by simp at hy; subst hy; exact h
namespace TryzT
theorem erase42 : ∀ (d : Nat) (l : List St), (∀ x ∈ l, St.Small d x) → l.length < 1000000 → (∀ x ∈ l, x.cnt < 1000000) → Ret prog 42 [stsV l] Heap.none fun r _ => StsP l.length (fun _ => True) r := by
 intro d
 induction d with
 | zero =>
  intro l hl hll hc
  have : l = [] := by
   cases l with
   | nil => rfl
   | cons x l => exact (hl x lC).elim
  subst this
  refine Ret.by_text rfl rfl ?_
  simp -implicitDefEqProofs only [go_sem, rB, a42, stsV]
  refine Loop.step ?_
  simp -implicitDefEqProofs only [go_sem, rB, rA, rS, lt00]
  exact post_frz (h2 := Heap.none) (u := .fsl 19 []) (fun _ => True) rfl (.nsl 19) (fun _ _ e => by cases e) (fun _ _ => rfl) ⟨[], rfl, Nat.le_refl _, fun y hy => by cases hy⟩
 | succ d ih =>
 intro l hl hll hc
 refine Ret.by_text rfl rfl ?_
 simp -implicitDefEqProofs only [go_sem, rB, a42, stsV]
 refine Loop.rec (α := Nat × Heap × V × List (List V) × List St × (Nat → Prop)) (fun k => l.length - k.1) (fun k => ⟨E 61 [(0, stsV l), (3, k.2.2.1), (4, .int .i64 k.1)], B 61 [], k.2.1⟩)
  (fun k => k.1 ≤ l.length ∧ Grow k.2.2.2.2.2 19 k.2.1 k.2.2.1 k.2.2.2.1 (k.2.2.2.2.1.map St.cells) ∧ k.2.2.2.2.1.length ≤ k.1) ?_ (0, Heap.none, .nsl, [], [], fun _ => False) ⟨Nat.zero_le _, Grow.nil _ _, Nat.le_refl _⟩ rfl
 rintro ⟨k, h, out, els, ys, A⟩ ⟨hk, hg, hle⟩ hrec
 simp only [] at hk hg hle
 simp -implicitDefEqProofs only [go_sem, rB, rA, rS, stsV]
 refine br_intro (fun h1 => ?_) (fun h1 => ?_)
 ·have h2 : k < l.length := by simpa using h1
  obtain ⟨x, hx⟩ : ∃ x, l[k]? = some x := ⟨_, lG h2⟩
  have hmx := lM hx
  obtain ⟨hf, sb, se, sa⟩ := hl x hmx
  have hcx := hc x hmx
  have hce := x.cnt_eq
  have hws := wrap_succ (show k < 9223372036854775807 by omega)
  have key : ∀ (y : List St), (∀ z ∈ y, St.Small d z) → cntL y < 1000000 → Ret prog 42 [stsV y] Heap.none fun r _ => StsP y.length (fun _ => True) r := fun y hs hy =>
   ih y hs (by have := cntL_len y; omega) (fun z hz => by have := cnt_mem hz; omega)
  simp -implicitDefEqProofs only [go_sem, rB, rA, rS, rL, h1, hx, x.cells_cs, St.cs]
  intro g
  refine br_intro (fun h3 => ?_) (fun h3 => ?_)
  ·simp -implicitDefEqProofs only [go_sem, rB, rA, rS, h3, hws]
   exact hrec (k + 1, h, out, els, ys, A) (by simp only []; omega) ⟨by simp only []; omega, hg, by simp only []; omega⟩
  simp -implicitDefEqProofs only [go_sem, rB, rA, rS, rL, h3]
  refine callOk_of (key x.body sb (by omega)) ?_
  rintro u ⟨b2, rfl, _, _⟩
  simp -implicitDefEqProofs only [go_sem, rB, rA, rS, rL, stsV]
  refine callOk_of (key x.els se (by omega)) ?_
  rintro u ⟨e2, rfl, _, _⟩
  simp -implicitDefEqProofs only [go_sem, rB, rA, rS, rL, stsV]
  refine Loop.rec (α := Nat × Heap × V × List (List V) × List Am) (fun j => x.arms.length - j.1) (fun j => ⟨E 61 [(0, stsV l), (3, out), (4, .int .i64 k), (5, .lp 5 g 0), (6, j.2.2.1), (7, .int .i64 j.1)], B 61 [(5, some (g, [.int .i64 x.kind, .int .i64 0, .int .i64 x.n, .int .i64 x.m, .int .i64 x.e.op, .int .i64 x.e.t, .int .i64 x.e.n, .int .i64 x.e.m, .fsl 5 (x.e.l.map Ex.cells), .int .i64 x.i.op, .int .i64 x.i.t, .int .i64 x.i.n, .int .i64 x.i.m, .fsl 5 (x.i.l.map Ex.cells), .fsl 5 (x.l.map Ex.cells), .fsl 6 (x.args.map Ar.cells), .fsl 19 (b2.map St.cells), .fsl 19 (e2.map St.cells), .fsl 2 (x.arms.map Am.cells)]))], j.2.1⟩)
   (fun j => j.1 ≤ x.arms.length ∧ Grow A 19 j.2.1 out els (ys.map St.cells) ∧ SlH 2 j.2.1 j.2.2.1 j.2.2.2.1 ∧ j.2.2.2.1 = j.2.2.2.2.map Am.cells ∧ j.2.2.2.2.length = j.1 ∧ ∀ i, SlH.own j.2.2.1 i → ¬ A i ∧ ¬ SlH.own out i) ?_ (0, h, .nsl, [], []) ⟨Nat.zero_le _, hg, SlH.nil _ _, rfl, rfl, fun i ⟨n, e⟩ => by cases e⟩ rfl
  rintro ⟨j, h, arms, elsA, ams⟩ ⟨hj, hg, hs, hea, hla, hdj⟩ hrec2
  simp only [] at hj hg hs hea hla hdj
  simp -implicitDefEqProofs only [go_sem, rB, rA, rS, rL, stsV]
  refine br_intro (fun h4 => ?_) (fun h4 => ?_)
  ·have h5 : j < x.arms.length := by simpa using h4
   obtain ⟨a, ha⟩ : ∃ a, x.arms[j]? = some a := ⟨_, lG h5⟩
   have hma := lM ha
   have hca := cntA_mem hma
   have hrl := hf.rl
   simp -implicitDefEqProofs only [go_sem, rB, rA, rS, rL, h4, ha, Am.cells_eq]
   refine callOk_of (key a.body (sa a hma).2 (by omega)) ?_
   rintro u ⟨b3, rfl, _, _⟩
   simp -implicitDefEqProofs only [go_sem, rB, rA, rS, rM, rL, stsV]
   intro idt hidt
   simp -implicitDefEqProofs only [go_sem, rA, rL, elemsOf, upd_self]
   refine appK_sl (hs.alloc hidt) (one_len rfl) (by simp) (by rw [hea]; simp only [List.length_map, List.length_cons, List.length_nil]; omega) fun id2 h2 hn hi hm => ?_
   have hm2 : ∀ i b, h i = some b → ¬ SlH.own arms i → h2 i = some b := fun i b hi ho => hm i b (by rw [upd_other _ _ (ne_of_some hi hidt)]; exact hi) ho
   have hn2 : h id2 = none := by
    by_cases e : id2 = idt
    ·subst e; exact hidt
    ·rwa [upd_other _ _ e] at hn
   simp -implicitDefEqProofs only [go_sem, rB, rA, rS, wrap_succ (show j < 9223372036854775807 by omega)]
   refine hrec2 (j + 1, h2, .msl id2 0 (elsA.length + 1), elsA ++ [[.fsl 1 (a.labels.map intC), .fsl 19 (b3.map St.cells)]], ams ++ [.mk a.labels b3]) (by simp only []; omega) ⟨by simp only []; omega, hg.mono fun i b hi ho => hm2 i b hi (fun h => ?_), .mk hi (by simp), by simp [hea, Am.cells_eq, Am.labels, Am.body], by simp [hla], fun i ⟨n, e⟩ => ?_⟩
   ·have := hdj i h
    rcases ho with ho | ho
    ·exact this.1 ho
    ·exact this.2 ho
   ·simp only [] at e
    injection e with e _ _
    subst e
    refine ⟨fun hA => ?_, fun ho => ?_⟩
    ·obtain ⟨⟨b, hb⟩, _⟩ := hg.own _ hA
     rw [hn2] at hb; cases hb
    ·obtain ⟨b, hb⟩ := hg.sl.some_own ho
     rw [hn2] at hb; cases hb
  ·have h5 : ¬ j < x.arms.length := by simpa using h4
   simp -implicitDefEqProofs only [go_sem, rB, rA, rS, rM, rL, h4, hs.cells]
   intro idt hidt
   simp -implicitDefEqProofs only [go_sem, rA, rL, elemsOf, upd_self]
   have hf2 := frz_st x.kind 0 x.n x.m x.e x.i x.l x.args b2 e2 (hs.alloc (b := some (.arr 19 [[.int .i64 x.kind, .int .i64 0, .int .i64 x.n, .int .i64 x.m, .int .i64 x.e.op, .int .i64 x.e.t, .int .i64 x.e.n, .int .i64 x.e.m, .fsl 5 (x.e.l.map Ex.cells), .int .i64 x.i.op, .int .i64 x.i.t, .int .i64 x.i.n, .int .i64 x.i.m, .fsl 5 (x.i.l.map Ex.cells), .fsl 5 (x.l.map Ex.cells), .fsl 6 (x.args.map Ar.cells), .fsl 19 (b2.map St.cells), .fsl 19 (e2.map St.cells), arms]])) hidt) hea
   have hlen : els.length = ys.length := by have := hg.el.1; simpa using this
   refine appK_sl (hg.alloc hidt).sl (one_len rfl) (by simp) (by simp only [List.length_cons, List.length_nil]; omega) fun id2 h2 hn hi hm => ?_
   have hp := (hg.alloc hidt).push hf2 (fun i hi => ⟨(hs.alloc hidt).some_own hi, (hdj i hi).2⟩) hn hi hm
   simp -implicitDefEqProofs only [go_sem, rB, rA, rS, hws]
   refine hrec (k + 1, h2, .msl id2 0 (els.length + 1), _, ys ++ [St.mk x.kind 0 x.n x.m x.e x.i x.l x.args b2 e2 ams], _) (by simp only []; omega) ⟨by simp only []; omega, by simp only [List.map_append, List.map_cons, List.map_nil]; exact hp, by simp; omega⟩
 ·have h2 : ¬ k < l.length := by simpa using h1
  simp -implicitDefEqProofs only [go_sem, rB, rA, rS, h1]
  exact post_frz (h2 := Heap.none) (u := stsV ys) (fun _ => True) rfl hg.frz (fun _ _ e => by cases e) (fun _ _ => rfl) ⟨ys, rfl, by omega, fun _ _ => trivial⟩
end TryzT
end Go.Abs
namespace Go.Abs
open Go
theorem ElsH.same {h : Heap} {A : Nat → Prop} {els outs new : List (List V)} (he : ElsH h A els outs) : ElsH h A (els ++ new) (outs ++ new) := by
 refine ⟨by simp [he.1], fun i z y h1 h2 => ?_⟩
 by_cases hi : i < els.length
 ·rw [List.getElem?_append_left hi] at h1
  rw [List.getElem?_append_left (by rw [← he.1]; exact hi)] at h2
  exact he.2 i z y h1 h2
 ·rw [List.getElem?_append_right (by omega)] at h1
  rw [List.getElem?_append_right (by rw [← he.1]; omega), ← he.1, h1] at h2
  injection h2 with h2
  subst h2
  exact ⟨rfl, fun j a b h3 h4 => by rw [h3] at h4; injection h4 with h4; subst h4; exact .same _⟩
theorem Grow.app {A : Nat → Prop} {sz : Nat} {h h2 : Heap} {v u : V} {els outs new : List (List V)} (hg : Grow A sz h v els outs) (hs : SlH sz h2 u (els ++ new)) (ho : ∀ j, SlH.own u j → h j = none ∨ SlH.own v j) (hm : ∀ j c, h j = some c → ¬ SlH.own v j → h2 j = some c) : Grow A sz h2 u (els ++ new) (outs ++ new) :=
 ⟨hs, hg.el.same.mono (fun i b hA hb => hm i b hb (hg.own i hA).2) fun _ h => h, fun i hA => by
  obtain ⟨⟨b, hb⟩, h3⟩ := hg.own i hA
  refine ⟨⟨b, hm i b hb h3⟩, fun hu => ?_⟩
  rcases ho i hu with e | e
  ·rw [hb] at e; cases e
  ·exact h3 e⟩
def withF (fr : Bool) (l : List St) (en : Bool) : List St := (if fr then [TryzT.zeroS 0 1] else []) ++ l ++ (if en then [TryzT.zeroS 0 1] else [])
theorem frz_skip (h : Heap) (A : Nat → Prop) : FrzL h A [.int .i64 0, .int .i64 1, .int .i64 0, .int .i64 0, .int .i64 0, .int .i64 0, .int .i64 0, .int .i64 0, .nsl, .int .i64 0, .int .i64 0, .int .i64 0, .int .i64 0, .nsl, .nsl, .nsl, .nsl, .nsl, .nsl] (TryzT.zeroS 0 1).cells := by
 rw [show (TryzT.zeroS 0 1).cells = [.int .i64 0, .int .i64 1, .int .i64 0, .int .i64 0, .int .i64 0, .int .i64 0, .int .i64 0, .int .i64 0, .fsl 5 [], .int .i64 0, .int .i64 0, .int .i64 0, .int .i64 0, .fsl 5 [], .fsl 5 [], .fsl 6 [], .fsl 19 [], .fsl 19 [], .fsl 2 []] from by rw [TryzT.zeroS, St.cells_mk]; rfl]
 exact .cons (.same _) (.cons (.same _) (.cons (.same _) (.cons (.same _) (.cons (.same _) (.cons (.same _) (.cons (.same _) (.cons (.same _) (.cons (.nsl _) (.cons (.same _) (.cons (.same _) (.cons (.same _) (.cons (.same _) (.cons (.nsl _) (.cons (.nsl _) (.cons (.nsl _) (.cons (.nsl _) (.cons (.nsl _) (.cons (.nsl _) .nil))))))))))))))))))
namespace TryzT
theorem labels63 (x : St) (hl : x.arms.length ≤ 60) (ha : ∀ a ∈ x.arms, a.labels.length ≤ 300) : Ret prog 63 [x.v] Heap.none fun r _ => ∃ n : Int, r = .int .i64 n := by
 refine Ret.by_text rfl rfl ?_
 simp -implicitDefEqProofs only [go_sem, rB, rA, rS, a63, St.cellsOf_v, St.cs]
 intro g
 refine Loop.rec (α := Nat × Int) (fun k => x.arms.length - k.1) (fun k => ⟨E 46 [(1, .lp 1 g 0), (3, .int .i64 k.2), (4, .int .i64 k.1)], B 46 [(1, some (g, x.cs))], Heap.none⟩) (fun k => k.1 ≤ x.arms.length) ?_ (0, 0) (Nat.zero_le _) rfl
 rintro ⟨k, n⟩ hk hrec
 simp only [] at hk
 simp -implicitDefEqProofs only [go_sem, rB, rA, rS, rL, St.cs]
 refine br_intro (fun h1 => ?_) (fun h1 => ?_)
 ·have h2 : k < x.arms.length := by simpa using h1
  obtain ⟨a, hx⟩ : ∃ a, x.arms[k]? = some a := ⟨_, lG h2⟩
  have hal := ha a (lM hx)
  simp -implicitDefEqProofs only [go_sem, rB, h1]
  refine Loop.rec (α := Nat × Int) (fun j => a.labels.length - j.1) (fun j => ⟨E 46 [(1, .lp 1 g 0), (3, .int .i64 j.2), (4, .int .i64 k), (5, .int .i64 j.1)], B 46 [(1, some (g, x.cs))], Heap.none⟩) (fun j => j.1 ≤ a.labels.length) ?_ (0, n) (Nat.zero_le _) rfl
  rintro ⟨j, n⟩ hj hrec2
  simp only [] at hj
  simp -implicitDefEqProofs only [go_sem, rB, rA, rS, rL, St.cs, hx, Am.cells_eq]
  refine br_intro (fun h3 => ?_) (fun h3 => ?_)
  ·have h4 : j < a.labels.length := by simpa using h3
   obtain ⟨m, hm⟩ : ∃ a', a.labels[j]? = some a' := ⟨_, lG h4⟩
   have hws := wrap_succ (show j < 9223372036854775807 by omega)
   simp -implicitDefEqProofs only [go_sem, rB, rA, rS, rL, h3, hx, Am.cells_eq, hm, intC]
   repeat' first
    | (refine br_intro (fun hb => ?_) (fun hb => ?_) <;> simp -implicitDefEqProofs only [go_sem, rB, rA, rS, rL, hb, hx, Am.cells_eq, hm, intC, hws])
    | (refine fun (g : Nat) => ?_; simp -implicitDefEqProofs only [go_sem, rB, rA, rS, rM, rL, rE, jL, jN, hx, Am.cells_eq, hm, intC, hws])
    | refine fun (g : Nat) => ?_
    | (refine post_ret (v := _) (by simp -implicitDefEqProofs only [go_sem, resultOf]; exact rfl) ?_; rfl)
   all_goals exact hrec2 (j + 1, _) (by simp only []; omega) (by simp only []; omega)
  ·simp -implicitDefEqProofs only [go_sem, rB, rA, rS, h3, wrap_succ (show k < 9223372036854775807 by omega)]
   exact hrec (k + 1, _) (by simp only []; omega) (by simp only []; omega)
 ·simp -implicitDefEqProofs only [go_sem, rB, rA, rS, h1]
  exact post_ret rfl ⟨_, rfl⟩
theorem else62 (d : Nat) (x : St) (hs : ∀ y ∈ x.els, St.Small d y) (hc : cntL x.els < 1000000) : Ret prog 62 [x.v] Heap.none fun r _ => ∃ b : Bool, r = .bool b := by
 refine Ret.by_text rfl rfl ?_
 simp -implicitDefEqProofs only [go_sem, rB, rA, rS, rL, a62, St.cellsOf_v, St.cs]
 intro g
 refine callOk_of (erase42 d x.els hs (by have := cntL_len x.els; omega) (fun y hy => by have := cnt_mem hy; omega)) ?_
 rintro u ⟨l, rfl, _, _⟩
 simp -implicitDefEqProofs only [go_sem, rB, rA, rS, stsV]
 exact post_ret rfl ⟨_, rfl⟩
theorem with44 (fr : Bool) (l : List St) (en : Bool) (hl : l.length < 1000000) : Ret prog 44 [.bool fr, stsV l, .bool en] Heap.none fun r _ => r = stsV (withF fr l en) := by
 refine Ret.by_text rfl rfl ?_
 simp -implicitDefEqProofs only [go_sem, rB, rA, rS, a44, stsV]
 refine br_intro (fun c1 => ?_) (fun c1 => ?_)
 case' refine_1 =>
  simp -implicitDefEqProofs only [go_sem, rB, rA, rS, rM, rL, c1]
  intro idt hidt
  simp -implicitDefEqProofs only [go_sem, rA, rL, elemsOf, upd_self]
  refine appK_sl (v := .nsl) (els := []) ?_ ?_ ?_ ?_ fun id2 h2 hn hi hm => ?_
  ·exact (SlH.nil 19 _).alloc hidt
  ·exact one_len rfl
  ·simp
  ·simp
  have hg : Grow _ 19 h2 (.msl id2 0 1) _ _ := ((Grow.nil 19 Heap.none).alloc (b := some (.arr 19 _)) hidt).push (frz_skip _ (fun _ => False)) (fun i h => h.elim) hn hi hm
  have hle : ([[V.int .i64 0, .int .i64 1, .int .i64 0, .int .i64 0, .int .i64 0, .int .i64 0, .int .i64 0, .int .i64 0, .nsl, .int .i64 0, .int .i64 0, .int .i64 0, .int .i64 0, .nsl, .nsl, .nsl, .nsl, .nsl, .nsl]]).length ≤ 1 := by simp
  simp only [List.nil_append] at hg
  simp -implicitDefEqProofs only [go_sem, rB, rA, rS]
  obtain ⟨ys, hys⟩ : ∃ ys : List St, ys = (if fr = true then [zeroS 0 1] else []) := ⟨_, rfl⟩
  rw [show [(zeroS 0 1).cells] = ys.map St.cells by rw [hys, c1]; rfl] at hg
  generalize ([[V.int .i64 0, .int .i64 1, .int .i64 0, .int .i64 0, .int .i64 0, .int .i64 0, .int .i64 0, .int .i64 0, .nsl, .int .i64 0, .int .i64 0, .int .i64 0, .int .i64 0, .nsl, .nsl, .nsl, .nsl, .nsl, .nsl]]) = els at hg hle
 case' refine_2 =>
  have hg := Grow.nil 19 Heap.none
  have hle : ([] : List (List V)).length ≤ 1 := by simp
  simp -implicitDefEqProofs only [go_sem, rB, rA, rS, c1]
  obtain ⟨ys, hys⟩ : ∃ ys : List St, ys = (if fr = true then [zeroS 0 1] else []) := ⟨_, rfl⟩
  have e0 : ([] : List (List V)) = ys.map St.cells := by rw [hys, c1]; rfl
  obtain ⟨els, hels⟩ : ∃ els : List (List V), els = [] := ⟨_, rfl⟩
  have hg : Grow (fun _ => False) 19 Heap.none .nsl els (ys.map St.cells) := by rw [hels, ← e0]; exact hg
  rw [← hels] at hle
 all_goals
  simp -implicitDefEqProofs only [go_sem, elemsOf]
  refine appK_sl0 hg.sl (fun z hz => by obtain ⟨y, _, rfl⟩ := List.mem_map.1 hz; rw [St.cells_cs]; rfl) (by simp only [List.length_map]; omega) fun out2 h2 hs ho hm => ?_
  have hg2 := hg.app hs ho hm
  rw [← List.map_append] at hg2
  have hlen : (els ++ l.map St.cells).length ≤ 1000001 := by simp; omega
  simp -implicitDefEqProofs only [go_sem, rB, rA, rS]
  refine br_intro (fun c2 => ?_) (fun c2 => ?_)
  ·simp -implicitDefEqProofs only [go_sem, rB, rA, rS, rM, rL, c2]
   intro idt hidt
   simp -implicitDefEqProofs only [go_sem, rA, rL, elemsOf, upd_self]
   refine appK_sl (hg2.alloc hidt).sl (one_len rfl) (by simp) (by simp only [List.length_cons, List.length_nil]; omega) fun id2 h3 hn hi hm => ?_
   have hg3 := (hg2.alloc hidt).push (frz_skip _ (fun _ => False)) (fun i h => h.elim) hn hi hm
   simp -implicitDefEqProofs only [go_sem, rB, rA, rS]
   refine post_frz (h2 := Heap.none) (u := stsV (withF fr l en)) (fun _ => True) rfl ?_ (fun _ _ e => by cases e) (fun _ _ => rfl) (by simp only [stsV, c1, c2])
   simp -implicitDefEqProofs only [go_sem, rB, rA, rS]
   have := hg3.frz
   rw [stsV, withF, c2, ← hys]
   simpa using this
  ·simp -implicitDefEqProofs only [go_sem, rB, rA, rS, c2]
   refine post_frz (h2 := Heap.none) (u := stsV (withF fr l en)) (fun _ => True) rfl ?_ (fun _ _ e => by cases e) (fun _ _ => rfl) (by simp only [stsV, c1, c2])
   simp -implicitDefEqProofs only [go_sem, rB, rA, rS]
   have := hg2.frz
   rw [stsV, withF, c2, ← hys]
   simpa using this
end TryzT
end Go.Abs
namespace Go.Abs
open Go
def OneP (x : St) (r : V) : Prop := ∃ n : Int, r = .int .i64 n ∧ (x.kind ≠ 0 → x.kind < 7 ∨ 11 < x.kind → 1 ≤ n)
namespace TryzT
theorem WF.sub {s : Sc} {lp : Int} {x : St} (h : WF s lp x) : x.kind ≠ 6 ∧ (∀ y ∈ x.body, WF s (inner x.kind lp) y) ∧ (∀ y ∈ x.els, WF s lp y) ∧ ∀ a ∈ x.arms, ∀ y ∈ a.body, WF s lp y := by
 cases h with
 | mk => exact ⟨by assumption, by assumption, by assumption, by assumption⟩
theorem size61_of (s : Sc) (l : List St) (hl : l.length < 1000000) (h1 : ∀ x ∈ l, Ret prog 43 [s.v, x.v] Heap.none fun r _ => OneP x r) : Ret prog 61 [s.v, stsV l] Heap.none fun r _ => ∃ n : Int, r = .int .i64 n := by
 refine Ret.by_text rfl rfl ?_
 simp -implicitDefEqProofs only [go_sem, rB, rA, rS, a61, Sc.cellsOf_v, show s.cs.length = 4 from rfl]
 intro g
 refine Loop.rec (α := Nat × Int) (fun k => l.length - k.1) (fun k => ⟨E 22 [(1, stsV l), (2, .lp 2 g 0), (5, .int .i64 k.2), (6, .int .i64 k.1)], B 22 [(2, some (g, s.cs))], Heap.none⟩) (fun k => k.1 ≤ l.length) ?_ (0, 0) (Nat.zero_le _) rfl
 rintro ⟨k, n⟩ hk hrec
 simp only [] at hk
 simp -implicitDefEqProofs only [go_sem, rB, rA, rS, stsV, Sc.cs]
 refine br_intro (fun c1 => ?_) (fun c1 => ?_)
 ·have h2 : k < l.length := by simpa using c1
  obtain ⟨x, hx⟩ : ∃ a, l[k]? = some a := ⟨_, lG h2⟩
  simp -implicitDefEqProofs only [go_sem, rB, rA, rS, rL, c1, hx, x.cells_cs, St.cs, St.fold, Sc.fold]
  refine callOk_of (h1 x (lM hx)) ?_
  rintro u ⟨m, rfl, _⟩
  simp -implicitDefEqProofs only [go_sem, rB, rA, rS, wrap_succ (show k < 9223372036854775807 by omega)]
  exact hrec (k + 1, _) (by simp only []; omega) (by simp only []; omega)
 ·simp -implicitDefEqProofs only [go_sem, rB, rA, rS, c1]
  exact post_ret rfl ⟨_, rfl⟩
theorem one43_of (s : Sc) (x : St) (hf : x.Flat) (h6 : x.kind ≠ 6) (hL : Ret prog 63 [x.v] Heap.none fun r _ => ∃ n : Int, r = .int .i64 n) (hE : Ret prog 62 [x.v] Heap.none fun r _ => ∃ b : Bool, r = .bool b)
  (hb : Ret prog 61 [s.v, stsV x.body] Heap.none fun r _ => ∃ n : Int, r = .int .i64 n) (he : Ret prog 61 [s.v, stsV x.els] Heap.none fun r _ => ∃ n : Int, r = .int .i64 n)
  (ha : ∀ a ∈ x.arms, Ret prog 61 [s.v, stsV a.body] Heap.none fun r _ => ∃ n : Int, r = .int .i64 n) : Ret prog 43 [s.v, x.v] Heap.none fun r _ => OneP x r := by
 have e1 := hf.e
 have e2 := hf.i
 have e3 := hf.al
 have e4 := hf.rl
 have w1 := wrap_in (n := (x.e.size : Int) + 1) (by omega)
 have w2 := wrap_in (n := (x.e.size : Int) + x.i.size) (by omega)
 have w3 := wrap_in (n := (x.e.size : Int) + x.i.size + 1) (by omega)
 have f6 : (x.kind == 6) = false := by simpa using h6
 refine Ret.by_text rfl rfl ?_
 simp -implicitDefEqProofs only [go_sem, rB, rA, rS, rL, a43, St.cellsOf_v, Sc.cellsOf_v, Sc.cs, St.cs, Ex.fold]
 intro g1 g2
 refine callOk_of (size45 x.e (by omega)) ?_
 rintro u rfl
 simp -implicitDefEqProofs only [go_sem, rB, rA, rS, rL]
 refine br_intro (fun c0 => ?_) (fun c0 => ?_)
 ·simp -implicitDefEqProofs only [go_sem, c0]
  exact post_ret rfl ⟨_, rfl, fun h => absurd (by simpa using c0) h⟩
 simp -implicitDefEqProofs only [go_sem, rB, rA, rS, c0]
 refine br_intro (fun c1 => ?_) (fun c1 => ?_)
 ·simp -implicitDefEqProofs only [go_sem, rB, rA, rS, c1, w1]
  exact post_ret rfl ⟨_, rfl, fun _ _ => by omega⟩
 simp -implicitDefEqProofs only [go_sem, rB, rA, rS, c1]
 refine br_intro (fun c2 => ?_) (fun c2 => ?_)
 ·simp -implicitDefEqProofs only [go_sem, rB, rA, rS, c2, w1]
  exact post_ret rfl ⟨_, rfl, fun _ _ => by omega⟩
 simp -implicitDefEqProofs only [go_sem, rB, rA, rS, c2]
 refine br_intro (fun c4 => ?_) (fun c4 => ?_)
 ·simp -implicitDefEqProofs only [go_sem, rB, rA, rS, c4, w1]
  exact post_ret rfl ⟨_, rfl, fun _ _ => by omega⟩
 simp -implicitDefEqProofs only [go_sem, rB, rA, rS, c4]
 refine br_intro (fun c3 => ?_) (fun c3 => ?_)
 ·simp -implicitDefEqProofs only [go_sem, rB, rA, rS, rL, c3, Ex.fold]
  refine callOk_of (size45 x.i (by omega)) ?_
  rintro u rfl
  simp -implicitDefEqProofs only [go_sem, rB, rA, rS, w2, w3]
  exact post_ret rfl ⟨_, rfl, fun _ _ => by omega⟩
 simp -implicitDefEqProofs only [go_sem, rB, rA, rS, c3]
 refine br_intro (fun c5 => ?_) (fun c5 => ?_)
 ·simp -implicitDefEqProofs only [go_sem, rB, c5]
  refine Loop.rec (α := Nat × Nat) (fun k => x.args.length - k.1) (fun k => ⟨E 158 [(3, .lp 3 g2 0), (5, .int .i64 (k.2 : Nat)), (6, .int .i64 k.1)], B 158 [(3, some (g2, x.cs))], Heap.none⟩) (fun k => k.1 ≤ x.args.length ∧ 1 ≤ k.2 ∧ k.2 ≤ 1 + 101 * k.1) ?_ (0, 1) ⟨Nat.zero_le _, by simp, by simp⟩ rfl
  rintro ⟨k, n⟩ ⟨hk, hn1, hn⟩ hrec
  simp only [] at hk hn hn1
  simp -implicitDefEqProofs only [go_sem, rB, rA, rS, rL, St.cs]
  refine br_intro (fun q1 => ?_) (fun q1 => ?_)
  ·have q2 : k < x.args.length := by simpa using q1
   obtain ⟨a, hx⟩ : ∃ a, x.args[k]? = some a := ⟨_, lG q2⟩
   have hae := hf.a a (lM hx)
   simp -implicitDefEqProofs only [go_sem, rB, rA, rS, rL, q1, hx, Ar.cells_eq, Ex.fold]
   refine callOk_of (size45 a.e (by omega)) ?_
   rintro u rfl
   simp -implicitDefEqProofs only [go_sem, rB, rA, rS, wrap_in (n := (n : Int) + a.e.size) (by omega), wrap_in (n := (n : Int) + a.e.size + 1) (by omega), wrap_succ (show k < 9223372036854775807 by omega)]
   have := hrec (k + 1, n + a.e.size + 1) (by simp only []; omega) ⟨by simp only []; omega, by simp only []; omega, by simp only []; omega⟩
   rw [show ((n : Int) + a.e.size + 1) = ((n + a.e.size + 1 : Nat) : Int) by omega]
   exact this
  ·simp -implicitDefEqProofs only [go_sem, rB, rA, rS, q1]
   exact post_ret rfl ⟨_, rfl, fun _ _ => by omega⟩
 simp -implicitDefEqProofs only [go_sem, rB, rA, rS, c5, f6]
 have big : ∀ n : Int, 7 ≤ x.kind ∧ x.kind ≤ 11 → OneP x (.int .i64 n) := fun n h => ⟨n, rfl, fun _ h2 => by omega⟩
 refine br_intro (fun c7 => ?_) (fun c7 => ?_)
 ·have k7 : x.kind = 7 := by simpa using c7
  simp -implicitDefEqProofs only [go_sem, rB, rA, rS, rL, c7, Sc.fold]
  repeat' first
   | (refine br_intro (fun hb => ?_) (fun hb => ?_) <;> simp -implicitDefEqProofs only [go_sem, rB, rA, rS, rL, hb, Sc.fold])
   | (first | refine callOk_det (hb) ?_ | refine callPure_det (hb) ?_ | refine callOk_of (hb) ?_ | refine callPure_of (hb) ?_); rintro u ⟨_, rfl⟩; simp -implicitDefEqProofs only [go_sem, rB, rA, rS, rL, St.fold]
   | (first | refine callOk_det (hE) ?_ | refine callPure_det (hE) ?_ | refine callOk_of (hE) ?_ | refine callPure_of (hE) ?_); rintro u ⟨_, rfl⟩; simp -implicitDefEqProofs only [go_sem, rB, rA, rS]
   | (first | refine callOk_det (he) ?_ | refine callPure_det (he) ?_ | refine callOk_of (he) ?_ | refine callPure_of (he) ?_); rintro u ⟨_, rfl⟩; simp -implicitDefEqProofs only [go_sem, rB, rA, rS]
   | (refine fun (g : Nat) => ?_; simp -implicitDefEqProofs only [go_sem, rB, rA, rS, rM, rL, rE, jL, jN, Sc.fold, St.fold])
   | refine fun (g : Nat) => ?_
   | (refine post_ret (v := _) (by simp -implicitDefEqProofs only [go_sem, rB, rA, rS, resultOf, mapM?, ARes.val]; exact rfl) ?_; exact big _ (by omega))
 simp -implicitDefEqProofs only [go_sem, rB, rA, rS, c7]
 refine br_intro (fun c8 => ?_) (fun c8 => ?_)
 ·have k7 : x.kind = 8 := by simpa using c8
  simp -implicitDefEqProofs only [go_sem, rB, rA, rS, rL, c8, Sc.fold]
  repeat' first
   | (refine br_intro (fun hb => ?_) (fun hb => ?_) <;> simp -implicitDefEqProofs only [go_sem, rB, rA, rS, rM, rL, rE, jL, jN, hb, Sc.fold, St.fold])
   | (first | refine callOk_det (hb) ?_ | refine callPure_det (hb) ?_ | refine callOk_of (hb) ?_ | refine callPure_of (hb) ?_); rintro u ⟨_, rfl⟩; simp -implicitDefEqProofs only [go_sem, rB, rA, rS]
   | (refine fun (g : Nat) => ?_; simp -implicitDefEqProofs only [go_sem, rB, rA, rS, rM, rL, rE, jL, jN, Sc.fold, St.fold])
   | refine fun (g : Nat) => ?_
   | (refine post_ret (v := _) (by simp -implicitDefEqProofs only [go_sem, rB, rA, rS, resultOf, mapM?, ARes.val]; exact rfl) ?_; exact big _ (by omega))
 simp -implicitDefEqProofs only [go_sem, rB, rA, rS, c8]
 refine br_intro (fun c9 => ?_) (fun c9 => ?_)
 ·have k7 : x.kind = 9 := by simpa using c9
  simp -implicitDefEqProofs only [go_sem, rB, rA, rS, rL, c9, Sc.fold]
  repeat' first
   | (refine br_intro (fun hb => ?_) (fun hb => ?_) <;> simp -implicitDefEqProofs only [go_sem, rB, rA, rS, rM, rL, rE, jL, jN, hb, Sc.fold, St.fold])
   | (first | refine callOk_det (hb) ?_ | refine callPure_det (hb) ?_ | refine callOk_of (hb) ?_ | refine callPure_of (hb) ?_); rintro u ⟨_, rfl⟩; simp -implicitDefEqProofs only [go_sem, rB, rA, rS]
   | (refine fun (g : Nat) => ?_; simp -implicitDefEqProofs only [go_sem, rB, rA, rS, rM, rL, rE, jL, jN, Sc.fold, St.fold])
   | refine fun (g : Nat) => ?_
   | (refine post_ret (v := _) (by simp -implicitDefEqProofs only [go_sem, rB, rA, rS, resultOf, mapM?, ARes.val]; exact rfl) ?_; exact big _ (by omega))
 simp -implicitDefEqProofs only [go_sem, rB, rA, rS, c9]
 refine br_intro (fun c10 => ?_) (fun c10 => ?_)
 ·have k7 : x.kind = 10 := by simpa using c10
  simp -implicitDefEqProofs only [go_sem, rB, rA, rS, rL, c10, Sc.fold]
  repeat' first
   | (refine br_intro (fun hb => ?_) (fun hb => ?_) <;> simp -implicitDefEqProofs only [go_sem, rB, rA, rS, rM, rL, rE, jL, jN, hb, Sc.fold, St.fold])
   | (first | refine callOk_det (hb) ?_ | refine callPure_det (hb) ?_ | refine callOk_of (hb) ?_ | refine callPure_of (hb) ?_); rintro u ⟨_, rfl⟩; simp -implicitDefEqProofs only [go_sem, rB, rA, rS]
   | (refine fun (g : Nat) => ?_; simp -implicitDefEqProofs only [go_sem, rB, rA, rS, rM, rL, rE, jL, jN, Sc.fold, St.fold])
   | refine fun (g : Nat) => ?_
   | (refine post_ret (v := _) (by simp -implicitDefEqProofs only [go_sem, rB, rA, rS, resultOf, mapM?, ARes.val]; exact rfl) ?_; exact big _ (by omega))
 simp -implicitDefEqProofs only [go_sem, rB, rA, rS, c10]
 refine br_intro (fun c11 => ?_) (fun c11 => ?_)
 ·have k7 : x.kind = 11 := by simpa using c11
  simp -implicitDefEqProofs only [go_sem, rB, rA, rS, rL, c11, St.fold]
  refine callOk_of hL ?_
  rintro u ⟨m, rfl⟩
  simp -implicitDefEqProofs only [go_sem, rB, rA, rS, rL, Sc.fold]
  refine callOk_of he ?_
  rintro u ⟨m2, rfl⟩
  simp -implicitDefEqProofs only [go_sem, rB, rA, rS]
  refine Loop.rec (α := Nat × Int) (fun k => x.arms.length - k.1) (fun k => ⟨E 158 [(2, .lp 2 g1 0), (3, .lp 3 g2 0), (5, .int .i64 k.2), (8, .int .i64 k.1)], B 158 [(2, some (g1, s.cs)), (3, some (g2, x.cs))], Heap.none⟩) (fun k => k.1 ≤ x.arms.length) ?_ (0, _) (Nat.zero_le _) rfl
  rintro ⟨k, n⟩ hk hrec
  simp only [] at hk
  simp -implicitDefEqProofs only [go_sem, rB, rA, rS, rL, St.cs, Sc.cs]
  refine br_intro (fun q1 => ?_) (fun q1 => ?_)
  ·have q2 : k < x.arms.length := by simpa using q1
   obtain ⟨a, hx⟩ : ∃ a, x.arms[k]? = some a := ⟨_, lG q2⟩
   simp -implicitDefEqProofs only [go_sem, rB, rA, rS, rL, q1, hx, Am.cells_eq, Sc.fold]
   refine callOk_of (ha a (lM hx)) ?_
   rintro u ⟨m, rfl⟩
   simp -implicitDefEqProofs only [go_sem, rB, rA, rS, wrap_succ (show k < 9223372036854775807 by omega)]
   exact hrec (k + 1, _) (by simp only []; omega) (by simp only []; omega)
  ·simp -implicitDefEqProofs only [go_sem, rB, rA, rS, q1]
   exact post_ret rfl (big _ (by omega))
 simp -implicitDefEqProofs only [go_sem, c11]
 exact post_ret rfl ⟨_, rfl, fun _ _ => by decide⟩
theorem one43 (s : Sc) : ∀ (d : Nat) (lp : Int) (x : St), St.Small d x → WF s lp x → x.cnt < 1000000 → Ret prog 43 [s.v, x.v] Heap.none fun r _ => OneP x r := by
 intro d
 induction d with
 | zero => intro lp x h; exact h.elim
 | succ d ih =>
  rintro lp x ⟨hf, sb, se, sa⟩ hw hc
  obtain ⟨h6, wb, we, wa⟩ := hw.sub
  have hce := x.cnt_eq
  have sz : ∀ (l : List St) (lp : Int), (∀ y ∈ l, St.Small d y) → (∀ y ∈ l, WF s lp y) → cntL l < 1000000 → Ret prog 61 [s.v, stsV l] Heap.none fun r _ => ∃ n : Int, r = .int .i64 n := fun l lp h1 h2 h3 =>
   size61_of s l (by have := cntL_len l; omega) fun y hy => ih lp y (h1 y hy) (h2 y hy) (by have := cnt_mem hy; omega)
  exact one43_of s x hf h6 (labels63 x hf.rl fun a ha => (sa a ha).1) (else62 d x se (by omega)) (sz _ _ sb wb (by omega)) (sz _ _ se we (by omega)) fun a ha => sz _ _ (sa a ha).2 (wa a ha) (by have := cntA_mem ha; omega)
end TryzT
end Go.Abs
