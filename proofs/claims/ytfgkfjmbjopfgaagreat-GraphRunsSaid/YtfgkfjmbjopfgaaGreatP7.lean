/-
  A part of the proof. Conditions: none.
-/
import Derived.Test.YtfgkfjmbjopfgaaGreatP6
set_option linter.unusedVariables false
set_option linter.unusedSimpArgs false
set_option maxRecDepth 100000
set_option maxHeartbeats 16000000
open Nat renaming reduceBEq → rB, reduceAdd → rA, reduceSub → rS, reduceLeDiff → rL, reduceMul → rM, reduceEqDiff → rE
open Int renaming reduceLE → jL, reduceToNat → jN, reduceBEq → jB, reduceLT → jT, reduceGT → jG, reduceGE → jH
open List renaming getElem?_eq_getElem → lG, getElem?_eq_some_iff → lS, mem_of_getElem? → lM
namespace Go.Abs
open Go
theorem z0 : (((0 : Nat) : Int)) = 0 := rfl
theorem z1 : (((1 : Nat) : Int)) = 1 := rfl
theorem z2 : (((2 : Nat) : Int)) = 2 := rfl
theorem w22 : IntKind.i64.wrap ((IntKind.i64.wrap (2 - 2)).tdiv 2) = 0 := rfl
theorem w42 : IntKind.i64.wrap ((IntKind.i64.wrap (4 - 2)).tdiv 2) = 1 := rfl
theorem op_mk (o t n m : Int) (l : List Ex) : (Ex.mk o t n m l).op = o := rfl
theorem t_mk (o t n m : Int) (l : List Ex) : (Ex.mk o t n m l).t = t := rfl
theorem n_mk (o t n m : Int) (l : List Ex) : (Ex.mk o t n m l).n = n := rfl
theorem m_mk (o t n m : Int) (l : List Ex) : (Ex.mk o t n m l).m = m := rfl
theorem l_mk (o t n m : Int) (l : List Ex) : (Ex.mk o t n m l).l = l := rfl
namespace TryzT
def B1 (s : Sc) : Ex → Prop
 | .mk op t n m l => (op = 1 → n = 0 ∨ n = 1) ∧ (op = 2 ∨ op = 4 → ∃ v, s.vars[n.toNat]? = some v ∧ v.t = 1) ∧ (op = 3 → s.slots[n.toNat]? = some 1) ∧ (op = 5 → ∃ b, s.blocks[n.toNat]? = some b ∧ (ftypes b.kind)[m.toNat]? = some 1)
  ∧ (op = 6 → ∃ x r, l = x :: r ∧ Det prog 71 [s.v, x.v] (· = .int .i64 1)) ∧ (op = 7 → m ≥ 20 ∨ ∃ x r, l = x :: r ∧ Det prog 71 [s.v, x.v] (· = .int .i64 1)) ∧ (op < 1 ∨ 7 < op → t = 1)
def TyP (s : Sc) (e : Ex) (v : V) : Prop := ∃ t : Int, v = .int .i64 t ∧ (t ≠ 0 → Good s e) ∧ (t = 1 → B1 s e)
theorem TyP.zero (s : Sc) (e : Ex) : TyP s e (.int .i64 0) := ⟨0, rfl, fun h => absurd rfl h, fun h => absurd h (by decide)⟩
theorem TyP.of {s : Sc} {e : Ex} (h : Good s e) (t : Int) (hb : t = 1 → B1 s e) : TyP s e (.int .i64 t) := ⟨t, rfl, fun _ => h, hb⟩
theorem type0_1 (s : Sc) (t n m : Int) : Det prog 71 [s.v, (Ex.mk 1 t n m []).v] (TyP s (.mk 1 t n m [])) := by
 have hg : Good s (.mk 1 t n m []) := .mk _ _ _ _ _ (fun h => by omega) (fun h => by omega) (fun h => by omega) (fun i e _ h => by simp at h)
 refine Det.by_text rfl rfl ?_
 simp -implicitDefEqProofs only [go_sem, rB, rA, rS, rL, a71, Ex.cellsOf_v, Sc.cellsOf_v, op_mk, t_mk, n_mk, m_mk, l_mk, z0, jG, jB, Sc.cs]
 repeat' first
  | (refine dx_br (fun hb => ?_) (fun hb => ?_) <;> simp -implicitDefEqProofs only [go_sem, rB, rA, rS, rL, hb])
  | (first | refine dx_call (d_right _) ?_ | refine dx_pcall (d_right _) ?_); rintro u rfl; simp -implicitDefEqProofs only [go_sem, rB, rA, rS]
  | (first | refine dx_call (d_in _ _) ?_ | refine dx_pcall (d_in _ _) ?_); rintro u rfl; simp -implicitDefEqProofs only [go_sem, rB, rA, rS]
  | (first | refine dx_call (d_result _ _) ?_ | refine dx_pcall (d_result _ _) ?_); rintro u ⟨_, rfl, hres⟩; simp -implicitDefEqProofs only [go_sem, rB, rA, rS, rM, rL, rE, jL, jN, z0, z1, z2, w22, w42, two_ne, jT, jG, jH, jL, jB, Sc.cs, Sc.fold]
  | (first | refine dx_call (d_binary _) ?_ | refine dx_pcall (d_binary _) ?_); rintro u ⟨_, rfl, hbi⟩; simp -implicitDefEqProofs only [go_sem, rB, rA, rS, rM, rL, rE, jL, jN, z0, z1, z2, w22, w42, two_ne, jT, jG, jH, jL, jB, Sc.cs, Sc.fold]
  | (refine dx_all ?_; simp -implicitDefEqProofs only [go_sem, rB, rA, rS, rM, rL, rE, jL, jN, z0, z1, z2, w22, w42, two_ne, jT, jG, jH, jL, jB, Sc.cs, Sc.fold])
  | refine dx_all ?_
  | (refine dx_post _ (fun _ => (by simp -implicitDefEqProofs only [go_sem, rB, rA, rS, resultOf, mapM?, ARes.val]; exact rfl)) ?_; first | exact TyP.zero _ _ | exact TyP.of hg _ (fun ht => by subst ht; exact ⟨fun _ => inF1 (by assumption), fun h => by omega, fun h => by omega, fun h => by omega, fun h => by omega, fun h => by omega, fun h => by omega⟩))

theorem type0_2_in (s : Sc) (t n m : Int) (k : Nat) (hn : n = k) (v : Vr) (hv : s.vars[k]? = some v) : Det prog 71 [s.v, (Ex.mk 2 t n m []).v] (TyP s (.mk 2 t n m [])) := by
 subst hn
 have hk := (lS.1 hv).1
 have f1 : decide ((k : Int) ≥ 0) = true := by simp
 have f2 : decide ((k : Int) < (s.vars.length : Int)) = true := by simpa using hk
 have hg : Good s (.mk 2 t k m []) := .mk _ _ _ _ _ (fun _ => ⟨by omega, by omega⟩) (fun h => by omega) (fun h => by omega) (fun i e _ h => by simp at h)
 refine Det.by_text rfl rfl ?_
 simp -implicitDefEqProofs only [go_sem, rB, rA, rS, rL, a71, Ex.cellsOf_v, Sc.cellsOf_v, op_mk, t_mk, n_mk, m_mk, l_mk, z0, w22, two_ne, jG, jB, Sc.cs]
 repeat' first
  | (refine dx_br (fun hb => ?_) (fun hb => ?_) <;> simp -implicitDefEqProofs only [go_sem, rB, rA, rS, rL, hb, jB, f2, hv, Vr.cells])
  | (first | refine dx_call (d_right _) ?_ | refine dx_pcall (d_right _) ?_); rintro u rfl; simp -implicitDefEqProofs only [go_sem, rB, rA, rS]
  | (first | refine dx_call (d_in _ _) ?_ | refine dx_pcall (d_in _ _) ?_); rintro u rfl; simp -implicitDefEqProofs only [go_sem, rB, rA, rS, rM, rL, rE, jL, jN, z0, z1, z2, w22, w42, two_ne, jT, jG, jH, jL, jB, Sc.cs, Sc.fold, f1, f2, hv, Vr.cells]
  | (first | refine dx_call (d_result _ _) ?_ | refine dx_pcall (d_result _ _) ?_); rintro u ⟨_, rfl, hres⟩; simp -implicitDefEqProofs only [go_sem, rB, rA, rS, rM, rL, rE, jL, jN, z0, z1, z2, w22, w42, two_ne, jT, jG, jH, jL, jB, Sc.cs, Sc.fold, f1, f2, hv, Vr.cells]
  | (first | refine dx_call (d_binary _) ?_ | refine dx_pcall (d_binary _) ?_); rintro u ⟨_, rfl, hbi⟩; simp -implicitDefEqProofs only [go_sem, rB, rA, rS, rM, rL, rE, jL, jN, z0, z1, z2, w22, w42, two_ne, jT, jG, jH, jL, jB, Sc.cs, Sc.fold, f1, f2, hv, Vr.cells]
  | (refine dx_all ?_; simp -implicitDefEqProofs only [go_sem, rB, rA, rS, rM, rL, rE, jL, jN, z0, z1, z2, w22, w42, two_ne, jT, jG, jH, jL, jB, Sc.cs, Sc.fold, f1, f2, hv, Vr.cells])
  | refine dx_all ?_
  | (refine dx_post _ (fun _ => (by simp -implicitDefEqProofs only [go_sem, rB, rA, rS, resultOf, mapM?, ARes.val]; exact rfl)) ?_; first | exact TyP.zero _ _ | exact TyP.of hg _ (fun ht => ⟨fun h => by omega, fun _ => ⟨v, by simpa using hv, ht⟩, fun h => by omega, fun h => by omega, fun h => by omega, fun h => by omega, fun h => by omega⟩))

theorem type0_2_out (s : Sc) (t n m : Int) (hn : ¬ (0 ≤ n ∧ n < (s.vars.length : Int))) : Det prog 71 [s.v, (Ex.mk 2 t n m []).v] (TyP s (.mk 2 t n m [])) := by
 by_cases h0 : 0 ≤ n
 ·have f1 : decide (n ≥ 0) = true := by simpa using h0
  have f2 : decide (n < (s.vars.length : Int)) = false := by simp; omega
  refine Det.by_text rfl rfl ?_
  simp -implicitDefEqProofs only [go_sem, rB, rA, rS, rL, a71, Ex.cellsOf_v, Sc.cellsOf_v, op_mk, t_mk, n_mk, m_mk, l_mk, z0, w22, two_ne, jG, jB, Sc.cs]
  repeat' first
   | (refine dx_br (fun hb => ?_) (fun hb => ?_) <;> simp -implicitDefEqProofs only [go_sem, rB, rA, rS, rL, hb, f1, f2])
   | (first | refine dx_call (d_right _) ?_ | refine dx_pcall (d_right _) ?_); rintro u rfl; simp -implicitDefEqProofs only [go_sem, rB, rA, rS]
   | (first | refine dx_call (d_in _ _) ?_ | refine dx_pcall (d_in _ _) ?_); rintro u rfl; simp -implicitDefEqProofs only [go_sem, rB, rA, rS, rM, rL, rE, jL, jN, z0, z1, z2, w22, w42, two_ne, jT, jG, jH, jL, jB, Sc.cs, Sc.fold, f1, f2]
   | (first | refine dx_call (d_result _ _) ?_ | refine dx_pcall (d_result _ _) ?_); rintro u ⟨_, rfl, hres⟩; simp -implicitDefEqProofs only [go_sem, rB, rA, rS, rM, rL, rE, jL, jN, z0, z1, z2, w22, w42, two_ne, jT, jG, jH, jL, jB, Sc.cs, Sc.fold, f1, f2]
   | (first | refine dx_call (d_binary _) ?_ | refine dx_pcall (d_binary _) ?_); rintro u ⟨_, rfl, hbi⟩; simp -implicitDefEqProofs only [go_sem, rB, rA, rS, rM, rL, rE, jL, jN, z0, z1, z2, w22, w42, two_ne, jT, jG, jH, jL, jB, Sc.cs, Sc.fold, f1, f2]
   | (refine dx_all ?_; simp -implicitDefEqProofs only [go_sem, rB, rA, rS, rM, rL, rE, jL, jN, z0, z1, z2, w22, w42, two_ne, jT, jG, jH, jL, jB, Sc.cs, Sc.fold, f1, f2])
   | refine dx_all ?_
   | (refine dx_post _ (fun _ => (by simp -implicitDefEqProofs only [go_sem, rB, rA, rS, resultOf, mapM?, ARes.val]; exact rfl)) ?_; exact TyP.zero _ _)
 ·have f1 : decide (n ≥ 0) = false := by simp; omega
  refine Det.by_text rfl rfl ?_
  simp -implicitDefEqProofs only [go_sem, rB, rA, rS, rL, a71, Ex.cellsOf_v, Sc.cellsOf_v, op_mk, t_mk, n_mk, m_mk, l_mk, z0, w22, two_ne, jG, jB, Sc.cs]
  repeat' first
   | (refine dx_br (fun hb => ?_) (fun hb => ?_) <;> simp -implicitDefEqProofs only [go_sem, rB, rA, rS, rL, hb, f1])
   | (first | refine dx_call (d_right _) ?_ | refine dx_pcall (d_right _) ?_); rintro u rfl; simp -implicitDefEqProofs only [go_sem, rB, rA, rS]
   | (first | refine dx_call (d_in _ _) ?_ | refine dx_pcall (d_in _ _) ?_); rintro u rfl; simp -implicitDefEqProofs only [go_sem, rB, rA, rS, rM, rL, rE, jL, jN, z0, z1, z2, w22, w42, two_ne, jT, jG, jH, jL, jB, Sc.cs, Sc.fold, f1]
   | (first | refine dx_call (d_result _ _) ?_ | refine dx_pcall (d_result _ _) ?_); rintro u ⟨_, rfl, hres⟩; simp -implicitDefEqProofs only [go_sem, rB, rA, rS, rM, rL, rE, jL, jN, z0, z1, z2, w22, w42, two_ne, jT, jG, jH, jL, jB, Sc.cs, Sc.fold, f1]
   | (first | refine dx_call (d_binary _) ?_ | refine dx_pcall (d_binary _) ?_); rintro u ⟨_, rfl, hbi⟩; simp -implicitDefEqProofs only [go_sem, rB, rA, rS, rM, rL, rE, jL, jN, z0, z1, z2, w22, w42, two_ne, jT, jG, jH, jL, jB, Sc.cs, Sc.fold, f1]
   | (refine dx_all ?_; simp -implicitDefEqProofs only [go_sem, rB, rA, rS, rM, rL, rE, jL, jN, z0, z1, z2, w22, w42, two_ne, jT, jG, jH, jL, jB, Sc.cs, Sc.fold, f1])
   | refine dx_all ?_
   | (refine dx_post _ (fun _ => (by simp -implicitDefEqProofs only [go_sem, rB, rA, rS, resultOf, mapM?, ARes.val]; exact rfl)) ?_; exact TyP.zero _ _)

theorem type0_3_in (s : Sc) (t n m : Int) (k : Nat) (hn : n = k) (v : Int) (hv : s.slots[k]? = some v) : Det prog 71 [s.v, (Ex.mk 3 t n m []).v] (TyP s (.mk 3 t n m [])) := by
 subst hn
 have hk := (lS.1 hv).1
 have f1 : decide ((k : Int) ≥ 0) = true := by simp
 have f2 : decide ((k : Int) < (s.slots.length : Int)) = true := by simpa using hk
 have hg : Good s (.mk 3 t k m []) := .mk _ _ _ _ _ (fun h => by omega) (fun _ => ⟨by omega, by omega⟩) (fun h => by omega) (fun i e _ h => by simp at h)
 refine Det.by_text rfl rfl ?_
 simp -implicitDefEqProofs only [go_sem, rB, rA, rS, rL, a71, Ex.cellsOf_v, Sc.cellsOf_v, op_mk, t_mk, n_mk, m_mk, l_mk, z0, jG, jB, Sc.cs]
 repeat' first
  | (refine dx_br (fun hb => ?_) (fun hb => ?_) <;> simp -implicitDefEqProofs only [go_sem, rB, rA, rS, rL, hb, f2, hv, intC])
  | (first | refine dx_call (d_right _) ?_ | refine dx_pcall (d_right _) ?_); rintro u rfl; simp -implicitDefEqProofs only [go_sem, rB, rA, rS]
  | (first | refine dx_call (d_in _ _) ?_ | refine dx_pcall (d_in _ _) ?_); rintro u rfl; simp -implicitDefEqProofs only [go_sem, rB, rA, rS, rM, rL, rE, jL, jN, z0, z1, z2, w22, w42, two_ne, jT, jG, jH, jL, jB, Sc.cs, Sc.fold, f1, f2, hv, intC]
  | (first | refine dx_call (d_result _ _) ?_ | refine dx_pcall (d_result _ _) ?_); rintro u ⟨_, rfl, hres⟩; simp -implicitDefEqProofs only [go_sem, rB, rA, rS, rM, rL, rE, jL, jN, z0, z1, z2, w22, w42, two_ne, jT, jG, jH, jL, jB, Sc.cs, Sc.fold, f1, f2, hv, intC]
  | (first | refine dx_call (d_binary _) ?_ | refine dx_pcall (d_binary _) ?_); rintro u ⟨_, rfl, hbi⟩; simp -implicitDefEqProofs only [go_sem, rB, rA, rS, rM, rL, rE, jL, jN, z0, z1, z2, w22, w42, two_ne, jT, jG, jH, jL, jB, Sc.cs, Sc.fold, f1, f2, hv, intC]
  | (refine dx_all ?_; simp -implicitDefEqProofs only [go_sem, rB, rA, rS, rM, rL, rE, jL, jN, z0, z1, z2, w22, w42, two_ne, jT, jG, jH, jL, jB, Sc.cs, Sc.fold, f1, f2, hv, intC])
  | refine dx_all ?_
  | (refine dx_post _ (fun _ => (by simp -implicitDefEqProofs only [go_sem, rB, rA, rS, resultOf, mapM?, ARes.val]; exact rfl)) ?_; first | exact TyP.zero _ _ | exact TyP.of hg _ (fun ht => ⟨fun h => by omega, fun h => by omega, fun _ => by simpa [ht] using hv, fun h => by omega, fun h => by omega, fun h => by omega, fun h => by omega⟩))

theorem type0_3_out (s : Sc) (t n m : Int) (hn : ¬ (0 ≤ n ∧ n < (s.slots.length : Int))) : Det prog 71 [s.v, (Ex.mk 3 t n m []).v] (TyP s (.mk 3 t n m [])) := by
 by_cases h0 : 0 ≤ n
 ·have f1 : decide (n ≥ 0) = true := by simpa using h0
  have f2 : decide (n < (s.slots.length : Int)) = false := by simp; omega
  refine Det.by_text rfl rfl ?_
  simp -implicitDefEqProofs only [go_sem, rB, rA, rS, rL, a71, Ex.cellsOf_v, Sc.cellsOf_v, op_mk, t_mk, n_mk, m_mk, l_mk, z0, jG, jB, Sc.cs]
  repeat' first
   | (refine dx_br (fun hb => ?_) (fun hb => ?_) <;> simp -implicitDefEqProofs only [go_sem, rB, rA, rS, rL, hb, f1, f2])
   | (first | refine dx_call (d_right _) ?_ | refine dx_pcall (d_right _) ?_); rintro u rfl; simp -implicitDefEqProofs only [go_sem, rB, rA, rS]
   | (first | refine dx_call (d_in _ _) ?_ | refine dx_pcall (d_in _ _) ?_); rintro u rfl; simp -implicitDefEqProofs only [go_sem, rB, rA, rS, rM, rL, rE, jL, jN, z0, z1, z2, w22, w42, two_ne, jT, jG, jH, jL, jB, Sc.cs, Sc.fold, f1, f2]
   | (first | refine dx_call (d_result _ _) ?_ | refine dx_pcall (d_result _ _) ?_); rintro u ⟨_, rfl, hres⟩; simp -implicitDefEqProofs only [go_sem, rB, rA, rS, rM, rL, rE, jL, jN, z0, z1, z2, w22, w42, two_ne, jT, jG, jH, jL, jB, Sc.cs, Sc.fold, f1, f2]
   | (first | refine dx_call (d_binary _) ?_ | refine dx_pcall (d_binary _) ?_); rintro u ⟨_, rfl, hbi⟩; simp -implicitDefEqProofs only [go_sem, rB, rA, rS, rM, rL, rE, jL, jN, z0, z1, z2, w22, w42, two_ne, jT, jG, jH, jL, jB, Sc.cs, Sc.fold, f1, f2]
   | (refine dx_all ?_; simp -implicitDefEqProofs only [go_sem, rB, rA, rS, rM, rL, rE, jL, jN, z0, z1, z2, w22, w42, two_ne, jT, jG, jH, jL, jB, Sc.cs, Sc.fold, f1, f2])
   | refine dx_all ?_
   | (refine dx_post _ (fun _ => (by simp -implicitDefEqProofs only [go_sem, rB, rA, rS, resultOf, mapM?, ARes.val]; exact rfl)) ?_; exact TyP.zero _ _)
 ·have f1 : decide (n ≥ 0) = false := by simp; omega
  refine Det.by_text rfl rfl ?_
  simp -implicitDefEqProofs only [go_sem, rB, rA, rS, rL, a71, Ex.cellsOf_v, Sc.cellsOf_v, op_mk, t_mk, n_mk, m_mk, l_mk, z0, jG, jB, Sc.cs]
  repeat' first
   | (refine dx_br (fun hb => ?_) (fun hb => ?_) <;> simp -implicitDefEqProofs only [go_sem, rB, rA, rS, rL, hb, f1])
   | (first | refine dx_call (d_right _) ?_ | refine dx_pcall (d_right _) ?_); rintro u rfl; simp -implicitDefEqProofs only [go_sem, rB, rA, rS]
   | (first | refine dx_call (d_in _ _) ?_ | refine dx_pcall (d_in _ _) ?_); rintro u rfl; simp -implicitDefEqProofs only [go_sem, rB, rA, rS, rM, rL, rE, jL, jN, z0, z1, z2, w22, w42, two_ne, jT, jG, jH, jL, jB, Sc.cs, Sc.fold, f1]
   | (first | refine dx_call (d_result _ _) ?_ | refine dx_pcall (d_result _ _) ?_); rintro u ⟨_, rfl, hres⟩; simp -implicitDefEqProofs only [go_sem, rB, rA, rS, rM, rL, rE, jL, jN, z0, z1, z2, w22, w42, two_ne, jT, jG, jH, jL, jB, Sc.cs, Sc.fold, f1]
   | (first | refine dx_call (d_binary _) ?_ | refine dx_pcall (d_binary _) ?_); rintro u ⟨_, rfl, hbi⟩; simp -implicitDefEqProofs only [go_sem, rB, rA, rS, rM, rL, rE, jL, jN, z0, z1, z2, w22, w42, two_ne, jT, jG, jH, jL, jB, Sc.cs, Sc.fold, f1]
   | (refine dx_all ?_; simp -implicitDefEqProofs only [go_sem, rB, rA, rS, rM, rL, rE, jL, jN, z0, z1, z2, w22, w42, two_ne, jT, jG, jH, jL, jB, Sc.cs, Sc.fold, f1])
   | refine dx_all ?_
   | (refine dx_post _ (fun _ => (by simp -implicitDefEqProofs only [go_sem, rB, rA, rS, resultOf, mapM?, ARes.val]; exact rfl)) ?_; exact TyP.zero _ _)

theorem type0_4 (s : Sc) (t n m : Int) : Det prog 71 [s.v, (Ex.mk 4 t n m []).v] (TyP s (.mk 4 t n m [])) := by
 refine Det.by_text rfl rfl ?_
 simp -implicitDefEqProofs only [go_sem, rB, rA, rS, rL, a71, Ex.cellsOf_v, Sc.cellsOf_v, op_mk, t_mk, n_mk, m_mk, l_mk, z0, w42, two_ne, jG, jB, Sc.cs]
 repeat' first
  | (refine dx_br (fun hb => ?_) (fun hb => ?_) <;> simp -implicitDefEqProofs only [go_sem, rB, rA, rS, hb])
  | (first | refine dx_call (d_right _) ?_ | refine dx_pcall (d_right _) ?_); rintro u rfl; simp -implicitDefEqProofs only [go_sem, rB, rA, rS]
  | (first | refine dx_call (d_in _ _) ?_ | refine dx_pcall (d_in _ _) ?_); rintro u rfl; simp -implicitDefEqProofs only [go_sem, rB, rA, rS, rM, rL, rE, jL, jN, z0, z1, z2, w22, w42, two_ne, jT, jG, jH, jL, jB, Sc.cs, Sc.fold]
  | (first | refine dx_call (d_result _ _) ?_ | refine dx_pcall (d_result _ _) ?_); rintro u ⟨_, rfl, hres⟩; simp -implicitDefEqProofs only [go_sem, rB, rA, rS, rM, rL, rE, jL, jN, z0, z1, z2, w22, w42, two_ne, jT, jG, jH, jL, jB, Sc.cs, Sc.fold]
  | (first | refine dx_call (d_binary _) ?_ | refine dx_pcall (d_binary _) ?_); rintro u ⟨_, rfl, hbi⟩; simp -implicitDefEqProofs only [go_sem, rB, rA, rS, rM, rL, rE, jL, jN, z0, z1, z2, w22, w42, two_ne, jT, jG, jH, jL, jB, Sc.cs, Sc.fold]
  | (refine dx_all ?_; simp -implicitDefEqProofs only [go_sem, rB, rA, rS, rM, rL, rE, jL, jN, z0, z1, z2, w22, w42, two_ne, jT, jG, jH, jL, jB, Sc.cs, Sc.fold])
  | refine dx_all ?_
  | (refine dx_post _ (fun _ => (by simp -implicitDefEqProofs only [go_sem, rB, rA, rS, resultOf, mapM?, ARes.val]; exact rfl)) ?_; first | exact TyP.zero _ _ | exact TyP.of hg _ (fun ht => ⟨fun h => by omega, fun _ => ⟨v, by simpa using hv, ht⟩, fun h => by omega, fun h => by omega, fun h => by omega, fun h => by omega, fun h => by omega⟩))

theorem type0_5_out (s : Sc) (t n m : Int) (hn : ¬ (0 ≤ n ∧ n < (s.blocks.length : Int))) : Det prog 71 [s.v, (Ex.mk 5 t n m []).v] (TyP s (.mk 5 t n m [])) := by
 by_cases h0 : 0 ≤ n
 ·have f1 : decide (n ≥ 0) = true := by simpa using h0
  have f2 : decide (n < (s.blocks.length : Int)) = false := by simp; omega
  refine Det.by_text rfl rfl ?_
  simp -implicitDefEqProofs only [go_sem, rB, rA, rS, rL, a71, Ex.cellsOf_v, Sc.cellsOf_v, op_mk, t_mk, n_mk, m_mk, l_mk, z0, jG, jB, Sc.cs]
  repeat' first
   | (refine dx_br (fun hb => ?_) (fun hb => ?_) <;> simp -implicitDefEqProofs only [go_sem, rB, rA, rS, rL, hb, f1, f2])
   | (first | refine dx_call (d_right _) ?_ | refine dx_pcall (d_right _) ?_); rintro u rfl; simp -implicitDefEqProofs only [go_sem, rB, rA, rS]
   | (first | refine dx_call (d_in _ _) ?_ | refine dx_pcall (d_in _ _) ?_); rintro u rfl; simp -implicitDefEqProofs only [go_sem, rB, rA, rS, rM, rL, rE, jL, jN, z0, z1, z2, w22, w42, two_ne, jT, jG, jH, jL, jB, Sc.cs, Sc.fold, f1, f2]
   | (first | refine dx_call (d_result _ _) ?_ | refine dx_pcall (d_result _ _) ?_); rintro u ⟨_, rfl, hres⟩; simp -implicitDefEqProofs only [go_sem, rB, rA, rS, rM, rL, rE, jL, jN, z0, z1, z2, w22, w42, two_ne, jT, jG, jH, jL, jB, Sc.cs, Sc.fold, f1, f2]
   | (first | refine dx_call (d_binary _) ?_ | refine dx_pcall (d_binary _) ?_); rintro u ⟨_, rfl, hbi⟩; simp -implicitDefEqProofs only [go_sem, rB, rA, rS, rM, rL, rE, jL, jN, z0, z1, z2, w22, w42, two_ne, jT, jG, jH, jL, jB, Sc.cs, Sc.fold, f1, f2]
   | (refine dx_all ?_; simp -implicitDefEqProofs only [go_sem, rB, rA, rS, rM, rL, rE, jL, jN, z0, z1, z2, w22, w42, two_ne, jT, jG, jH, jL, jB, Sc.cs, Sc.fold, f1, f2])
   | refine dx_all ?_
   | (refine dx_post _ (fun _ => (by simp -implicitDefEqProofs only [go_sem, rB, rA, rS, resultOf, mapM?, ARes.val]; exact rfl)) ?_; exact TyP.zero _ _)
 ·have f1 : decide (n ≥ 0) = false := by simp; omega
  refine Det.by_text rfl rfl ?_
  simp -implicitDefEqProofs only [go_sem, rB, rA, rS, rL, a71, Ex.cellsOf_v, Sc.cellsOf_v, op_mk, t_mk, n_mk, m_mk, l_mk, z0, jG, jB, Sc.cs]
  repeat' first
   | (refine dx_br (fun hb => ?_) (fun hb => ?_) <;> simp -implicitDefEqProofs only [go_sem, rB, rA, rS, rL, hb, f1])
   | (first | refine dx_call (d_right _) ?_ | refine dx_pcall (d_right _) ?_); rintro u rfl; simp -implicitDefEqProofs only [go_sem, rB, rA, rS]
   | (first | refine dx_call (d_in _ _) ?_ | refine dx_pcall (d_in _ _) ?_); rintro u rfl; simp -implicitDefEqProofs only [go_sem, rB, rA, rS, rM, rL, rE, jL, jN, z0, z1, z2, w22, w42, two_ne, jT, jG, jH, jL, jB, Sc.cs, Sc.fold, f1]
   | (first | refine dx_call (d_result _ _) ?_ | refine dx_pcall (d_result _ _) ?_); rintro u ⟨_, rfl, hres⟩; simp -implicitDefEqProofs only [go_sem, rB, rA, rS, rM, rL, rE, jL, jN, z0, z1, z2, w22, w42, two_ne, jT, jG, jH, jL, jB, Sc.cs, Sc.fold, f1]
   | (first | refine dx_call (d_binary _) ?_ | refine dx_pcall (d_binary _) ?_); rintro u ⟨_, rfl, hbi⟩; simp -implicitDefEqProofs only [go_sem, rB, rA, rS, rM, rL, rE, jL, jN, z0, z1, z2, w22, w42, two_ne, jT, jG, jH, jL, jB, Sc.cs, Sc.fold, f1]
   | (refine dx_all ?_; simp -implicitDefEqProofs only [go_sem, rB, rA, rS, rM, rL, rE, jL, jN, z0, z1, z2, w22, w42, two_ne, jT, jG, jH, jL, jB, Sc.cs, Sc.fold, f1])
   | refine dx_all ?_
   | (refine dx_post _ (fun _ => (by simp -implicitDefEqProofs only [go_sem, rB, rA, rS, resultOf, mapM?, ARes.val]; exact rfl)) ?_; exact TyP.zero _ _)

theorem type0_6 (s : Sc) (t n m : Int) : Det prog 71 [s.v, (Ex.mk 6 t n m []).v] (TyP s (.mk 6 t n m [])) := by
 have hg : Good s (.mk 6 t n m []) := .mk _ _ _ _ _ (fun h => by omega) (fun h => by omega) (fun h => by omega) (fun i e _ h => by simp at h)
 refine Det.by_text rfl rfl ?_
 simp -implicitDefEqProofs only [go_sem, rB, rA, rS, rL, a71, Ex.cellsOf_v, Sc.cellsOf_v, op_mk, t_mk, n_mk, m_mk, l_mk, z0, jG, jB, Sc.cs]
 repeat' first
  | (refine dx_br (fun hb => ?_) (fun hb => ?_) <;> simp -implicitDefEqProofs only [go_sem, rB, rA, rS, hb])
  | (first | refine dx_call (d_right _) ?_ | refine dx_pcall (d_right _) ?_); rintro u rfl; simp -implicitDefEqProofs only [go_sem, rB, rA, rS]
  | (first | refine dx_call (d_in _ _) ?_ | refine dx_pcall (d_in _ _) ?_); rintro u rfl; simp -implicitDefEqProofs only [go_sem, rB, rA, rS, rM, rL, rE, jL, jN, z0, z1, z2, w22, w42, two_ne, jT, jG, jH, jL, jB, Sc.cs, Sc.fold]
  | (first | refine dx_call (d_result _ _) ?_ | refine dx_pcall (d_result _ _) ?_); rintro u ⟨_, rfl, hres⟩; simp -implicitDefEqProofs only [go_sem, rB, rA, rS, rM, rL, rE, jL, jN, z0, z1, z2, w22, w42, two_ne, jT, jG, jH, jL, jB, Sc.cs, Sc.fold]
  | (first | refine dx_call (d_binary _) ?_ | refine dx_pcall (d_binary _) ?_); rintro u ⟨_, rfl, hbi⟩; simp -implicitDefEqProofs only [go_sem, rB, rA, rS, rM, rL, rE, jL, jN, z0, z1, z2, w22, w42, two_ne, jT, jG, jH, jL, jB, Sc.cs, Sc.fold]
  | (refine dx_all ?_; simp -implicitDefEqProofs only [go_sem, rB, rA, rS, rM, rL, rE, jL, jN, z0, z1, z2, w22, w42, two_ne, jT, jG, jH, jL, jB, Sc.cs, Sc.fold])
  | refine dx_all ?_
  | (refine dx_post _ (fun _ => (by simp -implicitDefEqProofs only [go_sem, rB, rA, rS, resultOf, mapM?, ARes.val]; exact rfl)) ?_; first | exact TyP.zero _ _ | exact TyP.of hg _ (fun ht => ⟨fun h => by omega, fun h => by omega, fun h => by omega, fun h => by omega, fun _ => ⟨x, _, rfl, by rcases hres ht with h | h; (exfalso; simp_all <;> omega); (rw [h] at hx; exact hx)⟩, fun h => by omega, fun h => by omega⟩))

theorem type0_7 (s : Sc) (t n m : Int) : Det prog 71 [s.v, (Ex.mk 7 t n m []).v] (TyP s (.mk 7 t n m [])) := by
 have hg : Good s (.mk 7 t n m []) := .mk _ _ _ _ _ (fun h => by omega) (fun h => by omega) (fun h => by omega) (fun i e _ h => by simp at h)
 refine Det.by_text rfl rfl ?_
 simp -implicitDefEqProofs only [go_sem, rB, rA, rS, rL, a71, Ex.cellsOf_v, Sc.cellsOf_v, op_mk, t_mk, n_mk, m_mk, l_mk, z0, jG, jB, Sc.cs]
 repeat' first
  | (refine dx_br (fun hb => ?_) (fun hb => ?_) <;> simp -implicitDefEqProofs only [go_sem, rB, rA, rS, hb])
  | (first | refine dx_call (d_right _) ?_ | refine dx_pcall (d_right _) ?_); rintro u rfl; simp -implicitDefEqProofs only [go_sem, rB, rA, rS]
  | (first | refine dx_call (d_in _ _) ?_ | refine dx_pcall (d_in _ _) ?_); rintro u rfl; simp -implicitDefEqProofs only [go_sem, rB, rA, rS, rM, rL, rE, jL, jN, z0, z1, z2, w22, w42, two_ne, jT, jG, jH, jL, jB, Sc.cs, Sc.fold]
  | (first | refine dx_call (d_result _ _) ?_ | refine dx_pcall (d_result _ _) ?_); rintro u ⟨_, rfl, hres⟩; simp -implicitDefEqProofs only [go_sem, rB, rA, rS, rM, rL, rE, jL, jN, z0, z1, z2, w22, w42, two_ne, jT, jG, jH, jL, jB, Sc.cs, Sc.fold]
  | (first | refine dx_call (d_binary _) ?_ | refine dx_pcall (d_binary _) ?_); rintro u ⟨_, rfl, hbi⟩; simp -implicitDefEqProofs only [go_sem, rB, rA, rS, rM, rL, rE, jL, jN, z0, z1, z2, w22, w42, two_ne, jT, jG, jH, jL, jB, Sc.cs, Sc.fold]
  | (refine dx_all ?_; simp -implicitDefEqProofs only [go_sem, rB, rA, rS, rM, rL, rE, jL, jN, z0, z1, z2, w22, w42, two_ne, jT, jG, jH, jL, jB, Sc.cs, Sc.fold])
  | refine dx_all ?_
  | (refine dx_post _ (fun _ => (by simp -implicitDefEqProofs only [go_sem, rB, rA, rS, resultOf, mapM?, ARes.val]; exact rfl)) ?_; first | exact TyP.zero _ _ | exact TyP.of hg _ (fun ht => ⟨fun h => by omega, fun h => by omega, fun h => by omega, fun h => by omega, fun h => by omega, fun _ => (hres ht).imp id (fun e => ⟨x, _, rfl, by rw [e] at hx; exact hx⟩), fun h => by omega⟩))

theorem type0_8 (s : Sc) (t n m : Int) : Det prog 71 [s.v, (Ex.mk 8 t n m []).v] (TyP s (.mk 8 t n m [])) := by
 have hg : Good s (.mk 8 t n m []) := .mk _ _ _ _ _ (fun h => by omega) (fun h => by omega) (fun h => by omega) (fun i e _ h => by simp at h)
 refine Det.by_text rfl rfl ?_
 simp -implicitDefEqProofs only [go_sem, rB, rA, rS, rL, a71, Ex.cellsOf_v, Sc.cellsOf_v, op_mk, t_mk, n_mk, m_mk, l_mk, z0, jG, jB, Sc.cs]
 repeat' first
  | (refine dx_br (fun hb => ?_) (fun hb => ?_) <;> simp -implicitDefEqProofs only [go_sem, rB, rA, rS, hb])
  | (first | refine dx_call (d_right _) ?_ | refine dx_pcall (d_right _) ?_); rintro u rfl; simp -implicitDefEqProofs only [go_sem, rB, rA, rS]
  | (first | refine dx_call (d_in _ _) ?_ | refine dx_pcall (d_in _ _) ?_); rintro u rfl; simp -implicitDefEqProofs only [go_sem, rB, rA, rS, rM, rL, rE, jL, jN, z0, z1, z2, w22, w42, two_ne, jT, jG, jH, jL, jB, Sc.cs, Sc.fold]
  | (first | refine dx_call (d_result _ _) ?_ | refine dx_pcall (d_result _ _) ?_); rintro u ⟨_, rfl, hres⟩; simp -implicitDefEqProofs only [go_sem, rB, rA, rS, rM, rL, rE, jL, jN, z0, z1, z2, w22, w42, two_ne, jT, jG, jH, jL, jB, Sc.cs, Sc.fold]
  | (first | refine dx_call (d_binary _) ?_ | refine dx_pcall (d_binary _) ?_); rintro u ⟨_, rfl, hbi⟩; simp -implicitDefEqProofs only [go_sem, rB, rA, rS, rM, rL, rE, jL, jN, z0, z1, z2, w22, w42, two_ne, jT, jG, jH, jL, jB, Sc.cs, Sc.fold]
  | (refine dx_all ?_; simp -implicitDefEqProofs only [go_sem, rB, rA, rS, rM, rL, rE, jL, jN, z0, z1, z2, w22, w42, two_ne, jT, jG, jH, jL, jB, Sc.cs, Sc.fold])
  | refine dx_all ?_
  | (refine dx_post _ (fun _ => (by simp -implicitDefEqProofs only [go_sem, rB, rA, rS, resultOf, mapM?, ARes.val]; exact rfl)) ?_; first | exact TyP.zero _ _ | exact TyP.of hg _ (fun ht => ⟨fun h => by omega, fun h => by omega, fun h => by omega, fun h => by omega, fun h => by omega, fun h => by omega, fun _ => ht⟩))

theorem type1_1 (s : Sc) (t n m : Int) (x : Ex) (tx : Int) (hx : Det prog 71 [s.v, x.v] (· = .int .i64 tx)) (gx : Good s x) (nx : tx ≠ 0) : Det prog 71 [s.v, (Ex.mk 1 t n m [x]).v] (TyP s (.mk 1 t n m [x])) := by
 have fx : (tx == 0) = false := by simpa using nx
 have hg : Good s (.mk 1 t n m [x]) := .mk _ _ _ _ _ (fun h => by omega) (fun h => by omega) (fun h => by omega) (fun i e hi h => by match i with | 0 => (simp at h; subst h; exact gx) | i + 1 => simp at h)
 refine Det.by_text rfl rfl ?_
 simp -implicitDefEqProofs only [go_sem, rB, rA, rS, rL, jL, jN, a71, Ex.cellsOf_v, Sc.cellsOf_v, op_mk, t_mk, n_mk, m_mk, l_mk, z1, jG, jL, Sc.cs, Sc.fold, x.cells_eq, Ex.fold]
 repeat' first
  | (refine dx_br (fun hb => ?_) (fun hb => ?_) <;> simp -implicitDefEqProofs only [go_sem, rB, rA, rS, hb])
  | (first | refine dx_call (d_right _) ?_ | refine dx_pcall (d_right _) ?_); rintro u rfl; simp -implicitDefEqProofs only [go_sem, rB, rA, rS]
  | (first | refine dx_call (d_in _ _) ?_ | refine dx_pcall (d_in _ _) ?_); rintro u rfl; simp -implicitDefEqProofs only [go_sem, rB, rA, rS, rM, rL, rE, jL, jN, z0, z1, z2, w22, w42, two_ne, jT, jG, jH, jL, jB, Sc.cs, Sc.fold, fx, x.cells_eq, Ex.fold]
  | (first | refine dx_call (d_result _ _) ?_ | refine dx_pcall (d_result _ _) ?_); rintro u ⟨_, rfl, hres⟩; simp -implicitDefEqProofs only [go_sem, rB, rA, rS, rM, rL, rE, jL, jN, z0, z1, z2, w22, w42, two_ne, jT, jG, jH, jL, jB, Sc.cs, Sc.fold, fx, x.cells_eq, Ex.fold]
  | (first | refine dx_call (d_binary _) ?_ | refine dx_pcall (d_binary _) ?_); rintro u ⟨_, rfl, hbi⟩; simp -implicitDefEqProofs only [go_sem, rB, rA, rS, rM, rL, rE, jL, jN, z0, z1, z2, w22, w42, two_ne, jT, jG, jH, jL, jB, Sc.cs, Sc.fold, fx, x.cells_eq, Ex.fold]
  | (first | refine dx_call (hx) ?_ | refine dx_pcall (hx) ?_); rintro u rfl; simp -implicitDefEqProofs only [go_sem, rB, rA, rS, rL, jG, jB, fx]
  | (refine dx_all ?_; simp -implicitDefEqProofs only [go_sem, rB, rA, rS, rM, rL, rE, jL, jN, z0, z1, z2, w22, w42, two_ne, jT, jG, jH, jL, jB, Sc.cs, Sc.fold, fx, x.cells_eq, Ex.fold])
  | refine dx_all ?_
  | (refine dx_post _ (fun _ => (by simp -implicitDefEqProofs only [go_sem, rB, rA, rS, resultOf, mapM?, ARes.val]; exact rfl)) ?_; first | exact TyP.zero _ _ | exact TyP.of hg _ (fun ht => by subst ht; exact ⟨fun _ => inF1 (by assumption), fun h => by omega, fun h => by omega, fun h => by omega, fun h => by omega, fun h => by omega, fun h => by omega⟩))

theorem type1_2 (s : Sc) (t n m : Int) (x : Ex) (tx : Int) (hx : Det prog 71 [s.v, x.v] (· = .int .i64 tx)) (gx : Good s x) (nx : tx ≠ 0) : Det prog 71 [s.v, (Ex.mk 2 t n m [x]).v] (TyP s (.mk 2 t n m [x])) := by
 have fx : (tx == 0) = false := by simpa using nx
 refine Det.by_text rfl rfl ?_
 simp -implicitDefEqProofs only [go_sem, rB, rA, rS, rL, jL, jN, a71, Ex.cellsOf_v, Sc.cellsOf_v, op_mk, t_mk, n_mk, m_mk, l_mk, z1, jG, jL, Sc.cs, Sc.fold, x.cells_eq, Ex.fold]
 repeat' first
  | (refine dx_br (fun hb => ?_) (fun hb => ?_) <;> simp -implicitDefEqProofs only [go_sem, rB, rA, rS, hb])
  | (first | refine dx_call (d_right _) ?_ | refine dx_pcall (d_right _) ?_); rintro u rfl; simp -implicitDefEqProofs only [go_sem, rB, rA, rS]
  | (first | refine dx_call (d_in _ _) ?_ | refine dx_pcall (d_in _ _) ?_); rintro u rfl; simp -implicitDefEqProofs only [go_sem, rB, rA, rS, rM, rL, rE, jL, jN, z0, z1, z2, w22, w42, two_ne, jT, jG, jH, jL, jB, Sc.cs, Sc.fold, fx, x.cells_eq, Ex.fold]
  | (first | refine dx_call (d_result _ _) ?_ | refine dx_pcall (d_result _ _) ?_); rintro u ⟨_, rfl, hres⟩; simp -implicitDefEqProofs only [go_sem, rB, rA, rS, rM, rL, rE, jL, jN, z0, z1, z2, w22, w42, two_ne, jT, jG, jH, jL, jB, Sc.cs, Sc.fold, fx, x.cells_eq, Ex.fold]
  | (first | refine dx_call (d_binary _) ?_ | refine dx_pcall (d_binary _) ?_); rintro u ⟨_, rfl, hbi⟩; simp -implicitDefEqProofs only [go_sem, rB, rA, rS, rM, rL, rE, jL, jN, z0, z1, z2, w22, w42, two_ne, jT, jG, jH, jL, jB, Sc.cs, Sc.fold, fx, x.cells_eq, Ex.fold]
  | (first | refine dx_call (hx) ?_ | refine dx_pcall (hx) ?_); rintro u rfl; simp -implicitDefEqProofs only [go_sem, rB, rA, rS, rL, w22, two_ne, jG, jB, fx]
  | (refine dx_all ?_; simp -implicitDefEqProofs only [go_sem, rB, rA, rS, rM, rL, rE, jL, jN, z0, z1, z2, w22, w42, two_ne, jT, jG, jH, jL, jB, Sc.cs, Sc.fold, fx, x.cells_eq, Ex.fold])
  | refine dx_all ?_
  | (refine dx_post _ (fun _ => (by simp -implicitDefEqProofs only [go_sem, rB, rA, rS, resultOf, mapM?, ARes.val]; exact rfl)) ?_; first | exact TyP.zero _ _ | exact TyP.of hg _ (fun ht => ⟨fun h => by omega, fun _ => ⟨v, by simpa using hv, ht⟩, fun h => by omega, fun h => by omega, fun h => by omega, fun h => by omega, fun h => by omega⟩))

theorem type1_3 (s : Sc) (t n m : Int) (x : Ex) (tx : Int) (hx : Det prog 71 [s.v, x.v] (· = .int .i64 tx)) (gx : Good s x) (nx : tx ≠ 0) : Det prog 71 [s.v, (Ex.mk 3 t n m [x]).v] (TyP s (.mk 3 t n m [x])) := by
 have fx : (tx == 0) = false := by simpa using nx
 refine Det.by_text rfl rfl ?_
 simp -implicitDefEqProofs only [go_sem, rB, rA, rS, rL, jL, jN, a71, Ex.cellsOf_v, Sc.cellsOf_v, op_mk, t_mk, n_mk, m_mk, l_mk, z1, jG, jL, Sc.cs, Sc.fold, x.cells_eq, Ex.fold]
 repeat' first
  | (refine dx_br (fun hb => ?_) (fun hb => ?_) <;> simp -implicitDefEqProofs only [go_sem, rB, rA, rS, hb])
  | (first | refine dx_call (d_right _) ?_ | refine dx_pcall (d_right _) ?_); rintro u rfl; simp -implicitDefEqProofs only [go_sem, rB, rA, rS]
  | (first | refine dx_call (d_in _ _) ?_ | refine dx_pcall (d_in _ _) ?_); rintro u rfl; simp -implicitDefEqProofs only [go_sem, rB, rA, rS, rM, rL, rE, jL, jN, z0, z1, z2, w22, w42, two_ne, jT, jG, jH, jL, jB, Sc.cs, Sc.fold, fx, x.cells_eq, Ex.fold]
  | (first | refine dx_call (d_result _ _) ?_ | refine dx_pcall (d_result _ _) ?_); rintro u ⟨_, rfl, hres⟩; simp -implicitDefEqProofs only [go_sem, rB, rA, rS, rM, rL, rE, jL, jN, z0, z1, z2, w22, w42, two_ne, jT, jG, jH, jL, jB, Sc.cs, Sc.fold, fx, x.cells_eq, Ex.fold]
  | (first | refine dx_call (d_binary _) ?_ | refine dx_pcall (d_binary _) ?_); rintro u ⟨_, rfl, hbi⟩; simp -implicitDefEqProofs only [go_sem, rB, rA, rS, rM, rL, rE, jL, jN, z0, z1, z2, w22, w42, two_ne, jT, jG, jH, jL, jB, Sc.cs, Sc.fold, fx, x.cells_eq, Ex.fold]
  | (first | refine dx_call (hx) ?_ | refine dx_pcall (hx) ?_); rintro u rfl; simp -implicitDefEqProofs only [go_sem, rB, rA, rS, rL, jG, jB, fx]
  | (refine dx_all ?_; simp -implicitDefEqProofs only [go_sem, rB, rA, rS, rM, rL, rE, jL, jN, z0, z1, z2, w22, w42, two_ne, jT, jG, jH, jL, jB, Sc.cs, Sc.fold, fx, x.cells_eq, Ex.fold])
  | refine dx_all ?_
  | (refine dx_post _ (fun _ => (by simp -implicitDefEqProofs only [go_sem, rB, rA, rS, resultOf, mapM?, ARes.val]; exact rfl)) ?_; first | exact TyP.zero _ _ | exact TyP.of hg _ (fun ht => ⟨fun h => by omega, fun h => by omega, fun _ => by simpa [ht] using hv, fun h => by omega, fun h => by omega, fun h => by omega, fun h => by omega⟩))

theorem type1_4_in (s : Sc) (t n m : Int) (x : Ex) (tx : Int) (hx : Det prog 71 [s.v, x.v] (· = .int .i64 tx)) (gx : Good s x) (nx : tx ≠ 0) (k : Nat) (hn : n = k) (v : Vr) (hv : s.vars[k]? = some v) : Det prog 71 [s.v, (Ex.mk 4 t n m [x]).v] (TyP s (.mk 4 t n m [x])) := by
 have fx : (tx == 0) = false := by simpa using nx
 subst hn
 have hk := (lS.1 hv).1
 have f1 : decide ((k : Int) ≥ 0) = true := by simp
 have f2 : decide ((k : Int) < (s.vars.length : Int)) = true := by simpa using hk
 have hg : Good s (.mk 4 t k m [x]) := .mk _ _ _ _ _ (fun _ => ⟨by omega, by omega⟩) (fun h => by omega) (fun h => by omega) (fun i e hi h => by match i with | 0 => (simp at h; subst h; exact gx) | i + 1 => simp at h)
 refine Det.by_text rfl rfl ?_
 simp -implicitDefEqProofs only [go_sem, rB, rA, rS, rL, jL, jN, a71, Ex.cellsOf_v, Sc.cellsOf_v, op_mk, t_mk, n_mk, m_mk, l_mk, z1, jG, jL, Sc.cs, Sc.fold, x.cells_eq, Ex.fold]
 repeat' first
  | (refine dx_br (fun hb => ?_) (fun hb => ?_) <;> simp -implicitDefEqProofs only [go_sem, rB, rA, rS, rL, hb, jB, f2, hv, Vr.cells])
  | (first | refine dx_call (d_right _) ?_ | refine dx_pcall (d_right _) ?_); rintro u rfl; simp -implicitDefEqProofs only [go_sem, rB, rA, rS]
  | (first | refine dx_call (d_in _ _) ?_ | refine dx_pcall (d_in _ _) ?_); rintro u rfl; simp -implicitDefEqProofs only [go_sem, rB, rA, rS, rM, rL, rE, jL, jN, z0, z1, z2, w22, w42, two_ne, jT, jG, jH, jL, jB, Sc.cs, Sc.fold, fx, x.cells_eq, Ex.fold, f1, f2, hv, Vr.cells]
  | (first | refine dx_call (d_result _ _) ?_ | refine dx_pcall (d_result _ _) ?_); rintro u ⟨_, rfl, hres⟩; simp -implicitDefEqProofs only [go_sem, rB, rA, rS, rM, rL, rE, jL, jN, z0, z1, z2, w22, w42, two_ne, jT, jG, jH, jL, jB, Sc.cs, Sc.fold, fx, x.cells_eq, Ex.fold, f1, f2, hv, Vr.cells]
  | (first | refine dx_call (d_binary _) ?_ | refine dx_pcall (d_binary _) ?_); rintro u ⟨_, rfl, hbi⟩; simp -implicitDefEqProofs only [go_sem, rB, rA, rS, rM, rL, rE, jL, jN, z0, z1, z2, w22, w42, two_ne, jT, jG, jH, jL, jB, Sc.cs, Sc.fold, fx, x.cells_eq, Ex.fold, f1, f2, hv, Vr.cells]
  | (first | refine dx_call (hx) ?_ | refine dx_pcall (hx) ?_); rintro u rfl; simp -implicitDefEqProofs only [go_sem, rB, rA, rS, rL, w42, two_ne, jG, jB, fx]
  | (refine dx_all ?_; simp -implicitDefEqProofs only [go_sem, rB, rA, rS, rM, rL, rE, jL, jN, z0, z1, z2, w22, w42, two_ne, jT, jG, jH, jL, jB, Sc.cs, Sc.fold, fx, x.cells_eq, Ex.fold, f1, f2, hv, Vr.cells])
  | refine dx_all ?_
  | (refine dx_post _ (fun _ => (by simp -implicitDefEqProofs only [go_sem, rB, rA, rS, resultOf, mapM?, ARes.val]; exact rfl)) ?_; first | exact TyP.zero _ _ | exact TyP.of hg _ (fun ht => ⟨fun h => by omega, fun _ => ⟨v, by simpa using hv, ht⟩, fun h => by omega, fun h => by omega, fun h => by omega, fun h => by omega, fun h => by omega⟩))

theorem type1_4_out (s : Sc) (t n m : Int) (x : Ex) (tx : Int) (hx : Det prog 71 [s.v, x.v] (· = .int .i64 tx)) (gx : Good s x) (nx : tx ≠ 0) (hn : ¬ (0 ≤ n ∧ n < (s.vars.length : Int))) : Det prog 71 [s.v, (Ex.mk 4 t n m [x]).v] (TyP s (.mk 4 t n m [x])) := by
 have fx : (tx == 0) = false := by simpa using nx
 by_cases h0 : 0 ≤ n
 ·have f1 : decide (n ≥ 0) = true := by simpa using h0
  have f2 : decide (n < (s.vars.length : Int)) = false := by simp; omega
  refine Det.by_text rfl rfl ?_
  simp -implicitDefEqProofs only [go_sem, rB, rA, rS, rL, jL, jN, a71, Ex.cellsOf_v, Sc.cellsOf_v, op_mk, t_mk, n_mk, m_mk, l_mk, z1, jG, jL, Sc.cs, Sc.fold, x.cells_eq, Ex.fold]
  repeat' first
   | (refine dx_br (fun hb => ?_) (fun hb => ?_) <;> simp -implicitDefEqProofs only [go_sem, rB, rA, rS, rL, hb, f1, f2])
   | (first | refine dx_call (d_right _) ?_ | refine dx_pcall (d_right _) ?_); rintro u rfl; simp -implicitDefEqProofs only [go_sem, rB, rA, rS]
   | (first | refine dx_call (d_in _ _) ?_ | refine dx_pcall (d_in _ _) ?_); rintro u rfl; simp -implicitDefEqProofs only [go_sem, rB, rA, rS, rM, rL, rE, jL, jN, z0, z1, z2, w22, w42, two_ne, jT, jG, jH, jL, jB, Sc.cs, Sc.fold, fx, x.cells_eq, Ex.fold, f1, f2]
   | (first | refine dx_call (d_result _ _) ?_ | refine dx_pcall (d_result _ _) ?_); rintro u ⟨_, rfl, hres⟩; simp -implicitDefEqProofs only [go_sem, rB, rA, rS, rM, rL, rE, jL, jN, z0, z1, z2, w22, w42, two_ne, jT, jG, jH, jL, jB, Sc.cs, Sc.fold, fx, x.cells_eq, Ex.fold, f1, f2]
   | (first | refine dx_call (d_binary _) ?_ | refine dx_pcall (d_binary _) ?_); rintro u ⟨_, rfl, hbi⟩; simp -implicitDefEqProofs only [go_sem, rB, rA, rS, rM, rL, rE, jL, jN, z0, z1, z2, w22, w42, two_ne, jT, jG, jH, jL, jB, Sc.cs, Sc.fold, fx, x.cells_eq, Ex.fold, f1, f2]
   | (first | refine dx_call (hx) ?_ | refine dx_pcall (hx) ?_); rintro u rfl; simp -implicitDefEqProofs only [go_sem, rB, rA, rS, rL, w42, two_ne, jG, jB, fx]
   | (refine dx_all ?_; simp -implicitDefEqProofs only [go_sem, rB, rA, rS, rM, rL, rE, jL, jN, z0, z1, z2, w22, w42, two_ne, jT, jG, jH, jL, jB, Sc.cs, Sc.fold, fx, x.cells_eq, Ex.fold, f1, f2])
   | refine dx_all ?_
   | (refine dx_post _ (fun _ => (by simp -implicitDefEqProofs only [go_sem, rB, rA, rS, resultOf, mapM?, ARes.val]; exact rfl)) ?_; exact TyP.zero _ _)
 ·have f1 : decide (n ≥ 0) = false := by simp; omega
  refine Det.by_text rfl rfl ?_
  simp -implicitDefEqProofs only [go_sem, rB, rA, rS, rL, jL, jN, a71, Ex.cellsOf_v, Sc.cellsOf_v, op_mk, t_mk, n_mk, m_mk, l_mk, z1, jG, jL, Sc.cs, Sc.fold, x.cells_eq, Ex.fold]
  repeat' first
   | (refine dx_br (fun hb => ?_) (fun hb => ?_) <;> simp -implicitDefEqProofs only [go_sem, rB, rA, rS, rL, hb, f1])
   | (first | refine dx_call (d_right _) ?_ | refine dx_pcall (d_right _) ?_); rintro u rfl; simp -implicitDefEqProofs only [go_sem, rB, rA, rS]
   | (first | refine dx_call (d_in _ _) ?_ | refine dx_pcall (d_in _ _) ?_); rintro u rfl; simp -implicitDefEqProofs only [go_sem, rB, rA, rS, rM, rL, rE, jL, jN, z0, z1, z2, w22, w42, two_ne, jT, jG, jH, jL, jB, Sc.cs, Sc.fold, fx, x.cells_eq, Ex.fold, f1]
   | (first | refine dx_call (d_result _ _) ?_ | refine dx_pcall (d_result _ _) ?_); rintro u ⟨_, rfl, hres⟩; simp -implicitDefEqProofs only [go_sem, rB, rA, rS, rM, rL, rE, jL, jN, z0, z1, z2, w22, w42, two_ne, jT, jG, jH, jL, jB, Sc.cs, Sc.fold, fx, x.cells_eq, Ex.fold, f1]
   | (first | refine dx_call (d_binary _) ?_ | refine dx_pcall (d_binary _) ?_); rintro u ⟨_, rfl, hbi⟩; simp -implicitDefEqProofs only [go_sem, rB, rA, rS, rM, rL, rE, jL, jN, z0, z1, z2, w22, w42, two_ne, jT, jG, jH, jL, jB, Sc.cs, Sc.fold, fx, x.cells_eq, Ex.fold, f1]
   | (first | refine dx_call (hx) ?_ | refine dx_pcall (hx) ?_); rintro u rfl; simp -implicitDefEqProofs only [go_sem, rB, rA, rS, rL, w42, two_ne, jG, jB, fx]
   | (refine dx_all ?_; simp -implicitDefEqProofs only [go_sem, rB, rA, rS, rM, rL, rE, jL, jN, z0, z1, z2, w22, w42, two_ne, jT, jG, jH, jL, jB, Sc.cs, Sc.fold, fx, x.cells_eq, Ex.fold, f1])
   | refine dx_all ?_
   | (refine dx_post _ (fun _ => (by simp -implicitDefEqProofs only [go_sem, rB, rA, rS, resultOf, mapM?, ARes.val]; exact rfl)) ?_; exact TyP.zero _ _)

theorem type1_5 (s : Sc) (t n m : Int) (x : Ex) (tx : Int) (hx : Det prog 71 [s.v, x.v] (· = .int .i64 tx)) (gx : Good s x) (nx : tx ≠ 0) : Det prog 71 [s.v, (Ex.mk 5 t n m [x]).v] (TyP s (.mk 5 t n m [x])) := by
 have fx : (tx == 0) = false := by simpa using nx
 refine Det.by_text rfl rfl ?_
 simp -implicitDefEqProofs only [go_sem, rB, rA, rS, rL, jL, jN, a71, Ex.cellsOf_v, Sc.cellsOf_v, op_mk, t_mk, n_mk, m_mk, l_mk, z1, jG, jL, Sc.cs, Sc.fold, x.cells_eq, Ex.fold]
 repeat' first
  | (refine dx_br (fun hb => ?_) (fun hb => ?_) <;> simp -implicitDefEqProofs only [go_sem, rB, rA, rS, hb])
  | (first | refine dx_call (d_right _) ?_ | refine dx_pcall (d_right _) ?_); rintro u rfl; simp -implicitDefEqProofs only [go_sem, rB, rA, rS]
  | (first | refine dx_call (d_in _ _) ?_ | refine dx_pcall (d_in _ _) ?_); rintro u rfl; simp -implicitDefEqProofs only [go_sem, rB, rA, rS, rM, rL, rE, jL, jN, z0, z1, z2, w22, w42, two_ne, jT, jG, jH, jL, jB, Sc.cs, Sc.fold, fx, x.cells_eq, Ex.fold]
  | (first | refine dx_call (d_result _ _) ?_ | refine dx_pcall (d_result _ _) ?_); rintro u ⟨_, rfl, hres⟩; simp -implicitDefEqProofs only [go_sem, rB, rA, rS, rM, rL, rE, jL, jN, z0, z1, z2, w22, w42, two_ne, jT, jG, jH, jL, jB, Sc.cs, Sc.fold, fx, x.cells_eq, Ex.fold]
  | (first | refine dx_call (d_binary _) ?_ | refine dx_pcall (d_binary _) ?_); rintro u ⟨_, rfl, hbi⟩; simp -implicitDefEqProofs only [go_sem, rB, rA, rS, rM, rL, rE, jL, jN, z0, z1, z2, w22, w42, two_ne, jT, jG, jH, jL, jB, Sc.cs, Sc.fold, fx, x.cells_eq, Ex.fold]
  | (first | refine dx_call (hx) ?_ | refine dx_pcall (hx) ?_); rintro u rfl; simp -implicitDefEqProofs only [go_sem, rB, rA, rS, rL, jG, jB, fx]
  | (refine dx_all ?_; simp -implicitDefEqProofs only [go_sem, rB, rA, rS, rM, rL, rE, jL, jN, z0, z1, z2, w22, w42, two_ne, jT, jG, jH, jL, jB, Sc.cs, Sc.fold, fx, x.cells_eq, Ex.fold])
  | refine dx_all ?_
  | (refine dx_post _ (fun _ => (by simp -implicitDefEqProofs only [go_sem, rB, rA, rS, resultOf, mapM?, ARes.val]; exact rfl)) ?_; first | exact TyP.zero _ _ | exact TyP.of hg _ (HOLE))

theorem type1_6 (s : Sc) (t n m : Int) (x : Ex) (tx : Int) (hx : Det prog 71 [s.v, x.v] (· = .int .i64 tx)) (gx : Good s x) (nx : tx ≠ 0) : Det prog 71 [s.v, (Ex.mk 6 t n m [x]).v] (TyP s (.mk 6 t n m [x])) := by
 have fx : (tx == 0) = false := by simpa using nx
 have hg : Good s (.mk 6 t n m [x]) := .mk _ _ _ _ _ (fun h => by omega) (fun h => by omega) (fun h => by omega) (fun i e hi h => by match i with | 0 => (simp at h; subst h; exact gx) | i + 1 => simp at h)
 refine Det.by_text rfl rfl ?_
 simp -implicitDefEqProofs only [go_sem, rB, rA, rS, rL, jL, jN, a71, Ex.cellsOf_v, Sc.cellsOf_v, op_mk, t_mk, n_mk, m_mk, l_mk, z1, jG, jL, Sc.cs, Sc.fold, x.cells_eq, Ex.fold]
 repeat' first
  | (refine dx_br (fun hb => ?_) (fun hb => ?_) <;> simp -implicitDefEqProofs only [go_sem, rB, rA, rS, rL, hb])
  | (first | refine dx_call (d_right _) ?_ | refine dx_pcall (d_right _) ?_); rintro u rfl; simp -implicitDefEqProofs only [go_sem, rB, rA, rS]
  | (first | refine dx_call (d_in _ _) ?_ | refine dx_pcall (d_in _ _) ?_); rintro u rfl; simp -implicitDefEqProofs only [go_sem, rB, rA, rS, rM, rL, rE, jL, jN, z0, z1, z2, w22, w42, two_ne, jT, jG, jH, jL, jB, Sc.cs, Sc.fold, fx, x.cells_eq, Ex.fold]
  | (first | refine dx_call (d_result _ _) ?_ | refine dx_pcall (d_result _ _) ?_); rintro u ⟨_, rfl, hres⟩; simp -implicitDefEqProofs only [go_sem, rB, rA, rS]
  | (first | refine dx_call (d_binary _) ?_ | refine dx_pcall (d_binary _) ?_); rintro u ⟨_, rfl, hbi⟩; simp -implicitDefEqProofs only [go_sem, rB, rA, rS, rM, rL, rE, jL, jN, z0, z1, z2, w22, w42, two_ne, jT, jG, jH, jL, jB, Sc.cs, Sc.fold, fx, x.cells_eq, Ex.fold]
  | (first | refine dx_call (hx) ?_ | refine dx_pcall (hx) ?_); rintro u rfl; simp -implicitDefEqProofs only [go_sem, rB, rA, rS, rL, jG, jB, fx]
  | (refine dx_all ?_; simp -implicitDefEqProofs only [go_sem, rB, rA, rS, rM, rL, rE, jL, jN, z0, z1, z2, w22, w42, two_ne, jT, jG, jH, jL, jB, Sc.cs, Sc.fold, fx, x.cells_eq, Ex.fold])
  | refine dx_all ?_
  | (refine dx_post _ (fun _ => (by simp -implicitDefEqProofs only [go_sem, rB, rA, rS, resultOf, mapM?, ARes.val]; exact rfl)) ?_; first | exact TyP.zero _ _ | exact TyP.of hg _ (fun ht => ⟨fun h => by omega, fun h => by omega, fun h => by omega, fun h => by omega, fun _ => ⟨x, _, rfl, by rcases hres ht with h | h; (exfalso; simp_all <;> omega); (rw [h] at hx; exact hx)⟩, fun h => by omega, fun h => by omega⟩))

theorem type1_7 (s : Sc) (t n m : Int) (x : Ex) (tx : Int) (hx : Det prog 71 [s.v, x.v] (· = .int .i64 tx)) (gx : Good s x) (nx : tx ≠ 0) : Det prog 71 [s.v, (Ex.mk 7 t n m [x]).v] (TyP s (.mk 7 t n m [x])) := by
 have fx : (tx == 0) = false := by simpa using nx
 have hg : Good s (.mk 7 t n m [x]) := .mk _ _ _ _ _ (fun h => by omega) (fun h => by omega) (fun h => by omega) (fun i e hi h => by match i with | 0 => (simp at h; subst h; exact gx) | i + 1 => simp at h)
 refine Det.by_text rfl rfl ?_
 simp -implicitDefEqProofs only [go_sem, rB, rA, rS, rL, jL, jN, a71, Ex.cellsOf_v, Sc.cellsOf_v, op_mk, t_mk, n_mk, m_mk, l_mk, z1, jG, jL, Sc.cs, Sc.fold, x.cells_eq, Ex.fold]
 repeat' first
  | (refine dx_br (fun hb => ?_) (fun hb => ?_) <;> simp -implicitDefEqProofs only [go_sem, rB, rA, rS, hb])
  | (first | refine dx_call (d_right _) ?_ | refine dx_pcall (d_right _) ?_); rintro u rfl; simp -implicitDefEqProofs only [go_sem, rB, rA, rS]
  | (first | refine dx_call (d_in _ _) ?_ | refine dx_pcall (d_in _ _) ?_); rintro u rfl; simp -implicitDefEqProofs only [go_sem, rB, rA, rS, rM, rL, rE, jL, jN, z0, z1, z2, w22, w42, two_ne, jT, jG, jH, jL, jB, Sc.cs, Sc.fold, fx, x.cells_eq, Ex.fold]
  | (first | refine dx_call (d_result _ _) ?_ | refine dx_pcall (d_result _ _) ?_); rintro u ⟨_, rfl, hres⟩; simp -implicitDefEqProofs only [go_sem, rB, rA, rS, rM, rL, rE, jL, jN, z0, z1, z2, w22, w42, two_ne, jT, jG, jH, jL, jB, Sc.cs, Sc.fold, fx, x.cells_eq, Ex.fold]
  | (first | refine dx_call (d_binary _) ?_ | refine dx_pcall (d_binary _) ?_); rintro u ⟨_, rfl, hbi⟩; simp -implicitDefEqProofs only [go_sem, rB, rA, rS, rM, rL, rE, jL, jN, z0, z1, z2, w22, w42, two_ne, jT, jG, jH, jL, jB, Sc.cs, Sc.fold, fx, x.cells_eq, Ex.fold]
  | (first | refine dx_call (hx) ?_ | refine dx_pcall (hx) ?_); rintro u rfl; simp -implicitDefEqProofs only [go_sem, rB, rA, rS, rL, jG, jB, fx]
  | (refine dx_all ?_; simp -implicitDefEqProofs only [go_sem, rB, rA, rS, rM, rL, rE, jL, jN, z0, z1, z2, w22, w42, two_ne, jT, jG, jH, jL, jB, Sc.cs, Sc.fold, fx, x.cells_eq, Ex.fold])
  | refine dx_all ?_
  | (refine dx_post _ (fun _ => (by simp -implicitDefEqProofs only [go_sem, rB, rA, rS, resultOf, mapM?, ARes.val]; exact rfl)) ?_; first | exact TyP.zero _ _ | exact TyP.of hg _ (fun ht => ⟨fun h => by omega, fun h => by omega, fun h => by omega, fun h => by omega, fun h => by omega, fun _ => (hres ht).imp id (fun e => ⟨x, _, rfl, by rw [e] at hx; exact hx⟩), fun h => by omega⟩))

theorem type1_8 (s : Sc) (t n m : Int) (x : Ex) (tx : Int) (hx : Det prog 71 [s.v, x.v] (· = .int .i64 tx)) (gx : Good s x) (nx : tx ≠ 0) : Det prog 71 [s.v, (Ex.mk 8 t n m [x]).v] (TyP s (.mk 8 t n m [x])) := by
 have fx : (tx == 0) = false := by simpa using nx
 have hg : Good s (.mk 8 t n m [x]) := .mk _ _ _ _ _ (fun h => by omega) (fun h => by omega) (fun h => by omega) (fun i e hi h => by match i with | 0 => (simp at h; subst h; exact gx) | i + 1 => simp at h)
 refine Det.by_text rfl rfl ?_
 simp -implicitDefEqProofs only [go_sem, rB, rA, rS, rL, jL, jN, a71, Ex.cellsOf_v, Sc.cellsOf_v, op_mk, t_mk, n_mk, m_mk, l_mk, z1, jG, jL, Sc.cs, Sc.fold, x.cells_eq, Ex.fold]
 repeat' first
  | (refine dx_br (fun hb => ?_) (fun hb => ?_) <;> simp -implicitDefEqProofs only [go_sem, rB, rA, rS, rL, hb])
  | (first | refine dx_call (d_right _) ?_ | refine dx_pcall (d_right _) ?_); rintro u rfl; simp -implicitDefEqProofs only [go_sem, rB, rA, rS]
  | (first | refine dx_call (d_in _ _) ?_ | refine dx_pcall (d_in _ _) ?_); rintro u rfl; simp -implicitDefEqProofs only [go_sem, rB, rA, rS, rM, rL, rE, jL, jN, z0, z1, z2, w22, w42, two_ne, jT, jG, jH, jL, jB, Sc.cs, Sc.fold, fx, x.cells_eq, Ex.fold]
  | (first | refine dx_call (d_result _ _) ?_ | refine dx_pcall (d_result _ _) ?_); rintro u ⟨_, rfl, hres⟩; simp -implicitDefEqProofs only [go_sem, rB, rA, rS, rM, rL, rE, jL, jN, z0, z1, z2, w22, w42, two_ne, jT, jG, jH, jL, jB, Sc.cs, Sc.fold, fx, x.cells_eq, Ex.fold]
  | (first | refine dx_call (d_binary _) ?_ | refine dx_pcall (d_binary _) ?_); rintro u ⟨_, rfl, hbi⟩; simp -implicitDefEqProofs only [go_sem, rB, rA, rS, rM, rL, rE, jL, jN, z0, z1, z2, w22, w42, two_ne, jT, jG, jH, jL, jB, Sc.cs, Sc.fold, fx, x.cells_eq, Ex.fold]
  | (first | refine dx_call (hx) ?_ | refine dx_pcall (hx) ?_); rintro u rfl; simp -implicitDefEqProofs only [go_sem, rB, rA, rS, rL, jG, jB, fx]
  | (refine dx_all ?_; simp -implicitDefEqProofs only [go_sem, rB, rA, rS, rM, rL, rE, jL, jN, z0, z1, z2, w22, w42, two_ne, jT, jG, jH, jL, jB, Sc.cs, Sc.fold, fx, x.cells_eq, Ex.fold])
  | refine dx_all ?_
  | (refine dx_post _ (fun _ => (by simp -implicitDefEqProofs only [go_sem, rB, rA, rS, resultOf, mapM?, ARes.val]; exact rfl)) ?_; first | exact TyP.zero _ _ | exact TyP.of hg _ (fun ht => ⟨fun h => by omega, fun h => by omega, fun h => by omega, fun h => by omega, fun h => by omega, fun h => by omega, fun _ => ht⟩))

theorem type2_1 (s : Sc) (t n m : Int) (x : Ex) (tx : Int) (hx : Det prog 71 [s.v, x.v] (· = .int .i64 tx)) (gx : Good s x) (nx : tx ≠ 0) (y : Ex) (ty : Int) (hy : Det prog 71 [s.v, y.v] (· = .int .i64 ty)) (gy : Good s y) (ny : ty ≠ 0) : Det prog 71 [s.v, (Ex.mk 1 t n m [x, y]).v] (TyP s (.mk 1 t n m [x, y])) := by
 have fx : (tx == 0) = false := by simpa using nx
 have fy : (ty == 0) = false := by simpa using ny
 have hg : Good s (.mk 1 t n m [x, y]) := .mk _ _ _ _ _ (fun h => by omega) (fun h => by omega) (fun h => by omega) (fun i e hi h => by match i with | 0 => (simp at h; subst h; exact gx) | 1 => (simp at h; subst h; exact gy) | i + 2 => simp at h)
 refine Det.by_text rfl rfl ?_
 simp -implicitDefEqProofs only [go_sem, rB, rA, rS, rL, jL, jN, a71, Ex.cellsOf_v, Sc.cellsOf_v, op_mk, t_mk, n_mk, m_mk, l_mk, z2, jG, jL, Sc.cs, Sc.fold, x.cells_eq, Ex.fold, y.cells_eq]
 repeat' first
  | (refine dx_br (fun hb => ?_) (fun hb => ?_) <;> simp -implicitDefEqProofs only [go_sem, rB, rA, rS, hb])
  | (first | refine dx_call (d_right _) ?_ | refine dx_pcall (d_right _) ?_); rintro u rfl; simp -implicitDefEqProofs only [go_sem, rB, rA, rS]
  | (first | refine dx_call (d_in _ _) ?_ | refine dx_pcall (d_in _ _) ?_); rintro u rfl; simp -implicitDefEqProofs only [go_sem, rB, rA, rS, rM, rL, rE, jL, jN, z0, z1, z2, w22, w42, two_ne, jT, jG, jH, jL, jB, Sc.cs, Sc.fold, fx, x.cells_eq, Ex.fold, fy, y.cells_eq]
  | (first | refine dx_call (d_result _ _) ?_ | refine dx_pcall (d_result _ _) ?_); rintro u ⟨_, rfl, hres⟩; simp -implicitDefEqProofs only [go_sem, rB, rA, rS, rM, rL, rE, jL, jN, z0, z1, z2, w22, w42, two_ne, jT, jG, jH, jL, jB, Sc.cs, Sc.fold, fx, x.cells_eq, Ex.fold, fy, y.cells_eq]
  | (first | refine dx_call (d_binary _) ?_ | refine dx_pcall (d_binary _) ?_); rintro u ⟨_, rfl, hbi⟩; simp -implicitDefEqProofs only [go_sem, rB, rA, rS, rM, rL, rE, jL, jN, z0, z1, z2, w22, w42, two_ne, jT, jG, jH, jL, jB, Sc.cs, Sc.fold, fx, x.cells_eq, Ex.fold, fy, y.cells_eq]
  | (first | refine dx_call (hx) ?_ | refine dx_pcall (hx) ?_); rintro u rfl; simp -implicitDefEqProofs only [go_sem, rB, rA, rS, rL, jL, jN, jG, jL, Sc.fold, Ex.fold]
  | (first | refine dx_call (hy) ?_ | refine dx_pcall (hy) ?_); rintro u rfl; simp -implicitDefEqProofs only [go_sem, rB, rA, rS, rL, jG, jB, fx, fy]
  | (refine dx_all ?_; simp -implicitDefEqProofs only [go_sem, rB, rA, rS, rM, rL, rE, jL, jN, z0, z1, z2, w22, w42, two_ne, jT, jG, jH, jL, jB, Sc.cs, Sc.fold, fx, x.cells_eq, Ex.fold, fy, y.cells_eq])
  | refine dx_all ?_
  | (refine dx_post _ (fun _ => (by simp -implicitDefEqProofs only [go_sem, rB, rA, rS, resultOf, mapM?, ARes.val]; exact rfl)) ?_; first | exact TyP.zero _ _ | exact TyP.of hg _ (fun ht => by subst ht; exact ⟨fun _ => inF1 (by assumption), fun h => by omega, fun h => by omega, fun h => by omega, fun h => by omega, fun h => by omega, fun h => by omega⟩))

theorem type2_2 (s : Sc) (t n m : Int) (x : Ex) (tx : Int) (hx : Det prog 71 [s.v, x.v] (· = .int .i64 tx)) (gx : Good s x) (nx : tx ≠ 0) (y : Ex) (ty : Int) (hy : Det prog 71 [s.v, y.v] (· = .int .i64 ty)) (gy : Good s y) (ny : ty ≠ 0) : Det prog 71 [s.v, (Ex.mk 2 t n m [x, y]).v] (TyP s (.mk 2 t n m [x, y])) := by
 have fx : (tx == 0) = false := by simpa using nx
 have fy : (ty == 0) = false := by simpa using ny
 refine Det.by_text rfl rfl ?_
 simp -implicitDefEqProofs only [go_sem, rB, rA, rS, rL, jL, jN, a71, Ex.cellsOf_v, Sc.cellsOf_v, op_mk, t_mk, n_mk, m_mk, l_mk, z2, jG, jL, Sc.cs, Sc.fold, x.cells_eq, Ex.fold, y.cells_eq]
 repeat' first
  | (refine dx_br (fun hb => ?_) (fun hb => ?_) <;> simp -implicitDefEqProofs only [go_sem, rB, rA, rS, hb])
  | (first | refine dx_call (d_right _) ?_ | refine dx_pcall (d_right _) ?_); rintro u rfl; simp -implicitDefEqProofs only [go_sem, rB, rA, rS]
  | (first | refine dx_call (d_in _ _) ?_ | refine dx_pcall (d_in _ _) ?_); rintro u rfl; simp -implicitDefEqProofs only [go_sem, rB, rA, rS, rM, rL, rE, jL, jN, z0, z1, z2, w22, w42, two_ne, jT, jG, jH, jL, jB, Sc.cs, Sc.fold, fx, x.cells_eq, Ex.fold, fy, y.cells_eq]
  | (first | refine dx_call (d_result _ _) ?_ | refine dx_pcall (d_result _ _) ?_); rintro u ⟨_, rfl, hres⟩; simp -implicitDefEqProofs only [go_sem, rB, rA, rS, rM, rL, rE, jL, jN, z0, z1, z2, w22, w42, two_ne, jT, jG, jH, jL, jB, Sc.cs, Sc.fold, fx, x.cells_eq, Ex.fold, fy, y.cells_eq]
  | (first | refine dx_call (d_binary _) ?_ | refine dx_pcall (d_binary _) ?_); rintro u ⟨_, rfl, hbi⟩; simp -implicitDefEqProofs only [go_sem, rB, rA, rS, rM, rL, rE, jL, jN, z0, z1, z2, w22, w42, two_ne, jT, jG, jH, jL, jB, Sc.cs, Sc.fold, fx, x.cells_eq, Ex.fold, fy, y.cells_eq]
  | (first | refine dx_call (hx) ?_ | refine dx_pcall (hx) ?_); rintro u rfl; simp -implicitDefEqProofs only [go_sem, rB, rA, rS, rL, jL, jN, jG, jL, Sc.fold, Ex.fold]
  | (first | refine dx_call (hy) ?_ | refine dx_pcall (hy) ?_); rintro u rfl; simp -implicitDefEqProofs only [go_sem, rB, rA, rS, rL, w22, two_ne, jG, jB, fx, fy]
  | (refine dx_all ?_; simp -implicitDefEqProofs only [go_sem, rB, rA, rS, rM, rL, rE, jL, jN, z0, z1, z2, w22, w42, two_ne, jT, jG, jH, jL, jB, Sc.cs, Sc.fold, fx, x.cells_eq, Ex.fold, fy, y.cells_eq])
  | refine dx_all ?_
  | (refine dx_post _ (fun _ => (by simp -implicitDefEqProofs only [go_sem, rB, rA, rS, resultOf, mapM?, ARes.val]; exact rfl)) ?_; first | exact TyP.zero _ _ | exact TyP.of hg _ (fun ht => ⟨fun h => by omega, fun _ => ⟨v, by simpa using hv, ht⟩, fun h => by omega, fun h => by omega, fun h => by omega, fun h => by omega, fun h => by omega⟩))

theorem type2_3 (s : Sc) (t n m : Int) (x : Ex) (tx : Int) (hx : Det prog 71 [s.v, x.v] (· = .int .i64 tx)) (gx : Good s x) (nx : tx ≠ 0) (y : Ex) (ty : Int) (hy : Det prog 71 [s.v, y.v] (· = .int .i64 ty)) (gy : Good s y) (ny : ty ≠ 0) : Det prog 71 [s.v, (Ex.mk 3 t n m [x, y]).v] (TyP s (.mk 3 t n m [x, y])) := by
 have fx : (tx == 0) = false := by simpa using nx
 have fy : (ty == 0) = false := by simpa using ny
 refine Det.by_text rfl rfl ?_
 simp -implicitDefEqProofs only [go_sem, rB, rA, rS, rL, jL, jN, a71, Ex.cellsOf_v, Sc.cellsOf_v, op_mk, t_mk, n_mk, m_mk, l_mk, z2, jG, jL, Sc.cs, Sc.fold, x.cells_eq, Ex.fold, y.cells_eq]
 repeat' first
  | (refine dx_br (fun hb => ?_) (fun hb => ?_) <;> simp -implicitDefEqProofs only [go_sem, rB, rA, rS, hb])
  | (first | refine dx_call (d_right _) ?_ | refine dx_pcall (d_right _) ?_); rintro u rfl; simp -implicitDefEqProofs only [go_sem, rB, rA, rS]
  | (first | refine dx_call (d_in _ _) ?_ | refine dx_pcall (d_in _ _) ?_); rintro u rfl; simp -implicitDefEqProofs only [go_sem, rB, rA, rS, rM, rL, rE, jL, jN, z0, z1, z2, w22, w42, two_ne, jT, jG, jH, jL, jB, Sc.cs, Sc.fold, fx, x.cells_eq, Ex.fold, fy, y.cells_eq]
  | (first | refine dx_call (d_result _ _) ?_ | refine dx_pcall (d_result _ _) ?_); rintro u ⟨_, rfl, hres⟩; simp -implicitDefEqProofs only [go_sem, rB, rA, rS, rM, rL, rE, jL, jN, z0, z1, z2, w22, w42, two_ne, jT, jG, jH, jL, jB, Sc.cs, Sc.fold, fx, x.cells_eq, Ex.fold, fy, y.cells_eq]
  | (first | refine dx_call (d_binary _) ?_ | refine dx_pcall (d_binary _) ?_); rintro u ⟨_, rfl, hbi⟩; simp -implicitDefEqProofs only [go_sem, rB, rA, rS, rM, rL, rE, jL, jN, z0, z1, z2, w22, w42, two_ne, jT, jG, jH, jL, jB, Sc.cs, Sc.fold, fx, x.cells_eq, Ex.fold, fy, y.cells_eq]
  | (first | refine dx_call (hx) ?_ | refine dx_pcall (hx) ?_); rintro u rfl; simp -implicitDefEqProofs only [go_sem, rB, rA, rS, rL, jL, jN, jG, jL, Sc.fold, Ex.fold]
  | (first | refine dx_call (hy) ?_ | refine dx_pcall (hy) ?_); rintro u rfl; simp -implicitDefEqProofs only [go_sem, rB, rA, rS, rL, jG, jB, fx, fy]
  | (refine dx_all ?_; simp -implicitDefEqProofs only [go_sem, rB, rA, rS, rM, rL, rE, jL, jN, z0, z1, z2, w22, w42, two_ne, jT, jG, jH, jL, jB, Sc.cs, Sc.fold, fx, x.cells_eq, Ex.fold, fy, y.cells_eq])
  | refine dx_all ?_
  | (refine dx_post _ (fun _ => (by simp -implicitDefEqProofs only [go_sem, rB, rA, rS, resultOf, mapM?, ARes.val]; exact rfl)) ?_; first | exact TyP.zero _ _ | exact TyP.of hg _ (fun ht => ⟨fun h => by omega, fun h => by omega, fun _ => by simpa [ht] using hv, fun h => by omega, fun h => by omega, fun h => by omega, fun h => by omega⟩))

theorem type2_4 (s : Sc) (t n m : Int) (x : Ex) (tx : Int) (hx : Det prog 71 [s.v, x.v] (· = .int .i64 tx)) (gx : Good s x) (nx : tx ≠ 0) (y : Ex) (ty : Int) (hy : Det prog 71 [s.v, y.v] (· = .int .i64 ty)) (gy : Good s y) (ny : ty ≠ 0) : Det prog 71 [s.v, (Ex.mk 4 t n m [x, y]).v] (TyP s (.mk 4 t n m [x, y])) := by
 have fx : (tx == 0) = false := by simpa using nx
 have fy : (ty == 0) = false := by simpa using ny
 refine Det.by_text rfl rfl ?_
 simp -implicitDefEqProofs only [go_sem, rB, rA, rS, rL, jL, jN, a71, Ex.cellsOf_v, Sc.cellsOf_v, op_mk, t_mk, n_mk, m_mk, l_mk, z2, jG, jL, Sc.cs, Sc.fold, x.cells_eq, Ex.fold, y.cells_eq]
 repeat' first
  | (refine dx_br (fun hb => ?_) (fun hb => ?_) <;> simp -implicitDefEqProofs only [go_sem, rB, rA, rS, hb])
  | (first | refine dx_call (d_right _) ?_ | refine dx_pcall (d_right _) ?_); rintro u rfl; simp -implicitDefEqProofs only [go_sem, rB, rA, rS]
  | (first | refine dx_call (d_in _ _) ?_ | refine dx_pcall (d_in _ _) ?_); rintro u rfl; simp -implicitDefEqProofs only [go_sem, rB, rA, rS, rM, rL, rE, jL, jN, z0, z1, z2, w22, w42, two_ne, jT, jG, jH, jL, jB, Sc.cs, Sc.fold, fx, x.cells_eq, Ex.fold, fy, y.cells_eq]
  | (first | refine dx_call (d_result _ _) ?_ | refine dx_pcall (d_result _ _) ?_); rintro u ⟨_, rfl, hres⟩; simp -implicitDefEqProofs only [go_sem, rB, rA, rS, rM, rL, rE, jL, jN, z0, z1, z2, w22, w42, two_ne, jT, jG, jH, jL, jB, Sc.cs, Sc.fold, fx, x.cells_eq, Ex.fold, fy, y.cells_eq]
  | (first | refine dx_call (d_binary _) ?_ | refine dx_pcall (d_binary _) ?_); rintro u ⟨_, rfl, hbi⟩; simp -implicitDefEqProofs only [go_sem, rB, rA, rS, rM, rL, rE, jL, jN, z0, z1, z2, w22, w42, two_ne, jT, jG, jH, jL, jB, Sc.cs, Sc.fold, fx, x.cells_eq, Ex.fold, fy, y.cells_eq]
  | (first | refine dx_call (hx) ?_ | refine dx_pcall (hx) ?_); rintro u rfl; simp -implicitDefEqProofs only [go_sem, rB, rA, rS, rL, jL, jN, jG, jL, Sc.fold, Ex.fold]
  | (first | refine dx_call (hy) ?_ | refine dx_pcall (hy) ?_); rintro u rfl; simp -implicitDefEqProofs only [go_sem, rB, rA, rS, rL, w42, two_ne, jG, jB, fx, fy]
  | (refine dx_all ?_; simp -implicitDefEqProofs only [go_sem, rB, rA, rS, rM, rL, rE, jL, jN, z0, z1, z2, w22, w42, two_ne, jT, jG, jH, jL, jB, Sc.cs, Sc.fold, fx, x.cells_eq, Ex.fold, fy, y.cells_eq])
  | refine dx_all ?_
  | (refine dx_post _ (fun _ => (by simp -implicitDefEqProofs only [go_sem, rB, rA, rS, resultOf, mapM?, ARes.val]; exact rfl)) ?_; first | exact TyP.zero _ _ | exact TyP.of hg _ (fun ht => ⟨fun h => by omega, fun _ => ⟨v, by simpa using hv, ht⟩, fun h => by omega, fun h => by omega, fun h => by omega, fun h => by omega, fun h => by omega⟩))

theorem type2_5 (s : Sc) (t n m : Int) (x : Ex) (tx : Int) (hx : Det prog 71 [s.v, x.v] (· = .int .i64 tx)) (gx : Good s x) (nx : tx ≠ 0) (y : Ex) (ty : Int) (hy : Det prog 71 [s.v, y.v] (· = .int .i64 ty)) (gy : Good s y) (ny : ty ≠ 0) : Det prog 71 [s.v, (Ex.mk 5 t n m [x, y]).v] (TyP s (.mk 5 t n m [x, y])) := by
 have fx : (tx == 0) = false := by simpa using nx
 have fy : (ty == 0) = false := by simpa using ny
 refine Det.by_text rfl rfl ?_
 simp -implicitDefEqProofs only [go_sem, rB, rA, rS, rL, jL, jN, a71, Ex.cellsOf_v, Sc.cellsOf_v, op_mk, t_mk, n_mk, m_mk, l_mk, z2, jG, jL, Sc.cs, Sc.fold, x.cells_eq, Ex.fold, y.cells_eq]
 repeat' first
  | (refine dx_br (fun hb => ?_) (fun hb => ?_) <;> simp -implicitDefEqProofs only [go_sem, rB, rA, rS, hb])
  | (first | refine dx_call (d_right _) ?_ | refine dx_pcall (d_right _) ?_); rintro u rfl; simp -implicitDefEqProofs only [go_sem, rB, rA, rS]
  | (first | refine dx_call (d_in _ _) ?_ | refine dx_pcall (d_in _ _) ?_); rintro u rfl; simp -implicitDefEqProofs only [go_sem, rB, rA, rS, rM, rL, rE, jL, jN, z0, z1, z2, w22, w42, two_ne, jT, jG, jH, jL, jB, Sc.cs, Sc.fold, fx, x.cells_eq, Ex.fold, fy, y.cells_eq]
  | (first | refine dx_call (d_result _ _) ?_ | refine dx_pcall (d_result _ _) ?_); rintro u ⟨_, rfl, hres⟩; simp -implicitDefEqProofs only [go_sem, rB, rA, rS, rM, rL, rE, jL, jN, z0, z1, z2, w22, w42, two_ne, jT, jG, jH, jL, jB, Sc.cs, Sc.fold, fx, x.cells_eq, Ex.fold, fy, y.cells_eq]
  | (first | refine dx_call (d_binary _) ?_ | refine dx_pcall (d_binary _) ?_); rintro u ⟨_, rfl, hbi⟩; simp -implicitDefEqProofs only [go_sem, rB, rA, rS, rM, rL, rE, jL, jN, z0, z1, z2, w22, w42, two_ne, jT, jG, jH, jL, jB, Sc.cs, Sc.fold, fx, x.cells_eq, Ex.fold, fy, y.cells_eq]
  | (first | refine dx_call (hx) ?_ | refine dx_pcall (hx) ?_); rintro u rfl; simp -implicitDefEqProofs only [go_sem, rB, rA, rS, rL, jL, jN, jG, jL, Sc.fold, Ex.fold]
  | (first | refine dx_call (hy) ?_ | refine dx_pcall (hy) ?_); rintro u rfl; simp -implicitDefEqProofs only [go_sem, rB, rA, rS, rL, jG, jB, fx, fy]
  | (refine dx_all ?_; simp -implicitDefEqProofs only [go_sem, rB, rA, rS, rM, rL, rE, jL, jN, z0, z1, z2, w22, w42, two_ne, jT, jG, jH, jL, jB, Sc.cs, Sc.fold, fx, x.cells_eq, Ex.fold, fy, y.cells_eq])
  | refine dx_all ?_
  | (refine dx_post _ (fun _ => (by simp -implicitDefEqProofs only [go_sem, rB, rA, rS, resultOf, mapM?, ARes.val]; exact rfl)) ?_; first | exact TyP.zero _ _ | exact TyP.of hg _ (HOLE))

theorem type2_6 (s : Sc) (t n m : Int) (x : Ex) (tx : Int) (hx : Det prog 71 [s.v, x.v] (· = .int .i64 tx)) (gx : Good s x) (nx : tx ≠ 0) (y : Ex) (ty : Int) (hy : Det prog 71 [s.v, y.v] (· = .int .i64 ty)) (gy : Good s y) (ny : ty ≠ 0) : Det prog 71 [s.v, (Ex.mk 6 t n m [x, y]).v] (TyP s (.mk 6 t n m [x, y])) := by
 have fx : (tx == 0) = false := by simpa using nx
 have fy : (ty == 0) = false := by simpa using ny
 have hg : Good s (.mk 6 t n m [x, y]) := .mk _ _ _ _ _ (fun h => by omega) (fun h => by omega) (fun h => by omega) (fun i e hi h => by match i with | 0 => (simp at h; subst h; exact gx) | 1 => (simp at h; subst h; exact gy) | i + 2 => simp at h)
 refine Det.by_text rfl rfl ?_
 simp -implicitDefEqProofs only [go_sem, rB, rA, rS, rL, jL, jN, a71, Ex.cellsOf_v, Sc.cellsOf_v, op_mk, t_mk, n_mk, m_mk, l_mk, z2, jG, jL, Sc.cs, Sc.fold, x.cells_eq, Ex.fold, y.cells_eq]
 repeat' first
  | (refine dx_br (fun hb => ?_) (fun hb => ?_) <;> simp -implicitDefEqProofs only [go_sem, rB, rA, rS, hb])
  | (first | refine dx_call (d_right _) ?_ | refine dx_pcall (d_right _) ?_); rintro u rfl; simp -implicitDefEqProofs only [go_sem, rB, rA, rS]
  | (first | refine dx_call (d_in _ _) ?_ | refine dx_pcall (d_in _ _) ?_); rintro u rfl; simp -implicitDefEqProofs only [go_sem, rB, rA, rS, rM, rL, rE, jL, jN, z0, z1, z2, w22, w42, two_ne, jT, jG, jH, jL, jB, Sc.cs, Sc.fold, fx, x.cells_eq, Ex.fold, fy, y.cells_eq]
  | (first | refine dx_call (d_result _ _) ?_ | refine dx_pcall (d_result _ _) ?_); rintro u ⟨_, rfl, hres⟩; simp -implicitDefEqProofs only [go_sem, rB, rA, rS, rM, rL, rE, jL, jN, z0, z1, z2, w22, w42, two_ne, jT, jG, jH, jL, jB, Sc.cs, Sc.fold, fx, x.cells_eq, Ex.fold, fy, y.cells_eq]
  | (first | refine dx_call (d_binary _) ?_ | refine dx_pcall (d_binary _) ?_); rintro u ⟨_, rfl, hbi⟩; simp -implicitDefEqProofs only [go_sem, rB, rA, rS, rM, rL, rE, jL, jN, z0, z1, z2, w22, w42, two_ne, jT, jG, jH, jL, jB, Sc.cs, Sc.fold, fx, x.cells_eq, Ex.fold, fy, y.cells_eq]
  | (first | refine dx_call (hx) ?_ | refine dx_pcall (hx) ?_); rintro u rfl; simp -implicitDefEqProofs only [go_sem, rB, rA, rS, rL, jL, jN, jG, jL, Sc.fold, Ex.fold]
  | (first | refine dx_call (hy) ?_ | refine dx_pcall (hy) ?_); rintro u rfl; simp -implicitDefEqProofs only [go_sem, rB, rA, rS, rL, jG, jB, fx, fy]
  | (refine dx_all ?_; simp -implicitDefEqProofs only [go_sem, rB, rA, rS, rM, rL, rE, jL, jN, z0, z1, z2, w22, w42, two_ne, jT, jG, jH, jL, jB, Sc.cs, Sc.fold, fx, x.cells_eq, Ex.fold, fy, y.cells_eq])
  | refine dx_all ?_
  | (refine dx_post _ (fun _ => (by simp -implicitDefEqProofs only [go_sem, rB, rA, rS, resultOf, mapM?, ARes.val]; exact rfl)) ?_; first | exact TyP.zero _ _ | exact TyP.of hg _ (fun ht => ⟨fun h => by omega, fun h => by omega, fun h => by omega, fun h => by omega, fun _ => ⟨x, _, rfl, by rcases hres ht with h | h; (exfalso; simp_all <;> omega); (rw [h] at hx; exact hx)⟩, fun h => by omega, fun h => by omega⟩))

theorem type2_7 (s : Sc) (t n m : Int) (x : Ex) (tx : Int) (hx : Det prog 71 [s.v, x.v] (· = .int .i64 tx)) (gx : Good s x) (nx : tx ≠ 0) (y : Ex) (ty : Int) (hy : Det prog 71 [s.v, y.v] (· = .int .i64 ty)) (gy : Good s y) (ny : ty ≠ 0) : Det prog 71 [s.v, (Ex.mk 7 t n m [x, y]).v] (TyP s (.mk 7 t n m [x, y])) := by
 have fx : (tx == 0) = false := by simpa using nx
 have fy : (ty == 0) = false := by simpa using ny
 have hg : Good s (.mk 7 t n m [x, y]) := .mk _ _ _ _ _ (fun h => by omega) (fun h => by omega) (fun h => by omega) (fun i e hi h => by match i with | 0 => (simp at h; subst h; exact gx) | 1 => (simp at h; subst h; exact gy) | i + 2 => simp at h)
 refine Det.by_text rfl rfl ?_
 simp -implicitDefEqProofs only [go_sem, rB, rA, rS, rL, jL, jN, a71, Ex.cellsOf_v, Sc.cellsOf_v, op_mk, t_mk, n_mk, m_mk, l_mk, z2, jG, jL, Sc.cs, Sc.fold, x.cells_eq, Ex.fold, y.cells_eq]
 repeat' first
  | (refine dx_br (fun hb => ?_) (fun hb => ?_) <;> simp -implicitDefEqProofs only [go_sem, rB, rA, rS, rL, hb])
  | (first | refine dx_call (d_right _) ?_ | refine dx_pcall (d_right _) ?_); rintro u rfl; simp -implicitDefEqProofs only [go_sem, rB, rA, rS]
  | (first | refine dx_call (d_in _ _) ?_ | refine dx_pcall (d_in _ _) ?_); rintro u rfl; simp -implicitDefEqProofs only [go_sem, rB, rA, rS, rM, rL, rE, jL, jN, z0, z1, z2, w22, w42, two_ne, jT, jG, jH, jL, jB, Sc.cs, Sc.fold, fx, x.cells_eq, Ex.fold, fy, y.cells_eq]
  | (first | refine dx_call (d_result _ _) ?_ | refine dx_pcall (d_result _ _) ?_); rintro u ⟨_, rfl, hres⟩; simp -implicitDefEqProofs only [go_sem, rB, rA, rS]
  | (first | refine dx_call (d_binary _) ?_ | refine dx_pcall (d_binary _) ?_); rintro u ⟨_, rfl, hbi⟩; simp -implicitDefEqProofs only [go_sem, rB, rA, rS]
  | (first | refine dx_call (hx) ?_ | refine dx_pcall (hx) ?_); rintro u rfl; simp -implicitDefEqProofs only [go_sem, rB, rA, rS, rL, jL, jN, jG, jL, Sc.fold, Ex.fold]
  | (first | refine dx_call (hy) ?_ | refine dx_pcall (hy) ?_); rintro u rfl; simp -implicitDefEqProofs only [go_sem, rB, rA, rS, rL, jG, jB, fx, fy]
  | (refine dx_all ?_; simp -implicitDefEqProofs only [go_sem, rB, rA, rS, rM, rL, rE, jL, jN, z0, z1, z2, w22, w42, two_ne, jT, jG, jH, jL, jB, Sc.cs, Sc.fold, fx, x.cells_eq, Ex.fold, fy, y.cells_eq])
  | refine dx_all ?_
  | (refine dx_post _ (fun _ => (by simp -implicitDefEqProofs only [go_sem, rB, rA, rS, resultOf, mapM?, ARes.val]; exact rfl)) ?_; first | exact TyP.zero _ _ | exact TyP.of hg _ (fun ht => ⟨fun h => by omega, fun h => by omega, fun h => by omega, fun h => by omega, fun h => by omega, fun _ => (hres ht).imp id (fun e => ⟨x, _, rfl, by rw [e] at hx; exact hx⟩), fun h => by omega⟩))

theorem type2_8 (s : Sc) (t n m : Int) (x : Ex) (tx : Int) (hx : Det prog 71 [s.v, x.v] (· = .int .i64 tx)) (gx : Good s x) (nx : tx ≠ 0) (y : Ex) (ty : Int) (hy : Det prog 71 [s.v, y.v] (· = .int .i64 ty)) (gy : Good s y) (ny : ty ≠ 0) : Det prog 71 [s.v, (Ex.mk 8 t n m [x, y]).v] (TyP s (.mk 8 t n m [x, y])) := by
 have fx : (tx == 0) = false := by simpa using nx
 have fy : (ty == 0) = false := by simpa using ny
 have hg : Good s (.mk 8 t n m [x, y]) := .mk _ _ _ _ _ (fun h => by omega) (fun h => by omega) (fun h => by omega) (fun i e hi h => by match i with | 0 => (simp at h; subst h; exact gx) | 1 => (simp at h; subst h; exact gy) | i + 2 => simp at h)
 refine Det.by_text rfl rfl ?_
 simp -implicitDefEqProofs only [go_sem, rB, rA, rS, rL, jL, jN, a71, Ex.cellsOf_v, Sc.cellsOf_v, op_mk, t_mk, n_mk, m_mk, l_mk, z2, jG, jL, Sc.cs, Sc.fold, x.cells_eq, Ex.fold, y.cells_eq]
 repeat' first
  | (refine dx_br (fun hb => ?_) (fun hb => ?_) <;> simp -implicitDefEqProofs only [go_sem, rB, rA, rS, hb])
  | (first | refine dx_call (d_right _) ?_ | refine dx_pcall (d_right _) ?_); rintro u rfl; simp -implicitDefEqProofs only [go_sem, rB, rA, rS]
  | (first | refine dx_call (d_in _ _) ?_ | refine dx_pcall (d_in _ _) ?_); rintro u rfl; simp -implicitDefEqProofs only [go_sem, rB, rA, rS, rM, rL, rE, jL, jN, z0, z1, z2, w22, w42, two_ne, jT, jG, jH, jL, jB, Sc.cs, Sc.fold, fx, x.cells_eq, Ex.fold, fy, y.cells_eq]
  | (first | refine dx_call (d_result _ _) ?_ | refine dx_pcall (d_result _ _) ?_); rintro u ⟨_, rfl, hres⟩; simp -implicitDefEqProofs only [go_sem, rB, rA, rS, rM, rL, rE, jL, jN, z0, z1, z2, w22, w42, two_ne, jT, jG, jH, jL, jB, Sc.cs, Sc.fold, fx, x.cells_eq, Ex.fold, fy, y.cells_eq]
  | (first | refine dx_call (d_binary _) ?_ | refine dx_pcall (d_binary _) ?_); rintro u ⟨_, rfl, hbi⟩; simp -implicitDefEqProofs only [go_sem, rB, rA, rS, rM, rL, rE, jL, jN, z0, z1, z2, w22, w42, two_ne, jT, jG, jH, jL, jB, Sc.cs, Sc.fold, fx, x.cells_eq, Ex.fold, fy, y.cells_eq]
  | (first | refine dx_call (hx) ?_ | refine dx_pcall (hx) ?_); rintro u rfl; simp -implicitDefEqProofs only [go_sem, rB, rA, rS, rL, jL, jN, jG, jL, Sc.fold, Ex.fold]
  | (first | refine dx_call (hy) ?_ | refine dx_pcall (hy) ?_); rintro u rfl; simp -implicitDefEqProofs only [go_sem, rB, rA, rS, rL, jG, jB, fx, fy]
  | (refine dx_all ?_; simp -implicitDefEqProofs only [go_sem, rB, rA, rS, rM, rL, rE, jL, jN, z0, z1, z2, w22, w42, two_ne, jT, jG, jH, jL, jB, Sc.cs, Sc.fold, fx, x.cells_eq, Ex.fold, fy, y.cells_eq])
  | refine dx_all ?_
  | (refine dx_post _ (fun _ => (by simp -implicitDefEqProofs only [go_sem, rB, rA, rS, resultOf, mapM?, ARes.val]; exact rfl)) ?_; first | exact TyP.zero _ _ | exact TyP.of hg _ (fun ht => ⟨fun h => by omega, fun h => by omega, fun h => by omega, fun h => by omega, fun h => by omega, fun h => by omega, fun _ => ht⟩))
end TryzT
end Go.Abs
namespace Go.Abs
open Go
namespace TryzT

theorem type0_o (s : Sc) (o t n m : Int) (h1 : (o == 1) = false) (h2 : (o == 2) = false) (h3 : (o == 3) = false) (h4 : (o == 4) = false) (h5 : (o == 5) = false) (h6 : (o == 6) = false) (h7 : (o == 7) = false) (h8 : (o == 8) = false) : Det prog 71 [s.v, (Ex.mk o t n m []).v] (TyP s (.mk o t n m [])) := by
 refine Det.by_text rfl rfl ?_
 simp -implicitDefEqProofs only [go_sem, rB, rA, rS, rL, a71, Ex.cellsOf_v, Sc.cellsOf_v, op_mk, t_mk, n_mk, m_mk, l_mk, z0, h1, h2, h3, h4, h5, h6, h7, h8, jG, Sc.cs]
 repeat' first
  | (refine dx_br (fun hb => ?_) (fun hb => ?_) <;> simp -implicitDefEqProofs only [go_sem, rB, rA, rS, hb])
  | (first | refine dx_call (d_right _) ?_ | refine dx_pcall (d_right _) ?_); rintro u rfl; simp -implicitDefEqProofs only [go_sem, rB, rA, rS]
  | (first | refine dx_call (d_in _ _) ?_ | refine dx_pcall (d_in _ _) ?_); rintro u rfl; simp -implicitDefEqProofs only [go_sem, rB, rA, rS, rM, rL, rE, jL, jN, z0, z1, z2, h1, h2, h3, h4, h5, h6, h7, h8, jT, jG, jH, jL, jB, Sc.cs, Sc.fold]
  | (refine dx_all ?_; simp -implicitDefEqProofs only [go_sem, rB, rA, rS, rM, rL, rE, jL, jN, z0, z1, z2, h1, h2, h3, h4, h5, h6, h7, h8, jT, jG, jH, jL, jB, Sc.cs, Sc.fold])
  | refine dx_all ?_
  | (refine dx_post _ (fun _ => (by simp -implicitDefEqProofs only [go_sem, rB, rA, rS, resultOf, mapM?, ARes.val]; exact rfl)) ?_; exact TyP.zero _ _)

theorem type1_o (s : Sc) (o t n m : Int) (x : Ex) (tx : Int) (hx : Det prog 71 [s.v, x.v] (· = .int .i64 tx)) (fx : (tx == 0) = false) (h1 : (o == 1) = false) (h2 : (o == 2) = false) (h3 : (o == 3) = false) (h4 : (o == 4) = false) (h5 : (o == 5) = false) (h6 : (o == 6) = false) (h7 : (o == 7) = false) (h8 : (o == 8) = false) : Det prog 71 [s.v, (Ex.mk o t n m [x]).v] (TyP s (.mk o t n m [x])) := by
 refine Det.by_text rfl rfl ?_
 simp -implicitDefEqProofs only [go_sem, rB, rA, rS, rL, jL, jN, a71, Ex.cellsOf_v, Sc.cellsOf_v, op_mk, t_mk, n_mk, m_mk, l_mk, z1, jG, jL, Sc.cs, Sc.fold, x.cells_eq, Ex.fold]
 repeat' first
  | (refine dx_br (fun hb => ?_) (fun hb => ?_) <;> simp -implicitDefEqProofs only [go_sem, rB, rA, rS, hb])
  | (first | refine dx_call (d_right _) ?_ | refine dx_pcall (d_right _) ?_); rintro u rfl; simp -implicitDefEqProofs only [go_sem, rB, rA, rS]
  | (first | refine dx_call (d_in _ _) ?_ | refine dx_pcall (d_in _ _) ?_); rintro u rfl; simp -implicitDefEqProofs only [go_sem, rB, rA, rS, rM, rL, rE, jL, jN, z0, z1, z2, fx, h1, h2, h3, h4, h5, h6, h7, h8, jT, jG, jH, jL, jB, Sc.cs, Sc.fold, x.cells_eq, Ex.fold]
  | (first | refine dx_call (hx) ?_ | refine dx_pcall (hx) ?_); rintro u rfl; simp -implicitDefEqProofs only [go_sem, rB, rA, rS, rL, fx, h1, h2, h3, h4, h5, h6, h7, h8, jG]
  | (refine dx_all ?_; simp -implicitDefEqProofs only [go_sem, rB, rA, rS, rM, rL, rE, jL, jN, z0, z1, z2, fx, h1, h2, h3, h4, h5, h6, h7, h8, jT, jG, jH, jL, jB, Sc.cs, Sc.fold, x.cells_eq, Ex.fold])
  | refine dx_all ?_
  | (refine dx_post _ (fun _ => (by simp -implicitDefEqProofs only [go_sem, rB, rA, rS, resultOf, mapM?, ARes.val]; exact rfl)) ?_; exact TyP.zero _ _)

theorem type2_o (s : Sc) (o t n m : Int) (x : Ex) (tx : Int) (hx : Det prog 71 [s.v, x.v] (· = .int .i64 tx)) (fx : (tx == 0) = false) (y : Ex) (ty : Int) (hy : Det prog 71 [s.v, y.v] (· = .int .i64 ty)) (fy : (ty == 0) = false) (h1 : (o == 1) = false) (h2 : (o == 2) = false) (h3 : (o == 3) = false) (h4 : (o == 4) = false) (h5 : (o == 5) = false) (h6 : (o == 6) = false) (h7 : (o == 7) = false) (h8 : (o == 8) = false) : Det prog 71 [s.v, (Ex.mk o t n m [x, y]).v] (TyP s (.mk o t n m [x, y])) := by
 refine Det.by_text rfl rfl ?_
 simp -implicitDefEqProofs only [go_sem, rB, rA, rS, rL, jL, jN, a71, Ex.cellsOf_v, Sc.cellsOf_v, op_mk, t_mk, n_mk, m_mk, l_mk, z2, jG, jL, Sc.cs, Sc.fold, x.cells_eq, y.cells_eq, Ex.fold]
 repeat' first
  | (refine dx_br (fun hb => ?_) (fun hb => ?_) <;> simp -implicitDefEqProofs only [go_sem, rB, rA, rS, hb])
  | (first | refine dx_call (d_right _) ?_ | refine dx_pcall (d_right _) ?_); rintro u rfl; simp -implicitDefEqProofs only [go_sem, rB, rA, rS]
  | (first | refine dx_call (d_in _ _) ?_ | refine dx_pcall (d_in _ _) ?_); rintro u rfl; simp -implicitDefEqProofs only [go_sem, rB, rA, rS, rM, rL, rE, jL, jN, z0, z1, z2, two_ne, fx, fy, h1, h2, h3, h4, h5, h6, h7, h8, jT, jG, jH, jL, jB, Sc.cs, Sc.fold, x.cells_eq, y.cells_eq, Ex.fold]
  | (first | refine dx_call (hx) ?_ | refine dx_pcall (hx) ?_); rintro u rfl; simp -implicitDefEqProofs only [go_sem, rB, rA, rS, rL, jL, jN, jG, jL, Sc.fold, Ex.fold]
  | (first | refine dx_call (hy) ?_ | refine dx_pcall (hy) ?_); rintro u rfl; simp -implicitDefEqProofs only [go_sem, rB, rA, rS, rL, fx, fy, h1, h2, h3, h4, h5, h6, h7, h8, jG]
  | (refine dx_all ?_; simp -implicitDefEqProofs only [go_sem, rB, rA, rS, rM, rL, rE, jL, jN, z0, z1, z2, two_ne, fx, fy, h1, h2, h3, h4, h5, h6, h7, h8, jT, jG, jH, jL, jB, Sc.cs, Sc.fold, x.cells_eq, y.cells_eq, Ex.fold])
  | refine dx_all ?_
  | (refine dx_post _ (fun _ => (by simp -implicitDefEqProofs only [go_sem, rB, rA, rS, resultOf, mapM?, ARes.val]; exact rfl)) ?_; exact TyP.zero _ _)

theorem type1_z (s : Sc) (o t n m : Int) (x : Ex) (hx : Det prog 71 [s.v, x.v] (· = .int .i64 0)) : Det prog 71 [s.v, (Ex.mk o t n m [x]).v] (TyP s (.mk o t n m [x])) := by
 refine Det.by_text rfl rfl ?_
 simp -implicitDefEqProofs only [go_sem, rB, rA, rS, rL, jL, jN, a71, Ex.cellsOf_v, Sc.cellsOf_v, op_mk, t_mk, n_mk, m_mk, l_mk, z1, jG, jL, Sc.cs, Sc.fold, x.cells_eq, Ex.fold]
 repeat' first
  | (refine dx_br (fun hb => ?_) (fun hb => ?_) <;> simp -implicitDefEqProofs only [go_sem, rB, rA, rS, rM, rL, rE, jL, jN, hb, z0, z1, z2, jT, jG, jH, jL, jB, Sc.cs, Sc.fold, x.cells_eq, Ex.fold])
  | (first | refine dx_call (hx) ?_ | refine dx_pcall (hx) ?_); rintro u rfl; simp -implicitDefEqProofs only [go_sem, rB, rA, rS, jG, jB]
  | (refine dx_all ?_; simp -implicitDefEqProofs only [go_sem, rB, rA, rS, rM, rL, rE, jL, jN, z0, z1, z2, jT, jG, jH, jL, jB, Sc.cs, Sc.fold, x.cells_eq, Ex.fold])
  | refine dx_all ?_
  | (refine dx_post _ (fun _ => (by simp -implicitDefEqProofs only [go_sem, rB, rA, rS, resultOf, mapM?, ARes.val]; exact rfl)) ?_; exact TyP.zero _ _)

theorem type2_zx (s : Sc) (o t n m : Int) (x y : Ex) (ty : Int) (hx : Det prog 71 [s.v, x.v] (· = .int .i64 0)) (hy : Det prog 71 [s.v, y.v] (· = .int .i64 ty)) : Det prog 71 [s.v, (Ex.mk o t n m [x, y]).v] (TyP s (.mk o t n m [x, y])) := by
 refine Det.by_text rfl rfl ?_
 simp -implicitDefEqProofs only [go_sem, rB, rA, rS, rL, jL, jN, a71, Ex.cellsOf_v, Sc.cellsOf_v, op_mk, t_mk, n_mk, m_mk, l_mk, z2, jG, jL, Sc.cs, Sc.fold, x.cells_eq, y.cells_eq, Ex.fold]
 repeat' first
  | (refine dx_br (fun hb => ?_) (fun hb => ?_) <;> simp -implicitDefEqProofs only [go_sem, rB, rA, rS, rM, rL, rE, jL, jN, hb, z0, z1, z2, two_ne, jT, jG, jH, jL, jB, Sc.cs, Sc.fold, x.cells_eq, y.cells_eq, Ex.fold])
  | (first | refine dx_call (hx) ?_ | refine dx_pcall (hx) ?_); rintro u rfl; simp -implicitDefEqProofs only [go_sem, rB, rA, rS, rL, jL, jN, jG, jL, Sc.fold, Ex.fold]
  | (first | refine dx_call (hy) ?_ | refine dx_pcall (hy) ?_); rintro u rfl; simp -implicitDefEqProofs only [go_sem, rB, rA, rS, jG, jB]
  | (refine dx_all ?_; simp -implicitDefEqProofs only [go_sem, rB, rA, rS, rM, rL, rE, jL, jN, z0, z1, z2, two_ne, jT, jG, jH, jL, jB, Sc.cs, Sc.fold, x.cells_eq, y.cells_eq, Ex.fold])
  | refine dx_all ?_
  | (refine dx_post _ (fun _ => (by simp -implicitDefEqProofs only [go_sem, rB, rA, rS, resultOf, mapM?, ARes.val]; exact rfl)) ?_; exact TyP.zero _ _)

theorem type2_zy (s : Sc) (o t n m : Int) (x y : Ex) (tx : Int) (hx : Det prog 71 [s.v, x.v] (· = .int .i64 tx)) (fx : (tx == 0) = false) (hy : Det prog 71 [s.v, y.v] (· = .int .i64 0)) : Det prog 71 [s.v, (Ex.mk o t n m [x, y]).v] (TyP s (.mk o t n m [x, y])) := by
 refine Det.by_text rfl rfl ?_
 simp -implicitDefEqProofs only [go_sem, rB, rA, rS, rL, jL, jN, a71, Ex.cellsOf_v, Sc.cellsOf_v, op_mk, t_mk, n_mk, m_mk, l_mk, z2, jG, jL, Sc.cs, Sc.fold, x.cells_eq, y.cells_eq, Ex.fold]
 repeat' first
  | (refine dx_br (fun hb => ?_) (fun hb => ?_) <;> simp -implicitDefEqProofs only [go_sem, rB, rA, rS, rM, rL, rE, jL, jN, hb, z0, z1, z2, two_ne, fx, jT, jG, jH, jL, jB, Sc.cs, Sc.fold, x.cells_eq, y.cells_eq, Ex.fold])
  | (first | refine dx_call (hx) ?_ | refine dx_pcall (hx) ?_); rintro u rfl; simp -implicitDefEqProofs only [go_sem, rB, rA, rS, rL, jL, jN, jG, jL, Sc.fold, Ex.fold]
  | (first | refine dx_call (hy) ?_ | refine dx_pcall (hy) ?_); rintro u rfl; simp -implicitDefEqProofs only [go_sem, rB, rA, rS, fx, jG, jB]
  | (refine dx_all ?_; simp -implicitDefEqProofs only [go_sem, rB, rA, rS, rM, rL, rE, jL, jN, z0, z1, z2, two_ne, fx, jT, jG, jH, jL, jB, Sc.cs, Sc.fold, x.cells_eq, y.cells_eq, Ex.fold])
  | refine dx_all ?_
  | (refine dx_post _ (fun _ => (by simp -implicitDefEqProofs only [go_sem, rB, rA, rS, resultOf, mapM?, ARes.val]; exact rfl)) ?_; exact TyP.zero _ _)

theorem type2_r (s : Sc) (o t n m : Int) (x y : Ex) (tx ty : Int) (hx : Det prog 71 [s.v, x.v] (· = .int .i64 tx)) (hy : Det prog 71 [s.v, y.v] (· = .int .i64 ty)) (w : Ex) (r : List Ex) : Det prog 71 [s.v, (Ex.mk o t n m (x :: y :: w :: r)).v] (TyP s (.mk o t n m (x :: y :: w :: r))) := by
 have f1 : decide ((((r.length + 1 + 1 + 1 : Nat) : Int)) > 0) = true := by simp; omega
 have f2 : decide ((((r.length + 1 + 1 + 1 : Nat) : Int)) > 1) = true := by simp; omega
 have f3 : decide ((((r.length + 1 + 1 + 1 : Nat) : Int)) > 2) = true := by simp; omega
 have f4 : (0 < r.length + 1 + 1 + 1) = True := by simp
 have f5 : (1 < r.length + 1 + 1 + 1) = True := by simp
 refine Det.by_text rfl rfl ?_
 simp -implicitDefEqProofs only [go_sem, rB, rA, rS, rL, jL, jN, a71, Ex.cellsOf_v, Sc.cellsOf_v, op_mk, t_mk, n_mk, m_mk, l_mk, f1, jL, Sc.cs, Sc.fold, x.cells_eq, y.cells_eq, Ex.fold]
 repeat' first
  | (refine dx_br (fun hb => ?_) (fun hb => ?_) <;> simp -implicitDefEqProofs only [go_sem, rB, rA, rS, rM, rL, rE, jL, jN, hb, z0, z1, z2, two_ne, f1, f2, f3, f4, f5, jT, jG, jH, jL, jB, Sc.cs, Sc.fold, x.cells_eq, y.cells_eq, Ex.fold])
  | (first | refine dx_call (hx) ?_ | refine dx_pcall (hx) ?_); rintro u rfl; simp -implicitDefEqProofs only [go_sem, rB, rA, rS, rL, jL, jN, f2, jL, Sc.fold, Ex.fold]
  | (first | refine dx_call (hy) ?_ | refine dx_pcall (hy) ?_); rintro u rfl; simp -implicitDefEqProofs only [go_sem, rB, rA, rS, f3]
  | (refine dx_all ?_; simp -implicitDefEqProofs only [go_sem, rB, rA, rS, rM, rL, rE, jL, jN, z0, z1, z2, two_ne, f1, f2, f3, f4, f5, jT, jG, jH, jL, jB, Sc.cs, Sc.fold, x.cells_eq, y.cells_eq, Ex.fold])
  | refine dx_all ?_
  | (refine dx_post _ (fun _ => (by simp -implicitDefEqProofs only [go_sem, rB, rA, rS, resultOf, mapM?, ARes.val]; exact rfl)) ?_; exact TyP.zero _ _)

end TryzT
end Go.Abs
namespace Go.Abs
open Go
namespace TryzT
theorem type0_5_in (s : Sc) (t n m : Int) (k : Nat) (hn : n = k) (v : Bk) (hv : s.blocks[k]? = some v) : Det prog 71 [s.v, (Ex.mk 5 t n m []).v] (TyP s (.mk 5 t k m [])) := by
 subst hn
 have hk := (lS.1 hv).1
 have f1 : decide ((k : Int) ≥ 0) = true := by simp
 have f2 : decide ((k : Int) < (s.blocks.length : Int)) = true := by simpa using hk
 have hg : Good s (.mk 5 t k m []) := .mk _ _ _ _ _ (fun h => by omega) (fun h => by omega) (fun _ => ⟨by omega, by omega⟩) (fun i e _ h => by simp at h)
 by_cases h0 : 0 ≤ m ∧ m < (ftypes v.kind).length
 ·obtain ⟨h0, h1⟩ := h0
  obtain ⟨j, rfl⟩ := Int.eq_ofNat_of_zero_le h0
  have hj : j < (ftypes v.kind).length := by omega
  have g1 : decide ((j : Int) ≥ 0) = true := by simp
  have g2 : decide ((j : Int) < ((ftypes v.kind).length : Int)) = true := by simpa using hj
  have g3 : (ftypes v.kind)[j]? = some (ftypes v.kind)[j] := lG hj
  refine Det.by_text rfl rfl ?_
  simp -implicitDefEqProofs only [go_sem, rB, rA, rS, rL, a71, Ex.cellsOf_v, Sc.cellsOf_v, op_mk, t_mk, n_mk, m_mk, l_mk, z0, jG, jB, Sc.cs]
  repeat' first
   | (refine dx_br (fun hb => ?_) (fun hb => ?_) <;> simp -implicitDefEqProofs only [go_sem, rB, rA, rS, rL, hb, f2, hv, Bk.cells])
   | (first | refine dx_call (d_right _) ?_ | refine dx_pcall (d_right _) ?_); rintro u rfl; simp -implicitDefEqProofs only [go_sem, rB, rA, rS]
   | (first | refine dx_call (d_fields _) ?_ | refine dx_pcall (d_fields _) ?_); rintro u rfl; simp -implicitDefEqProofs only [go_sem, rB, rA, rS, rL, fieldsV, intsV, g2, g3, intC]
   | (refine dx_all ?_; simp -implicitDefEqProofs only [go_sem, rB, rA, rS, rM, rL, rE, jL, jN, z0, z1, z2, two_ne, jT, jG, jH, jL, jB, Sc.cs, Sc.fold, f1, f2, hv, Bk.cells, fieldsV, intsV, g1, g2, g3, intC])
   | refine dx_all ?_
   | (refine dx_post _ (fun _ => (by simp -implicitDefEqProofs only [go_sem, rB, rA, rS, resultOf, mapM?, ARes.val]; exact rfl)) ?_; first | exact TyP.zero _ _ | exact TyP.of hg _ (fun ht => ⟨fun h => by omega, fun h => by omega, fun h => by omega, fun _ => ⟨v, by simpa using hv, by simpa [ht] using g3⟩, fun h => by omega, fun h => by omega, fun h => by omega⟩))
 ·by_cases h1 : 0 ≤ m
  ·have g1 : decide (m ≥ 0) = true := by simpa using h1
   have g2 : decide (m < ((ftypes v.kind).length : Int)) = false := by simp; omega
   refine Det.by_text rfl rfl ?_
   simp -implicitDefEqProofs only [go_sem, rB, rA, rS, rL, a71, Ex.cellsOf_v, Sc.cellsOf_v, op_mk, t_mk, n_mk, m_mk, l_mk, z0, jG, jB, Sc.cs]
   repeat' first
    | (refine dx_br (fun hb => ?_) (fun hb => ?_) <;> simp -implicitDefEqProofs only [go_sem, rB, rA, rS, rL, hb, f2, hv, Bk.cells])
    | (first | refine dx_call (d_right _) ?_ | refine dx_pcall (d_right _) ?_); rintro u rfl; simp -implicitDefEqProofs only [go_sem, rB, rA, rS]
    | (first | refine dx_call (d_fields _) ?_ | refine dx_pcall (d_fields _) ?_); rintro u rfl; simp -implicitDefEqProofs only [go_sem, rB, rA, rS, rL, fieldsV, intsV, g1, g2]
    | (refine dx_all ?_; simp -implicitDefEqProofs only [go_sem, rB, rA, rS, rM, rL, rE, jL, jN, z0, z1, z2, two_ne, jT, jG, jH, jL, jB, Sc.cs, Sc.fold, f1, f2, hv, Bk.cells, fieldsV, intsV, g1, g2, intC])
    | refine dx_all ?_
    | (refine dx_post _ (fun _ => (by simp -implicitDefEqProofs only [go_sem, rB, rA, rS, resultOf, mapM?, ARes.val]; exact rfl)) ?_; exact TyP.zero _ _)
  ·have g1 : decide (m ≥ 0) = false := by simp; omega
   refine Det.by_text rfl rfl ?_
   simp -implicitDefEqProofs only [go_sem, rB, rA, rS, rL, a71, Ex.cellsOf_v, Sc.cellsOf_v, op_mk, t_mk, n_mk, m_mk, l_mk, z0, jG, jB, Sc.cs]
   repeat' first
    | (refine dx_br (fun hb => ?_) (fun hb => ?_) <;> simp -implicitDefEqProofs only [go_sem, rB, rA, rS, rL, hb, f2, hv, Bk.cells])
    | (first | refine dx_call (d_right _) ?_ | refine dx_pcall (d_right _) ?_); rintro u rfl; simp -implicitDefEqProofs only [go_sem, rB, rA, rS]
    | (first | refine dx_call (d_fields _) ?_ | refine dx_pcall (d_fields _) ?_); rintro u rfl; simp -implicitDefEqProofs only [go_sem, rB, rA, rS, rL, fieldsV, intsV, g1]
    | (refine dx_all ?_; simp -implicitDefEqProofs only [go_sem, rB, rA, rS, rM, rL, rE, jL, jN, z0, z1, z2, two_ne, jT, jG, jH, jL, jB, Sc.cs, Sc.fold, f1, f2, hv, Bk.cells, fieldsV, intsV, g1, intC])
    | refine dx_all ?_
    | (refine dx_post _ (fun _ => (by simp -implicitDefEqProofs only [go_sem, rB, rA, rS, resultOf, mapM?, ARes.val]; exact rfl)) ?_; exact TyP.zero _ _)
end TryzT
end Go.Abs
namespace Go.Abs
open Go
theorem nat_of {n : Int} {k : Nat} (h : 0 ≤ n ∧ n < k) : ∃ j : Nat, n = j ∧ j < k := by
 obtain ⟨j, rfl⟩ := Int.eq_ofNat_of_zero_le h.1
 exact ⟨j, rfl, by omega⟩
namespace TryzT
theorem type0_all (s : Sc) (o t n m : Int) : Det prog 71 [s.v, (Ex.mk o t n m []).v] (TyP s (.mk o t n m [])) := by
 by_cases h1 : o = 1
 ·subst h1
  exact type0_1 s t n m
 by_cases h2 : o = 2
 ·subst h2
  by_cases hr : 0 ≤ n ∧ n < (s.vars.length : Int)
  ·obtain ⟨j, rfl, hj⟩ := nat_of hr
   exact type0_2_in s t _ m j rfl _ (lG hj)
  ·exact type0_2_out s t n m hr
 by_cases h3 : o = 3
 ·subst h3
  by_cases hr : 0 ≤ n ∧ n < (s.slots.length : Int)
  ·obtain ⟨j, rfl, hj⟩ := nat_of hr
   exact type0_3_in s t _ m j rfl _ (lG hj)
  ·exact type0_3_out s t n m hr
 by_cases h4 : o = 4
 ·subst h4
  exact type0_4 s t n m
 by_cases h5 : o = 5
 ·subst h5
  by_cases hr : 0 ≤ n ∧ n < (s.blocks.length : Int)
  ·obtain ⟨j, rfl, hj⟩ := nat_of hr
   exact type0_5_in s t _ m j rfl _ (lG hj)
  ·exact type0_5_out s t n m hr
 by_cases h6 : o = 6
 ·subst h6
  exact type0_6 s t n m
 by_cases h7 : o = 7
 ·subst h7
  exact type0_7 s t n m
 by_cases h8 : o = 8
 ·subst h8
  exact type0_8 s t n m
 exact type0_o s o t n m (by simpa using h1) (by simpa using h2) (by simpa using h3) (by simpa using h4) (by simpa using h5) (by simpa using h6) (by simpa using h7) (by simpa using h8)

theorem type1_all (s : Sc) (o t n m : Int) (x : Ex) (tx : Int) (hx : Det prog 71 [s.v, x.v] (· = .int .i64 tx)) (gx : Good s x) (nx : tx ≠ 0) : Det prog 71 [s.v, (Ex.mk o t n m [x]).v] (TyP s (.mk o t n m [x])) := by
 have fx : (tx == 0) = false := by simpa using nx
 by_cases h1 : o = 1
 ·subst h1
  exact type1_1 s t n m x tx hx gx nx
 by_cases h2 : o = 2
 ·subst h2
  exact type1_2 s t n m x tx hx gx nx
 by_cases h3 : o = 3
 ·subst h3
  exact type1_3 s t n m x tx hx gx nx
 by_cases h4 : o = 4
 ·subst h4
  by_cases hr : 0 ≤ n ∧ n < (s.vars.length : Int)
  ·obtain ⟨j, rfl, hj⟩ := nat_of hr
   exact type1_4_in s t _ m x tx hx gx nx j rfl _ (lG hj)
  ·exact type1_4_out s t n m x tx hx gx nx hr
 by_cases h5 : o = 5
 ·subst h5
  exact type1_5 s t n m x tx hx gx nx
 by_cases h6 : o = 6
 ·subst h6
  exact type1_6 s t n m x tx hx gx nx
 by_cases h7 : o = 7
 ·subst h7
  exact type1_7 s t n m x tx hx gx nx
 by_cases h8 : o = 8
 ·subst h8
  exact type1_8 s t n m x tx hx gx nx
 exact type1_o s o t n m x tx hx fx (by simpa using h1) (by simpa using h2) (by simpa using h3) (by simpa using h4) (by simpa using h5) (by simpa using h6) (by simpa using h7) (by simpa using h8)

theorem type2_all (s : Sc) (o t n m : Int) (x : Ex) (tx : Int) (hx : Det prog 71 [s.v, x.v] (· = .int .i64 tx)) (gx : Good s x) (nx : tx ≠ 0) (y : Ex) (ty : Int) (hy : Det prog 71 [s.v, y.v] (· = .int .i64 ty)) (gy : Good s y) (ny : ty ≠ 0) : Det prog 71 [s.v, (Ex.mk o t n m [x, y]).v] (TyP s (.mk o t n m [x, y])) := by
 have fx : (tx == 0) = false := by simpa using nx
 have fy : (ty == 0) = false := by simpa using ny
 by_cases h1 : o = 1
 ·subst h1
  exact type2_1 s t n m x tx hx gx nx y ty hy gy ny
 by_cases h2 : o = 2
 ·subst h2
  exact type2_2 s t n m x tx hx gx nx y ty hy gy ny
 by_cases h3 : o = 3
 ·subst h3
  exact type2_3 s t n m x tx hx gx nx y ty hy gy ny
 by_cases h4 : o = 4
 ·subst h4
  exact type2_4 s t n m x tx hx gx nx y ty hy gy ny
 by_cases h5 : o = 5
 ·subst h5
  exact type2_5 s t n m x tx hx gx nx y ty hy gy ny
 by_cases h6 : o = 6
 ·subst h6
  exact type2_6 s t n m x tx hx gx nx y ty hy gy ny
 by_cases h7 : o = 7
 ·subst h7
  exact type2_7 s t n m x tx hx gx nx y ty hy gy ny
 by_cases h8 : o = 8
 ·subst h8
  exact type2_8 s t n m x tx hx gx nx y ty hy gy ny
 exact type2_o s o t n m x tx hx fx y ty hy fy (by simpa using h1) (by simpa using h2) (by simpa using h3) (by simpa using h4) (by simpa using h5) (by simpa using h6) (by simpa using h7) (by simpa using h8)

theorem d_type (s : Sc) (e : Ex) : Det prog 71 [s.v, e.v] (TyP s e) := by
 induction hn : e.size using Nat.strongRecOn generalizing e with
 | ind k ih =>
 subst hn
 match e with
 | .mk o t n m [] => exact type0_all s o t n m
 | .mk o t n m [x] =>
  obtain ⟨_, ⟨tx, rfl, gx, _⟩, hx⟩ := ih _ (by have := size_mem (l := [x]) (k := 0) rfl; simp only [Ex.size]; omega) x rfl
  have hx : Det prog 71 [s.v, x.v] (· = .int .i64 tx) := ⟨_, rfl, hx⟩
  by_cases h : tx = 0
  ·subst h; exact type1_z s o t n m x hx
  ·exact type1_all s o t n m x tx hx (gx h) h
 | .mk o t n m [x, y] =>
  obtain ⟨_, ⟨tx, rfl, gx, _⟩, hx⟩ := ih _ (by have := size_mem (l := [x, y]) (k := 0) rfl; simp only [Ex.size]; omega) x rfl
  obtain ⟨_, ⟨ty, rfl, gy, _⟩, hy⟩ := ih _ (by have := size_mem (l := [x, y]) (k := 1) rfl; simp only [Ex.size]; omega) y rfl
  have hx : Det prog 71 [s.v, x.v] (· = .int .i64 tx) := ⟨_, rfl, hx⟩
  have hy : Det prog 71 [s.v, y.v] (· = .int .i64 ty) := ⟨_, rfl, hy⟩
  by_cases h : tx = 0
  ·subst h; exact type2_zx s o t n m x y ty hx hy
  by_cases h' : ty = 0
  ·subst h'; exact type2_zy s o t n m x y tx hx (by simpa using h) hy
  ·exact type2_all s o t n m x tx hx (gx h) h y ty hy (gy h') h'
 | .mk o t n m (x :: y :: w :: r) =>
  obtain ⟨_, ⟨tx, rfl, gx, _⟩, hx⟩ := ih _ (by have := size_mem (l := (x :: y :: w :: r)) (k := 0) rfl; simp only [Ex.size]; omega) x rfl
  obtain ⟨_, ⟨ty, rfl, gy, _⟩, hy⟩ := ih _ (by have := size_mem (l := (x :: y :: w :: r)) (k := 1) rfl; simp only [Ex.size]; omega) y rfl
  exact type2_r s o t n m x y tx ty ⟨_, rfl, hx⟩ ⟨_, rfl, hy⟩ w r
end TryzT
end Go.Abs
namespace Go.Abs
open Go
namespace TryzT
def VarOk (s : Sc) (x : St) : Prop := ∃ (k : Nat) (v : Vr), x.n = k ∧ s.vars[k]? = some v ∧ Good s x.e ∧ (v.t = 1 → B1 s x.e) ∧ (x.kind = 3 → Good s x.i)
def SlotOk (s : Sc) (x : St) : Prop := ∃ (k : Nat) (t : Int), x.n = k ∧ s.slots[k]? = some t ∧ Good s x.e ∧ (t = 1 → B1 s x.e)
def InOk (s : Sc) (n : Int) (e : Ex) : Prop := ∃ (k : Nat) (b : Bk), n = k ∧ s.blocks[k]? = some b ∧ Good s e
def BlockOk (s : Sc) (x : St) : Prop := (∃ (k : Nat) (b : Bk), x.n = k ∧ s.blocks[k]? = some b) ∧ ∀ a ∈ x.args, Good s a.e
def YesP (P : Prop) (v : V) : Prop := ∃ b : Bool, v = .bool b ∧ (b = true → P)
theorem YesP.no (P : Prop) : YesP P (.bool false) := ⟨false, rfl, fun h => by cases h⟩
theorem ftypes_ne (k : Int) (i : Nat) (t : Int) (h : (ftypes k)[i]? = some t) : t ≠ 0 := by
 have hm := lM h
 unfold ftypes at hm
 repeat' split at hm
 all_goals (simp at hm; try omega)
theorem input101 (s : Sc) (n i : Int) (e : Ex) : Ret prog 101 [s.v, .int .i64 n, .int .i64 i, e.v] Heap.none fun r _ => YesP (InOk s n e) r := by
 by_cases hr : 0 ≤ n ∧ n < (s.blocks.length : Int)
 ·obtain ⟨k, rfl, hk⟩ := nat_of hr
  obtain ⟨b, hb0⟩ : ∃ b, s.blocks[k]? = some b := ⟨_, lG hk⟩
  have f1 : decide ((k : Int) < 0) = false := by simp
  have f2 : decide ((k : Int) ≥ (s.blocks.length : Int)) = false := by simp; omega
  refine Ret.by_text rfl rfl ?_
  simp -implicitDefEqProofs only [go_sem, rB, rA, rS, rL, a101, Ex.cellsOf_v, Sc.cellsOf_v, Sc.cs, f1, f2, hb0, Bk.cells]
  repeat' first
   | (refine br_intro (fun hb => ?_) (fun hb => ?_) <;> simp -implicitDefEqProofs only [go_sem, rB, rA, rS, rL, hb, Sc.fold, Ex.fold])
   | (first | refine callOk_det (d_fields _) ?_ | refine callPure_det (d_fields _) ?_ | refine callOk_of (d_fields _) ?_ | refine callPure_of (d_fields _) ?_); rintro u rfl; simp -implicitDefEqProofs only [go_sem, rB, rA, rS, fieldsV, intsV]
   | (refine fun (g : Nat) => ?_; simp -implicitDefEqProofs only [go_sem, rB, rA, rS, rM, rL, rE, jL, jN, Sc.cs, Sc.fold, Ex.fold, f1, f2, hb0, Bk.cells, fieldsV, intsV])
   | refine fun (g : Nat) => ?_
   | (refine post_ret (v := _) (by simp -implicitDefEqProofs only [go_sem, rB, rA, rS, resultOf, mapM?, ARes.val]; exact rfl) ?_; exact YesP.no _)
  all_goals
   have i0 : 0 ≤ i := by simp_all
   obtain ⟨j, rfl⟩ := Int.eq_ofNat_of_zero_le i0
   have hj : j < (ftypes b.kind).length := by have := fcount_le b.kind; simp_all; omega
   obtain ⟨t, ht⟩ : ∃ t, (ftypes b.kind)[j]? = some t := ⟨_, lG hj⟩
   have hne := ftypes_ne _ _ _ ht
   obtain ⟨_, ⟨tx, rfl, gx, _⟩, hx⟩ := d_type s e
   refine callOk_of hx ?_
   rintro u rfl
   simp -implicitDefEqProofs only [go_sem, rB, rA, rS, rL, ht, intC]
   repeat' first
    | (refine br_intro (fun hb => ?_) (fun hb => ?_) <;> simp -implicitDefEqProofs only [go_sem, rB, rA, rS, rM, rL, rE, jL, jN, hb])
    | (refine fun (g : Nat) => ?_; simp -implicitDefEqProofs only [go_sem, rB, rA, rS, rM, rL, rE, jL, jN])
    | refine fun (g : Nat) => ?_
    | (refine post_ret (v := _) (by simp -implicitDefEqProofs only [go_sem, rB, rA, rS, resultOf, mapM?, ARes.val]; exact rfl) ?_; exact ⟨_, rfl, fun h => ⟨k, b, rfl, hb0, gx (by simp at h; rw [h]; exact hne)⟩⟩)
 ·by_cases h0 : 0 ≤ n
  ·have f1 : decide (n < 0) = false := by simp; omega
   have f2 : decide (n ≥ (s.blocks.length : Int)) = true := by simp; omega
   refine Ret.by_text rfl rfl ?_
   simp -implicitDefEqProofs only [go_sem, rB, rA, rS, rL, a101, Ex.cellsOf_v, Sc.cellsOf_v, Sc.cs, f1, f2]
   repeat' first
    | (refine br_intro (fun hb => ?_) (fun hb => ?_) <;> simp -implicitDefEqProofs only [go_sem, rB, rA, rS, rM, rL, rE, jL, jN, hb, Sc.cs, Sc.fold, Ex.fold, f1, f2])
    | (refine fun (g : Nat) => ?_; simp -implicitDefEqProofs only [go_sem, rB, rA, rS, rM, rL, rE, jL, jN, Sc.cs, Sc.fold, Ex.fold, f1, f2])
    | refine fun (g : Nat) => ?_
    | (refine post_ret (v := _) (by simp -implicitDefEqProofs only [go_sem, rB, rA, rS, resultOf, mapM?, ARes.val]; exact rfl) ?_; exact YesP.no _)
  ·have f1 : decide (n < 0) = true := by simp; omega
   refine Ret.by_text rfl rfl ?_
   simp -implicitDefEqProofs only [go_sem, rB, rA, rS, a101, Ex.cellsOf_v, Sc.cellsOf_v, Sc.cs, f1]
   repeat' first
    | (refine br_intro (fun hb => ?_) (fun hb => ?_) <;> simp -implicitDefEqProofs only [go_sem, rB, rA, rS, rM, rL, rE, jL, jN, hb, Sc.cs, Sc.fold, Ex.fold, f1])
    | (refine fun (g : Nat) => ?_; simp -implicitDefEqProofs only [go_sem, rB, rA, rS, rM, rL, rE, jL, jN, Sc.cs, Sc.fold, Ex.fold, f1])
    | refine fun (g : Nat) => ?_
    | (refine post_ret (v := _) (by simp -implicitDefEqProofs only [go_sem, rB, rA, rS, resultOf, mapM?, ARes.val]; exact rfl) ?_; exact YesP.no _)
theorem call102 (s : Sc) (hs : s.sigs.length ≤ 1) (x : St) : Ret prog 102 [s.v, x.v] Heap.none fun r _ => r = .bool false := by
 refine Ret.by_text rfl rfl ?_
 simp -implicitDefEqProofs only [go_sem, rB, rA, rS, rL, a102, St.cellsOf_v, Sc.cellsOf_v, Sc.cs, St.cs]
 by_cases h1 : x.n < 1
 ·have f1 : decide (x.n < 1) = true := by simpa using h1
  repeat' first
   | (refine br_intro (fun hb => ?_) (fun hb => ?_) <;> simp -implicitDefEqProofs only [go_sem, rB, rA, rS, rM, rL, rE, jL, jN, hb, Sc.cs, St.cs, Sc.fold, St.fold, f1])
   | (refine fun (g : Nat) => ?_; simp -implicitDefEqProofs only [go_sem, rB, rA, rS, f1])
   | refine fun (g : Nat) => ?_
   | (refine post_ret (v := _) (by simp -implicitDefEqProofs only [go_sem, rB, rA, rS, resultOf, mapM?, ARes.val]; exact rfl) ?_; rfl)
 ·have f1 : decide (x.n < 1) = false := by simpa using h1
  have f2 : decide (x.n ≥ (s.sigs.length : Int)) = true := by simp; omega
  repeat' first
   | (refine br_intro (fun hb => ?_) (fun hb => ?_) <;> simp -implicitDefEqProofs only [go_sem, rB, rA, rS, rM, rL, rE, jL, jN, hb, Sc.cs, St.cs, Sc.fold, St.fold, f1, f2])
   | (refine fun (g : Nat) => ?_; simp -implicitDefEqProofs only [go_sem, rB, rA, rS, rL, f1, f2])
   | refine fun (g : Nat) => ?_
   | (refine post_ret (v := _) (by simp -implicitDefEqProofs only [go_sem, rB, rA, rS, resultOf, mapM?, ARes.val]; exact rfl) ?_; rfl)
end TryzT
end Go.Abs
