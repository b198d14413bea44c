/-
  A part of the proof. Conditions: none.
-/
import Derived.Test.YtfgkfjmbjopfgaaGreatP5
set_option linter.unusedVariables false
set_option linter.unusedSimpArgs false
set_option maxRecDepth 100000
set_option maxHeartbeats 16000000
open Nat renaming reduceBEq → rB, reduceAdd → rA, reduceSub → rS, reduceLeDiff → rL, reduceMul → rM, reduceEqDiff → rE
open Int renaming reduceLE → jL, reduceToNat → jN, reduceBEq → jB, reduceGT → jG
open List renaming getElem?_eq_getElem → lG, mem_of_getElem? → lM
namespace Go.Abs
open Go
def BareP (x : St) : Prop := (x.kind < 7 ∨ x.kind > 10 → x.body = []) ∧ (x.kind ≠ 7 → x.kind ≠ 11 → x.els = []) ∧ (x.kind ≠ 11 → x.arms = [])
theorem len0 {α : Type} {l : List α} (h : ((l.length : Int) == 0) = true) : l = [] := List.eq_nil_of_length_eq_zero (by simp at h; simp [h])
namespace TryzT
def HasP (x : St) (v : V) : Prop := ∃ b : Bool, v = .bool b ∧ (b = true → BareP x)
theorem has_0 (x : St) (he : x.e.size ≤ 100) (hi : x.i.size ≤ 100) (hk : x.kind = 0) : Ret prog 100 [x.v, .bool false, .bool false, .bool false, .bool false] Heap.none fun r _ => HasP x r := by
 refine Ret.by_text rfl rfl ?_
 simp -implicitDefEqProofs only [go_sem, rB, rA, rS, rL, a100, St.cellsOf_v, St.cs, hk]
 repeat' first
  | (refine br_intro (fun hb => ?_) (fun hb => ?_) <;> simp -implicitDefEqProofs only [go_sem, rB, rA, rS, rL, hb, jB, Ex.fold])
  | (first | refine callOk_det (none106 _ (by omega)) ?_ | refine callPure_det (none106 _ (by omega)) ?_ | refine callOk_of (none106 _ (by omega)) ?_ | refine callPure_of (none106 _ (by omega)) ?_); rintro u ⟨_, rfl⟩; simp -implicitDefEqProofs only [go_sem, rB, rA, rS]
  | (refine fun (g : Nat) => ?_; simp -implicitDefEqProofs only [go_sem, rB, rA, rS, rM, rL, rE, jL, jN, hk, jB, Ex.fold])
  | refine fun (g : Nat) => ?_
  | (refine post_ret (v := _) (by simp -implicitDefEqProofs only [go_sem, rB, rA, rS, resultOf, mapM?, ARes.val]; exact rfl) ?_; first | exact ⟨false, rfl, fun h => by cases h⟩ | exact ⟨_, rfl, fun _ => ⟨fun _ => len0 (by assumption), fun _ _ => len0 (by assumption), fun _ => len0 (by assumption)⟩⟩ | exact ⟨_, rfl, fun hq => ⟨fun _ => len0 (by first | assumption | exact hq), fun _ _ => len0 (by first | assumption | exact hq), fun _ => len0 (by first | assumption | exact hq)⟩⟩)
theorem bare_0 (x : St) (he : x.e.size ≤ 100) (hi : x.i.size ≤ 100) (hk : x.kind = 0) : Ret prog 85 [x.v] Heap.none fun r _ => HasP x r := by
 refine Ret.by_text rfl rfl ?_
 have f0 : (x.kind == 0) = true := by rw [hk]; rfl
 have f1 : (x.kind == 1) = false := by rw [hk]; rfl
 have f2 : (x.kind == 2) = false := by rw [hk]; rfl
 have f3 : (x.kind == 3) = false := by rw [hk]; rfl
 have f4 : (x.kind == 4) = false := by rw [hk]; rfl
 have f5 : (x.kind == 5) = false := by rw [hk]; rfl
 have f6 : (x.kind == 6) = false := by rw [hk]; rfl
 have f7 : (x.kind == 7) = false := by rw [hk]; rfl
 have f8 : (x.kind == 8) = false := by rw [hk]; rfl
 have f9 : (x.kind == 9) = false := by rw [hk]; rfl
 have f10 : (x.kind == 10) = false := by rw [hk]; rfl
 have f11 : (x.kind == 11) = false := by rw [hk]; rfl
 have f12 : (x.kind == 12) = false := by rw [hk]; rfl
 have f13 : (x.kind == 13) = false := by rw [hk]; rfl
 have f14 : (x.kind == 14) = false := by rw [hk]; rfl
 simp -implicitDefEqProofs only [go_sem, rB, rA, rS, rL, a85, St.cellsOf_v, St.cs, f0, St.fold]
 repeat' first
  | (refine br_intro (fun hb => ?_) (fun hb => ?_) <;> simp -implicitDefEqProofs only [go_sem, rB, rA, rS, rM, rL, rE, jL, jN, hb, f0, f1, f2, f3, f4, f5, f6, f7, f8, f9, f10, f11, f12, f13, f14, St.cs, St.fold])
  | (first | refine callOk_det (has_0 _ he hi hk) ?_ | refine callPure_det (has_0 _ he hi hk) ?_ | refine callOk_of (has_0 _ he hi hk) ?_ | refine callPure_of (has_0 _ he hi hk) ?_); rintro u ⟨_, rfl, hb⟩; simp -implicitDefEqProofs only [go_sem, rB, rA, rS]
  | (refine fun (g : Nat) => ?_; simp -implicitDefEqProofs only [go_sem, rB, rA, rS, rM, rL, rE, jL, jN, f0, f1, f2, f3, f4, f5, f6, f7, f8, f9, f10, f11, f12, f13, f14, St.cs, St.fold])
  | refine fun (g : Nat) => ?_
  | (refine post_ret (v := _) (by simp -implicitDefEqProofs only [go_sem, rB, rA, rS, resultOf, mapM?, ARes.val]; exact rfl) ?_; exact ⟨_, rfl, hb⟩)
theorem has_1 (x : St) (he : x.e.size ≤ 100) (hi : x.i.size ≤ 100) (hk : x.kind = 1) : Ret prog 100 [x.v, .bool true, .bool false, .bool true, .bool false] Heap.none fun r _ => HasP x r := by
 refine Ret.by_text rfl rfl ?_
 simp -implicitDefEqProofs only [go_sem, rB, rA, rS, rL, a100, St.cellsOf_v, St.cs, hk]
 repeat' first
  | (refine br_intro (fun hb => ?_) (fun hb => ?_) <;> simp -implicitDefEqProofs only [go_sem, rB, rA, rS, rL, hb, jB, Ex.fold])
  | (first | refine callOk_det (none106 _ (by omega)) ?_ | refine callPure_det (none106 _ (by omega)) ?_ | refine callOk_of (none106 _ (by omega)) ?_ | refine callPure_of (none106 _ (by omega)) ?_); rintro u ⟨_, rfl⟩; simp -implicitDefEqProofs only [go_sem, rB, rA, rS]
  | (refine fun (g : Nat) => ?_; simp -implicitDefEqProofs only [go_sem, rB, rA, rS, rM, rL, rE, jL, jN, hk, jB, Ex.fold])
  | refine fun (g : Nat) => ?_
  | (refine post_ret (v := _) (by simp -implicitDefEqProofs only [go_sem, rB, rA, rS, resultOf, mapM?, ARes.val]; exact rfl) ?_; first | exact ⟨false, rfl, fun h => by cases h⟩ | exact ⟨_, rfl, fun _ => ⟨fun _ => len0 (by assumption), fun _ _ => len0 (by assumption), fun _ => len0 (by assumption)⟩⟩ | exact ⟨_, rfl, fun hq => ⟨fun _ => len0 (by first | assumption | exact hq), fun _ _ => len0 (by first | assumption | exact hq), fun _ => len0 (by first | assumption | exact hq)⟩⟩)
theorem bare_1 (x : St) (he : x.e.size ≤ 100) (hi : x.i.size ≤ 100) (hk : x.kind = 1) : Ret prog 85 [x.v] Heap.none fun r _ => HasP x r := by
 refine Ret.by_text rfl rfl ?_
 have f0 : (x.kind == 0) = false := by rw [hk]; rfl
 have f1 : (x.kind == 1) = true := by rw [hk]; rfl
 have f2 : (x.kind == 2) = false := by rw [hk]; rfl
 have f3 : (x.kind == 3) = false := by rw [hk]; rfl
 have f4 : (x.kind == 4) = false := by rw [hk]; rfl
 have f5 : (x.kind == 5) = false := by rw [hk]; rfl
 have f6 : (x.kind == 6) = false := by rw [hk]; rfl
 have f7 : (x.kind == 7) = false := by rw [hk]; rfl
 have f8 : (x.kind == 8) = false := by rw [hk]; rfl
 have f9 : (x.kind == 9) = false := by rw [hk]; rfl
 have f10 : (x.kind == 10) = false := by rw [hk]; rfl
 have f11 : (x.kind == 11) = false := by rw [hk]; rfl
 have f12 : (x.kind == 12) = false := by rw [hk]; rfl
 have f13 : (x.kind == 13) = false := by rw [hk]; rfl
 have f14 : (x.kind == 14) = false := by rw [hk]; rfl
 simp -implicitDefEqProofs only [go_sem, rB, rA, rS, rL, a85, St.cellsOf_v, St.cs, f0, f1, f12, f13, f14, St.fold]
 repeat' first
  | (refine br_intro (fun hb => ?_) (fun hb => ?_) <;> simp -implicitDefEqProofs only [go_sem, rB, rA, rS, rM, rL, rE, jL, jN, hb, f0, f1, f2, f3, f4, f5, f6, f7, f8, f9, f10, f11, f12, f13, f14, St.cs, St.fold])
  | (first | refine callOk_det (has_1 _ he hi hk) ?_ | refine callPure_det (has_1 _ he hi hk) ?_ | refine callOk_of (has_1 _ he hi hk) ?_ | refine callPure_of (has_1 _ he hi hk) ?_); rintro u ⟨_, rfl, hb⟩; simp -implicitDefEqProofs only [go_sem, rB, rA, rS]
  | (refine fun (g : Nat) => ?_; simp -implicitDefEqProofs only [go_sem, rB, rA, rS, rM, rL, rE, jL, jN, f0, f1, f2, f3, f4, f5, f6, f7, f8, f9, f10, f11, f12, f13, f14, St.cs, St.fold])
  | refine fun (g : Nat) => ?_
  | (refine post_ret (v := _) (by simp -implicitDefEqProofs only [go_sem, rB, rA, rS, resultOf, mapM?, ARes.val]; exact rfl) ?_; exact ⟨_, rfl, hb⟩)
theorem has_2 (x : St) (he : x.e.size ≤ 100) (hi : x.i.size ≤ 100) (hk : x.kind = 2) : Ret prog 100 [x.v, .bool true, .bool false, .bool true, .bool false] Heap.none fun r _ => HasP x r := by
 refine Ret.by_text rfl rfl ?_
 simp -implicitDefEqProofs only [go_sem, rB, rA, rS, rL, a100, St.cellsOf_v, St.cs, hk]
 repeat' first
  | (refine br_intro (fun hb => ?_) (fun hb => ?_) <;> simp -implicitDefEqProofs only [go_sem, rB, rA, rS, rL, hb, jB, Ex.fold])
  | (first | refine callOk_det (none106 _ (by omega)) ?_ | refine callPure_det (none106 _ (by omega)) ?_ | refine callOk_of (none106 _ (by omega)) ?_ | refine callPure_of (none106 _ (by omega)) ?_); rintro u ⟨_, rfl⟩; simp -implicitDefEqProofs only [go_sem, rB, rA, rS]
  | (refine fun (g : Nat) => ?_; simp -implicitDefEqProofs only [go_sem, rB, rA, rS, rM, rL, rE, jL, jN, hk, jB, Ex.fold])
  | refine fun (g : Nat) => ?_
  | (refine post_ret (v := _) (by simp -implicitDefEqProofs only [go_sem, rB, rA, rS, resultOf, mapM?, ARes.val]; exact rfl) ?_; first | exact ⟨false, rfl, fun h => by cases h⟩ | exact ⟨_, rfl, fun _ => ⟨fun _ => len0 (by assumption), fun _ _ => len0 (by assumption), fun _ => len0 (by assumption)⟩⟩ | exact ⟨_, rfl, fun hq => ⟨fun _ => len0 (by first | assumption | exact hq), fun _ _ => len0 (by first | assumption | exact hq), fun _ => len0 (by first | assumption | exact hq)⟩⟩)
theorem bare_2 (x : St) (he : x.e.size ≤ 100) (hi : x.i.size ≤ 100) (hk : x.kind = 2) : Ret prog 85 [x.v] Heap.none fun r _ => HasP x r := by
 refine Ret.by_text rfl rfl ?_
 have f0 : (x.kind == 0) = false := by rw [hk]; rfl
 have f1 : (x.kind == 1) = false := by rw [hk]; rfl
 have f2 : (x.kind == 2) = true := by rw [hk]; rfl
 have f3 : (x.kind == 3) = false := by rw [hk]; rfl
 have f4 : (x.kind == 4) = false := by rw [hk]; rfl
 have f5 : (x.kind == 5) = false := by rw [hk]; rfl
 have f6 : (x.kind == 6) = false := by rw [hk]; rfl
 have f7 : (x.kind == 7) = false := by rw [hk]; rfl
 have f8 : (x.kind == 8) = false := by rw [hk]; rfl
 have f9 : (x.kind == 9) = false := by rw [hk]; rfl
 have f10 : (x.kind == 10) = false := by rw [hk]; rfl
 have f11 : (x.kind == 11) = false := by rw [hk]; rfl
 have f12 : (x.kind == 12) = false := by rw [hk]; rfl
 have f13 : (x.kind == 13) = false := by rw [hk]; rfl
 have f14 : (x.kind == 14) = false := by rw [hk]; rfl
 simp -implicitDefEqProofs only [go_sem, rB, rA, rS, rL, a85, St.cellsOf_v, St.cs, f0, f1, f2, f12, f13, f14, St.fold]
 repeat' first
  | (refine br_intro (fun hb => ?_) (fun hb => ?_) <;> simp -implicitDefEqProofs only [go_sem, rB, rA, rS, rM, rL, rE, jL, jN, hb, f0, f1, f2, f3, f4, f5, f6, f7, f8, f9, f10, f11, f12, f13, f14, St.cs, St.fold])
  | (first | refine callOk_det (has_2 _ he hi hk) ?_ | refine callPure_det (has_2 _ he hi hk) ?_ | refine callOk_of (has_2 _ he hi hk) ?_ | refine callPure_of (has_2 _ he hi hk) ?_); rintro u ⟨_, rfl, hb⟩; simp -implicitDefEqProofs only [go_sem, rB, rA, rS]
  | (refine fun (g : Nat) => ?_; simp -implicitDefEqProofs only [go_sem, rB, rA, rS, rM, rL, rE, jL, jN, f0, f1, f2, f3, f4, f5, f6, f7, f8, f9, f10, f11, f12, f13, f14, St.cs, St.fold])
  | refine fun (g : Nat) => ?_
  | (refine post_ret (v := _) (by simp -implicitDefEqProofs only [go_sem, rB, rA, rS, resultOf, mapM?, ARes.val]; exact rfl) ?_; exact ⟨_, rfl, hb⟩)
theorem has_3 (x : St) (he : x.e.size ≤ 100) (hi : x.i.size ≤ 100) (hk : x.kind = 3) : Ret prog 100 [x.v, .bool true, .bool false, .bool true, .bool false] Heap.none fun r _ => HasP x r := by
 refine Ret.by_text rfl rfl ?_
 simp -implicitDefEqProofs only [go_sem, rB, rA, rS, rL, a100, St.cellsOf_v, St.cs, hk]
 repeat' first
  | (refine br_intro (fun hb => ?_) (fun hb => ?_) <;> simp -implicitDefEqProofs only [go_sem, rB, rA, rS, rL, hb, jB])
  | (first | refine callOk_det (none106 _ (by omega)) ?_ | refine callPure_det (none106 _ (by omega)) ?_ | refine callOk_of (none106 _ (by omega)) ?_ | refine callPure_of (none106 _ (by omega)) ?_); rintro u ⟨_, rfl⟩; simp -implicitDefEqProofs only [go_sem, rB, rA, rS, rM, rL, rE, jL, jN, hk, jB, Ex.fold]
  | (refine fun (g : Nat) => ?_; simp -implicitDefEqProofs only [go_sem, rB, rA, rS, rM, rL, rE, jL, jN, hk, jB, Ex.fold])
  | refine fun (g : Nat) => ?_
  | (refine post_ret (v := _) (by simp -implicitDefEqProofs only [go_sem, rB, rA, rS, resultOf, mapM?, ARes.val]; exact rfl) ?_; first | exact ⟨false, rfl, fun h => by cases h⟩ | exact ⟨_, rfl, fun _ => ⟨fun _ => len0 (by assumption), fun _ _ => len0 (by assumption), fun _ => len0 (by assumption)⟩⟩ | exact ⟨_, rfl, fun hq => ⟨fun _ => len0 (by first | assumption | exact hq), fun _ _ => len0 (by first | assumption | exact hq), fun _ => len0 (by first | assumption | exact hq)⟩⟩)
theorem bare_3 (x : St) (he : x.e.size ≤ 100) (hi : x.i.size ≤ 100) (hk : x.kind = 3) : Ret prog 85 [x.v] Heap.none fun r _ => HasP x r := by
 refine Ret.by_text rfl rfl ?_
 have f0 : (x.kind == 0) = false := by rw [hk]; rfl
 have f1 : (x.kind == 1) = false := by rw [hk]; rfl
 have f2 : (x.kind == 2) = false := by rw [hk]; rfl
 have f3 : (x.kind == 3) = true := by rw [hk]; rfl
 have f4 : (x.kind == 4) = false := by rw [hk]; rfl
 have f5 : (x.kind == 5) = false := by rw [hk]; rfl
 have f6 : (x.kind == 6) = false := by rw [hk]; rfl
 have f7 : (x.kind == 7) = false := by rw [hk]; rfl
 have f8 : (x.kind == 8) = false := by rw [hk]; rfl
 have f9 : (x.kind == 9) = false := by rw [hk]; rfl
 have f10 : (x.kind == 10) = false := by rw [hk]; rfl
 have f11 : (x.kind == 11) = false := by rw [hk]; rfl
 have f12 : (x.kind == 12) = false := by rw [hk]; rfl
 have f13 : (x.kind == 13) = false := by rw [hk]; rfl
 have f14 : (x.kind == 14) = false := by rw [hk]; rfl
 simp -implicitDefEqProofs only [go_sem, rB, rA, rS, rL, a85, St.cellsOf_v, St.cs, f0, f1, f2, f3, f12, f13, f14, St.fold]
 repeat' first
  | (refine br_intro (fun hb => ?_) (fun hb => ?_) <;> simp -implicitDefEqProofs only [go_sem, rB, rA, rS, rM, rL, rE, jL, jN, hb, f0, f1, f2, f3, f4, f5, f6, f7, f8, f9, f10, f11, f12, f13, f14, St.cs, St.fold])
  | (first | refine callOk_det (has_3 _ he hi hk) ?_ | refine callPure_det (has_3 _ he hi hk) ?_ | refine callOk_of (has_3 _ he hi hk) ?_ | refine callPure_of (has_3 _ he hi hk) ?_); rintro u ⟨_, rfl, hb⟩; simp -implicitDefEqProofs only [go_sem, rB, rA, rS]
  | (refine fun (g : Nat) => ?_; simp -implicitDefEqProofs only [go_sem, rB, rA, rS, rM, rL, rE, jL, jN, f0, f1, f2, f3, f4, f5, f6, f7, f8, f9, f10, f11, f12, f13, f14, St.cs, St.fold])
  | refine fun (g : Nat) => ?_
  | (refine post_ret (v := _) (by simp -implicitDefEqProofs only [go_sem, rB, rA, rS, resultOf, mapM?, ARes.val]; exact rfl) ?_; exact ⟨_, rfl, hb⟩)
theorem has_4 (x : St) (he : x.e.size ≤ 100) (hi : x.i.size ≤ 100) (hk : x.kind = 4) : Ret prog 100 [x.v, .bool true, .bool true, .bool true, .bool false] Heap.none fun r _ => HasP x r := by
 refine Ret.by_text rfl rfl ?_
 simp -implicitDefEqProofs only [go_sem, rB, rA, rS, rL, a100, St.cellsOf_v, St.cs, hk, jB, Ex.fold]
 repeat' first
  | (refine br_intro (fun hb => ?_) (fun hb => ?_) <;> simp -implicitDefEqProofs only [go_sem, rB, rA, rS, rL, hb, jB])
  | (first | refine callOk_det (none106 _ (by omega)) ?_ | refine callPure_det (none106 _ (by omega)) ?_ | refine callOk_of (none106 _ (by omega)) ?_ | refine callPure_of (none106 _ (by omega)) ?_); rintro u ⟨_, rfl⟩; simp -implicitDefEqProofs only [go_sem, rB, rA, rS]
  | (refine fun (g : Nat) => ?_; simp -implicitDefEqProofs only [go_sem, rB, rA, rS, rM, rL, rE, jL, jN, hk, jB, Ex.fold])
  | refine fun (g : Nat) => ?_
  | (refine post_ret (v := _) (by simp -implicitDefEqProofs only [go_sem, rB, rA, rS, resultOf, mapM?, ARes.val]; exact rfl) ?_; first | exact ⟨false, rfl, fun h => by cases h⟩ | exact ⟨_, rfl, fun _ => ⟨fun _ => len0 (by assumption), fun _ _ => len0 (by assumption), fun _ => len0 (by assumption)⟩⟩ | exact ⟨_, rfl, fun hq => ⟨fun _ => len0 (by first | assumption | exact hq), fun _ _ => len0 (by first | assumption | exact hq), fun _ => len0 (by first | assumption | exact hq)⟩⟩)
theorem bare_4 (x : St) (he : x.e.size ≤ 100) (hi : x.i.size ≤ 100) (hk : x.kind = 4) : Ret prog 85 [x.v] Heap.none fun r _ => HasP x r := by
 refine Ret.by_text rfl rfl ?_
 have f0 : (x.kind == 0) = false := by rw [hk]; rfl
 have f1 : (x.kind == 1) = false := by rw [hk]; rfl
 have f2 : (x.kind == 2) = false := by rw [hk]; rfl
 have f3 : (x.kind == 3) = false := by rw [hk]; rfl
 have f4 : (x.kind == 4) = true := by rw [hk]; rfl
 have f5 : (x.kind == 5) = false := by rw [hk]; rfl
 have f6 : (x.kind == 6) = false := by rw [hk]; rfl
 have f7 : (x.kind == 7) = false := by rw [hk]; rfl
 have f8 : (x.kind == 8) = false := by rw [hk]; rfl
 have f9 : (x.kind == 9) = false := by rw [hk]; rfl
 have f10 : (x.kind == 10) = false := by rw [hk]; rfl
 have f11 : (x.kind == 11) = false := by rw [hk]; rfl
 have f12 : (x.kind == 12) = false := by rw [hk]; rfl
 have f13 : (x.kind == 13) = false := by rw [hk]; rfl
 have f14 : (x.kind == 14) = false := by rw [hk]; rfl
 simp -implicitDefEqProofs only [go_sem, rB, rA, rS, rL, a85, St.cellsOf_v, St.cs, f0, f1, f2, f3, f4, f12, f13, f14, St.fold]
 repeat' first
  | (refine br_intro (fun hb => ?_) (fun hb => ?_) <;> simp -implicitDefEqProofs only [go_sem, rB, rA, rS, rM, rL, rE, jL, jN, hb, f0, f1, f2, f3, f4, f5, f6, f7, f8, f9, f10, f11, f12, f13, f14, St.cs, St.fold])
  | (first | refine callOk_det (has_4 _ he hi hk) ?_ | refine callPure_det (has_4 _ he hi hk) ?_ | refine callOk_of (has_4 _ he hi hk) ?_ | refine callPure_of (has_4 _ he hi hk) ?_); rintro u ⟨_, rfl, hb⟩; simp -implicitDefEqProofs only [go_sem, rB, rA, rS]
  | (refine fun (g : Nat) => ?_; simp -implicitDefEqProofs only [go_sem, rB, rA, rS, rM, rL, rE, jL, jN, f0, f1, f2, f3, f4, f5, f6, f7, f8, f9, f10, f11, f12, f13, f14, St.cs, St.fold])
  | refine fun (g : Nat) => ?_
  | (refine post_ret (v := _) (by simp -implicitDefEqProofs only [go_sem, rB, rA, rS, resultOf, mapM?, ARes.val]; exact rfl) ?_; exact ⟨_, rfl, hb⟩)
theorem has_5 (x : St) (he : x.e.size ≤ 100) (hi : x.i.size ≤ 100) (hk : x.kind = 5) : Ret prog 100 [x.v, .bool true, .bool false, .bool false, .bool false] Heap.none fun r _ => HasP x r := by
 refine Ret.by_text rfl rfl ?_
 simp -implicitDefEqProofs only [go_sem, rB, rA, rS, rL, a100, St.cellsOf_v, St.cs, hk]
 repeat' first
  | (refine br_intro (fun hb => ?_) (fun hb => ?_) <;> simp -implicitDefEqProofs only [go_sem, rB, rA, rS, rL, hb, jB, Ex.fold])
  | (first | refine callOk_det (none106 _ (by omega)) ?_ | refine callPure_det (none106 _ (by omega)) ?_ | refine callOk_of (none106 _ (by omega)) ?_ | refine callPure_of (none106 _ (by omega)) ?_); rintro u ⟨_, rfl⟩; simp -implicitDefEqProofs only [go_sem, rB, rA, rS]
  | (refine fun (g : Nat) => ?_; simp -implicitDefEqProofs only [go_sem, rB, rA, rS, rM, rL, rE, jL, jN, hk, jB, Ex.fold])
  | refine fun (g : Nat) => ?_
  | (refine post_ret (v := _) (by simp -implicitDefEqProofs only [go_sem, rB, rA, rS, resultOf, mapM?, ARes.val]; exact rfl) ?_; first | exact ⟨false, rfl, fun h => by cases h⟩ | exact ⟨_, rfl, fun _ => ⟨fun _ => len0 (by assumption), fun _ _ => len0 (by assumption), fun _ => len0 (by assumption)⟩⟩ | exact ⟨_, rfl, fun hq => ⟨fun _ => len0 (by first | assumption | exact hq), fun _ _ => len0 (by first | assumption | exact hq), fun _ => len0 (by first | assumption | exact hq)⟩⟩)
theorem bare_5 (x : St) (he : x.e.size ≤ 100) (hi : x.i.size ≤ 100) (hk : x.kind = 5) : Ret prog 85 [x.v] Heap.none fun r _ => HasP x r := by
 refine Ret.by_text rfl rfl ?_
 have f0 : (x.kind == 0) = false := by rw [hk]; rfl
 have f1 : (x.kind == 1) = false := by rw [hk]; rfl
 have f2 : (x.kind == 2) = false := by rw [hk]; rfl
 have f3 : (x.kind == 3) = false := by rw [hk]; rfl
 have f4 : (x.kind == 4) = false := by rw [hk]; rfl
 have f5 : (x.kind == 5) = true := by rw [hk]; rfl
 have f6 : (x.kind == 6) = false := by rw [hk]; rfl
 have f7 : (x.kind == 7) = false := by rw [hk]; rfl
 have f8 : (x.kind == 8) = false := by rw [hk]; rfl
 have f9 : (x.kind == 9) = false := by rw [hk]; rfl
 have f10 : (x.kind == 10) = false := by rw [hk]; rfl
 have f11 : (x.kind == 11) = false := by rw [hk]; rfl
 have f12 : (x.kind == 12) = false := by rw [hk]; rfl
 have f13 : (x.kind == 13) = false := by rw [hk]; rfl
 have f14 : (x.kind == 14) = false := by rw [hk]; rfl
 simp -implicitDefEqProofs only [go_sem, rB, rA, rS, rL, a85, St.cellsOf_v, St.cs, f0, f1, f2, f3, f4, f5, f12, f13, f14, St.fold]
 repeat' first
  | (refine br_intro (fun hb => ?_) (fun hb => ?_) <;> simp -implicitDefEqProofs only [go_sem, rB, rA, rS, rM, rL, rE, jL, jN, hb, f0, f1, f2, f3, f4, f5, f6, f7, f8, f9, f10, f11, f12, f13, f14, St.cs, St.fold])
  | (first | refine callOk_det (has_5 _ he hi hk) ?_ | refine callPure_det (has_5 _ he hi hk) ?_ | refine callOk_of (has_5 _ he hi hk) ?_ | refine callPure_of (has_5 _ he hi hk) ?_); rintro u ⟨_, rfl, hb⟩; simp -implicitDefEqProofs only [go_sem, rB, rA, rS]
  | (refine fun (g : Nat) => ?_; simp -implicitDefEqProofs only [go_sem, rB, rA, rS, rM, rL, rE, jL, jN, f0, f1, f2, f3, f4, f5, f6, f7, f8, f9, f10, f11, f12, f13, f14, St.cs, St.fold])
  | refine fun (g : Nat) => ?_
  | (refine post_ret (v := _) (by simp -implicitDefEqProofs only [go_sem, rB, rA, rS, resultOf, mapM?, ARes.val]; exact rfl) ?_; exact ⟨_, rfl, hb⟩)
theorem has_6 (x : St) (he : x.e.size ≤ 100) (hi : x.i.size ≤ 100) (hk : x.kind = 6) : Ret prog 100 [x.v, .bool true, .bool true, .bool false, .bool false] Heap.none fun r _ => HasP x r := by
 refine Ret.by_text rfl rfl ?_
 simp -implicitDefEqProofs only [go_sem, rB, rA, rS, rL, a100, St.cellsOf_v, St.cs, hk, Ex.fold]
 repeat' first
  | (refine br_intro (fun hb => ?_) (fun hb => ?_) <;> simp -implicitDefEqProofs only [go_sem, rB, rA, rS, rL, hb, jB, Ex.fold])
  | (first | refine callOk_det (none106 _ (by omega)) ?_ | refine callPure_det (none106 _ (by omega)) ?_ | refine callOk_of (none106 _ (by omega)) ?_ | refine callPure_of (none106 _ (by omega)) ?_); rintro u ⟨_, rfl⟩; simp -implicitDefEqProofs only [go_sem, rB, rA, rS]
  | (refine fun (g : Nat) => ?_; simp -implicitDefEqProofs only [go_sem, rB, rA, rS, rM, rL, rE, jL, jN, hk, jB, Ex.fold])
  | refine fun (g : Nat) => ?_
  | (refine post_ret (v := _) (by simp -implicitDefEqProofs only [go_sem, rB, rA, rS, resultOf, mapM?, ARes.val]; exact rfl) ?_; first | exact ⟨false, rfl, fun h => by cases h⟩ | exact ⟨_, rfl, fun _ => ⟨fun _ => len0 (by assumption), fun _ _ => len0 (by assumption), fun _ => len0 (by assumption)⟩⟩ | exact ⟨_, rfl, fun hq => ⟨fun _ => len0 (by first | assumption | exact hq), fun _ _ => len0 (by first | assumption | exact hq), fun _ => len0 (by first | assumption | exact hq)⟩⟩)
theorem bare_6 (x : St) (he : x.e.size ≤ 100) (hi : x.i.size ≤ 100) (hk : x.kind = 6) : Ret prog 85 [x.v] Heap.none fun r _ => HasP x r := by
 refine Ret.by_text rfl rfl ?_
 have f0 : (x.kind == 0) = false := by rw [hk]; rfl
 have f1 : (x.kind == 1) = false := by rw [hk]; rfl
 have f2 : (x.kind == 2) = false := by rw [hk]; rfl
 have f3 : (x.kind == 3) = false := by rw [hk]; rfl
 have f4 : (x.kind == 4) = false := by rw [hk]; rfl
 have f5 : (x.kind == 5) = false := by rw [hk]; rfl
 have f6 : (x.kind == 6) = true := by rw [hk]; rfl
 have f7 : (x.kind == 7) = false := by rw [hk]; rfl
 have f8 : (x.kind == 8) = false := by rw [hk]; rfl
 have f9 : (x.kind == 9) = false := by rw [hk]; rfl
 have f10 : (x.kind == 10) = false := by rw [hk]; rfl
 have f11 : (x.kind == 11) = false := by rw [hk]; rfl
 have f12 : (x.kind == 12) = false := by rw [hk]; rfl
 have f13 : (x.kind == 13) = false := by rw [hk]; rfl
 have f14 : (x.kind == 14) = false := by rw [hk]; rfl
 simp -implicitDefEqProofs only [go_sem, rB, rA, rS, rL, a85, St.cellsOf_v, St.cs, f0, f1, f2, f3, f4, f5, f6, f12, f13, f14, St.fold]
 repeat' first
  | (refine br_intro (fun hb => ?_) (fun hb => ?_) <;> simp -implicitDefEqProofs only [go_sem, rB, rA, rS, rM, rL, rE, jL, jN, hb, f0, f1, f2, f3, f4, f5, f6, f7, f8, f9, f10, f11, f12, f13, f14, St.cs, St.fold])
  | (first | refine callOk_det (has_6 _ he hi hk) ?_ | refine callPure_det (has_6 _ he hi hk) ?_ | refine callOk_of (has_6 _ he hi hk) ?_ | refine callPure_of (has_6 _ he hi hk) ?_); rintro u ⟨_, rfl, hb⟩; simp -implicitDefEqProofs only [go_sem, rB, rA, rS]
  | (refine fun (g : Nat) => ?_; simp -implicitDefEqProofs only [go_sem, rB, rA, rS, rM, rL, rE, jL, jN, f0, f1, f2, f3, f4, f5, f6, f7, f8, f9, f10, f11, f12, f13, f14, St.cs, St.fold])
  | refine fun (g : Nat) => ?_
  | (refine post_ret (v := _) (by simp -implicitDefEqProofs only [go_sem, rB, rA, rS, resultOf, mapM?, ARes.val]; exact rfl) ?_; exact ⟨_, rfl, hb⟩)
theorem has_7 (x : St) (he : x.e.size ≤ 100) (hi : x.i.size ≤ 100) (hk : x.kind = 7) : Ret prog 100 [x.v, .bool false, .bool false, .bool true, .bool true] Heap.none fun r _ => HasP x r := by
 refine Ret.by_text rfl rfl ?_
 simp -implicitDefEqProofs only [go_sem, rB, rA, rS, rL, a100, St.cellsOf_v, St.cs, hk]
 repeat' first
  | (refine br_intro (fun hb => ?_) (fun hb => ?_) <;> simp -implicitDefEqProofs only [go_sem, rB, rA, rS, rL, hb, jB, Ex.fold])
  | (first | refine callOk_det (none106 _ (by omega)) ?_ | refine callPure_det (none106 _ (by omega)) ?_ | refine callOk_of (none106 _ (by omega)) ?_ | refine callPure_of (none106 _ (by omega)) ?_); rintro u ⟨_, rfl⟩; simp -implicitDefEqProofs only [go_sem, rB, rA, rS]
  | (refine fun (g : Nat) => ?_; simp -implicitDefEqProofs only [go_sem, rB, rA, rS, rM, rL, rE, jL, jN, hk, jB, Ex.fold])
  | refine fun (g : Nat) => ?_
  | (refine post_ret (v := _) (by simp -implicitDefEqProofs only [go_sem, rB, rA, rS, resultOf, mapM?, ARes.val]; exact rfl) ?_; first | exact ⟨false, rfl, fun h => by cases h⟩ | exact ⟨_, rfl, fun _ => ⟨fun h => by omega, fun h1 h2 => absurd hk (by assumption), fun _ => len0 (by assumption)⟩⟩ | exact ⟨_, rfl, fun hq => ⟨fun h => by omega, fun h1 h2 => absurd hk (by assumption), fun _ => len0 (by first | assumption | exact hq)⟩⟩)
theorem bare_7 (x : St) (he : x.e.size ≤ 100) (hi : x.i.size ≤ 100) (hk : x.kind = 7) : Ret prog 85 [x.v] Heap.none fun r _ => HasP x r := by
 refine Ret.by_text rfl rfl ?_
 have f0 : (x.kind == 0) = false := by rw [hk]; rfl
 have f1 : (x.kind == 1) = false := by rw [hk]; rfl
 have f2 : (x.kind == 2) = false := by rw [hk]; rfl
 have f3 : (x.kind == 3) = false := by rw [hk]; rfl
 have f4 : (x.kind == 4) = false := by rw [hk]; rfl
 have f5 : (x.kind == 5) = false := by rw [hk]; rfl
 have f6 : (x.kind == 6) = false := by rw [hk]; rfl
 have f7 : (x.kind == 7) = true := by rw [hk]; rfl
 have f8 : (x.kind == 8) = false := by rw [hk]; rfl
 have f9 : (x.kind == 9) = false := by rw [hk]; rfl
 have f10 : (x.kind == 10) = false := by rw [hk]; rfl
 have f11 : (x.kind == 11) = false := by rw [hk]; rfl
 have f12 : (x.kind == 12) = false := by rw [hk]; rfl
 have f13 : (x.kind == 13) = false := by rw [hk]; rfl
 have f14 : (x.kind == 14) = false := by rw [hk]; rfl
 simp -implicitDefEqProofs only [go_sem, rB, rA, rS, rL, a85, St.cellsOf_v, St.cs, f0, f1, f2, f3, f4, f5, f6, f7, f12, f13, f14, St.fold]
 repeat' first
  | (refine br_intro (fun hb => ?_) (fun hb => ?_) <;> simp -implicitDefEqProofs only [go_sem, rB, rA, rS, rM, rL, rE, jL, jN, hb, f0, f1, f2, f3, f4, f5, f6, f7, f8, f9, f10, f11, f12, f13, f14, St.cs, St.fold])
  | (first | refine callOk_det (has_7 _ he hi hk) ?_ | refine callPure_det (has_7 _ he hi hk) ?_ | refine callOk_of (has_7 _ he hi hk) ?_ | refine callPure_of (has_7 _ he hi hk) ?_); rintro u ⟨_, rfl, hb⟩; simp -implicitDefEqProofs only [go_sem, rB, rA, rS]
  | (refine fun (g : Nat) => ?_; simp -implicitDefEqProofs only [go_sem, rB, rA, rS, rM, rL, rE, jL, jN, f0, f1, f2, f3, f4, f5, f6, f7, f8, f9, f10, f11, f12, f13, f14, St.cs, St.fold])
  | refine fun (g : Nat) => ?_
  | (refine post_ret (v := _) (by simp -implicitDefEqProofs only [go_sem, rB, rA, rS, resultOf, mapM?, ARes.val]; exact rfl) ?_; exact ⟨_, rfl, hb⟩)
theorem has_8 (x : St) (he : x.e.size ≤ 100) (hi : x.i.size ≤ 100) (hk : x.kind = 8) : Ret prog 100 [x.v, .bool false, .bool false, .bool true, .bool true] Heap.none fun r _ => HasP x r := by
 refine Ret.by_text rfl rfl ?_
 simp -implicitDefEqProofs only [go_sem, rB, rA, rS, rL, a100, St.cellsOf_v, St.cs, hk]
 repeat' first
  | (refine br_intro (fun hb => ?_) (fun hb => ?_) <;> simp -implicitDefEqProofs only [go_sem, rB, rA, rS, rL, hb, jB, Ex.fold])
  | (first | refine callOk_det (none106 _ (by omega)) ?_ | refine callPure_det (none106 _ (by omega)) ?_ | refine callOk_of (none106 _ (by omega)) ?_ | refine callPure_of (none106 _ (by omega)) ?_); rintro u ⟨_, rfl⟩; simp -implicitDefEqProofs only [go_sem, rB, rA, rS]
  | (refine fun (g : Nat) => ?_; simp -implicitDefEqProofs only [go_sem, rB, rA, rS, rM, rL, rE, jL, jN, hk, jB, Ex.fold])
  | refine fun (g : Nat) => ?_
  | (refine post_ret (v := _) (by simp -implicitDefEqProofs only [go_sem, rB, rA, rS, resultOf, mapM?, ARes.val]; exact rfl) ?_; first | exact ⟨false, rfl, fun h => by cases h⟩ | exact ⟨_, rfl, fun _ => ⟨fun h => by omega, fun _ _ => len0 (by assumption), fun _ => len0 (by assumption)⟩⟩ | exact ⟨_, rfl, fun hq => ⟨fun h => by omega, fun _ _ => len0 (by first | assumption | exact hq), fun _ => len0 (by first | assumption | exact hq)⟩⟩)
theorem bare_8 (x : St) (he : x.e.size ≤ 100) (hi : x.i.size ≤ 100) (hk : x.kind = 8) : Ret prog 85 [x.v] Heap.none fun r _ => HasP x r := by
 refine Ret.by_text rfl rfl ?_
 have f0 : (x.kind == 0) = false := by rw [hk]; rfl
 have f1 : (x.kind == 1) = false := by rw [hk]; rfl
 have f2 : (x.kind == 2) = false := by rw [hk]; rfl
 have f3 : (x.kind == 3) = false := by rw [hk]; rfl
 have f4 : (x.kind == 4) = false := by rw [hk]; rfl
 have f5 : (x.kind == 5) = false := by rw [hk]; rfl
 have f6 : (x.kind == 6) = false := by rw [hk]; rfl
 have f7 : (x.kind == 7) = false := by rw [hk]; rfl
 have f8 : (x.kind == 8) = true := by rw [hk]; rfl
 have f9 : (x.kind == 9) = false := by rw [hk]; rfl
 have f10 : (x.kind == 10) = false := by rw [hk]; rfl
 have f11 : (x.kind == 11) = false := by rw [hk]; rfl
 have f12 : (x.kind == 12) = false := by rw [hk]; rfl
 have f13 : (x.kind == 13) = false := by rw [hk]; rfl
 have f14 : (x.kind == 14) = false := by rw [hk]; rfl
 simp -implicitDefEqProofs only [go_sem, rB, rA, rS, rL, a85, St.cellsOf_v, St.cs, f0, f1, f2, f3, f4, f5, f6, f7, f8, f12, f13, f14, St.fold]
 repeat' first
  | (refine br_intro (fun hb => ?_) (fun hb => ?_) <;> simp -implicitDefEqProofs only [go_sem, rB, rA, rS, rM, rL, rE, jL, jN, hb, f0, f1, f2, f3, f4, f5, f6, f7, f8, f9, f10, f11, f12, f13, f14, St.cs, St.fold])
  | (first | refine callOk_det (has_8 _ he hi hk) ?_ | refine callPure_det (has_8 _ he hi hk) ?_ | refine callOk_of (has_8 _ he hi hk) ?_ | refine callPure_of (has_8 _ he hi hk) ?_); rintro u ⟨_, rfl, hb⟩; simp -implicitDefEqProofs only [go_sem, rB, rA, rS]
  | (refine fun (g : Nat) => ?_; simp -implicitDefEqProofs only [go_sem, rB, rA, rS, rM, rL, rE, jL, jN, f0, f1, f2, f3, f4, f5, f6, f7, f8, f9, f10, f11, f12, f13, f14, St.cs, St.fold])
  | refine fun (g : Nat) => ?_
  | (refine post_ret (v := _) (by simp -implicitDefEqProofs only [go_sem, rB, rA, rS, resultOf, mapM?, ARes.val]; exact rfl) ?_; exact ⟨_, rfl, hb⟩)
theorem has_9 (x : St) (he : x.e.size ≤ 100) (hi : x.i.size ≤ 100) (hk : x.kind = 9) : Ret prog 100 [x.v, .bool false, .bool false, .bool false, .bool true] Heap.none fun r _ => HasP x r := by
 refine Ret.by_text rfl rfl ?_
 simp -implicitDefEqProofs only [go_sem, rB, rA, rS, rL, a100, St.cellsOf_v, St.cs, hk]
 repeat' first
  | (refine br_intro (fun hb => ?_) (fun hb => ?_) <;> simp -implicitDefEqProofs only [go_sem, rB, rA, rS, rL, hb, jB, Ex.fold])
  | (first | refine callOk_det (none106 _ (by omega)) ?_ | refine callPure_det (none106 _ (by omega)) ?_ | refine callOk_of (none106 _ (by omega)) ?_ | refine callPure_of (none106 _ (by omega)) ?_); rintro u ⟨_, rfl⟩; simp -implicitDefEqProofs only [go_sem, rB, rA, rS]
  | (refine fun (g : Nat) => ?_; simp -implicitDefEqProofs only [go_sem, rB, rA, rS, rM, rL, rE, jL, jN, hk, jB, Ex.fold])
  | refine fun (g : Nat) => ?_
  | (refine post_ret (v := _) (by simp -implicitDefEqProofs only [go_sem, rB, rA, rS, resultOf, mapM?, ARes.val]; exact rfl) ?_; first | exact ⟨false, rfl, fun h => by cases h⟩ | exact ⟨_, rfl, fun _ => ⟨fun h => by omega, fun _ _ => len0 (by assumption), fun _ => len0 (by assumption)⟩⟩ | exact ⟨_, rfl, fun hq => ⟨fun h => by omega, fun _ _ => len0 (by first | assumption | exact hq), fun _ => len0 (by first | assumption | exact hq)⟩⟩)
theorem bare_9 (x : St) (he : x.e.size ≤ 100) (hi : x.i.size ≤ 100) (hk : x.kind = 9) : Ret prog 85 [x.v] Heap.none fun r _ => HasP x r := by
 refine Ret.by_text rfl rfl ?_
 have f0 : (x.kind == 0) = false := by rw [hk]; rfl
 have f1 : (x.kind == 1) = false := by rw [hk]; rfl
 have f2 : (x.kind == 2) = false := by rw [hk]; rfl
 have f3 : (x.kind == 3) = false := by rw [hk]; rfl
 have f4 : (x.kind == 4) = false := by rw [hk]; rfl
 have f5 : (x.kind == 5) = false := by rw [hk]; rfl
 have f6 : (x.kind == 6) = false := by rw [hk]; rfl
 have f7 : (x.kind == 7) = false := by rw [hk]; rfl
 have f8 : (x.kind == 8) = false := by rw [hk]; rfl
 have f9 : (x.kind == 9) = true := by rw [hk]; rfl
 have f10 : (x.kind == 10) = false := by rw [hk]; rfl
 have f11 : (x.kind == 11) = false := by rw [hk]; rfl
 have f12 : (x.kind == 12) = false := by rw [hk]; rfl
 have f13 : (x.kind == 13) = false := by rw [hk]; rfl
 have f14 : (x.kind == 14) = false := by rw [hk]; rfl
 simp -implicitDefEqProofs only [go_sem, rB, rA, rS, rL, a85, St.cellsOf_v, St.cs, f0, f1, f2, f3, f4, f5, f6, f7, f8, f9, f10, f12, f13, f14, St.fold]
 repeat' first
  | (refine br_intro (fun hb => ?_) (fun hb => ?_) <;> simp -implicitDefEqProofs only [go_sem, rB, rA, rS, rM, rL, rE, jL, jN, hb, f0, f1, f2, f3, f4, f5, f6, f7, f8, f9, f10, f11, f12, f13, f14, St.cs, St.fold])
  | (first | refine callOk_det (has_9 _ he hi hk) ?_ | refine callPure_det (has_9 _ he hi hk) ?_ | refine callOk_of (has_9 _ he hi hk) ?_ | refine callPure_of (has_9 _ he hi hk) ?_); rintro u ⟨_, rfl, hb⟩; simp -implicitDefEqProofs only [go_sem, rB, rA, rS]
  | (refine fun (g : Nat) => ?_; simp -implicitDefEqProofs only [go_sem, rB, rA, rS, rM, rL, rE, jL, jN, f0, f1, f2, f3, f4, f5, f6, f7, f8, f9, f10, f11, f12, f13, f14, St.cs, St.fold])
  | refine fun (g : Nat) => ?_
  | (refine post_ret (v := _) (by simp -implicitDefEqProofs only [go_sem, rB, rA, rS, resultOf, mapM?, ARes.val]; exact rfl) ?_; exact ⟨_, rfl, hb⟩)
theorem has_10 (x : St) (he : x.e.size ≤ 100) (hi : x.i.size ≤ 100) (hk : x.kind = 10) : Ret prog 100 [x.v, .bool false, .bool false, .bool true, .bool true] Heap.none fun r _ => HasP x r := by
 refine Ret.by_text rfl rfl ?_
 simp -implicitDefEqProofs only [go_sem, rB, rA, rS, rL, a100, St.cellsOf_v, St.cs, hk]
 repeat' first
  | (refine br_intro (fun hb => ?_) (fun hb => ?_) <;> simp -implicitDefEqProofs only [go_sem, rB, rA, rS, rL, hb, jB, Ex.fold])
  | (first | refine callOk_det (none106 _ (by omega)) ?_ | refine callPure_det (none106 _ (by omega)) ?_ | refine callOk_of (none106 _ (by omega)) ?_ | refine callPure_of (none106 _ (by omega)) ?_); rintro u ⟨_, rfl⟩; simp -implicitDefEqProofs only [go_sem, rB, rA, rS]
  | (refine fun (g : Nat) => ?_; simp -implicitDefEqProofs only [go_sem, rB, rA, rS, rM, rL, rE, jL, jN, hk, jB, Ex.fold])
  | refine fun (g : Nat) => ?_
  | (refine post_ret (v := _) (by simp -implicitDefEqProofs only [go_sem, rB, rA, rS, resultOf, mapM?, ARes.val]; exact rfl) ?_; first | exact ⟨false, rfl, fun h => by cases h⟩ | exact ⟨_, rfl, fun _ => ⟨fun h => by omega, fun _ _ => len0 (by assumption), fun _ => len0 (by assumption)⟩⟩ | exact ⟨_, rfl, fun hq => ⟨fun h => by omega, fun _ _ => len0 (by first | assumption | exact hq), fun _ => len0 (by first | assumption | exact hq)⟩⟩)
theorem bare_10 (x : St) (he : x.e.size ≤ 100) (hi : x.i.size ≤ 100) (hk : x.kind = 10) : Ret prog 85 [x.v] Heap.none fun r _ => HasP x r := by
 refine Ret.by_text rfl rfl ?_
 have f0 : (x.kind == 0) = false := by rw [hk]; rfl
 have f1 : (x.kind == 1) = false := by rw [hk]; rfl
 have f2 : (x.kind == 2) = false := by rw [hk]; rfl
 have f3 : (x.kind == 3) = false := by rw [hk]; rfl
 have f4 : (x.kind == 4) = false := by rw [hk]; rfl
 have f5 : (x.kind == 5) = false := by rw [hk]; rfl
 have f6 : (x.kind == 6) = false := by rw [hk]; rfl
 have f7 : (x.kind == 7) = false := by rw [hk]; rfl
 have f8 : (x.kind == 8) = false := by rw [hk]; rfl
 have f9 : (x.kind == 9) = false := by rw [hk]; rfl
 have f10 : (x.kind == 10) = true := by rw [hk]; rfl
 have f11 : (x.kind == 11) = false := by rw [hk]; rfl
 have f12 : (x.kind == 12) = false := by rw [hk]; rfl
 have f13 : (x.kind == 13) = false := by rw [hk]; rfl
 have f14 : (x.kind == 14) = false := by rw [hk]; rfl
 simp -implicitDefEqProofs only [go_sem, rB, rA, rS, rL, a85, St.cellsOf_v, St.cs, f0, f1, f2, f3, f4, f5, f6, f7, f8, f10, f12, f13, f14, St.fold]
 repeat' first
  | (refine br_intro (fun hb => ?_) (fun hb => ?_) <;> simp -implicitDefEqProofs only [go_sem, rB, rA, rS, rM, rL, rE, jL, jN, hb, f0, f1, f2, f3, f4, f5, f6, f7, f8, f9, f10, f11, f12, f13, f14, St.cs, St.fold])
  | (first | refine callOk_det (has_10 _ he hi hk) ?_ | refine callPure_det (has_10 _ he hi hk) ?_ | refine callOk_of (has_10 _ he hi hk) ?_ | refine callPure_of (has_10 _ he hi hk) ?_); rintro u ⟨_, rfl, hb⟩; simp -implicitDefEqProofs only [go_sem, rB, rA, rS]
  | (refine fun (g : Nat) => ?_; simp -implicitDefEqProofs only [go_sem, rB, rA, rS, rM, rL, rE, jL, jN, f0, f1, f2, f3, f4, f5, f6, f7, f8, f9, f10, f11, f12, f13, f14, St.cs, St.fold])
  | refine fun (g : Nat) => ?_
  | (refine post_ret (v := _) (by simp -implicitDefEqProofs only [go_sem, rB, rA, rS, resultOf, mapM?, ARes.val]; exact rfl) ?_; exact ⟨_, rfl, hb⟩)
theorem has_11 (x : St) (he : x.e.size ≤ 100) (hi : x.i.size ≤ 100) (hk : x.kind = 11) : Ret prog 100 [x.v, .bool false, .bool false, .bool true, .bool false] Heap.none fun r _ => HasP x r := by
 refine Ret.by_text rfl rfl ?_
 simp -implicitDefEqProofs only [go_sem, rB, rA, rS, rL, a100, St.cellsOf_v, St.cs, hk]
 repeat' first
  | (refine br_intro (fun hb => ?_) (fun hb => ?_) <;> simp -implicitDefEqProofs only [go_sem, rB, rA, rS, rL, hb, jB, Ex.fold])
  | (first | refine callOk_det (none106 _ (by omega)) ?_ | refine callPure_det (none106 _ (by omega)) ?_ | refine callOk_of (none106 _ (by omega)) ?_ | refine callPure_of (none106 _ (by omega)) ?_); rintro u ⟨_, rfl⟩; simp -implicitDefEqProofs only [go_sem, rB, rA, rS]
  | (refine fun (g : Nat) => ?_; simp -implicitDefEqProofs only [go_sem, rB, rA, rS, rM, rL, rE, jL, jN, hk, jB, Ex.fold])
  | refine fun (g : Nat) => ?_
  | (refine post_ret (v := _) (by simp -implicitDefEqProofs only [go_sem, rB, rA, rS, resultOf, mapM?, ARes.val]; exact rfl) ?_; first | exact ⟨false, rfl, fun h => by cases h⟩ | exact ⟨_, rfl, fun _ => ⟨fun _ => len0 (by assumption), fun h1 h2 => absurd hk (by assumption), fun h => absurd hk h⟩⟩ | exact ⟨_, rfl, fun hq => ⟨fun _ => len0 (by first | assumption | exact hq), fun h1 h2 => absurd hk (by assumption), fun h => absurd hk h⟩⟩)
theorem bare_11 (x : St) (he : x.e.size ≤ 100) (hi : x.i.size ≤ 100) (hk : x.kind = 11) : Ret prog 85 [x.v] Heap.none fun r _ => HasP x r := by
 refine Ret.by_text rfl rfl ?_
 have f0 : (x.kind == 0) = false := by rw [hk]; rfl
 have f1 : (x.kind == 1) = false := by rw [hk]; rfl
 have f2 : (x.kind == 2) = false := by rw [hk]; rfl
 have f3 : (x.kind == 3) = false := by rw [hk]; rfl
 have f4 : (x.kind == 4) = false := by rw [hk]; rfl
 have f5 : (x.kind == 5) = false := by rw [hk]; rfl
 have f6 : (x.kind == 6) = false := by rw [hk]; rfl
 have f7 : (x.kind == 7) = false := by rw [hk]; rfl
 have f8 : (x.kind == 8) = false := by rw [hk]; rfl
 have f9 : (x.kind == 9) = false := by rw [hk]; rfl
 have f10 : (x.kind == 10) = false := by rw [hk]; rfl
 have f11 : (x.kind == 11) = true := by rw [hk]; rfl
 have f12 : (x.kind == 12) = false := by rw [hk]; rfl
 have f13 : (x.kind == 13) = false := by rw [hk]; rfl
 have f14 : (x.kind == 14) = false := by rw [hk]; rfl
 simp -implicitDefEqProofs only [go_sem, rB, rA, rS, rL, a85, St.cellsOf_v, St.cs, f0, f1, f2, f3, f4, f5, f6, f7, f8, f9, f10, f11, f12, f13, f14, St.fold]
 repeat' first
  | (refine br_intro (fun hb => ?_) (fun hb => ?_) <;> simp -implicitDefEqProofs only [go_sem, rB, rA, rS, rM, rL, rE, jL, jN, hb, f0, f1, f2, f3, f4, f5, f6, f7, f8, f9, f10, f11, f12, f13, f14, St.cs, St.fold])
  | (first | refine callOk_det (has_11 _ he hi hk) ?_ | refine callPure_det (has_11 _ he hi hk) ?_ | refine callOk_of (has_11 _ he hi hk) ?_ | refine callPure_of (has_11 _ he hi hk) ?_); rintro u ⟨_, rfl, hb⟩; simp -implicitDefEqProofs only [go_sem, rB, rA, rS]
  | (refine fun (g : Nat) => ?_; simp -implicitDefEqProofs only [go_sem, rB, rA, rS, rM, rL, rE, jL, jN, f0, f1, f2, f3, f4, f5, f6, f7, f8, f9, f10, f11, f12, f13, f14, St.cs, St.fold])
  | refine fun (g : Nat) => ?_
  | (refine post_ret (v := _) (by simp -implicitDefEqProofs only [go_sem, rB, rA, rS, resultOf, mapM?, ARes.val]; exact rfl) ?_; exact ⟨_, rfl, hb⟩)
theorem has_12 (x : St) (he : x.e.size ≤ 100) (hi : x.i.size ≤ 100) (hk : x.kind = 12) : Ret prog 100 [x.v, .bool false, .bool false, .bool false, .bool false] Heap.none fun r _ => HasP x r := by
 refine Ret.by_text rfl rfl ?_
 simp -implicitDefEqProofs only [go_sem, rB, rA, rS, rL, a100, St.cellsOf_v, St.cs, hk]
 repeat' first
  | (refine br_intro (fun hb => ?_) (fun hb => ?_) <;> simp -implicitDefEqProofs only [go_sem, rB, rA, rS, rL, hb, jB, Ex.fold])
  | (first | refine callOk_det (none106 _ (by omega)) ?_ | refine callPure_det (none106 _ (by omega)) ?_ | refine callOk_of (none106 _ (by omega)) ?_ | refine callPure_of (none106 _ (by omega)) ?_); rintro u ⟨_, rfl⟩; simp -implicitDefEqProofs only [go_sem, rB, rA, rS]
  | (refine fun (g : Nat) => ?_; simp -implicitDefEqProofs only [go_sem, rB, rA, rS, rM, rL, rE, jL, jN, hk, jB, Ex.fold])
  | refine fun (g : Nat) => ?_
  | (refine post_ret (v := _) (by simp -implicitDefEqProofs only [go_sem, rB, rA, rS, resultOf, mapM?, ARes.val]; exact rfl) ?_; first | exact ⟨false, rfl, fun h => by cases h⟩ | exact ⟨_, rfl, fun _ => ⟨fun _ => len0 (by assumption), fun _ _ => len0 (by assumption), fun _ => len0 (by assumption)⟩⟩ | exact ⟨_, rfl, fun hq => ⟨fun _ => len0 (by first | assumption | exact hq), fun _ _ => len0 (by first | assumption | exact hq), fun _ => len0 (by first | assumption | exact hq)⟩⟩)
theorem bare_12 (x : St) (he : x.e.size ≤ 100) (hi : x.i.size ≤ 100) (hk : x.kind = 12) : Ret prog 85 [x.v] Heap.none fun r _ => HasP x r := by
 refine Ret.by_text rfl rfl ?_
 have f0 : (x.kind == 0) = false := by rw [hk]; rfl
 have f1 : (x.kind == 1) = false := by rw [hk]; rfl
 have f2 : (x.kind == 2) = false := by rw [hk]; rfl
 have f3 : (x.kind == 3) = false := by rw [hk]; rfl
 have f4 : (x.kind == 4) = false := by rw [hk]; rfl
 have f5 : (x.kind == 5) = false := by rw [hk]; rfl
 have f6 : (x.kind == 6) = false := by rw [hk]; rfl
 have f7 : (x.kind == 7) = false := by rw [hk]; rfl
 have f8 : (x.kind == 8) = false := by rw [hk]; rfl
 have f9 : (x.kind == 9) = false := by rw [hk]; rfl
 have f10 : (x.kind == 10) = false := by rw [hk]; rfl
 have f11 : (x.kind == 11) = false := by rw [hk]; rfl
 have f12 : (x.kind == 12) = true := by rw [hk]; rfl
 have f13 : (x.kind == 13) = false := by rw [hk]; rfl
 have f14 : (x.kind == 14) = false := by rw [hk]; rfl
 simp -implicitDefEqProofs only [go_sem, rB, rA, rS, rL, a85, St.cellsOf_v, St.cs, f0, f12, St.fold]
 repeat' first
  | (refine br_intro (fun hb => ?_) (fun hb => ?_) <;> simp -implicitDefEqProofs only [go_sem, rB, rA, rS, rM, rL, rE, jL, jN, hb, f0, f1, f2, f3, f4, f5, f6, f7, f8, f9, f10, f11, f12, f13, f14, St.cs, St.fold])
  | (first | refine callOk_det (has_12 _ he hi hk) ?_ | refine callPure_det (has_12 _ he hi hk) ?_ | refine callOk_of (has_12 _ he hi hk) ?_ | refine callPure_of (has_12 _ he hi hk) ?_); rintro u ⟨_, rfl, hb⟩; simp -implicitDefEqProofs only [go_sem, rB, rA, rS]
  | (refine fun (g : Nat) => ?_; simp -implicitDefEqProofs only [go_sem, rB, rA, rS, rM, rL, rE, jL, jN, f0, f1, f2, f3, f4, f5, f6, f7, f8, f9, f10, f11, f12, f13, f14, St.cs, St.fold])
  | refine fun (g : Nat) => ?_
  | (refine post_ret (v := _) (by simp -implicitDefEqProofs only [go_sem, rB, rA, rS, resultOf, mapM?, ARes.val]; exact rfl) ?_; exact ⟨_, rfl, hb⟩)
theorem has_13 (x : St) (he : x.e.size ≤ 100) (hi : x.i.size ≤ 100) (hk : x.kind = 13) : Ret prog 100 [x.v, .bool false, .bool false, .bool false, .bool false] Heap.none fun r _ => HasP x r := by
 refine Ret.by_text rfl rfl ?_
 simp -implicitDefEqProofs only [go_sem, rB, rA, rS, rL, a100, St.cellsOf_v, St.cs, hk]
 repeat' first
  | (refine br_intro (fun hb => ?_) (fun hb => ?_) <;> simp -implicitDefEqProofs only [go_sem, rB, rA, rS, rL, hb, jB, Ex.fold])
  | (first | refine callOk_det (none106 _ (by omega)) ?_ | refine callPure_det (none106 _ (by omega)) ?_ | refine callOk_of (none106 _ (by omega)) ?_ | refine callPure_of (none106 _ (by omega)) ?_); rintro u ⟨_, rfl⟩; simp -implicitDefEqProofs only [go_sem, rB, rA, rS]
  | (refine fun (g : Nat) => ?_; simp -implicitDefEqProofs only [go_sem, rB, rA, rS, rM, rL, rE, jL, jN, hk, jB, Ex.fold])
  | refine fun (g : Nat) => ?_
  | (refine post_ret (v := _) (by simp -implicitDefEqProofs only [go_sem, rB, rA, rS, resultOf, mapM?, ARes.val]; exact rfl) ?_; first | exact ⟨false, rfl, fun h => by cases h⟩ | exact ⟨_, rfl, fun _ => ⟨fun _ => len0 (by assumption), fun _ _ => len0 (by assumption), fun _ => len0 (by assumption)⟩⟩ | exact ⟨_, rfl, fun hq => ⟨fun _ => len0 (by first | assumption | exact hq), fun _ _ => len0 (by first | assumption | exact hq), fun _ => len0 (by first | assumption | exact hq)⟩⟩)
theorem bare_13 (x : St) (he : x.e.size ≤ 100) (hi : x.i.size ≤ 100) (hk : x.kind = 13) : Ret prog 85 [x.v] Heap.none fun r _ => HasP x r := by
 refine Ret.by_text rfl rfl ?_
 have f0 : (x.kind == 0) = false := by rw [hk]; rfl
 have f1 : (x.kind == 1) = false := by rw [hk]; rfl
 have f2 : (x.kind == 2) = false := by rw [hk]; rfl
 have f3 : (x.kind == 3) = false := by rw [hk]; rfl
 have f4 : (x.kind == 4) = false := by rw [hk]; rfl
 have f5 : (x.kind == 5) = false := by rw [hk]; rfl
 have f6 : (x.kind == 6) = false := by rw [hk]; rfl
 have f7 : (x.kind == 7) = false := by rw [hk]; rfl
 have f8 : (x.kind == 8) = false := by rw [hk]; rfl
 have f9 : (x.kind == 9) = false := by rw [hk]; rfl
 have f10 : (x.kind == 10) = false := by rw [hk]; rfl
 have f11 : (x.kind == 11) = false := by rw [hk]; rfl
 have f12 : (x.kind == 12) = false := by rw [hk]; rfl
 have f13 : (x.kind == 13) = true := by rw [hk]; rfl
 have f14 : (x.kind == 14) = false := by rw [hk]; rfl
 simp -implicitDefEqProofs only [go_sem, rB, rA, rS, rL, a85, St.cellsOf_v, St.cs, f0, f12, f13, St.fold]
 repeat' first
  | (refine br_intro (fun hb => ?_) (fun hb => ?_) <;> simp -implicitDefEqProofs only [go_sem, rB, rA, rS, rM, rL, rE, jL, jN, hb, f0, f1, f2, f3, f4, f5, f6, f7, f8, f9, f10, f11, f12, f13, f14, St.cs, St.fold])
  | (first | refine callOk_det (has_13 _ he hi hk) ?_ | refine callPure_det (has_13 _ he hi hk) ?_ | refine callOk_of (has_13 _ he hi hk) ?_ | refine callPure_of (has_13 _ he hi hk) ?_); rintro u ⟨_, rfl, hb⟩; simp -implicitDefEqProofs only [go_sem, rB, rA, rS]
  | (refine fun (g : Nat) => ?_; simp -implicitDefEqProofs only [go_sem, rB, rA, rS, rM, rL, rE, jL, jN, f0, f1, f2, f3, f4, f5, f6, f7, f8, f9, f10, f11, f12, f13, f14, St.cs, St.fold])
  | refine fun (g : Nat) => ?_
  | (refine post_ret (v := _) (by simp -implicitDefEqProofs only [go_sem, rB, rA, rS, resultOf, mapM?, ARes.val]; exact rfl) ?_; exact ⟨_, rfl, hb⟩)
theorem has_14 (x : St) (he : x.e.size ≤ 100) (hi : x.i.size ≤ 100) (hk : x.kind = 14) : Ret prog 100 [x.v, .bool false, .bool false, .bool false, .bool false] Heap.none fun r _ => HasP x r := by
 refine Ret.by_text rfl rfl ?_
 simp -implicitDefEqProofs only [go_sem, rB, rA, rS, rL, a100, St.cellsOf_v, St.cs, hk]
 repeat' first
  | (refine br_intro (fun hb => ?_) (fun hb => ?_) <;> simp -implicitDefEqProofs only [go_sem, rB, rA, rS, rL, hb, jB, Ex.fold])
  | (first | refine callOk_det (none106 _ (by omega)) ?_ | refine callPure_det (none106 _ (by omega)) ?_ | refine callOk_of (none106 _ (by omega)) ?_ | refine callPure_of (none106 _ (by omega)) ?_); rintro u ⟨_, rfl⟩; simp -implicitDefEqProofs only [go_sem, rB, rA, rS]
  | (refine fun (g : Nat) => ?_; simp -implicitDefEqProofs only [go_sem, rB, rA, rS, rM, rL, rE, jL, jN, hk, jB, Ex.fold])
  | refine fun (g : Nat) => ?_
  | (refine post_ret (v := _) (by simp -implicitDefEqProofs only [go_sem, rB, rA, rS, resultOf, mapM?, ARes.val]; exact rfl) ?_; first | exact ⟨false, rfl, fun h => by cases h⟩ | exact ⟨_, rfl, fun _ => ⟨fun _ => len0 (by assumption), fun _ _ => len0 (by assumption), fun _ => len0 (by assumption)⟩⟩ | exact ⟨_, rfl, fun hq => ⟨fun _ => len0 (by first | assumption | exact hq), fun _ _ => len0 (by first | assumption | exact hq), fun _ => len0 (by first | assumption | exact hq)⟩⟩)
theorem bare_14 (x : St) (he : x.e.size ≤ 100) (hi : x.i.size ≤ 100) (hk : x.kind = 14) : Ret prog 85 [x.v] Heap.none fun r _ => HasP x r := by
 refine Ret.by_text rfl rfl ?_
 have f0 : (x.kind == 0) = false := by rw [hk]; rfl
 have f1 : (x.kind == 1) = false := by rw [hk]; rfl
 have f2 : (x.kind == 2) = false := by rw [hk]; rfl
 have f3 : (x.kind == 3) = false := by rw [hk]; rfl
 have f4 : (x.kind == 4) = false := by rw [hk]; rfl
 have f5 : (x.kind == 5) = false := by rw [hk]; rfl
 have f6 : (x.kind == 6) = false := by rw [hk]; rfl
 have f7 : (x.kind == 7) = false := by rw [hk]; rfl
 have f8 : (x.kind == 8) = false := by rw [hk]; rfl
 have f9 : (x.kind == 9) = false := by rw [hk]; rfl
 have f10 : (x.kind == 10) = false := by rw [hk]; rfl
 have f11 : (x.kind == 11) = false := by rw [hk]; rfl
 have f12 : (x.kind == 12) = false := by rw [hk]; rfl
 have f13 : (x.kind == 13) = false := by rw [hk]; rfl
 have f14 : (x.kind == 14) = true := by rw [hk]; rfl
 simp -implicitDefEqProofs only [go_sem, rB, rA, rS, rL, a85, St.cellsOf_v, St.cs, f0, f12, f13, f14, St.fold]
 repeat' first
  | (refine br_intro (fun hb => ?_) (fun hb => ?_) <;> simp -implicitDefEqProofs only [go_sem, rB, rA, rS, rM, rL, rE, jL, jN, hb, f0, f1, f2, f3, f4, f5, f6, f7, f8, f9, f10, f11, f12, f13, f14, St.cs, St.fold])
  | (first | refine callOk_det (has_14 _ he hi hk) ?_ | refine callPure_det (has_14 _ he hi hk) ?_ | refine callOk_of (has_14 _ he hi hk) ?_ | refine callPure_of (has_14 _ he hi hk) ?_); rintro u ⟨_, rfl, hb⟩; simp -implicitDefEqProofs only [go_sem, rB, rA, rS]
  | (refine fun (g : Nat) => ?_; simp -implicitDefEqProofs only [go_sem, rB, rA, rS, rM, rL, rE, jL, jN, f0, f1, f2, f3, f4, f5, f6, f7, f8, f9, f10, f11, f12, f13, f14, St.cs, St.fold])
  | refine fun (g : Nat) => ?_
  | (refine post_ret (v := _) (by simp -implicitDefEqProofs only [go_sem, rB, rA, rS, resultOf, mapM?, ARes.val]; exact rfl) ?_; exact ⟨_, rfl, hb⟩)
theorem bare_o (x : St) (hk : ∀ k ∈ [(0 : Int), 1, 2, 3, 4, 5, 6, 7, 8, 9, 10, 11, 12, 13, 14], (x.kind == k) = false) : Ret prog 85 [x.v] Heap.none fun r _ => r = .bool false := by
 simp only [List.mem_cons, List.not_mem_nil, or_false, forall_eq_or_imp, forall_eq] at hk
 obtain ⟨h0, h1, h2, h3, h4, h5, h6, h7, h8, h9, h10, h11, h12, h13, h14⟩ := hk
 refine Ret.by_text rfl rfl ?_
 simp -implicitDefEqProofs only [go_sem, rB, rA, rS, rL, a85, St.cellsOf_v, St.cs, h0, h1, h2, h3, h4, h5, h6, h7, h8, h9, h10, h11, h12, h13, h14]
 repeat' first
  | (refine br_intro (fun hb => ?_) (fun hb => ?_) <;> simp -implicitDefEqProofs only [go_sem, rB, rA, rS, rM, rL, rE, jL, jN, hb, h0, h1, h2, h3, h4, h5, h6, h7, h8, h9, h10, h11, h12, h13, h14])
  | (refine fun (g : Nat) => ?_; simp -implicitDefEqProofs only [go_sem, rB, rA, rS, rM, rL, rE, jL, jN, h0, h1, h2, h3, h4, h5, h6, h7, h8, h9, h10, h11, h12, h13, h14])
  | refine fun (g : Nat) => ?_
  | (refine post_ret (v := _) (by simp -implicitDefEqProofs only [go_sem, rB, rA, rS, resultOf, mapM?, ARes.val]; exact rfl) ?_; rfl)
theorem bare (x : St) (he : x.e.size ≤ 100) (hi : x.i.size ≤ 100) : Ret prog 85 [x.v] Heap.none fun r _ => ∃ b : Bool, r = .bool b ∧ (b = true → BareP x ∧ 0 ≤ x.kind ∧ x.kind ≤ 14) := by
 by_cases hr : 0 ≤ x.kind ∧ x.kind ≤ 14
 ·have key : Ret prog 85 [x.v] Heap.none fun r _ => HasP x r := by
   obtain ⟨k, hk⟩ : ∃ k : Nat, x.kind = k := ⟨x.kind.toNat, by omega⟩
   have : k < 15 := by omega
   match k, this, hk with
   | 0, _, hk => exact bare_0 x he hi hk
   | 1, _, hk => exact bare_1 x he hi hk
   | 2, _, hk => exact bare_2 x he hi hk
   | 3, _, hk => exact bare_3 x he hi hk
   | 4, _, hk => exact bare_4 x he hi hk
   | 5, _, hk => exact bare_5 x he hi hk
   | 6, _, hk => exact bare_6 x he hi hk
   | 7, _, hk => exact bare_7 x he hi hk
   | 8, _, hk => exact bare_8 x he hi hk
   | 9, _, hk => exact bare_9 x he hi hk
   | 10, _, hk => exact bare_10 x he hi hk
   | 11, _, hk => exact bare_11 x he hi hk
   | 12, _, hk => exact bare_12 x he hi hk
   | 13, _, hk => exact bare_13 x he hi hk
   | 14, _, hk => exact bare_14 x he hi hk
  exact Ret.mono _ _ _ (fun u _ => HasP x u) _ (fun u _ ⟨b, e, h⟩ => ⟨b, e, fun hb => ⟨h hb, hr⟩⟩) key
 ·refine Ret.mono _ _ _ (fun u _ => u = .bool false) _ (fun u _ e => ⟨false, e, fun h => by cases h⟩) (bare_o x ?_)
  intro k hk
  simp only [List.mem_cons, List.not_mem_nil, or_false] at hk
  simp only [beq_eq_false_iff_ne]
  omega
end TryzT
end Go.Abs
namespace Go.Abs
open Go
def LabOk (a : Am) : Prop := ∀ n ∈ a.labels, 0 ≤ n ∧ n ≤ 255
namespace TryzT
theorem labels86 (l : List Am) (hl : l.length ≤ 60) (ha : ∀ a ∈ l, a.labels.length ≤ 300) : Ret prog 86 [.fsl 2 (l.map Am.cells)] Heap.none fun r _ => ∃ b : Bool, r = .bool b ∧ (b = true → ∀ a ∈ l, LabOk a) := by
 refine Ret.by_text rfl rfl ?_
 simp -implicitDefEqProofs only [go_sem, rB, a86]
 refine Loop.rec (α := Nat × Heap × V × List (List V)) (fun k => l.length - k.1) (fun k => ⟨E 78 [(0, .fsl 2 (l.map Am.cells)), (3, k.2.2.1), (4, .int .i64 k.1)], B 78 [], k.2.1⟩)
  (fun k => k.1 ≤ l.length ∧ SlH 1 k.2.1 k.2.2.1 k.2.2.2 ∧ k.2.2.2.length ≤ 300 * k.1 ∧ (∀ z ∈ k.2.2.2, ∃ n : Int, z = [.int .i64 n]) ∧ ∀ (i : Nat) (a : Am), i < k.1 → l[i]? = some a → LabOk a) ?_ (0, Heap.none, .nsl, []) ⟨Nat.zero_le _, SlH.nil _ _, by simp, by simp, fun i a h => by simp at h⟩ rfl
 rintro ⟨k, h, met, els⟩ ⟨hk, hs, hn, hz, hp⟩ hrec
 simp only [] at hk hs hn hz hp
 simp -implicitDefEqProofs only [go_sem, rB, rA, rS]
 refine br_intro (fun h1 => ?_) (fun h1 => ?_)
 ·have h2 : k < l.length := by simpa using h1
  obtain ⟨a, hx⟩ : ∃ x, l[k]? = some x := ⟨_, lG h2⟩
  have hal := ha a (lM hx)
  simp -implicitDefEqProofs only [go_sem, rB, rA, rS, rL, h1, hx, Am.cells_eq]
  refine br_intro (fun h3 => ?_) (fun h3 => ?_)
  ·simp -implicitDefEqProofs only [go_sem, h3]
   refine post1 ?_
   simp -implicitDefEqProofs only [go_sem, rB, rA, rS]
   exact ⟨false, rfl, fun h => by cases h⟩
  simp -implicitDefEqProofs only [go_sem, rB, h3]
  refine Loop.rec (α := Nat × Heap × V × List (List V)) (fun j => a.labels.length - j.1) (fun j => ⟨E 78 [(0, .fsl 2 (l.map Am.cells)), (3, j.2.2.1), (4, .int .i64 k), (5, .int .i64 j.1)], B 78 [], j.2.1⟩)
   (fun j => j.1 ≤ a.labels.length ∧ SlH 1 j.2.1 j.2.2.1 j.2.2.2 ∧ j.2.2.2.length ≤ 300 * k + j.1 ∧ (∀ z ∈ j.2.2.2, ∃ n : Int, z = [.int .i64 n]) ∧ ∀ (i : Nat) (n : Int), i < j.1 → a.labels[i]? = some n → 0 ≤ n ∧ n ≤ 255) ?_ (0, h, met, els) ⟨Nat.zero_le _, hs, by simpa using hn, hz, fun i a h => by simp at h⟩ rfl
  rintro ⟨j, h, met, els⟩ ⟨hj, hs, hn, hz, hq⟩ hrec2
  simp only [] at hj hs hn hz hq
  simp -implicitDefEqProofs only [go_sem, rB, rA, rS, rL, hx, Am.cells_eq]
  refine br_intro (fun h4 => ?_) (fun h4 => ?_)
  ·have h5 : j < a.labels.length := by simpa using h4
   obtain ⟨n, hy⟩ : ∃ x, a.labels[j]? = some x := ⟨_, lG h5⟩
   simp -implicitDefEqProofs only [go_sem, rB, rA, rS, rL, h4, hx, hy, intC, Am.cells_eq]
   have nope : ∀ s : S, resultOf [ARes.tmp 2] s = some (.bool false) → post [ARes.tmp 2] (fun r _ => ∃ b : Bool, r = .bool b ∧ (b = true → ∀ a ∈ l, LabOk a)) .ret s := fun s hs => post_ret hs ⟨false, rfl, fun h => by cases h⟩
   refine br_intro (fun c1 => ?_) (fun c1 => ?_)
   ·simp -implicitDefEqProofs only [go_sem, rB, rA, rS, c1]
    exact nope _ rfl
   simp -implicitDefEqProofs only [go_sem, rB, rA, rS, c1]
   refine br_intro (fun c2 => ?_) (fun c2 => ?_)
   ·simp -implicitDefEqProofs only [go_sem, rB, rA, rS, c2]
    exact nope _ rfl
   simp -implicitDefEqProofs only [go_sem, rB, rA, rS, c2]
   have n0 : 0 ≤ n ∧ n ≤ 255 := by simp at c1 c2; omega
   refine br_intro (fun c3 => ?_) (fun c3 => ?_)
   case' refine_1 =>
    have j0 : 0 < j := by simpa using c3
    have e1 : IntKind.i64.wrap ((j : Int) - 1) = ((j - 1 : Nat) : Int) := by rw [wrap_in (by omega)]; omega
    obtain ⟨n1, hy1⟩ : ∃ x, a.labels[j - 1]? = some x := ⟨_, lG (by omega)⟩
    simp -implicitDefEqProofs only [go_sem, rB, rA, rS, rL, c3, e1, hx, hy1, intC, Am.cells_eq]
    refine br_intro (fun c4 => ?_) (fun c4 => ?_)
    case' refine_1 =>
     simp -implicitDefEqProofs only [go_sem, c4]
     exact nope _ rfl
    simp -implicitDefEqProofs only [go_sem, rB, c4]
   case' refine_2 => simp -implicitDefEqProofs only [go_sem, rB, rA, rS, c3]
   all_goals
    refine Loop.rec (fun c : Nat => els.length - c) (fun c => ⟨E 78 [(0, .fsl 2 (l.map Am.cells)), (3, met), (4, .int .i64 k), (5, .int .i64 j), (6, .int .i64 n), (7, .int .i64 c)], B 78 [], h⟩) (fun c => c ≤ els.length) ?_ 0 (Nat.zero_le _) rfl
    intro c hc hrec3
    by_cases hlt : c < els.length
    ·have hd : decide ((c : Int) < (els.length : Int)) = true := by simpa using hlt
     rcases hs with ⟨he, _⟩ | ⟨id, hv, hid⟩
     ·subst he; simp at hlt
     obtain ⟨z, hzc⟩ : ∃ z, els[c]? = some z := ⟨_, lG hlt⟩
     obtain ⟨m, hm⟩ := hz z (lM hzc)
     have f1 : ((c : Int) < (els.length : Int)) = True := eq_true (by omega)
     simp -implicitDefEqProofs only [go_sem, rB, rA, rS, rL, hv, hid, hzc, hm, f1, Nat.zero_add]
     refine br_intro (fun c5 => ?_) (fun c5 => ?_)
     ·simp -implicitDefEqProofs only [go_sem, c5]
      exact nope _ rfl
     simp -implicitDefEqProofs only [go_sem, rB, rA, rS, c5, wrap_succ (show c < 9223372036854775807 by omega)]
     have := hrec3 (c + 1) (by omega) (by omega)
     rw [hv] at this
     exact this
    ·have hd : decide ((c : Int) < (els.length : Int)) = false := by simp; omega
     have hs2 := hs
     have fin : ∀ u : V, SlH 1 h u els → ∀ (idt : Nat), h idt = none → ∀ (K : S → Prop) (e : List V) (b : List (Option (Nat × List V))), (∀ id2 h2, SlH 1 h2 (.msl id2 0 (els.length + 1)) (els ++ [[.int .i64 n]]) → K ⟨e.set 77 (.msl id2 0 (els.length + 1)), b, h2⟩) → appK 77 1 8 K ⟨e, b, h.upd idt (some (.arr 1 [[.int .i64 n]]))⟩ u [[.int .i64 n]] := by
      intro u hu idt hidt K e b hK
      refine appK_sl (hu.alloc hidt) (by simp) (by simp) (by simp; omega) fun id2 h2 _ hi _ => hK id2 h2 (.mk hi (by simp))
     have nx : ∀ id2 h2, SlH 1 h2 (.msl id2 0 (els.length + 1)) (els ++ [[.int .i64 n]]) → _ := fun id2 h2 h3 => hrec2 (j + 1, h2, .msl id2 0 (els.length + 1), els ++ [[.int .i64 n]]) (by simp only []; omega) ⟨by simp only []; omega, h3, by simp only [List.length_append, List.length_cons, List.length_nil]; omega, (by
      intro z hz2
      simp only [List.mem_append, List.mem_cons, List.not_mem_nil, or_false] at hz2
      rcases hz2 with hz2 | rfl
      ·exact hz z hz2
      ·exact ⟨n, rfl⟩), (by
      intro i n' hi hn'
      simp only [] at hi
      by_cases e : i = j
      ·subst e; rw [hy] at hn'; injection hn' with hn'; subst hn'; exact n0
      ·exact hq i n' (by omega) hn')⟩
     rcases hs with ⟨he, hv⟩ | ⟨id, hv, hid⟩
     ·have hd0 : decide ((c : Int) < 0) = false := by simp
      simp -implicitDefEqProofs only [go_sem, rB, rA, rS, rM, rL, hv, hd0]
      intro idt hidt
      simp -implicitDefEqProofs only [go_sem, rA, rL, elemsOf, upd_self]
      refine fin _ (by rw [← hv]; exact hs2) idt hidt _ _ _ fun id2 h2 h3 => ?_
      simp -implicitDefEqProofs only [go_sem, rB, rA, rS, wrap_succ (show j < 9223372036854775807 by omega)]
      exact nx id2 h2 h3
     ·simp -implicitDefEqProofs only [go_sem, rB, rA, rS, rM, rL, hv, hd]
      intro idt hidt
      simp -implicitDefEqProofs only [go_sem, rA, rL, elemsOf, upd_self]
      refine fin _ (by rw [← hv]; exact hs2) idt hidt _ _ _ fun id2 h2 h3 => ?_
      simp -implicitDefEqProofs only [go_sem, rB, rA, rS, wrap_succ (show j < 9223372036854775807 by omega)]
      exact nx id2 h2 h3
  ·have h5 : ¬ j < a.labels.length := by simpa using h4
   simp -implicitDefEqProofs only [go_sem, rB, rA, rS, h4, wrap_succ (show k < 9223372036854775807 by omega)]
   refine hrec (k + 1, h, met, els) (by simp only []; omega) ⟨by simp only []; omega, hs, by simp only []; omega, hz, fun i a' hi ha' => ?_⟩
   simp only [] at hi
   by_cases e : i = k
   ·subst e; rw [hx] at ha'; injection ha' with ha'; subst ha'
    intro n hn
    obtain ⟨i, hi, e⟩ := List.getElem_of_mem hn
    exact hq i n (by omega) (by rw [← e]; exact lG hi)
   ·exact hp i a' (by omega) ha'
 ·have h2 : ¬ k < l.length := by simpa using h1
  simp -implicitDefEqProofs only [go_sem, rB, h1]
  refine post1 ?_
  simp -implicitDefEqProofs only [go_sem, rB, rA, rS]
  refine ⟨true, rfl, fun _ a hm => ?_⟩
  obtain ⟨i, hi, e⟩ := List.getElem_of_mem hm
  exact hp i a (by omega) (by rw [← e]; exact lG hi)
end TryzT
end Go.Abs
namespace Go.Abs
open Go
def rightF (t : Int) : Bool := decide (t > 0) && decide (t < 7)
def lowF (t : Int) : Int := if t = 2 then -32768 else if t = 3 then -2147483648 else 0
def highF (t : Int) : Int := if t = 1 then 1 else if t = 2 then 32767 else if t = 3 then 2147483647 else if t = 4 then 65535 else 4294967295
def inF (t v : Int) : Bool := t == 6 || (rightF t && decide (v ≥ lowF t) && decide (v ≤ highF t))
theorem many_ne (t : Int) : (IntKind.i64.wrap (IntKind.i64.wrap (highF t - lowF t) + 1) = 0) = False := by
 unfold highF lowF
 apply eq_false
 repeat' split
 all_goals first | omega | decide
theorem many1_ne (t : Int) : (IntKind.i64.wrap (highF t + 1) = 0) = False := by
 unfold highF
 apply eq_false
 repeat' split
 all_goals decide
namespace TryzT
theorem d_right (t : Int) : Det prog 17 [.int .i64 t] (· = .bool (rightF t)) := by
 refine Det.by_text rfl rfl ?_
 simp -implicitDefEqProofs only [go_sem, rB, rA, rS, a17]
 repeat' first
  | (refine dx_br (fun hb => ?_) (fun hb => ?_) <;> simp -implicitDefEqProofs only [go_sem, rB, rA, rS, hb])
  | (refine dx_all ?_; simp -implicitDefEqProofs only [go_sem, rB, rA, rS, rM, rL, rE, jL, jN])
  | refine dx_all ?_
  | (refine dx_post _ (fun _ => (by simp -implicitDefEqProofs only [go_sem, rB, rA, rS, resultOf, mapM?, ARes.val]; exact rfl)) ?_; simp_all [rightF] <;> omega)
theorem d_low (t : Int) : Det prog 31 [.int .i64 t] (· = .int .i64 (lowF t)) := by
 refine Det.by_text rfl rfl ?_
 simp -implicitDefEqProofs only [go_sem, rB, rA, rS, a31]
 repeat' first
  | (refine dx_br (fun hb => ?_) (fun hb => ?_) <;> simp -implicitDefEqProofs only [go_sem, rB, rA, rS, hb])
  | (refine dx_all ?_; simp -implicitDefEqProofs only [go_sem, rB, rA, rS, rM, rL, rE, jL, jN])
  | refine dx_all ?_
  | (refine dx_post _ (fun _ => (by simp -implicitDefEqProofs only [go_sem, rB, rA, rS, resultOf, mapM?, ARes.val]; exact rfl)) ?_; simp_all [lowF])
theorem d_high (t : Int) : Det prog 32 [.int .i64 t] (· = .int .i64 (highF t)) := by
 refine Det.by_text rfl rfl ?_
 simp -implicitDefEqProofs only [go_sem, rB, rA, rS, a32]
 repeat' first
  | (refine dx_br (fun hb => ?_) (fun hb => ?_) <;> simp -implicitDefEqProofs only [go_sem, rB, rA, rS, hb])
  | (refine dx_all ?_; simp -implicitDefEqProofs only [go_sem, rB, rA, rS, rM, rL, rE, jL, jN])
  | refine dx_all ?_
  | (refine dx_post _ (fun _ => (by simp -implicitDefEqProofs only [go_sem, rB, rA, rS, resultOf, mapM?, ARes.val]; exact rfl)) ?_; simp_all [highF])
theorem d_in (t v : Int) : Det prog 18 [.int .i64 t, .int .i64 v] (· = .bool (inF t v)) := by
 refine Det.by_text rfl rfl ?_
 simp -implicitDefEqProofs only [go_sem, rB, rA, rS, a18]
 repeat' first
  | (refine dx_br (fun hb => ?_) (fun hb => ?_) <;> simp -implicitDefEqProofs only [go_sem, rB, rA, rS, hb])
  | (first | refine dx_call (d_right _) ?_ | refine dx_pcall (d_right _) ?_); rintro u rfl; simp -implicitDefEqProofs only [go_sem, rB, rA, rS]
  | (first | refine dx_call (d_low _) ?_ | refine dx_pcall (d_low _) ?_); rintro u rfl; simp -implicitDefEqProofs only [go_sem, rB, rA, rS]
  | (first | refine dx_call (d_high _) ?_ | refine dx_pcall (d_high _) ?_); rintro u rfl; simp -implicitDefEqProofs only [go_sem, rB, rA, rS]
  | (refine dx_all ?_; simp -implicitDefEqProofs only [go_sem, rB, rA, rS, rM, rL, rE, jL, jN])
  | refine dx_all ?_
  | (refine dx_post _ (fun _ => (by simp -implicitDefEqProofs only [go_sem, rB, rA, rS, resultOf, mapM?, ARes.val]; exact rfl)) ?_; simp_all [inF] <;> omega)
def IsBit (c : Prop) (v : V) : Prop := ∃ n : Int, v = .int .i64 n ∧ (c → n = 0 ∨ n = 1)
theorem d_wrap (t v : Int) : Det prog 50 [.int .i64 t, .int .i64 v] (IsBit (t = 1)) := by
 refine Det.by_text rfl rfl ?_
 simp -implicitDefEqProofs only [go_sem, rB, rA, rS, a50]
 repeat' first
  | (refine dx_br (fun hb => ?_) (fun hb => ?_) <;> simp -implicitDefEqProofs only [go_sem, rB, rA, rS, hb])
  | (first | refine dx_call (d_right _) ?_ | refine dx_pcall (d_right _) ?_); rintro u rfl; simp -implicitDefEqProofs only [go_sem, rB, rA, rS]
  | (first | refine dx_call (d_low _) ?_ | refine dx_pcall (d_low _) ?_); rintro u rfl; simp -implicitDefEqProofs only [go_sem, rB, rA, rS, many_ne]
  | (first | refine dx_call (d_high _) ?_ | refine dx_pcall (d_high _) ?_); rintro u rfl; simp -implicitDefEqProofs only [go_sem, rB, rA, rS]
  | (refine dx_all ?_; simp -implicitDefEqProofs only [go_sem, rB, rA, rS, rM, rL, rE, jL, jN, many_ne])
  | refine dx_all ?_
  | (refine dx_post _ (fun _ => (by simp -implicitDefEqProofs only [go_sem, rB, rA, rS, resultOf, mapM?, ARes.val]; exact rfl)) ?_; exact ⟨_, rfl, fun ht => by subst ht; first | exact .inl rfl | exact .inr rfl | simp_all⟩)
theorem d_goes (op t : Int) : Det prog 96 [.int .i64 op, .int .i64 t] (fun v => ∃ b : Bool, v = .bool b ∧ (t = 1 → b = true → op ≥ 14 ∧ op ≠ 18 ∧ op ≠ 19)) := by
 refine Det.by_text rfl rfl ?_
 simp -implicitDefEqProofs only [go_sem, rB, rA, rS, a96]
 repeat' first
  | (refine dx_br (fun hb => ?_) (fun hb => ?_) <;> simp -implicitDefEqProofs only [go_sem, rB, rA, rS, hb])
  | (refine dx_all ?_; simp -implicitDefEqProofs only [go_sem, rB, rA, rS, rM, rL, rE, jL, jN])
  | refine dx_all ?_
  | (refine dx_post _ (fun _ => (by simp -implicitDefEqProofs only [go_sem, rB, rA, rS, resultOf, mapM?, ARes.val]; exact rfl)) ?_; exact ⟨_, rfl, fun ht hb' => by subst ht; simp_all <;> omega⟩)
theorem d_binary (op : Int) : Det prog 95 [.int .i64 op] (fun v => ∃ b : Bool, v = .bool b ∧ (b = true → op ≠ 17)) := by
 refine Det.by_text rfl rfl ?_
 simp -implicitDefEqProofs only [go_sem, rB, rA, rS, a95]
 repeat' first
  | (refine dx_br (fun hb => ?_) (fun hb => ?_) <;> simp -implicitDefEqProofs only [go_sem, rB, rA, rS, hb])
  | (refine dx_all ?_; simp -implicitDefEqProofs only [go_sem, rB, rA, rS, rM, rL, rE, jL, jN])
  | refine dx_all ?_
  | (refine dx_post _ (fun _ => (by simp -implicitDefEqProofs only [go_sem, rB, rA, rS, resultOf, mapM?, ARes.val]; exact rfl)) ?_; exact ⟨_, rfl, fun h => by simp_all⟩)
theorem d_result (op t : Int) : Det prog 94 [.int .i64 op, .int .i64 t] (fun v => ∃ n : Int, v = .int .i64 n ∧ (n = 1 → op ≥ 20 ∨ t = 1)) := by
 refine Det.by_text rfl rfl ?_
 simp -implicitDefEqProofs only [go_sem, rB, rA, rS, a94]
 repeat' first
  | (refine dx_br (fun hb => ?_) (fun hb => ?_) <;> simp -implicitDefEqProofs only [go_sem, rB, rA, rS, hb])
  | (first | refine dx_call (d_goes _ _) ?_ | refine dx_pcall (d_goes _ _) ?_); rintro u ⟨_, rfl, _⟩; simp -implicitDefEqProofs only [go_sem, rB, rA, rS]
  | (refine dx_all ?_; simp -implicitDefEqProofs only [go_sem, rB, rA, rS, rM, rL, rE, jL, jN])
  | refine dx_all ?_
  | (refine dx_post _ (fun _ => (by simp -implicitDefEqProofs only [go_sem, rB, rA, rS, resultOf, mapM?, ARes.val]; exact rfl)) ?_; first | exact ⟨_, rfl, fun h => absurd h (by decide)⟩ | exact ⟨_, rfl, fun h => .inr h⟩ | exact ⟨_, rfl, fun _ => .inl (by simpa using hb)⟩)
def IsIB (c : Prop) (v : V) : Prop := ∃ (n : Int) (b : Bool), v = .tup [.int .i64 n, .bool b] ∧ (c → n = 0 ∨ n = 1)
def IsIIB (c : Prop) (v : V) : Prop := ∃ (n m : Int) (b : Bool), v = .tup [.int .i64 n, .int .i64 m, .bool b] ∧ (c → n = 0 ∨ n = 1)
theorem _root_.Go.Abs.inF1 {a : Int} (h : inF 1 a = true) : a = 0 ∨ a = 1 := by
 simp [inF, rightF, lowF, highF] at h
 omega
theorem d_un (op t a : Int) : Det prog 73 [.int .i64 op, .int .i64 t, .int .i64 a] (IsIB (t = 1)) := by
 by_cases ht : t = 1
 ·subst ht
  refine Det.by_text rfl rfl ?_
  simp -implicitDefEqProofs only [go_sem, rB, rA, rS, a73]
  repeat' first
   | (refine dx_br (fun hb => ?_) (fun hb => ?_) <;> simp -implicitDefEqProofs only [go_sem, rB, rA, rS, hb])
   | (first | refine dx_call (d_goes _ _) ?_ | refine dx_pcall (d_goes _ _) ?_); rintro u ⟨_, rfl, hg⟩; simp -implicitDefEqProofs only [go_sem, rB, rA, rS]
   | (first | refine dx_call (d_in _ _) ?_ | refine dx_pcall (d_in _ _) ?_); rintro u rfl; simp -implicitDefEqProofs only [go_sem, rB, rA, rS]
   | (first | refine dx_call (d_wrap _ _) ?_ | refine dx_pcall (d_wrap _ _) ?_); rintro u ⟨_, rfl, hw⟩; simp -implicitDefEqProofs only [go_sem, rB, rA, rS]
   | (first | refine dx_call (d_high _) ?_ | refine dx_pcall (d_high _) ?_); rintro u rfl; simp -implicitDefEqProofs only [go_sem, rB, rA, rS]
   | (refine dx_all ?_; simp -implicitDefEqProofs only [go_sem, rB, rA, rS, rM, rL, rE, jL, jN])
   | refine dx_all ?_
   | (refine dx_post _ (fun _ => (by simp -implicitDefEqProofs only [go_sem, rB, rA, rS, resultOf, mapM?, ARes.val]; exact rfl)) ?_; exact ⟨_, _, rfl, fun _ => by first | exact .inl rfl | exact hw rfl | (rcases inF1 (by assumption) with e | e <;> subst e <;> simp [highF, IntKind.wrap] <;> decide)⟩)
 ·refine Det.by_text rfl rfl ?_
  simp -implicitDefEqProofs only [go_sem, rB, rA, rS, a73]
  repeat' first
   | (refine dx_br (fun hb => ?_) (fun hb => ?_) <;> simp -implicitDefEqProofs only [go_sem, rB, rA, rS, hb])
   | (first | refine dx_call (d_goes _ _) ?_ | refine dx_pcall (d_goes _ _) ?_); rintro u ⟨_, rfl, _⟩; simp -implicitDefEqProofs only [go_sem, rB, rA, rS]
   | (first | refine dx_call (d_in _ _) ?_ | refine dx_pcall (d_in _ _) ?_); rintro u rfl; simp -implicitDefEqProofs only [go_sem, rB, rA, rS]
   | (first | refine dx_call (d_wrap _ _) ?_ | refine dx_pcall (d_wrap _ _) ?_); rintro u ⟨_, rfl, _⟩; simp -implicitDefEqProofs only [go_sem, rB, rA, rS]
   | (first | refine dx_call (d_high _) ?_ | refine dx_pcall (d_high _) ?_); rintro u rfl; simp -implicitDefEqProofs only [go_sem, rB, rA, rS]
   | (refine dx_all ?_; simp -implicitDefEqProofs only [go_sem, rB, rA, rS, rM, rL, rE, jL, jN])
   | refine dx_all ?_
   | (refine dx_post _ (fun _ => (by simp -implicitDefEqProofs only [go_sem, rB, rA, rS, resultOf, mapM?, ARes.val]; exact rfl)) ?_; exact ⟨_, _, rfl, fun h => absurd h ht⟩)
theorem d_conv (fr to v : Int) : Det prog 75 [.int .i64 fr, .int .i64 to, .int .i64 v] (IsIB (to = 1)) := by
 refine Det.by_text rfl rfl ?_
 simp -implicitDefEqProofs only [go_sem, rB, rA, rS, a75]
 repeat' first
  | (refine dx_br (fun hb => ?_) (fun hb => ?_) <;> simp -implicitDefEqProofs only [go_sem, rB, rA, rS, hb])
  | (first | refine dx_call (d_in _ _) ?_ | refine dx_pcall (d_in _ _) ?_); rintro u rfl; simp -implicitDefEqProofs only [go_sem, rB, rA, rS]
  | (first | refine dx_call (d_wrap _ _) ?_ | refine dx_pcall (d_wrap _ _) ?_); rintro u ⟨_, rfl, hw⟩; simp -implicitDefEqProofs only [go_sem, rB, rA, rS]
  | (refine dx_all ?_; simp -implicitDefEqProofs only [go_sem, rB, rA, rS, rM, rL, rE, jL, jN])
  | refine dx_all ?_
  | (refine dx_post _ (fun _ => (by simp -implicitDefEqProofs only [go_sem, rB, rA, rS, resultOf, mapM?, ARes.val]; exact rfl)) ?_; exact ⟨_, _, rfl, fun h => by first | exact .inl rfl | exact hw h⟩)
theorem d_so (op a b : Int) : Det prog 99 [.int .i64 op, .int .i64 a, .int .i64 b] IsBool := by
 refine Det.by_text rfl rfl ?_
 simp -implicitDefEqProofs only [go_sem, rB, rA, rS, a99]
 repeat' first
  | (refine dx_br (fun hb => ?_) (fun hb => ?_) <;> simp -implicitDefEqProofs only [go_sem, rB, rA, rS, hb])
  | (refine dx_all ?_; simp -implicitDefEqProofs only [go_sem, rB, rA, rS, rM, rL, rE, jL, jN])
  | refine dx_all ?_
  | (refine dx_post _ (fun _ => (by simp -implicitDefEqProofs only [go_sem, rB, rA, rS, resultOf, mapM?, ARes.val]; exact rfl)) ?_; exact ⟨_, rfl⟩)
end TryzT
end Go.Abs
namespace Go.Abs
open Go
theorem two_ne : ((2 : Int) = 0) = False := by simp
namespace TryzT
theorem d_bits (op a b : Int) : Det prog 97 [.int .i64 op, .int .i64 a, .int .i64 b] IsInt := by
 refine Det.by_text rfl rfl ?_
 simp -implicitDefEqProofs only [go_sem, rB, rA, a97]
 refine dx_loop (α := Int × Int × Int × Int × Nat) (fun k => 32 - k.2.2.2.2) (fun k _ => ⟨E 52 [(0, .int .i64 op), (1, .int .i64 k.1), (2, .int .i64 k.2.1), (7, .int .i64 k.2.2.1), (8, .int .i64 k.2.2.2.1), (9, .int .i64 (k.2.2.2.2 : Nat))], B 52 [], Heap.none⟩) (fun k => k.2.2.2.2 ≤ 32) ?_ (a, b, 0, 1, 0) (by simp) (fun _ => rfl)
 rintro ⟨a, b, out, pl, i⟩ hi hrec
 simp only [] at hi
 simp -implicitDefEqProofs only [go_sem, rB, rA, rS]
 refine dx_br (fun h1 => ?_) (fun h1 => ?_)
 ·have h2 : i < 32 := by simp at h1; omega
  have hw := wrap_succ (show i < 9223372036854775807 by omega)
  simp -implicitDefEqProofs only [go_sem, rB, rA, rS, h1, two_ne]
  repeat' first
   | (refine dx_br (fun hb => ?_) (fun hb => ?_) <;> simp -implicitDefEqProofs only [go_sem, rB, rA, rS, hb, two_ne, hw])
   | (refine dx_all ?_; simp -implicitDefEqProofs only [go_sem, rB, rA, rS, rM, rL, rE, jL, jN, two_ne, hw])
   | refine dx_all ?_
   | (refine dx_post _ (fun _ => (by simp -implicitDefEqProofs only [go_sem, resultOf]; exact rfl)) ?_; exact ⟨_, rfl⟩)
  all_goals exact hrec (_, _, _, _, i + 1) (by simp only []; omega) (by simp only []; omega)
 ·simp -implicitDefEqProofs only [go_sem, rB, rA, rS, h1]
  repeat' first
   | (refine dx_br (fun hb => ?_) (fun hb => ?_) <;> simp -implicitDefEqProofs only [go_sem, rB, rA, rS, rM, rL, rE, jL, jN, hb])
   | (refine dx_all ?_; simp -implicitDefEqProofs only [go_sem, rB, rA, rS, rM, rL, rE, jL, jN])
   | refine dx_all ?_
   | (refine dx_post _ (fun _ => (by simp -implicitDefEqProofs only [go_sem, rB, rA, rS, resultOf, mapM?, ARes.val]; exact rfl)) ?_; exact ⟨_, rfl⟩)
theorem d_shift (op t a b : Int) : Det prog 98 [.int .i64 op, .int .i64 t, .int .i64 a, .int .i64 b] IsInt := by
 refine Det.by_text rfl rfl ?_
 simp -implicitDefEqProofs only [go_sem, rB, rA, a98]
 refine dx_loop (α := Int × Nat) (fun k => 40 - k.2) (fun k _ => ⟨E 30 [(0, .int .i64 op), (1, .int .i64 t), (2, .int .i64 k.1), (3, .int .i64 b), (9, .int .i64 (k.2 : Nat))], B 30 [], Heap.none⟩) (fun k => k.2 ≤ 40) ?_ (a, 0) (by simp) (fun _ => rfl)
 rintro ⟨a, i⟩ hi hrec
 simp only [] at hi
 simp -implicitDefEqProofs only [go_sem, rB, rA, rS]
 refine dx_br (fun h1 => ?_) (fun h1 => ?_)
 ·simp -implicitDefEqProofs only [go_sem, rB, rA, rS, h1]
  refine dx_br (fun h3 => ?_) (fun h3 => ?_)
  ·have h2 : i < 40 := by simp at h3; omega
   have hw := wrap_succ (show i < 9223372036854775807 by omega)
   simp -implicitDefEqProofs only [go_sem, rB, rA, rS, h3]
   repeat' first
    | (refine dx_br (fun hb => ?_) (fun hb => ?_) <;> simp -implicitDefEqProofs only [go_sem, rB, rA, rS, hb, two_ne, hw])
    | (first | refine dx_call (d_high _) ?_ | refine dx_pcall (d_high _) ?_); rintro u rfl; simp -implicitDefEqProofs only [go_sem, rB, rA, rS, many1_ne, hw]
    | (refine dx_all ?_; simp -implicitDefEqProofs only [go_sem, rB, rA, rS, rM, rL, rE, jL, jN, two_ne, many1_ne, hw])
    | refine dx_all ?_
    | (refine dx_post _ (fun _ => (by simp -implicitDefEqProofs only [go_sem, resultOf]; exact rfl)) ?_; exact ⟨_, rfl⟩)
   all_goals exact hrec (_, i + 1) (by simp only []; omega) (by simp only []; omega)
  ·simp -implicitDefEqProofs only [go_sem, rB, rA, rS, h3]
   repeat' first
    | (refine dx_br (fun hb => ?_) (fun hb => ?_) <;> simp -implicitDefEqProofs only [go_sem, rB, rA, rS, rM, rL, rE, jL, jN, hb])
    | (refine dx_all ?_; simp -implicitDefEqProofs only [go_sem, rB, rA, rS, rM, rL, rE, jL, jN])
    | refine dx_all ?_
    | (refine dx_post _ (fun _ => (by simp -implicitDefEqProofs only [go_sem, rB, rA, rS, resultOf, mapM?, ARes.val]; exact rfl)) ?_; exact ⟨_, rfl⟩)
 ·simp -implicitDefEqProofs only [go_sem, rB, rA, rS, h1]
  repeat' first
   | (refine dx_br (fun hb => ?_) (fun hb => ?_) <;> simp -implicitDefEqProofs only [go_sem, rB, rA, rS, rM, rL, rE, jL, jN, hb])
   | (refine dx_all ?_; simp -implicitDefEqProofs only [go_sem, rB, rA, rS, rM, rL, rE, jL, jN])
   | refine dx_all ?_
   | (refine dx_post _ (fun _ => (by simp -implicitDefEqProofs only [go_sem, rB, rA, rS, resultOf, mapM?, ARes.val]; exact rfl)) ?_; exact ⟨_, rfl⟩)
theorem d_bits1 (op a b : Int) (ha : a = 0 ∨ a = 1) (hb : b = 0 ∨ b = 1) : Det prog 97 [.int .i64 op, .int .i64 a, .int .i64 b] (IsBit True) := by
 refine Det.by_text rfl rfl ?_
 simp -implicitDefEqProofs only [go_sem, rB, rA, a97]
 refine dx_loop (α := Int × Int × Int × Int × Nat) (fun k => 32 - k.2.2.2.2) (fun k _ => ⟨E 52 [(0, .int .i64 op), (1, .int .i64 k.1), (2, .int .i64 k.2.1), (7, .int .i64 k.2.2.1), (8, .int .i64 k.2.2.2.1), (9, .int .i64 (k.2.2.2.2 : Nat))], B 52 [], Heap.none⟩) (fun k => k.2.2.2.2 ≤ 32 ∧ ((k.1 = 0 ∧ k.2.1 = 0 ∧ (k.2.2.1 = 0 ∨ k.2.2.1 = 1)) ∨ ((k.1 = 0 ∨ k.1 = 1) ∧ (k.2.1 = 0 ∨ k.2.1 = 1) ∧ k.2.2.1 = 0 ∧ k.2.2.2.1 = 1))) ?_ (a, b, 0, 1, 0) ⟨by simp, .inr ⟨ha, hb, rfl, rfl⟩⟩ (fun _ => rfl)
 rintro ⟨a, b, out, pl, i⟩ ⟨hi, hinv⟩ hrec
 simp only [] at hi hinv
 simp -implicitDefEqProofs only [go_sem, rB, rA, rS]
 refine dx_br (fun h1 => ?_) (fun h1 => ?_)
 ·have h2 : i < 32 := by simp at h1; omega
  have hw := wrap_succ (show i < 9223372036854775807 by omega)
  have step := fun (o p : Int) (ho : o = 0 ∨ o = 1) => hrec (0, 0, o, p, i + 1) (by simp only []; omega) ⟨by simp only []; omega, .inl ⟨rfl, rfl, ho⟩⟩
  rcases hinv with ⟨rfl, rfl, ho⟩ | ⟨ha, hb, rfl, rfl⟩
  ·simp -implicitDefEqProofs only [go_sem, rB, rA, rS, h1, two_ne, show IntKind.i64.wrap ((0 : Int).tmod 2 + (0 : Int).tmod 2) = 0 from rfl, show IntKind.i64.wrap ((0 : Int).tdiv 2) = 0 from rfl]
   repeat' first
    | (refine dx_br (fun hb => ?_) (fun hb => ?_) <;> simp -implicitDefEqProofs only [go_sem, rB, rA, rS, hb, two_ne, hw, jB, jG, show IntKind.i64.wrap ((0 : Int).tmod 2 + (0 : Int).tmod 2) = 0 from rfl, show IntKind.i64.wrap ((0 : Int).tdiv 2) = 0 from rfl])
    | (refine dx_all ?_; simp -implicitDefEqProofs only [go_sem, rB, rA, rS, rM, rL, rE, jL, jN, two_ne, hw, jB, jG, show IntKind.i64.wrap ((0 : Int).tmod 2 + (0 : Int).tmod 2) = 0 from rfl, show IntKind.i64.wrap ((0 : Int).tdiv 2) = 0 from rfl])
    | refine dx_all ?_
    | (refine dx_post _ (fun _ => (by simp -implicitDefEqProofs only [go_sem, resultOf]; exact rfl)) ?_; exact ⟨_, rfl, fun _ => ho⟩)
   all_goals exact step _ _ ho
  ·rcases ha with rfl | rfl <;> rcases hb with rfl | rfl
   all_goals (simp -implicitDefEqProofs only [go_sem, rB, rA, rS, h1, two_ne, show IntKind.i64.wrap ((0 : Int).tmod 2 + (0 : Int).tmod 2) = 0 from rfl, show IntKind.i64.wrap ((1 : Int).tmod 2 + (0 : Int).tmod 2) = 1 from rfl, show IntKind.i64.wrap ((0 : Int).tmod 2 + (1 : Int).tmod 2) = 1 from rfl, show IntKind.i64.wrap ((1 : Int).tmod 2 + (1 : Int).tmod 2) = 2 from rfl, show IntKind.i64.wrap ((0 : Int).tdiv 2) = 0 from rfl, show IntKind.i64.wrap ((1 : Int).tdiv 2) = 0 from rfl])
   all_goals skip
   repeat' first
    | (refine dx_br (fun hb => ?_) (fun hb => ?_) <;> simp -implicitDefEqProofs only [go_sem, rB, rA, rS, hb, two_ne, hw, jB, jG, show IntKind.i64.wrap ((0 : Int).tdiv 2) = 0 from rfl, show IntKind.i64.wrap ((1 : Int).tdiv 2) = 0 from rfl, show IntKind.i64.wrap ((0 : Int) + 1) = 1 from rfl])
    | (refine dx_all ?_; simp -implicitDefEqProofs only [go_sem, rB, rA, rS, rM, rL, rE, jL, jN, two_ne, hw, jB, jG, show IntKind.i64.wrap ((0 : Int).tdiv 2) = 0 from rfl, show IntKind.i64.wrap ((1 : Int).tdiv 2) = 0 from rfl, show IntKind.i64.wrap ((0 : Int) + 1) = 1 from rfl])
    | refine dx_all ?_
    | (refine dx_post _ (fun _ => (by simp -implicitDefEqProofs only [go_sem, resultOf]; exact rfl)) ?_; exact ⟨_, rfl, fun _ => .inl rfl⟩)
   all_goals first | exact step _ _ (.inl rfl) | exact step _ _ (.inr rfl)
 ·have ho : out = 0 ∨ out = 1 := by rcases hinv with ⟨_, _, ho⟩ | ⟨_, _, ho, _⟩ <;> omega
  simp -implicitDefEqProofs only [go_sem, rB, rA, rS, h1]
  repeat' first
   | (refine dx_br (fun hb => ?_) (fun hb => ?_) <;> simp -implicitDefEqProofs only [go_sem, rB, rA, rS, rM, rL, rE, jL, jN, hb])
   | (refine dx_all ?_; simp -implicitDefEqProofs only [go_sem, rB, rA, rS, rM, rL, rE, jL, jN])
   | refine dx_all ?_
   | (refine dx_post _ (fun _ => (by simp -implicitDefEqProofs only [go_sem, rB, rA, rS, resultOf, mapM?, ARes.val]; exact rfl)) ?_; exact ⟨_, rfl, fun _ => ho⟩)
theorem d_bin1 (op a b : Int) : Det prog 74 [.int .i64 op, .int .i64 1, .int .i64 a, .int .i64 b] (IsIIB True) := by
 refine Det.by_text rfl rfl ?_
 by_cases hz : b = 0
 ·have z1 : (b == 0) = true := by simpa using hz
  simp -implicitDefEqProofs only [go_sem, rB, rA, rS, a74]
  repeat' first
   | (refine dx_br (fun hb => ?_) (fun hb => ?_) <;> simp -implicitDefEqProofs only [go_sem, rB, rA, rS, hb, z1])
   | (first | refine dx_call (d_binary _) ?_ | refine dx_pcall (d_binary _) ?_); rintro u ⟨_, rfl, hbi⟩; simp -implicitDefEqProofs only [go_sem, rB, rA, rS]
   | (first | refine dx_call (d_goes _ _) ?_ | refine dx_pcall (d_goes _ _) ?_); rintro u ⟨_, rfl, hg⟩; simp -implicitDefEqProofs only [go_sem, rB, rA, rS]
   | (first | refine dx_call (d_in _ _) ?_ | refine dx_pcall (d_in _ _) ?_); rintro u rfl; simp -implicitDefEqProofs only [go_sem, rB, rA, rS]
   | (first | refine dx_call (d_wrap _ _) ?_ | refine dx_pcall (d_wrap _ _) ?_); rintro u ⟨_, rfl, hw⟩; simp -implicitDefEqProofs only [go_sem, rB, rA, rS]
   | (first | refine dx_call (d_bits1 _ _ _ (inF1 (by assumption)) (inF1 (by assumption))) ?_ | refine dx_pcall (d_bits1 _ _ _ (inF1 (by assumption)) (inF1 (by assumption))) ?_); rintro u ⟨_, rfl, hy⟩; simp -implicitDefEqProofs only [go_sem, rB, rA, rS]
   | (first | refine dx_call (d_bits _ _ _) ?_ | refine dx_pcall (d_bits _ _ _) ?_); rintro u ⟨_, rfl⟩; simp -implicitDefEqProofs only [go_sem, rB, rA, rS]
   | (first | refine dx_call (d_shift _ _ _ _) ?_ | refine dx_pcall (d_shift _ _ _ _) ?_); rintro u ⟨_, rfl⟩; simp -implicitDefEqProofs only [go_sem, rB, rA, rS]
   | (first | refine dx_call (d_so _ _ _) ?_ | refine dx_pcall (d_so _ _ _) ?_); rintro u ⟨_, rfl⟩; simp -implicitDefEqProofs only [go_sem, rB, rA, rS]
   | (refine dx_all ?_; simp -implicitDefEqProofs only [go_sem, rB, rA, rS, rM, rL, rE, jL, jN, z1])
   | refine dx_all ?_
   | (refine dx_post _ (fun _ => (by simp -implicitDefEqProofs only [go_sem, rB, rA, rS, resultOf, mapM?, ARes.val]; exact rfl)) ?_; exact ⟨_, _, _, rfl, fun _ => by first | exact .inl rfl | exact .inr rfl | exact hw rfl | exact hy trivial | (exfalso; simp_all <;> omega)⟩)
 ·have z1 : (b == 0) = false := by simpa using hz
  have z2 : (b = 0) = False := eq_false hz
  simp -implicitDefEqProofs only [go_sem, rB, rA, rS, a74]
  repeat' first
   | (refine dx_br (fun hb => ?_) (fun hb => ?_) <;> simp -implicitDefEqProofs only [go_sem, rB, rA, rS, hb, z1, z2])
   | (first | refine dx_call (d_binary _) ?_ | refine dx_pcall (d_binary _) ?_); rintro u ⟨_, rfl, hbi⟩; simp -implicitDefEqProofs only [go_sem, rB, rA, rS]
   | (first | refine dx_call (d_goes _ _) ?_ | refine dx_pcall (d_goes _ _) ?_); rintro u ⟨_, rfl, hg⟩; simp -implicitDefEqProofs only [go_sem, rB, rA, rS]
   | (first | refine dx_call (d_in _ _) ?_ | refine dx_pcall (d_in _ _) ?_); rintro u rfl; simp -implicitDefEqProofs only [go_sem, rB, rA, rS]
   | (first | refine dx_call (d_wrap _ _) ?_ | refine dx_pcall (d_wrap _ _) ?_); rintro u ⟨_, rfl, hw⟩; simp -implicitDefEqProofs only [go_sem, rB, rA, rS]
   | (first | refine dx_call (d_bits1 _ _ _ (inF1 (by assumption)) (inF1 (by assumption))) ?_ | refine dx_pcall (d_bits1 _ _ _ (inF1 (by assumption)) (inF1 (by assumption))) ?_); rintro u ⟨_, rfl, hy⟩; simp -implicitDefEqProofs only [go_sem, rB, rA, rS]
   | (first | refine dx_call (d_bits _ _ _) ?_ | refine dx_pcall (d_bits _ _ _) ?_); rintro u ⟨_, rfl⟩; simp -implicitDefEqProofs only [go_sem, rB, rA, rS]
   | (first | refine dx_call (d_shift _ _ _ _) ?_ | refine dx_pcall (d_shift _ _ _ _) ?_); rintro u ⟨_, rfl⟩; simp -implicitDefEqProofs only [go_sem, rB, rA, rS]
   | (first | refine dx_call (d_so _ _ _) ?_ | refine dx_pcall (d_so _ _ _) ?_); rintro u ⟨_, rfl⟩; simp -implicitDefEqProofs only [go_sem, rB, rA, rS]
   | (refine dx_all ?_; simp -implicitDefEqProofs only [go_sem, rB, rA, rS, rM, rL, rE, jL, jN, z1, z2])
   | refine dx_all ?_
   | (refine dx_post _ (fun _ => (by simp -implicitDefEqProofs only [go_sem, rB, rA, rS, resultOf, mapM?, ARes.val]; exact rfl)) ?_; exact ⟨_, _, _, rfl, fun _ => by first | exact .inl rfl | exact .inr rfl | exact hw rfl | exact hy trivial | (exfalso; simp_all <;> omega)⟩)
theorem d_bin2 (op t a b : Int) (ht : t ≠ 1) : Det prog 74 [.int .i64 op, .int .i64 t, .int .i64 a, .int .i64 b] (IsIIB (op ≥ 20)) := by
 refine Det.by_text rfl rfl ?_
 by_cases hz : b = 0
 ·have z1 : (b == 0) = true := by simpa using hz
  simp -implicitDefEqProofs only [go_sem, rB, rA, rS, a74]
  repeat' first
   | (refine dx_br (fun hb => ?_) (fun hb => ?_) <;> simp -implicitDefEqProofs only [go_sem, rB, rA, rS, hb, z1])
   | (first | refine dx_call (d_binary _) ?_ | refine dx_pcall (d_binary _) ?_); rintro u ⟨_, rfl, hbi⟩; simp -implicitDefEqProofs only [go_sem, rB, rA, rS]
   | (first | refine dx_call (d_goes _ _) ?_ | refine dx_pcall (d_goes _ _) ?_); rintro u ⟨_, rfl, hg⟩; simp -implicitDefEqProofs only [go_sem, rB, rA, rS]
   | (first | refine dx_call (d_in _ _) ?_ | refine dx_pcall (d_in _ _) ?_); rintro u rfl; simp -implicitDefEqProofs only [go_sem, rB, rA, rS]
   | (first | refine dx_call (d_wrap _ _) ?_ | refine dx_pcall (d_wrap _ _) ?_); rintro u ⟨_, rfl, hw⟩; simp -implicitDefEqProofs only [go_sem, rB, rA, rS]
   | (first | refine dx_call (d_bits _ _ _) ?_ | refine dx_pcall (d_bits _ _ _) ?_); rintro u ⟨_, rfl⟩; simp -implicitDefEqProofs only [go_sem, rB, rA, rS]
   | (first | refine dx_call (d_shift _ _ _ _) ?_ | refine dx_pcall (d_shift _ _ _ _) ?_); rintro u ⟨_, rfl⟩; simp -implicitDefEqProofs only [go_sem, rB, rA, rS]
   | (first | refine dx_call (d_so _ _ _) ?_ | refine dx_pcall (d_so _ _ _) ?_); rintro u ⟨_, rfl⟩; simp -implicitDefEqProofs only [go_sem, rB, rA, rS]
   | (refine dx_all ?_; simp -implicitDefEqProofs only [go_sem, rB, rA, rS, rM, rL, rE, jL, jN, z1])
   | refine dx_all ?_
   | (refine dx_post _ (fun _ => (by simp -implicitDefEqProofs only [go_sem, rB, rA, rS, resultOf, mapM?, ARes.val]; exact rfl)) ?_; exact ⟨_, _, _, rfl, fun hc => by first | exact .inl rfl | exact .inr rfl | (exfalso; simp_all <;> omega)⟩)
 ·have z1 : (b == 0) = false := by simpa using hz
  have z2 : (b = 0) = False := eq_false hz
  simp -implicitDefEqProofs only [go_sem, rB, rA, rS, a74]
  repeat' first
   | (refine dx_br (fun hb => ?_) (fun hb => ?_) <;> simp -implicitDefEqProofs only [go_sem, rB, rA, rS, hb, z1, z2])
   | (first | refine dx_call (d_binary _) ?_ | refine dx_pcall (d_binary _) ?_); rintro u ⟨_, rfl, hbi⟩; simp -implicitDefEqProofs only [go_sem, rB, rA, rS]
   | (first | refine dx_call (d_goes _ _) ?_ | refine dx_pcall (d_goes _ _) ?_); rintro u ⟨_, rfl, hg⟩; simp -implicitDefEqProofs only [go_sem, rB, rA, rS]
   | (first | refine dx_call (d_in _ _) ?_ | refine dx_pcall (d_in _ _) ?_); rintro u rfl; simp -implicitDefEqProofs only [go_sem, rB, rA, rS]
   | (first | refine dx_call (d_wrap _ _) ?_ | refine dx_pcall (d_wrap _ _) ?_); rintro u ⟨_, rfl, hw⟩; simp -implicitDefEqProofs only [go_sem, rB, rA, rS]
   | (first | refine dx_call (d_bits _ _ _) ?_ | refine dx_pcall (d_bits _ _ _) ?_); rintro u ⟨_, rfl⟩; simp -implicitDefEqProofs only [go_sem, rB, rA, rS]
   | (first | refine dx_call (d_shift _ _ _ _) ?_ | refine dx_pcall (d_shift _ _ _ _) ?_); rintro u ⟨_, rfl⟩; simp -implicitDefEqProofs only [go_sem, rB, rA, rS]
   | (first | refine dx_call (d_so _ _ _) ?_ | refine dx_pcall (d_so _ _ _) ?_); rintro u ⟨_, rfl⟩; simp -implicitDefEqProofs only [go_sem, rB, rA, rS]
   | (refine dx_all ?_; simp -implicitDefEqProofs only [go_sem, rB, rA, rS, rM, rL, rE, jL, jN, z1, z2])
   | refine dx_all ?_
   | (refine dx_post _ (fun _ => (by simp -implicitDefEqProofs only [go_sem, rB, rA, rS, resultOf, mapM?, ARes.val]; exact rfl)) ?_; exact ⟨_, _, _, rfl, fun hc => by first | exact .inl rfl | exact .inr rfl | (exfalso; simp_all <;> omega)⟩)
theorem d_bin (op t a b : Int) : Det prog 74 [.int .i64 op, .int .i64 t, .int .i64 a, .int .i64 b] (IsIIB (op ≥ 20 ∨ t = 1)) := by
 by_cases ht : t = 1
 ·subst ht
  exact (d_bin1 op a b).mono fun r ⟨n, m, c, e, h⟩ => ⟨n, m, c, e, fun _ => h trivial⟩
 ·exact (d_bin2 op t a b ht).mono fun r ⟨n, m, c, e, h⟩ => ⟨n, m, c, e, fun hc => h (hc.resolve_right ht)⟩
end TryzT
end Go.Abs
namespace Go.Abs
open Go
theorem rg4 : List.range 4 = [0, 1, 2, 3] := rfl
theorem rg5 : List.range 5 = [0, 1, 2, 3, 4] := rfl
theorem rg8 : List.range 8 = [0, 1, 2, 3, 4, 5, 6, 7] := rfl
theorem rp4 (z : List V) : (List.replicate 4 z).flatten = z ++ (z ++ (z ++ z)) := by simp [List.replicate]
theorem rp5 (z : List V) : (List.replicate 5 z).flatten = z ++ (z ++ (z ++ (z ++ z))) := by simp [List.replicate]
theorem rp8 (z : List V) : (List.replicate 8 z).flatten = z ++ (z ++ (z ++ (z ++ (z ++ (z ++ (z ++ z)))))) := by simp [List.replicate]
def strC (l : List UInt8) : List V := [.str ⟨l.toArray⟩]
def fnames (k : Int) : List (List V) :=
 if 1 ≤ k ∧ k ≤ 3 then [strC [73, 78], strC [80, 84], strC [81], strC [69, 84]]
 else if k = 4 then [strC [67, 85], strC [82], strC [80, 86], strC [81], strC [67, 86]]
 else if k = 5 then [strC [67, 68], strC [76, 68], strC [80, 86], strC [81], strC [67, 86]]
 else if k = 6 then [strC [67, 85], strC [67, 68], strC [82], strC [76, 68], strC [80, 86], strC [81, 85], strC [81, 68], strC [67, 86]]
 else if k = 7 ∨ k = 8 then [strC [67, 76, 75], strC [81]] else []
def ftypes (k : Int) : List Int :=
 if 1 ≤ k ∧ k ≤ 3 then [1, 6, 1, 6]
 else if k = 4 then [1, 1, 2, 1, 2]
 else if k = 5 then [1, 1, 2, 1, 2]
 else if k = 6 then [1, 1, 1, 1, 2, 1, 1, 2]
 else if k = 7 ∨ k = 8 then [1, 1] else []
def fcount (k : Int) : Int := if 1 ≤ k ∧ k ≤ 3 then 2 else if k = 4 then 3 else if k = 5 then 3 else if k = 6 then 5 else if k = 7 ∨ k = 8 then 1 else 0
def fieldsV (k : Int) : V := .tup [.fsl 1 (fnames k), intsV (ftypes k), .int .i64 (fcount k)]
theorem fcount_le (k : Int) : 0 ≤ fcount k ∧ fcount k ≤ (ftypes k).length ∧ (ftypes k).length ≤ 8 := by
 unfold fcount ftypes
 (repeat' split) <;> simp
theorem Frz.tupL {h : Heap} {ids : Nat → Prop} {vs us : List V} (hf : FrzL h ids vs us) : Frz h ids (.tup vs) (.tup us) := .tup _ _ hf.spec.1.symm hf.spec.2
namespace TryzT
theorem r_fields (k : Int) : Ret prog 93 [.int .i64 k] Heap.none fun u _ => u = fieldsV k := by
 have fin : ∀ (s : S) (id1 id2 : Nat) (a b : List (List V)) (n : Int), resultOf [ARes.tmp 2, ARes.tmp 3, ARes.tmp 4] s = some (.tup [.msl id1 0 a.length, .msl id2 0 b.length, .int .i64 n]) → s.h id1 = some (.arr 1 a) → s.h id2 = some (.arr 1 b) →
   fieldsV k = .tup [.fsl 1 a, .fsl 1 b, .int .i64 n] → post [ARes.tmp 2, ARes.tmp 3, ARes.tmp 4] (fun u _ => u = fieldsV k) .ret s := by
  intro s id1 id2 a b n h1 h2 h3 h4
  refine post_frz (h2 := Heap.none) (u := .tup [.fsl 1 a, .fsl 1 b, .int .i64 n]) (fun _ => True) h1 (Frz.tupL (.cons (Frz.whole trivial h2 rfl) (.cons (Frz.whole trivial h3 rfl) (.cons (.same _) .nil)))) (fun _ _ hh => absurd hh (by simp [Heap.none])) (fun _ _ => rfl) h4.symm
 refine Ret.by_text rfl rfl ?_
 by_cases c1 : 1 ≤ k ∧ k ≤ 3
 ·have e1 : decide (k ≥ 1) = true := by simp; omega
  have e2 : decide (k ≤ 3) = true := by simp; omega
  simp -implicitDefEqProofs only [go_sem, rB, rA, rS, rM, rL, a93, e1, e2, rp4, rg4]
  intro id1 h1 id2 h2
  exact fin _ id1 id2 [strC [73, 78], strC [80, 84], strC [81], strC [69, 84]] [[.int .i64 1], [.int .i64 6], [.int .i64 1], [.int .i64 6]] 2 rfl ((upd_other _ _ (ne_of_some (upd_self _ _ _) h2)).trans (upd_self _ _ _)) (upd_self _ _ _) (by simp [fieldsV, fnames, ftypes, fcount, intsV, intC, c1])
 have e0 : (decide (k ≥ 1) && decide (k ≤ 3)) = false := by simp; omega
 by_cases c4 : k = 4
 ·subst c4
  have e1 : decide ((4 : Int) ≥ 1) = true := rfl
  have e2 : decide ((4 : Int) ≤ 3) = false := rfl
  have e4 : ((4 : Int) == 4) = true := rfl
  simp -implicitDefEqProofs only [go_sem, rB, rA, rS, rM, rL, jL, a93, e1, e4, rp5, rg5]
  intro id1 h1 id2 h2
  exact fin _ id1 id2 [strC [67, 85], strC [82], strC [80, 86], strC [81], strC [67, 86]] [[.int .i64 1], [.int .i64 1], [.int .i64 2], [.int .i64 1], [.int .i64 2]] 3 rfl ((upd_other _ _ (ne_of_some (upd_self _ _ _) h2)).trans (upd_self _ _ _)) (upd_self _ _ _) (by simp [fieldsV, fnames, ftypes, fcount, intsV, intC])
 by_cases c5 : k = 5
 ·subst c5
  have e1 : decide ((5 : Int) ≥ 1) = true := rfl
  have e2 : decide ((5 : Int) ≤ 3) = false := rfl
  have e4 : ((5 : Int) == 4) = false := rfl
  have e5 : ((5 : Int) == 5) = true := rfl
  simp -implicitDefEqProofs only [go_sem, rB, rA, rS, rM, rL, jL, a93, e1, e4, e5, rp5, rg5]
  intro id1 h1 id2 h2
  exact fin _ id1 id2 [strC [67, 68], strC [76, 68], strC [80, 86], strC [81], strC [67, 86]] [[.int .i64 1], [.int .i64 1], [.int .i64 2], [.int .i64 1], [.int .i64 2]] 3 rfl ((upd_other _ _ (ne_of_some (upd_self _ _ _) h2)).trans (upd_self _ _ _)) (upd_self _ _ _) (by simp [fieldsV, fnames, ftypes, fcount, intsV, intC])
 by_cases c6 : k = 6
 ·subst c6
  have e1 : decide ((6 : Int) ≥ 1) = true := rfl
  have e2 : decide ((6 : Int) ≤ 3) = false := rfl
  have e4 : ((6 : Int) == 4) = false := rfl
  have e5 : ((6 : Int) == 5) = false := rfl
  have e6 : ((6 : Int) == 6) = true := rfl
  simp -implicitDefEqProofs only [go_sem, rB, rA, rS, rM, rL, jL, a93, e1, e4, e5, e6, rp8, rg8]
  intro id1 h1 id2 h2
  exact fin _ id1 id2 [strC [67, 85], strC [67, 68], strC [82], strC [76, 68], strC [80, 86], strC [81, 85], strC [81, 68], strC [67, 86]] [[.int .i64 1], [.int .i64 1], [.int .i64 1], [.int .i64 1], [.int .i64 2], [.int .i64 1], [.int .i64 1], [.int .i64 2]] 5 rfl ((upd_other _ _ (ne_of_some (upd_self _ _ _) h2)).trans (upd_self _ _ _)) (upd_self _ _ _) (by simp [fieldsV, fnames, ftypes, fcount, intsV, intC])
 have n4 : (k == 4) = false := by simpa using c4
 have n5 : (k == 5) = false := by simpa using c5
 have n6 : (k == 6) = false := by simpa using c6
 by_cases c7 : k = 7 ∨ k = 8
 ·have e1 : decide (k ≥ 1) = true := by simp; omega
  have e2 : decide (k ≤ 3) = false := by simp; omega
  rcases c7 with rfl | rfl
  ·have e7 : ((7 : Int) == 7) = true := rfl
   simp -implicitDefEqProofs only [go_sem, rB, rA, rS, rL, jL, a93, e1, n4, n5, n6, e7]
   intro id1 h1 id2 h2
   exact fin _ id1 id2 [strC [67, 76, 75], strC [81]] [[.int .i64 1], [.int .i64 1]] 1 rfl ((upd_other _ _ (ne_of_some (upd_self _ _ _) h2)).trans (upd_self _ _ _)) (upd_self _ _ _) (by simp [fieldsV, fnames, ftypes, fcount, intsV, intC])
  ·have e7 : ((8 : Int) == 7) = false := rfl
   have e8 : ((8 : Int) == 8) = true := rfl
   simp -implicitDefEqProofs only [go_sem, rB, rA, rS, rL, jL, a93, e1, n4, n5, n6, e7, e8]
   intro id1 h1 id2 h2
   exact fin _ id1 id2 [strC [67, 76, 75], strC [81]] [[.int .i64 1], [.int .i64 1]] 1 rfl ((upd_other _ _ (ne_of_some (upd_self _ _ _) h2)).trans (upd_self _ _ _)) (upd_self _ _ _) (by simp [fieldsV, fnames, ftypes, fcount, intsV, intC])
 have n7 : (k == 7) = false := by simp; omega
 have n8 : (k == 8) = false := by simp; omega
 have hend : ∀ s : S, resultOf [ARes.tmp 2, ARes.tmp 3, ARes.tmp 4] s = some (.tup [.nsl, .nsl, .int .i64 0]) → post [ARes.tmp 2, ARes.tmp 3, ARes.tmp 4] (fun u _ => u = fieldsV k) .ret s := by
  intro s hs
  refine post_frz (h2 := Heap.none) (u := fieldsV k) (fun _ => True) hs ?_ (fun _ _ hh => absurd hh (by simp [Heap.none])) (fun _ _ => rfl) rfl
  have : fieldsV k = .tup [.fsl 1 [], .fsl 1 [], .int .i64 0] := by simp [fieldsV, fnames, ftypes, fcount, c1, c4, c5, c6, c7, intsV]
  rw [this]
  exact Frz.tupL (.cons (.nsl 1) (.cons (.nsl 1) (.cons (.same _) .nil)))
 simp -implicitDefEqProofs only [go_sem, rB, rA, rS, a93]
 refine br_intro (fun e1 => ?_) (fun e1 => ?_)
 ·have e2 : decide (k ≤ 3) = false := by simp at e1 ⊢; omega
  simp -implicitDefEqProofs only [go_sem, rB, rA, rS, e1, e2, n4, n5, n6, n7, n8]
  exact hend _ rfl
 ·simp -implicitDefEqProofs only [go_sem, rB, rA, rS, e1, n4, n5, n6, n7, n8]
  exact hend _ rfl
theorem d_fields (k : Int) : Det prog 93 [.int .i64 k] (· = fieldsV k) := ⟨_, rfl, r_fields k⟩
def instC (xs : List Int) : List V := xs.map fun n => .int .i64 n
theorem inst_at {xs : List Int} (hx : xs.length = 10) {n : Nat} (hn : n < 10) : ∃ y, (instC xs)[n]? = some (.int .i64 y) := by
 obtain ⟨y, hy⟩ : ∃ y, xs[n]? = some y := ⟨_, lG (by omega)⟩
 exact ⟨y, by simp [instC, hy]⟩
theorem inst_len {xs : List Int} (hx : xs.length = 10) : (instC xs).length = 10 := by simp [instC, hx]
theorem d_get (k : Int) (xs : List Int) (hx : xs.length = 10) (i : Int) : Det prog 72 [.int .i64 k, .agg (instC xs), .int .i64 i] (IsBit (i < 0 ∨ (ftypes k)[i.toNat]? = some 1)) := by
 have hl := inst_len hx
 have hfc := fcount_le k
 refine Det.by_text rfl rfl ?_
 simp -implicitDefEqProofs only [go_sem, rB, rA, rS, a72, hl]
 refine dx_all ?_
 refine dx_call (d_fields k) ?_
 rintro u rfl
 simp -implicitDefEqProofs only [go_sem, rB, rA, rS, fieldsV, intsV]
 refine dx_br (fun h1 => ?_) (fun h1 => ?_)
 ·simp -implicitDefEqProofs only [go_sem, rB, rA, rS, h1]
  repeat' first
   | (refine dx_br (fun hb => ?_) (fun hb => ?_) <;> simp -implicitDefEqProofs only [go_sem, rB, rA, rS, rM, rL, rE, jL, jN, hb])
   | (refine dx_all ?_; simp -implicitDefEqProofs only [go_sem, rB, rA, rS, rM, rL, rE, jL, jN])
   | refine dx_all ?_
   | (refine dx_post _ (fun _ => (by simp -implicitDefEqProofs only [go_sem, rB, rA, rS, resultOf, mapM?, ARes.val]; exact rfl)) ?_; exact ⟨_, rfl, fun _ => .inl rfl⟩)
 simp -implicitDefEqProofs only [go_sem, rB, rA, rS, h1]
 refine dx_br (fun h2 => ?_) (fun h2 => ?_)
 ·simp -implicitDefEqProofs only [go_sem, h2]
  repeat' first
   | (refine dx_br (fun hb => ?_) (fun hb => ?_) <;> simp -implicitDefEqProofs only [go_sem, rB, rA, rS, rM, rL, rE, jL, jN, hb])
   | (refine dx_all ?_; simp -implicitDefEqProofs only [go_sem, rB, rA, rS, rM, rL, rE, jL, jN])
   | refine dx_all ?_
   | (refine dx_post _ (fun _ => (by simp -implicitDefEqProofs only [go_sem, rB, rA, rS, resultOf, mapM?, ARes.val]; exact rfl)) ?_; exact ⟨_, rfl, fun _ => .inl rfl⟩)
 have i0 : 0 ≤ i := by simpa using h1
 obtain ⟨n, rfl⟩ : ∃ n : Nat, i = n := ⟨i.toNat, by omega⟩
 have hn : n < (ftypes k).length := by simp at h2; omega
 obtain ⟨ty, hty⟩ : ∃ y, (ftypes k)[n]? = some y := ⟨_, lG hn⟩
 obtain ⟨y, hy⟩ := inst_at hx (show n < 10 by omega)
 have f1 : ((n : Int) < ((10 : Nat) : Int)) = True := eq_true (by omega)
 have f2 : (n + 1 ≤ 10) = True := eq_true (by omega)
 simp -implicitDefEqProofs only [go_sem, rB, rA, rS, rL, h2, hty, intC, f1, f2, hy, hl, Nat.mul_one, Nat.zero_add]
 repeat' first
  | (refine dx_br (fun hb => ?_) (fun hb => ?_) <;> simp -implicitDefEqProofs only [go_sem, rB, rA, rS, rM, rL, rE, jL, jN, hb])
  | (first | refine dx_call (d_wrap _ _) ?_ | refine dx_pcall (d_wrap _ _) ?_); rintro u ⟨_, rfl, hw⟩; simp -implicitDefEqProofs only [go_sem, rB, rA, rS]
  | (refine dx_all ?_; simp -implicitDefEqProofs only [go_sem, rB, rA, rS, rM, rL, rE, jL, jN])
  | refine dx_all ?_
  | (refine dx_post _ (fun _ => (by simp -implicitDefEqProofs only [go_sem, rB, rA, rS, resultOf, mapM?, ARes.val]; exact rfl)) ?_; exact ⟨_, rfl, fun h => hw (by rcases h with h | h; (exfalso; omega); simpa [hty] using h)⟩)
def IsInst (v : V) : Prop := ∃ xs : List Int, xs.length = 10 ∧ v = .agg (instC xs)
theorem inst_set {xs : List Int} (hx : xs.length = 10) (n : Nat) (hn : n < 10) (y : Int) : over (instC xs) n [.int .i64 y] = instC (xs.set n y) := by
 have hl := inst_len hx
 apply List.ext_getElem?
 intro j
 simp only [over, instC, List.length_cons, List.length_nil, Nat.zero_add, List.map_set]
 rw [List.set_eq_take_append_cons_drop]
 rw [if_pos (by simpa [hx] using hn)]
 simp
theorem inst_take {xs : List Int} (hx : xs.length = 10) : (instC xs).take 10 = instC xs := List.take_of_length_le (by rw [inst_len hx]; exact Nat.le_refl _)
theorem over_zero {cs ds : List V} (hd : ds.length = 10) {c0 c1 c2 c3 c4 c5 c6 c7 c8 c9 : V} (hc : cs = [c0, c1, c2, c3, c4, c5, c6, c7, c8, c9] := by rfl) : over cs 0 ds = ds := by
 subst hc
 simp [over, hd]
theorem d_set (k : Int) (xs : List Int) (hx : xs.length = 10) (i v : Int) : Det prog 90 [.int .i64 k, .agg (instC xs), .int .i64 i, .int .i64 v] IsInst := by
 have hl := inst_len hx
 have hfc := fcount_le k
 refine Det.by_text rfl rfl ?_
 simp -implicitDefEqProofs only [go_sem, rB, rA, rS, a90, hl]
 refine dx_all ?_
 refine dx_all ?_
 have ht := inst_take hx
 refine dx_call (d_fields k) ?_
 rintro u rfl
 simp -implicitDefEqProofs only [go_sem, rB, rA, rS, fieldsV, intsV]
 refine dx_br (fun h1 => ?_) (fun h1 => ?_)
 ·simp -implicitDefEqProofs only [go_sem, rB, rA, rS, h1]
  refine dx_br (fun h2 => ?_) (fun h2 => ?_)
  ·have i0 : 0 ≤ i := by simpa using h1
   obtain ⟨n, rfl⟩ : ∃ n : Nat, i = n := ⟨i.toNat, by omega⟩
   have hn : n < (ftypes k).length := by simp at h2; omega
   obtain ⟨ty, hty⟩ : ∃ y, (ftypes k)[n]? = some y := ⟨_, lG hn⟩
   have f1 : ((n : Int) < ((10 : Nat) : Int)) = True := eq_true (by omega)
   have f2 : (n + 1 ≤ 10) = True := eq_true (by omega)
   simp -implicitDefEqProofs only [go_sem, rB, rA, rS, rL, h2, hty, intC]
   refine dx_call (d_wrap _ _) ?_
   rintro u ⟨y, rfl, _⟩
   have hx2 : (xs.set n y).length = 10 := by simpa using hx
   have hl2 := inst_len hx2
   have ht2 := inst_take hx2
   simp -implicitDefEqProofs only [W_region, W_seq, W_ret, Thn_normal, wOps_nil, wOps_cons, val_0, valK_eq, onPut_some, st_0, stK_eq, onS_some, retK_some, ev_E, set_E, set_B, getD_B, look_cons, lookB_cons, look_nil, lookB_nil, cond_true, cond_false, rB, rA, rS, rL, if_true, storeOf, storeCells, and_self, List.length_cons, List.length_nil, List.drop_zero, AVal.eval, cellsOf_agg, cellsOf_int, nat_le, Int.toNat_natCast, loadOf, cellsAt, boxOf, partOf, f1, f2, hl, hl2, ht2, inst_set hx n (by omega) y, over_zero hl2, Nat.mul_one, Nat.zero_add]
   exact dx_post (.agg (instC (xs.set n y))) (fun _ => by simp -implicitDefEqProofs only [go_sem, rB, rA, rS, rL, resultOf, mapM?, ARes.val, hl2, ht2]) ⟨_, hx2, rfl⟩
  ·simp -implicitDefEqProofs only [W_skip, W_region, W_seq, W_ret, Thn_normal, wOps_nil, wOps_cons, val_0, valK_eq, onPut_some, st_0, stK_eq, onS_some, ev_E, set_E, set_B, getD_B, look_cons, lookB_cons, look_nil, lookB_nil, cond_true, cond_false, rB, rA, rS, rL, if_true, storeOf, storeCells, and_self, List.length_cons, List.length_nil, List.drop_zero, AVal.eval, cellsOf_agg, loadOf, cellsAt, boxOf, partOf, h2, hl, ht, over_zero hl]
   exact dx_post (.agg (instC xs)) (fun _ => by simp -implicitDefEqProofs only [go_sem, rB, rA, rS, rL, resultOf, mapM?, ARes.val, hl, ht]) ⟨_, hx, rfl⟩
 ·simp -implicitDefEqProofs only [W_skip, W_region, W_seq, W_cond, W_ret, Thn_normal, wOps_nil, wOps_cons, val_0, val_g, valK_eq, onPut_some, onGuard_bool, onBool_bool, br_false, beq_true', skipK_some, st_0, stK_eq, onS_some, ev_E, ev_c, set_E, set_B, getD_B, look_cons, lookB_cons, look_nil, lookB_nil, cond_true, cond_false, rB, rA, rS, rL, if_true, if_false, storeOf, storeCells, Bool.false_eq_true, and_self, List.length_cons, List.length_nil, List.drop_zero, AVal.eval, cellsOf_agg, loadOf, cellsAt, boxOf, partOf, h1, hl, ht, over_zero hl]
  exact dx_post (.agg (instC xs)) (fun _ => by simp -implicitDefEqProofs only [go_sem, rB, rA, rS, rL, resultOf, mapM?, ARes.val, hl, ht]) ⟨_, hx, rfl⟩
end TryzT
end Go.Abs
namespace Go.Abs
open Go
structure Vr where
 name : ByteArray
 t : Int
 n : Int
 area : Int
 init : Int
def Vr.cells (x : Vr) : List V := [.str x.name, .int .i64 x.t, .int .i64 x.n, .int .i64 x.area, .int .i64 x.init]
structure Bk where
 name : ByteArray
 kind : Int
def Bk.cells (x : Bk) : List V := [.str x.name, .int .i64 x.kind]
structure Sg where
 params : List Int
 result : Int
def Sg.cells (x : Sg) : List V := [.fsl 1 (x.params.map intC), .int .i64 x.result]
structure Sc where
 vars : List Vr
 blocks : List Bk
 sigs : List Sg
 slots : List Int
def Sc.cs (s : Sc) : List V := [.fsl 5 (s.vars.map Vr.cells), .fsl 2 (s.blocks.map Bk.cells), .fsl 2 (s.sigs.map Sg.cells), .fsl 1 (s.slots.map intC)]
def Sc.v (s : Sc) : V := .agg s.cs
theorem Sc.cellsOf_v (s : Sc) : cellsOf s.v = some s.cs := rfl
theorem Sc.fold (s : Sc) : V.agg [.fsl 5 (s.vars.map Vr.cells), .fsl 2 (s.blocks.map Bk.cells), .fsl 2 (s.sigs.map Sg.cells), .fsl 1 (s.slots.map intC)] = s.v := rfl
inductive Good (s : Sc) : Ex → Prop
 | mk (op t n m : Int) (l : List Ex) (h2 : op = 2 ∨ op = 4 → 0 ≤ n ∧ n < s.vars.length) (h3 : op = 3 → 0 ≤ n ∧ n < s.slots.length) (h5 : op = 5 → 0 ≤ n ∧ n < s.blocks.length)
   (hl : ∀ (i : Nat) (e : Ex), i < 2 → l[i]? = some e → Good s e) : Good s (.mk op t n m l)
end Go.Abs
