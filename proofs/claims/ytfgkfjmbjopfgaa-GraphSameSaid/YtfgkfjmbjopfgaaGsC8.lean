/-
  Contracts: like statements, in the program and in the reference.
-/
import Derived.Test.YtfgkfjmbjopfgaaGsC7
set_option linter.unusedVariables false
set_option linter.unusedSimpArgs false
set_option maxRecDepth 100000
namespace Go.Abs
open Go
theorem partAll {cs : List V} {n : Nat} (h : cs.length = n) : partOf cs 0 n true = some (.agg cs) := by
  subst h; simp [partOf]
namespace TryT
theorem like24 {α : Type} (cells : α → List V) (hl : ∀ x, (cells x).length = 19) (spec : α → α → Bool) (a b : List α) (fk : Nat) (caps : List V) (ha : a.length < 1000000)
    (hf : ∀ x ∈ a, ∀ y ∈ b, Ret prog fk (.agg (cells x) :: .agg (cells y) :: caps) Heap.none fun r _ => r = .bool (spec x y)) :
    Ret prog 24 [.fsl 19 (a.map cells), .fsl 19 (b.map cells), .fn fk caps] Heap.none fun r _ => r = .bool (all2 spec a b) := by
  refine Ret.by_text rfl rfl ?_
  simp -implicitDefEqProofs only [number, W_region, W_seq, W_cond, Thn_normal, wOps_nil, wOps_cons, val_0, valK_eq, onPut_some, onBool_bool, ev_E, ev_c, set_E, look_cons, look_nil, cond_true, cond_false, Nat.reduceBEq, Nat.reduceAdd, Nat.reduceSub, if_true, AVal.eval, List.length_map, binOf, intOf, a24]
  refine br_intro (fun h5 => ?_) (fun h5 => ?_)
  · simp -implicitDefEqProofs only [W_region, W_seq, W_ret, Thn_normal, Thn_ret, wOps_nil, wOps_cons, val_0, valK_eq, onPut_some, ev_c, set_E, AVal.eval, h5]
    refine post1 ?_
    simp -implicitDefEqProofs only [ev_E, look_cons, look_nil, cond_true, cond_false, Nat.reduceBEq, Nat.reduceAdd, Nat.reduceSub]
    rw [all2_len (by simpa [Int.natCast_inj] using h5)]
  simp -implicitDefEqProofs only [W_skip, W_region, W_seq, W_block, W_loop, keep_eq, Thn_normal, wOps_nil, wOps_cons, val_0, valK_eq, onPut_some, ev_E, ev_c, set_E, look_cons, look_nil, lookB_nil, cond_true, cond_false, Nat.reduceBEq, Nat.reduceAdd, Nat.reduceSub, List.map_cons, List.map_nil, AVal.eval, List.length_map, h5]
  simp only [bne_eq_false_iff_eq, Int.natCast_inj] at h5
  refine Loop.rec (fun k : Nat => a.length - k) (fun k => ⟨E 30 [(0, .fsl 19 (a.map cells)), (1, .fsl 19 (b.map cells)), (2, .fn fk caps), (14, .int .i64 a.length), (15, .int .i64 k)], B 30 [], Heap.none⟩)
    (fun k => k ≤ a.length ∧ all2 spec a b = all2 spec (a.drop k) (b.drop k)) ?_ 0 ⟨Nat.zero_le _, rfl⟩ rfl
  intro k hk hi
  simp -implicitDefEqProofs only [W_region, W_seq, W_cond, Thn_normal, wOps_nil, wOps_cons, val_0, valK_eq, onPut_some, onBool_bool, ev_E, set_E, look_cons, look_nil, cond_true, cond_false, Nat.reduceBEq, Nat.reduceAdd, Nat.reduceSub, if_true, AVal.eval, binOf, intOf]
  refine br_intro (fun h6 => ?_) (fun h6 => ?_)
  · have h7 : k < a.length := by simpa using h6
    obtain ⟨x, hx⟩ : ∃ x, a[k]? = some x := ⟨_, List.getElem?_eq_getElem h7⟩
    obtain ⟨y, hy⟩ : ∃ y, b[k]? = some y := ⟨_, List.getElem?_eq_getElem (h5 ▸ h7)⟩
    simp -implicitDefEqProofs only [W_skip, W_region, W_seq, W_block, Thn_normal, wOps_nil, wOps_cons, val_0, valK_eq, onPut_some, onFn_fn, callv_0, callvK_eq, ev_E, set_E, look_cons, look_nil, cond_true, cond_false, Nat.reduceBEq, Nat.reduceAdd, Nat.reduceSub, if_true, and_self, List.map_cons, List.map_nil, List.nil_append, List.cons_append, AVal.eval, nat_le, Int.toNat_natCast, List.getElem?_map, Option.map_some, loadOf, cellsAt, h6, hx, hy, partAll (hl x), partAll (hl y)]
    refine callOk_pure (hf x (List.mem_of_getElem? hx) y (List.mem_of_getElem? hy)) ?_
    simp -implicitDefEqProofs only [W_cond, Thn_normal, wOps_nil, wOps_cons, val_0, valK_eq, onPut_some, onBool_bool, br_not, retK_some, ev_E, set_E, look_cons, look_nil, cond_true, cond_false, Nat.reduceBEq, Nat.reduceAdd, Nat.reduceSub, AVal.eval, unOf]
    refine br_intro (fun h8 => ?_) (fun h8 => ?_)
    · simp -implicitDefEqProofs only [W_skip, W_region, Again_normal, keep_eq, Thn_normal, Bl_normal, wOps_nil, wOps_cons, val_0, valK_eq, onPut_some, ev_E, ev_c, set_E, look_cons, look_nil, lookB_nil, cond_true, cond_false, Nat.reduceBEq, Nat.reduceAdd, Nat.reduceSub, if_true, List.map_cons, List.map_nil, AVal.eval, binOf, intOf, wrap_succ (show k < 9223372036854775807 by omega)]
      exact hi (k + 1) (by omega) ⟨by omega, by rw [hk.2, all2_drop hx hy, h8, Bool.true_and]⟩
    · simp -implicitDefEqProofs only [W_region, W_seq, W_ret, Again_ret, Thn_normal, Thn_ret, Bl_ret, wOps_nil, wOps_cons, val_0, valK_eq, onPut_some, ev_c, set_E, AVal.eval]
      refine post1 ?_
      simp -implicitDefEqProofs only [ev_E, look_cons, look_nil, cond_true, cond_false, Nat.reduceBEq, Nat.reduceAdd, Nat.reduceSub]
      rw [hk.2, all2_drop hx hy, h8, Bool.false_and]
  · simp -implicitDefEqProofs only [W_region, W_seq, W_exit, W_ret, Again_exit, Thn_normal, Thn_exit, Bl_exit, wOps_nil, wOps_cons, val_0, valK_eq, onPut_some, ev_c, set_E, cond_true, Nat.reduceBEq, AVal.eval, h6]
    refine post1 ?_
    simp -implicitDefEqProofs only [ev_E, look_cons, look_nil, cond_true, cond_false, Nat.reduceBEq, Nat.reduceAdd, Nat.reduceSub]
    have h7 : ¬ k < a.length := by simpa using h6
    rw [hk.2, all2_end (by omega) h5]

theorem like38 {α : Type} (cells : α → List V) (hl : ∀ x, (cells x).length = 5) (spec : α → α → Bool) (a b : List α) (fk : Nat) (caps : List V) (ha : a.length < 1000000)
    (hf : ∀ x ∈ a, ∀ y ∈ b, Ret prog fk (.agg (cells x) :: .agg (cells y) :: caps) Heap.none fun r _ => r = .bool (spec x y)) :
    Ret prog 38 [.fsl 5 (a.map cells), .fsl 5 (b.map cells), .fn fk caps] Heap.none fun r _ => r = .bool (all2 spec a b) := by
  refine Ret.by_text rfl rfl ?_
  simp -implicitDefEqProofs only [number, W_region, W_seq, W_cond, Thn_normal, wOps_nil, wOps_cons, val_0, valK_eq, onPut_some, onBool_bool, ev_E, ev_c, set_E, look_cons, look_nil, cond_true, cond_false, Nat.reduceBEq, Nat.reduceAdd, Nat.reduceSub, if_true, AVal.eval, List.length_map, binOf, intOf, a38]
  refine br_intro (fun h5 => ?_) (fun h5 => ?_)
  · simp -implicitDefEqProofs only [W_region, W_seq, W_ret, Thn_normal, Thn_ret, wOps_nil, wOps_cons, val_0, valK_eq, onPut_some, ev_c, set_E, AVal.eval, h5]
    refine post1 ?_
    simp -implicitDefEqProofs only [ev_E, look_cons, look_nil, cond_true, cond_false, Nat.reduceBEq, Nat.reduceAdd, Nat.reduceSub]
    rw [all2_len (by simpa [Int.natCast_inj] using h5)]
  simp -implicitDefEqProofs only [W_skip, W_region, W_seq, W_block, W_loop, keep_eq, Thn_normal, wOps_nil, wOps_cons, val_0, valK_eq, onPut_some, ev_E, ev_c, set_E, look_cons, look_nil, lookB_nil, cond_true, cond_false, Nat.reduceBEq, Nat.reduceAdd, Nat.reduceSub, List.map_cons, List.map_nil, AVal.eval, List.length_map, h5]
  simp only [bne_eq_false_iff_eq, Int.natCast_inj] at h5
  refine Loop.rec (fun k : Nat => a.length - k) (fun k => ⟨E 30 [(0, .fsl 5 (a.map cells)), (1, .fsl 5 (b.map cells)), (2, .fn fk caps), (14, .int .i64 a.length), (15, .int .i64 k)], B 30 [], Heap.none⟩)
    (fun k => k ≤ a.length ∧ all2 spec a b = all2 spec (a.drop k) (b.drop k)) ?_ 0 ⟨Nat.zero_le _, rfl⟩ rfl
  intro k hk hi
  simp -implicitDefEqProofs only [W_region, W_seq, W_cond, Thn_normal, wOps_nil, wOps_cons, val_0, valK_eq, onPut_some, onBool_bool, ev_E, set_E, look_cons, look_nil, cond_true, cond_false, Nat.reduceBEq, Nat.reduceAdd, Nat.reduceSub, if_true, AVal.eval, binOf, intOf]
  refine br_intro (fun h6 => ?_) (fun h6 => ?_)
  · have h7 : k < a.length := by simpa using h6
    obtain ⟨x, hx⟩ : ∃ x, a[k]? = some x := ⟨_, List.getElem?_eq_getElem h7⟩
    obtain ⟨y, hy⟩ : ∃ y, b[k]? = some y := ⟨_, List.getElem?_eq_getElem (h5 ▸ h7)⟩
    simp -implicitDefEqProofs only [W_skip, W_region, W_seq, W_block, Thn_normal, wOps_nil, wOps_cons, val_0, valK_eq, onPut_some, onFn_fn, callv_0, callvK_eq, ev_E, set_E, look_cons, look_nil, cond_true, cond_false, Nat.reduceBEq, Nat.reduceAdd, Nat.reduceSub, if_true, and_self, List.map_cons, List.map_nil, List.nil_append, List.cons_append, AVal.eval, nat_le, Int.toNat_natCast, List.getElem?_map, Option.map_some, loadOf, cellsAt, h6, hx, hy, partAll (hl x), partAll (hl y)]
    refine callOk_pure (hf x (List.mem_of_getElem? hx) y (List.mem_of_getElem? hy)) ?_
    simp -implicitDefEqProofs only [W_cond, Thn_normal, wOps_nil, wOps_cons, val_0, valK_eq, onPut_some, onBool_bool, br_not, retK_some, ev_E, set_E, look_cons, look_nil, cond_true, cond_false, Nat.reduceBEq, Nat.reduceAdd, Nat.reduceSub, AVal.eval, unOf]
    refine br_intro (fun h8 => ?_) (fun h8 => ?_)
    · simp -implicitDefEqProofs only [W_skip, W_region, Again_normal, keep_eq, Thn_normal, Bl_normal, wOps_nil, wOps_cons, val_0, valK_eq, onPut_some, ev_E, ev_c, set_E, look_cons, look_nil, lookB_nil, cond_true, cond_false, Nat.reduceBEq, Nat.reduceAdd, Nat.reduceSub, if_true, List.map_cons, List.map_nil, AVal.eval, binOf, intOf, wrap_succ (show k < 9223372036854775807 by omega)]
      exact hi (k + 1) (by omega) ⟨by omega, by rw [hk.2, all2_drop hx hy, h8, Bool.true_and]⟩
    · simp -implicitDefEqProofs only [W_region, W_seq, W_ret, Again_ret, Thn_normal, Thn_ret, Bl_ret, wOps_nil, wOps_cons, val_0, valK_eq, onPut_some, ev_c, set_E, AVal.eval]
      refine post1 ?_
      simp -implicitDefEqProofs only [ev_E, look_cons, look_nil, cond_true, cond_false, Nat.reduceBEq, Nat.reduceAdd, Nat.reduceSub]
      rw [hk.2, all2_drop hx hy, h8, Bool.false_and]
  · simp -implicitDefEqProofs only [W_region, W_seq, W_exit, W_ret, Again_exit, Thn_normal, Thn_exit, Bl_exit, wOps_nil, wOps_cons, val_0, valK_eq, onPut_some, ev_c, set_E, cond_true, Nat.reduceBEq, AVal.eval, h6]
    refine post1 ?_
    simp -implicitDefEqProofs only [ev_E, look_cons, look_nil, cond_true, cond_false, Nat.reduceBEq, Nat.reduceAdd, Nat.reduceSub]
    have h7 : ¬ k < a.length := by simpa using h6
    rw [hk.2, all2_end (by omega) h5]

theorem like39 {α : Type} (cells : α → List V) (hl : ∀ x, (cells x).length = 6) (spec : α → α → Bool) (a b : List α) (fk : Nat) (caps : List V) (ha : a.length < 1000000)
    (hf : ∀ x ∈ a, ∀ y ∈ b, Ret prog fk (.agg (cells x) :: .agg (cells y) :: caps) Heap.none fun r _ => r = .bool (spec x y)) :
    Ret prog 39 [.fsl 6 (a.map cells), .fsl 6 (b.map cells), .fn fk caps] Heap.none fun r _ => r = .bool (all2 spec a b) := by
  refine Ret.by_text rfl rfl ?_
  simp -implicitDefEqProofs only [number, W_region, W_seq, W_cond, Thn_normal, wOps_nil, wOps_cons, val_0, valK_eq, onPut_some, onBool_bool, ev_E, ev_c, set_E, look_cons, look_nil, cond_true, cond_false, Nat.reduceBEq, Nat.reduceAdd, Nat.reduceSub, if_true, AVal.eval, List.length_map, binOf, intOf, a39]
  refine br_intro (fun h5 => ?_) (fun h5 => ?_)
  · simp -implicitDefEqProofs only [W_region, W_seq, W_ret, Thn_normal, Thn_ret, wOps_nil, wOps_cons, val_0, valK_eq, onPut_some, ev_c, set_E, AVal.eval, h5]
    refine post1 ?_
    simp -implicitDefEqProofs only [ev_E, look_cons, look_nil, cond_true, cond_false, Nat.reduceBEq, Nat.reduceAdd, Nat.reduceSub]
    rw [all2_len (by simpa [Int.natCast_inj] using h5)]
  simp -implicitDefEqProofs only [W_skip, W_region, W_seq, W_block, W_loop, keep_eq, Thn_normal, wOps_nil, wOps_cons, val_0, valK_eq, onPut_some, ev_E, ev_c, set_E, look_cons, look_nil, lookB_nil, cond_true, cond_false, Nat.reduceBEq, Nat.reduceAdd, Nat.reduceSub, List.map_cons, List.map_nil, AVal.eval, List.length_map, h5]
  simp only [bne_eq_false_iff_eq, Int.natCast_inj] at h5
  refine Loop.rec (fun k : Nat => a.length - k) (fun k => ⟨E 30 [(0, .fsl 6 (a.map cells)), (1, .fsl 6 (b.map cells)), (2, .fn fk caps), (14, .int .i64 a.length), (15, .int .i64 k)], B 30 [], Heap.none⟩)
    (fun k => k ≤ a.length ∧ all2 spec a b = all2 spec (a.drop k) (b.drop k)) ?_ 0 ⟨Nat.zero_le _, rfl⟩ rfl
  intro k hk hi
  simp -implicitDefEqProofs only [W_region, W_seq, W_cond, Thn_normal, wOps_nil, wOps_cons, val_0, valK_eq, onPut_some, onBool_bool, ev_E, set_E, look_cons, look_nil, cond_true, cond_false, Nat.reduceBEq, Nat.reduceAdd, Nat.reduceSub, if_true, AVal.eval, binOf, intOf]
  refine br_intro (fun h6 => ?_) (fun h6 => ?_)
  · have h7 : k < a.length := by simpa using h6
    obtain ⟨x, hx⟩ : ∃ x, a[k]? = some x := ⟨_, List.getElem?_eq_getElem h7⟩
    obtain ⟨y, hy⟩ : ∃ y, b[k]? = some y := ⟨_, List.getElem?_eq_getElem (h5 ▸ h7)⟩
    simp -implicitDefEqProofs only [W_skip, W_region, W_seq, W_block, Thn_normal, wOps_nil, wOps_cons, val_0, valK_eq, onPut_some, onFn_fn, callv_0, callvK_eq, ev_E, set_E, look_cons, look_nil, cond_true, cond_false, Nat.reduceBEq, Nat.reduceAdd, Nat.reduceSub, if_true, and_self, List.map_cons, List.map_nil, List.nil_append, List.cons_append, AVal.eval, nat_le, Int.toNat_natCast, List.getElem?_map, Option.map_some, loadOf, cellsAt, h6, hx, hy, partAll (hl x), partAll (hl y)]
    refine callOk_pure (hf x (List.mem_of_getElem? hx) y (List.mem_of_getElem? hy)) ?_
    simp -implicitDefEqProofs only [W_cond, Thn_normal, wOps_nil, wOps_cons, val_0, valK_eq, onPut_some, onBool_bool, br_not, retK_some, ev_E, set_E, look_cons, look_nil, cond_true, cond_false, Nat.reduceBEq, Nat.reduceAdd, Nat.reduceSub, AVal.eval, unOf]
    refine br_intro (fun h8 => ?_) (fun h8 => ?_)
    · simp -implicitDefEqProofs only [W_skip, W_region, Again_normal, keep_eq, Thn_normal, Bl_normal, wOps_nil, wOps_cons, val_0, valK_eq, onPut_some, ev_E, ev_c, set_E, look_cons, look_nil, lookB_nil, cond_true, cond_false, Nat.reduceBEq, Nat.reduceAdd, Nat.reduceSub, if_true, List.map_cons, List.map_nil, AVal.eval, binOf, intOf, wrap_succ (show k < 9223372036854775807 by omega)]
      exact hi (k + 1) (by omega) ⟨by omega, by rw [hk.2, all2_drop hx hy, h8, Bool.true_and]⟩
    · simp -implicitDefEqProofs only [W_region, W_seq, W_ret, Again_ret, Thn_normal, Thn_ret, Bl_ret, wOps_nil, wOps_cons, val_0, valK_eq, onPut_some, ev_c, set_E, AVal.eval]
      refine post1 ?_
      simp -implicitDefEqProofs only [ev_E, look_cons, look_nil, cond_true, cond_false, Nat.reduceBEq, Nat.reduceAdd, Nat.reduceSub]
      rw [hk.2, all2_drop hx hy, h8, Bool.false_and]
  · simp -implicitDefEqProofs only [W_region, W_seq, W_exit, W_ret, Again_exit, Thn_normal, Thn_exit, Bl_exit, wOps_nil, wOps_cons, val_0, valK_eq, onPut_some, ev_c, set_E, cond_true, Nat.reduceBEq, AVal.eval, h6]
    refine post1 ?_
    simp -implicitDefEqProofs only [ev_E, look_cons, look_nil, cond_true, cond_false, Nat.reduceBEq, Nat.reduceAdd, Nat.reduceSub]
    have h7 : ¬ k < a.length := by simpa using h6
    rw [hk.2, all2_end (by omega) h5]

theorem like40 {α : Type} (cells : α → List V) (hl : ∀ x, (cells x).length = 2) (spec : α → α → Bool) (a b : List α) (fk : Nat) (caps : List V) (ha : a.length < 1000000)
    (hf : ∀ x ∈ a, ∀ y ∈ b, Ret prog fk (.agg (cells x) :: .agg (cells y) :: caps) Heap.none fun r _ => r = .bool (spec x y)) :
    Ret prog 40 [.fsl 2 (a.map cells), .fsl 2 (b.map cells), .fn fk caps] Heap.none fun r _ => r = .bool (all2 spec a b) := by
  refine Ret.by_text rfl rfl ?_
  simp -implicitDefEqProofs only [number, W_region, W_seq, W_cond, Thn_normal, wOps_nil, wOps_cons, val_0, valK_eq, onPut_some, onBool_bool, ev_E, ev_c, set_E, look_cons, look_nil, cond_true, cond_false, Nat.reduceBEq, Nat.reduceAdd, Nat.reduceSub, if_true, AVal.eval, List.length_map, binOf, intOf, a40]
  refine br_intro (fun h5 => ?_) (fun h5 => ?_)
  · simp -implicitDefEqProofs only [W_region, W_seq, W_ret, Thn_normal, Thn_ret, wOps_nil, wOps_cons, val_0, valK_eq, onPut_some, ev_c, set_E, AVal.eval, h5]
    refine post1 ?_
    simp -implicitDefEqProofs only [ev_E, look_cons, look_nil, cond_true, cond_false, Nat.reduceBEq, Nat.reduceAdd, Nat.reduceSub]
    rw [all2_len (by simpa [Int.natCast_inj] using h5)]
  simp -implicitDefEqProofs only [W_skip, W_region, W_seq, W_block, W_loop, keep_eq, Thn_normal, wOps_nil, wOps_cons, val_0, valK_eq, onPut_some, ev_E, ev_c, set_E, look_cons, look_nil, lookB_nil, cond_true, cond_false, Nat.reduceBEq, Nat.reduceAdd, Nat.reduceSub, List.map_cons, List.map_nil, AVal.eval, List.length_map, h5]
  simp only [bne_eq_false_iff_eq, Int.natCast_inj] at h5
  refine Loop.rec (fun k : Nat => a.length - k) (fun k => ⟨E 30 [(0, .fsl 2 (a.map cells)), (1, .fsl 2 (b.map cells)), (2, .fn fk caps), (14, .int .i64 a.length), (15, .int .i64 k)], B 30 [], Heap.none⟩)
    (fun k => k ≤ a.length ∧ all2 spec a b = all2 spec (a.drop k) (b.drop k)) ?_ 0 ⟨Nat.zero_le _, rfl⟩ rfl
  intro k hk hi
  simp -implicitDefEqProofs only [W_region, W_seq, W_cond, Thn_normal, wOps_nil, wOps_cons, val_0, valK_eq, onPut_some, onBool_bool, ev_E, set_E, look_cons, look_nil, cond_true, cond_false, Nat.reduceBEq, Nat.reduceAdd, Nat.reduceSub, if_true, AVal.eval, binOf, intOf]
  refine br_intro (fun h6 => ?_) (fun h6 => ?_)
  · have h7 : k < a.length := by simpa using h6
    obtain ⟨x, hx⟩ : ∃ x, a[k]? = some x := ⟨_, List.getElem?_eq_getElem h7⟩
    obtain ⟨y, hy⟩ : ∃ y, b[k]? = some y := ⟨_, List.getElem?_eq_getElem (h5 ▸ h7)⟩
    simp -implicitDefEqProofs only [W_skip, W_region, W_seq, W_block, Thn_normal, wOps_nil, wOps_cons, val_0, valK_eq, onPut_some, onFn_fn, callv_0, callvK_eq, ev_E, set_E, look_cons, look_nil, cond_true, cond_false, Nat.reduceBEq, Nat.reduceAdd, Nat.reduceSub, if_true, and_self, List.map_cons, List.map_nil, List.nil_append, List.cons_append, AVal.eval, nat_le, Int.toNat_natCast, List.getElem?_map, Option.map_some, loadOf, cellsAt, h6, hx, hy, partAll (hl x), partAll (hl y)]
    refine callOk_pure (hf x (List.mem_of_getElem? hx) y (List.mem_of_getElem? hy)) ?_
    simp -implicitDefEqProofs only [W_cond, Thn_normal, wOps_nil, wOps_cons, val_0, valK_eq, onPut_some, onBool_bool, br_not, retK_some, ev_E, set_E, look_cons, look_nil, cond_true, cond_false, Nat.reduceBEq, Nat.reduceAdd, Nat.reduceSub, AVal.eval, unOf]
    refine br_intro (fun h8 => ?_) (fun h8 => ?_)
    · simp -implicitDefEqProofs only [W_skip, W_region, Again_normal, keep_eq, Thn_normal, Bl_normal, wOps_nil, wOps_cons, val_0, valK_eq, onPut_some, ev_E, ev_c, set_E, look_cons, look_nil, lookB_nil, cond_true, cond_false, Nat.reduceBEq, Nat.reduceAdd, Nat.reduceSub, if_true, List.map_cons, List.map_nil, AVal.eval, binOf, intOf, wrap_succ (show k < 9223372036854775807 by omega)]
      exact hi (k + 1) (by omega) ⟨by omega, by rw [hk.2, all2_drop hx hy, h8, Bool.true_and]⟩
    · simp -implicitDefEqProofs only [W_region, W_seq, W_ret, Again_ret, Thn_normal, Thn_ret, Bl_ret, wOps_nil, wOps_cons, val_0, valK_eq, onPut_some, ev_c, set_E, AVal.eval]
      refine post1 ?_
      simp -implicitDefEqProofs only [ev_E, look_cons, look_nil, cond_true, cond_false, Nat.reduceBEq, Nat.reduceAdd, Nat.reduceSub]
      rw [hk.2, all2_drop hx hy, h8, Bool.false_and]
  · simp -implicitDefEqProofs only [W_region, W_seq, W_exit, W_ret, Again_exit, Thn_normal, Thn_exit, Bl_exit, wOps_nil, wOps_cons, val_0, valK_eq, onPut_some, ev_c, set_E, cond_true, Nat.reduceBEq, AVal.eval, h6]
    refine post1 ?_
    simp -implicitDefEqProofs only [ev_E, look_cons, look_nil, cond_true, cond_false, Nat.reduceBEq, Nat.reduceAdd, Nat.reduceSub]
    have h7 : ¬ k < a.length := by simpa using h6
    rw [hk.2, all2_end (by omega) h5]

theorem arg34 (a b : Ar) (ha : a.e.size < 4611686018427387904) : Ret prog 34 [a.v, b.v] Heap.none fun r _ => r = .bool (a.same b) := by
  refine Ret.by_text rfl rfl ?_
  simp -implicitDefEqProofs only [number, W_region, W_seq, Thn_normal, wOps_nil, wOps_cons, val_0, val_g, valK_eq, onPut_some, onGuard_bool, beq_true', box_0, onCells_some, boxK_eq, ev_E, ev_c, set_E, set_B, getD_B, look_cons, lookB_cons, look_nil, lookB_nil, cond_true, cond_false, Nat.reduceBEq, Nat.reduceAdd, Nat.reduceSub, Nat.reduceLeDiff, if_true, if_false, Bool.false_eq_true, true_and, List.getElem?_cons_zero, List.length_cons, List.length_nil, List.drop_zero, List.take_succ_cons, List.take_zero, AVal.eval, loadOf, cellsAt, boxOf, partOf, binOf, intOf, a34, Ar.cellsOf_v]
  intro g1 g2
  refine br_intro (fun h1 => ?_) (fun h1 => ?_)
  · simp -implicitDefEqProofs only [wOps_cons, val_g, valK_eq, onPut_some, onGuard_bool, br_true, beq_true', callK_eq, call_g, ev_E, set_E, getD_B, look_cons, lookB_cons, look_nil, lookB_nil, cond_true, cond_false, Nat.reduceBEq, Nat.reduceAdd, Nat.reduceSub, Nat.reduceLeDiff, if_true, List.getElem?_cons_zero, List.getElem?_cons_succ, List.length_cons, List.length_nil, List.drop_succ_cons, List.drop_zero, List.take_succ_cons, List.take_nil, List.map_cons, List.map_nil, AVal.eval, loadOf, cellsAt, boxOf, partOf, h1, Ex.fold]
    refine callOk_pure (same33 a.e b.e ha) ?_
    simp -implicitDefEqProofs only [W_ret, Thn_normal, wOps_nil, wOps_cons, val_0, valK_eq, onPut_some, retK_some, ev_E, ev_c, set_E, look_cons, look_nil, cond_true, cond_false, Nat.reduceBEq, Nat.reduceAdd, Nat.reduceSub, if_true, AVal.eval]
    refine post1 ?_
    simp -implicitDefEqProofs only [ev_E, look_cons, look_nil, cond_true, cond_false, Nat.reduceBEq, Nat.reduceAdd, Nat.reduceSub, Ar.same, h1, Bool.true_and]
  · simp -implicitDefEqProofs only [W_ret, Thn_normal, wOps_nil, wOps_cons, val_0, val_g, valK_eq, onPut_some, onGuard_bool, br_false, beq_true', skipK_some, call_g, ev_E, ev_c, set_E, look_cons, look_nil, cond_true, cond_false, Nat.reduceBEq, Nat.reduceAdd, Nat.reduceSub, if_false, Bool.false_eq_true, AVal.eval, h1]
    refine post1 ?_
    simp -implicitDefEqProofs only [ev_E, look_cons, look_nil, cond_true, cond_false, Nat.reduceBEq, Nat.reduceAdd, Nat.reduceSub, Ar.same, h1]
    rfl
/-- A statement with nothing in it. -/
def _root_.Go.Abs.St.Bare (x : St) : Prop := x.body = [] ∧ x.els = [] ∧ x.arms = []
/-- What a statement has by itself is short. -/
structure _root_.Go.Abs.St.Short (x : St) : Prop where
  e : x.e.size < 1000000
  i : x.i.size < 1000000
  l : sizeL x.l < 1000000
  a : x.args.length < 1000000
  ae : ∀ y ∈ x.args, y.e.size < 1000000
theorem _root_.Go.Abs.sizeL_mem {l : List Ex} {e : Ex} (h : e ∈ l) : e.size ≤ sizeL l := by
  obtain ⟨k, hk, rfl⟩ := List.getElem_of_mem h
  exact size_mem (List.getElem?_eq_getElem hk)
theorem same13nil : Ret prog 13 [.fsl 19 [], .fsl 19 []] Heap.none fun r _ => r = .bool true := by
  refine Ret.by_text rfl rfl ?_
  simp -implicitDefEqProofs only [number, W_region, W_seq, Thn_normal, wOps_nil, wOps_cons, val_0, valK_eq, onPut_some, call_0, callK_eq, ev_E, ev_c, set_E, look_cons, look_nil, cond_true, cond_false, Nat.reduceBEq, Nat.reduceAdd, Nat.reduceSub, List.map_cons, List.map_nil, AVal.eval, a13]
  refine callOk_pure (like24 (α := St) St.cells (fun x => by rw [St.cells_cs]; rfl) (fun _ _ => true) [] [] 25 [] (by decide) (fun x h => by cases h)) ?_
  simp -implicitDefEqProofs only [W_ret, Thn_normal, wOps_nil, wOps_cons, val_0, valK_eq, onPut_some, retK_some, ev_E, set_E, look_cons, look_nil, cond_true, cond_false, Nat.reduceBEq, Nat.reduceAdd, Nat.reduceSub, AVal.eval]
  refine post1 ?_
  simp -implicitDefEqProofs only [ev_E, look_cons, look_nil, cond_true, cond_false, Nat.reduceBEq, Nat.reduceAdd, Nat.reduceSub]
  rfl
theorem same25 (x y : St) (hx : x.Bare) (hy : y.Bare) (hs : x.Short) : Ret prog 25 [x.v, y.v] Heap.none fun r _ => r = .bool (x.cost == y.cost && x.one y) := by
  obtain ⟨x1, x2, x3⟩ := hx
  obtain ⟨y1, y2, y3⟩ := hy
  have hse := hs.e
  have hsi := hs.i
  have hsl := hs.l
  refine Ret.by_text rfl rfl ?_
  simp -implicitDefEqProofs only [number, W_region, W_seq, Thn_normal, wOps_nil, wOps_cons, val_0, val_g, valK_eq, onPut_some, onGuard_bool, br_not, beq_false', box_0, onCells_some, boxK_eq, ev_E, ev_c, set_E, set_B, getD_B, look_cons, lookB_cons, look_nil, lookB_nil, cond_true, cond_false, Nat.reduceBEq, Nat.reduceAdd, Nat.reduceSub, Nat.reduceLeDiff, if_true, if_false, Bool.false_eq_true, true_and, List.getElem?_cons_zero, List.length_cons, List.length_nil, List.drop_zero, List.take_succ_cons, List.take_zero, List.map_nil, AVal.eval, loadOf, cellsAt, boxOf, partOf, binOf, intOf, a25, St.cellsOf_v, St.cs, x1, x2, x3, y1, y2, y3]
  intro g1 g2
  refine br_intro (fun h1 => ?_) (fun h1 => ?_)
  · simp -implicitDefEqProofs only [W_region, W_seq, W_cond, W_ret, Thn_normal, Thn_ret, wOps_nil, wOps_cons, val_0, val_g, valK_eq, onPut_some, onGuard_bool, onBool_bool, br_true, br_false, beq_false', skipK_some, call_g, ev_E, ev_c, set_E, look_cons, look_nil, cond_true, cond_false, Nat.reduceBEq, Nat.reduceAdd, Nat.reduceSub, if_true, Bool.not_true, AVal.eval, h1]
    refine post1 ?_
    simp -implicitDefEqProofs only [ev_E, look_cons, look_nil, cond_true, cond_false, Nat.reduceBEq, Nat.reduceAdd, Nat.reduceSub, St.one]
    simp_all [bne]
  simp -implicitDefEqProofs only [wOps_cons, val_0, val_g, valK_eq, onPut_some, onGuard_bool, br_true, br_not, beq_false', ev_E, ev_c, set_E, getD_B, look_cons, lookB_cons, look_nil, lookB_nil, cond_true, cond_false, Nat.reduceBEq, Nat.reduceAdd, Nat.reduceSub, Nat.reduceLeDiff, if_true, if_false, Bool.false_eq_true, Bool.not_false, List.getElem?_cons_zero, List.getElem?_cons_succ, List.length_cons, List.length_nil, List.drop_succ_cons, List.drop_zero, List.take_succ_cons, List.take_zero, AVal.eval, loadOf, cellsAt, boxOf, partOf, binOf, intOf, h1]
  refine br_intro (fun h2 => ?_) (fun h2 => ?_)
  · simp -implicitDefEqProofs only [W_region, W_seq, W_cond, W_ret, Thn_normal, Thn_ret, wOps_nil, wOps_cons, val_0, val_g, valK_eq, onPut_some, onGuard_bool, onBool_bool, br_true, br_false, beq_false', skipK_some, call_g, ev_E, ev_c, set_E, look_cons, look_nil, cond_true, cond_false, Nat.reduceBEq, Nat.reduceAdd, Nat.reduceSub, if_true, Bool.not_true, AVal.eval, h2]
    refine post1 ?_
    simp -implicitDefEqProofs only [ev_E, look_cons, look_nil, cond_true, cond_false, Nat.reduceBEq, Nat.reduceAdd, Nat.reduceSub, St.one]
    simp_all [bne]
  simp -implicitDefEqProofs only [wOps_cons, val_0, val_g, valK_eq, onPut_some, onGuard_bool, br_true, br_not, beq_false', ev_E, ev_c, set_E, getD_B, look_cons, lookB_cons, look_nil, lookB_nil, cond_true, cond_false, Nat.reduceBEq, Nat.reduceAdd, Nat.reduceSub, Nat.reduceLeDiff, if_true, if_false, Bool.false_eq_true, Bool.not_false, List.getElem?_cons_zero, List.getElem?_cons_succ, List.length_cons, List.length_nil, List.drop_succ_cons, List.drop_zero, List.take_succ_cons, List.take_zero, AVal.eval, loadOf, cellsAt, boxOf, partOf, binOf, intOf, h2]
  refine br_intro (fun h3 => ?_) (fun h3 => ?_)
  · simp -implicitDefEqProofs only [W_region, W_seq, W_cond, W_ret, Thn_normal, Thn_ret, wOps_nil, wOps_cons, val_0, val_g, valK_eq, onPut_some, onGuard_bool, onBool_bool, br_true, br_false, beq_false', skipK_some, call_g, ev_E, ev_c, set_E, look_cons, look_nil, cond_true, cond_false, Nat.reduceBEq, Nat.reduceAdd, Nat.reduceSub, if_true, Bool.not_true, AVal.eval, h3]
    refine post1 ?_
    simp -implicitDefEqProofs only [ev_E, look_cons, look_nil, cond_true, cond_false, Nat.reduceBEq, Nat.reduceAdd, Nat.reduceSub, St.one]
    simp_all [bne]
  simp -implicitDefEqProofs only [wOps_cons, val_0, val_g, valK_eq, onPut_some, onGuard_bool, br_true, br_not, beq_false', ev_E, ev_c, set_E, getD_B, look_cons, lookB_cons, look_nil, lookB_nil, cond_true, cond_false, Nat.reduceBEq, Nat.reduceAdd, Nat.reduceSub, Nat.reduceLeDiff, if_true, if_false, Bool.false_eq_true, Bool.not_false, List.getElem?_cons_zero, List.getElem?_cons_succ, List.length_cons, List.length_nil, List.drop_succ_cons, List.drop_zero, List.take_succ_cons, List.take_zero, AVal.eval, loadOf, cellsAt, boxOf, partOf, binOf, intOf, h3]
  refine br_intro (fun h4 => ?_) (fun h4 => ?_)
  · simp -implicitDefEqProofs only [W_region, W_seq, W_cond, W_ret, Thn_normal, Thn_ret, wOps_nil, wOps_cons, val_0, val_g, valK_eq, onPut_some, onGuard_bool, onBool_bool, br_true, br_false, beq_false', skipK_some, call_g, ev_E, ev_c, set_E, look_cons, look_nil, cond_true, cond_false, Nat.reduceBEq, Nat.reduceAdd, Nat.reduceSub, if_true, Bool.not_true, AVal.eval, h4]
    refine post1 ?_
    simp -implicitDefEqProofs only [ev_E, look_cons, look_nil, cond_true, cond_false, Nat.reduceBEq, Nat.reduceAdd, Nat.reduceSub, St.one]
    simp_all [bne]
  simp -implicitDefEqProofs only [wOps_cons, val_g, valK_eq, onPut_some, onGuard_bool, br_true, beq_false', callK_eq, call_g, ev_E, set_E, getD_B, look_cons, lookB_cons, look_nil, lookB_nil, cond_true, cond_false, Nat.reduceBEq, Nat.reduceAdd, Nat.reduceSub, Nat.reduceLeDiff, if_true, Bool.not_false, List.getElem?_cons_zero, List.getElem?_cons_succ, List.length_cons, List.length_nil, List.drop_succ_cons, List.drop_zero, List.take_succ_cons, List.take_zero, List.map_cons, List.map_nil, AVal.eval, loadOf, cellsAt, boxOf, partOf, h4]
  simp -implicitDefEqProofs only [Ex.fold]
  refine callOk_pure (same33 x.e y.e (by omega)) ?_
  simp -implicitDefEqProofs only [wOps_cons, val_0, val_g, valK_eq, onPut_some, onGuard_bool, br_true, br_not, beq_false', retK_some, ev_E, ev_c, set_E, look_cons, look_nil, cond_true, cond_false, Nat.reduceBEq, Nat.reduceAdd, Nat.reduceSub, if_false, Bool.false_eq_true, Bool.not_false, AVal.eval, unOf]
  refine br_intro2 (fun h5 => ?_) (fun h5 => ?_)
  · simp -implicitDefEqProofs only [W_region, W_seq, W_cond, W_ret, Thn_normal, Thn_ret, wOps_nil, wOps_cons, val_0, val_g, valK_eq, onPut_some, onGuard_bool, onBool_bool, br_true, br_false, beq_false', skipK_some, call_g, ev_E, ev_c, set_E, look_cons, look_nil, cond_true, cond_false, Nat.reduceBEq, Nat.reduceAdd, Nat.reduceSub, if_true, Bool.not_true, Bool.not_false, AVal.eval, h5]
    refine post1 ?_
    simp -implicitDefEqProofs only [ev_E, look_cons, look_nil, cond_true, cond_false, Nat.reduceBEq, Nat.reduceAdd, Nat.reduceSub, St.one, h5]
    simp
  simp -implicitDefEqProofs only [wOps_cons, val_g, valK_eq, onPut_some, onGuard_bool, br_true, beq_false', callK_eq, call_g, ev_E, set_E, getD_B, look_cons, lookB_cons, look_nil, lookB_nil, cond_true, cond_false, Nat.reduceBEq, Nat.reduceAdd, Nat.reduceSub, Nat.reduceLeDiff, if_true, Bool.not_true, Bool.not_false, List.getElem?_cons_zero, List.getElem?_cons_succ, List.length_cons, List.length_nil, List.drop_succ_cons, List.drop_zero, List.take_succ_cons, List.take_zero, List.map_cons, List.map_nil, AVal.eval, loadOf, cellsAt, boxOf, partOf, h5, Ex.fold]
  refine callOk_pure (same33 x.i y.i (by omega)) ?_
  simp -implicitDefEqProofs only [W_cond, Thn_normal, wOps_nil, wOps_cons, val_0, val_g, valK_eq, onPut_some, onGuard_bool, onBool_bool, br_true, br_not, beq_false', retK_some, ev_E, ev_c, set_E, look_cons, look_nil, cond_true, cond_false, Nat.reduceBEq, Nat.reduceAdd, Nat.reduceSub, if_false, Bool.false_eq_true, Bool.not_false, AVal.eval, unOf]
  refine br_intro2 (fun h6 => ?_) (fun h6 => ?_)
  · simp -implicitDefEqProofs only [W_region, W_seq, W_ret, Thn_normal, Thn_ret, wOps_nil, wOps_cons, val_0, valK_eq, onPut_some, ev_c, set_E, Bool.not_false, AVal.eval, h6]
    refine post1 ?_
    simp -implicitDefEqProofs only [ev_E, look_cons, look_nil, cond_true, cond_false, Nat.reduceBEq, Nat.reduceAdd, Nat.reduceSub, St.one, h6]
    simp
  simp -implicitDefEqProofs only [W_skip, W_region, W_seq, Thn_normal, wOps_nil, wOps_cons, val_0, valK_eq, onPut_some, box_0, onCells_some, boxK_eq, st_0, stK_eq, onS_some, call_0, callK_eq, ev_E, ev_c, set_E, set_B, getD_B, look_cons, lookB_cons, look_nil, lookB_nil, cond_true, cond_false, Nat.reduceBEq, Nat.reduceAdd, Nat.reduceSub, Nat.reduceLeDiff, if_true, if_false, storeOf, storeCells, over, List.append_nil, Bool.false_eq_true, Bool.not_true, true_and, and_self, List.getElem?_cons_zero, List.getElem?_cons_succ, List.length_cons, List.length_nil, List.drop_succ_cons, List.drop_zero, List.take_succ_cons, List.take_zero, List.drop_nil, List.map_cons, List.map_nil, List.nil_append, AVal.eval, cellsOf_agg, cellsOf_fn, loadOf, cellsAt, boxOf, partOf, h6]
  intro g3
  simp only [bne_eq_false_iff_eq] at h1 h2 h3 h4
  have hone : (x.cost == y.cost && x.one y) = (all2 Ex.same x.l y.l && all2 Ar.same x.args y.args) := by simp [St.one, h1, h2, h3, h4, h5, h6]
  rw [hone]
  refine callOk_pure (like38 Ex.cells (fun x => by rw [Ex.cells_cs]; rfl) Ex.same x.l y.l 33 [] (by have := size_len x.l; omega) (fun a ha b hb => same33 a b (by have := sizeL_mem ha; omega))) ?_
  simp -implicitDefEqProofs only [wOps_cons, val_0, val_g, valK_eq, onPut_some, onGuard_bool, beq_true', retK_some, ev_E, set_E, look_cons, look_nil, cond_true, cond_false, Nat.reduceBEq, Nat.reduceAdd, Nat.reduceSub, AVal.eval]
  refine br_intro (fun h7 => ?_) (fun h7 => ?_)
  · simp -implicitDefEqProofs only [wOps_cons, val_g, valK_eq, onPut_some, onGuard_bool, br_true, beq_true', callK_eq, call_g, ev_E, set_E, getD_B, look_cons, lookB_cons, look_nil, lookB_nil, cond_true, cond_false, Nat.reduceBEq, Nat.reduceAdd, Nat.reduceSub, Nat.reduceLeDiff, if_true, if_false, Bool.false_eq_true, List.getElem?_cons_zero, List.getElem?_cons_succ, List.length_cons, List.length_nil, List.drop_succ_cons, List.drop_zero, List.take_succ_cons, List.take_zero, List.map_cons, List.map_nil, AVal.eval, loadOf, cellsAt, boxOf, partOf, h7]
    refine callOk_pure (like39 Ar.cells (fun x => by rw [Ar.cells_eq]; rfl) Ar.same x.args y.args 34 [] hs.a (fun a ha b hb => arg34 a b (by have := hs.ae a ha; omega))) ?_
    simp -implicitDefEqProofs only [wOps_cons, val_0, val_g, valK_eq, onPut_some, onGuard_bool, beq_true', retK_some, ev_E, ev_c, set_E, look_cons, look_nil, cond_true, cond_false, Nat.reduceBEq, Nat.reduceAdd, Nat.reduceSub, if_true, AVal.eval]
    refine br_intro (fun h8 => ?_) (fun h8 => ?_)
    · simp -implicitDefEqProofs only [wOps_cons, val_g, valK_eq, onPut_some, onGuard_bool, br_true, beq_true', callK_eq, call_g, ev_E, set_E, getD_B, look_cons, lookB_cons, look_nil, lookB_nil, cond_true, cond_false, Nat.reduceBEq, Nat.reduceAdd, Nat.reduceSub, Nat.reduceLeDiff, if_true, if_false, Bool.false_eq_true, List.getElem?_cons_zero, List.getElem?_cons_succ, List.length_cons, List.length_nil, List.drop_succ_cons, List.drop_zero, List.take_succ_cons, List.take_zero, List.map_cons, List.map_nil, AVal.eval, loadOf, cellsAt, boxOf, partOf, h8]
      refine callOk_pure same13nil ?_
      simp -implicitDefEqProofs only [wOps_cons, val_0, val_g, valK_eq, onPut_some, onGuard_bool, br_true, beq_true', callK_eq, call_g, retK_some, ev_E, ev_c, set_E, getD_B, look_cons, lookB_cons, look_nil, lookB_nil, cond_true, cond_false, Nat.reduceBEq, Nat.reduceAdd, Nat.reduceSub, Nat.reduceLeDiff, if_true, if_false, Bool.false_eq_true, List.getElem?_cons_zero, List.getElem?_cons_succ, List.length_cons, List.length_nil, List.drop_succ_cons, List.drop_zero, List.take_succ_cons, List.take_zero, List.map_cons, List.map_nil, AVal.eval, loadOf, cellsAt, boxOf, partOf]
      refine callOk_pure same13nil ?_
      simp -implicitDefEqProofs only [wOps_cons, val_0, val_g, valK_eq, onPut_some, onGuard_bool, br_true, beq_true', callK_eq, call_g, retK_some, ev_E, ev_c, set_E, getD_B, look_cons, lookB_cons, look_nil, lookB_nil, cond_true, cond_false, Nat.reduceBEq, Nat.reduceAdd, Nat.reduceSub, Nat.reduceLeDiff, if_true, if_false, Bool.false_eq_true, List.getElem?_cons_zero, List.getElem?_cons_succ, List.length_cons, List.length_nil, List.drop_succ_cons, List.drop_zero, List.take_succ_cons, List.take_nil, List.map_cons, List.map_nil, AVal.eval, loadOf, cellsAt, boxOf, partOf]
      refine callOk_pure (like40 (α := Am) Am.cells (fun x => by rw [Am.cells_eq]; rfl) (fun _ _ => true) [] [] 36 [.lp 6 g3 0] (by decide) (fun x h => by cases h)) ?_
      simp -implicitDefEqProofs only [W_ret, Thn_normal, wOps_nil, wOps_cons, val_0, valK_eq, onPut_some, retK_some, ev_E, ev_c, set_E, look_cons, look_nil, cond_true, cond_false, Nat.reduceBEq, Nat.reduceAdd, Nat.reduceSub, if_true, AVal.eval]
      refine post1 ?_
      simp -implicitDefEqProofs only [ev_E, look_cons, look_nil, cond_true, cond_false, Nat.reduceBEq, Nat.reduceAdd, Nat.reduceSub, Bool.true_and]
      rfl
    · simp -implicitDefEqProofs only [W_ret, Thn_normal, wOps_nil, wOps_cons, val_0, val_g, valK_eq, onPut_some, onGuard_bool, br_false, beq_true', skipK_some, call_g, ev_E, ev_c, set_E, look_cons, look_nil, cond_true, cond_false, Nat.reduceBEq, Nat.reduceAdd, Nat.reduceSub, if_false, Bool.false_eq_true, AVal.eval, h8]
      refine post1 ?_
      simp -implicitDefEqProofs only [ev_E, look_cons, look_nil, cond_true, cond_false, Nat.reduceBEq, Nat.reduceAdd, Nat.reduceSub, Bool.true_and]
  · simp -implicitDefEqProofs only [W_ret, Thn_normal, wOps_nil, wOps_cons, val_0, val_g, valK_eq, onPut_some, onGuard_bool, br_false, beq_true', skipK_some, call_g, ev_E, ev_c, set_E, look_cons, look_nil, cond_true, cond_false, Nat.reduceBEq, Nat.reduceAdd, Nat.reduceSub, if_false, Bool.false_eq_true, AVal.eval, h7]
    refine post1 ?_
    simp -implicitDefEqProofs only [ev_E, look_cons, look_nil, cond_true, cond_false, Nat.reduceBEq, Nat.reduceAdd, Nat.reduceSub, Bool.false_and]

theorem same13 (x y : St) (hx : x.Bare) (hy : y.Bare) (hs : x.Short) : Ret prog 13 [stsV [x], stsV [y]] Heap.none fun r _ => r = .bool (x.cost == y.cost && x.one y) := by
  refine Ret.by_text rfl rfl ?_
  simp -implicitDefEqProofs only [number, W_region, W_seq, Thn_normal, wOps_nil, wOps_cons, val_0, valK_eq, onPut_some, call_0, callK_eq, ev_E, ev_c, set_E, look_cons, look_nil, cond_true, cond_false, Nat.reduceBEq, Nat.reduceAdd, Nat.reduceSub, List.map_cons, List.map_nil, AVal.eval, a13]
  refine callOk_pure (like24 St.cells (fun x => by rw [St.cells_cs]; rfl) (fun x y => x.cost == y.cost && x.one y) [x] [y] 25 [] (by simp) (fun a ha b hb => by
    simp at ha hb; subst ha; subst hb
    exact same25 a b hx hy hs)) ?_
  simp -implicitDefEqProofs only [W_ret, Thn_normal, wOps_nil, wOps_cons, val_0, valK_eq, onPut_some, retK_some, ev_E, set_E, look_cons, look_nil, cond_true, cond_false, Nat.reduceBEq, Nat.reduceAdd, Nat.reduceSub, AVal.eval]
  refine post1 ?_
  simp -implicitDefEqProofs only [ev_E, look_cons, look_nil, cond_true, cond_false, Nat.reduceBEq, Nat.reduceAdd, Nat.reduceSub]
  simp [all2]

/-- The reference's. -/
theorem same29nil : Ret prog 29 [.fsl 19 [], .fsl 19 []] Heap.none fun r _ => r = .bool true := by
  refine Ret.by_text rfl rfl ?_
  simp -implicitDefEqProofs only [number, W_skip, W_region, W_seq, W_cond, W_block, W_loop, keep_eq, Thn_normal, wOps_nil, wOps_cons, val_0, valK_eq, onPut_some, onBool_bool, br_false, ev_E, ev_c, set_E, look_cons, look_nil, lookB_nil, cond_true, cond_false, Nat.reduceBEq, Nat.reduceAdd, Nat.reduceSub, if_true, List.length_nil, List.map_cons, List.map_nil, AVal.eval, binOf, intOf, a29, bne_self_eq_false]
  refine Loop.step ?_
  simp -implicitDefEqProofs only [W_region, W_seq, W_cond, W_exit, W_ret, Again_exit, Thn_normal, Thn_exit, Bl_exit, wOps_nil, wOps_cons, val_0, valK_eq, onPut_some, onBool_bool, br_false, ev_E, ev_c, set_E, look_cons, look_nil, cond_true, cond_false, Nat.reduceBEq, Nat.reduceAdd, Nat.reduceSub, if_true, List.length_nil, AVal.eval, binOf, intOf, show decide ((0 : Int) < ((0 : Nat) : Int)) = false from rfl]
  refine post1 ?_
  simp -implicitDefEqProofs only [ev_E, look_cons, look_nil, cond_true, cond_false, Nat.reduceBEq, Nat.reduceAdd, Nat.reduceSub]
theorem one16 (x y : St) (hx : x.Bare) (hy : y.Bare) (hs : x.Short) : Ret prog 16 [x.v, y.v] Heap.none fun r _ => r = .bool (x.one y) := by
  obtain ⟨x1, x2, x3⟩ := hx
  obtain ⟨y1, y2, y3⟩ := hy
  have hse := hs.e
  have hsi := hs.i
  have hsl := hs.l
  refine Ret.by_text rfl rfl ?_
  simp -implicitDefEqProofs only [number, W_region, W_seq, Thn_normal, wOps_nil, wOps_cons, val_0, val_g, valK_eq, onPut_some, onGuard_bool, br_not, beq_false', box_0, onCells_some, boxK_eq, ev_E, ev_c, set_E, set_B, getD_B, look_cons, lookB_cons, look_nil, lookB_nil, cond_true, cond_false, Nat.reduceBEq, Nat.reduceAdd, Nat.reduceSub, Nat.reduceLeDiff, if_true, if_false, Bool.false_eq_true, true_and, List.getElem?_cons_zero, List.length_cons, List.length_nil, List.drop_zero, List.take_succ_cons, List.take_zero, List.map_nil, AVal.eval, loadOf, cellsAt, boxOf, partOf, binOf, intOf, a16, St.cellsOf_v, St.cs, x1, x2, x3, y1, y2, y3]
  intro g1 g2
  refine br_intro (fun h1 => ?_) (fun h1 => ?_)
  · simp -implicitDefEqProofs only [W_region, W_seq, W_cond, W_ret, Thn_normal, Thn_ret, wOps_nil, wOps_cons, val_0, val_g, valK_eq, onPut_some, onGuard_bool, onBool_bool, br_true, br_false, beq_false', skipK_some, call_g, ev_E, ev_c, set_E, look_cons, look_nil, cond_true, cond_false, Nat.reduceBEq, Nat.reduceAdd, Nat.reduceSub, if_true, Bool.not_true, AVal.eval, h1]
    refine post1 ?_
    simp -implicitDefEqProofs only [ev_E, look_cons, look_nil, cond_true, cond_false, Nat.reduceBEq, Nat.reduceAdd, Nat.reduceSub, St.one]
    simp_all [bne]
  simp -implicitDefEqProofs only [wOps_cons, val_0, val_g, valK_eq, onPut_some, onGuard_bool, br_true, br_not, beq_false', ev_E, ev_c, set_E, getD_B, look_cons, lookB_cons, look_nil, lookB_nil, cond_true, cond_false, Nat.reduceBEq, Nat.reduceAdd, Nat.reduceSub, Nat.reduceLeDiff, if_true, if_false, Bool.false_eq_true, Bool.not_false, List.getElem?_cons_zero, List.getElem?_cons_succ, List.length_cons, List.length_nil, List.drop_succ_cons, List.drop_zero, List.take_succ_cons, List.take_zero, AVal.eval, loadOf, cellsAt, boxOf, partOf, binOf, intOf, h1]
  refine br_intro (fun h3 => ?_) (fun h3 => ?_)
  · simp -implicitDefEqProofs only [W_region, W_seq, W_cond, W_ret, Thn_normal, Thn_ret, wOps_nil, wOps_cons, val_0, val_g, valK_eq, onPut_some, onGuard_bool, onBool_bool, br_true, br_false, beq_false', skipK_some, call_g, ev_E, ev_c, set_E, look_cons, look_nil, cond_true, cond_false, Nat.reduceBEq, Nat.reduceAdd, Nat.reduceSub, if_true, Bool.not_true, AVal.eval, h3]
    refine post1 ?_
    simp -implicitDefEqProofs only [ev_E, look_cons, look_nil, cond_true, cond_false, Nat.reduceBEq, Nat.reduceAdd, Nat.reduceSub, St.one]
    simp_all [bne]
  simp -implicitDefEqProofs only [wOps_cons, val_0, val_g, valK_eq, onPut_some, onGuard_bool, br_true, br_not, beq_false', ev_E, ev_c, set_E, getD_B, look_cons, lookB_cons, look_nil, lookB_nil, cond_true, cond_false, Nat.reduceBEq, Nat.reduceAdd, Nat.reduceSub, Nat.reduceLeDiff, if_true, if_false, Bool.false_eq_true, Bool.not_false, List.getElem?_cons_zero, List.getElem?_cons_succ, List.length_cons, List.length_nil, List.drop_succ_cons, List.drop_zero, List.take_succ_cons, List.take_zero, AVal.eval, loadOf, cellsAt, boxOf, partOf, binOf, intOf, h3]
  refine br_intro (fun h4 => ?_) (fun h4 => ?_)
  · simp -implicitDefEqProofs only [W_region, W_seq, W_cond, W_ret, Thn_normal, Thn_ret, wOps_nil, wOps_cons, val_0, val_g, valK_eq, onPut_some, onGuard_bool, onBool_bool, br_true, br_false, beq_false', skipK_some, call_g, ev_E, ev_c, set_E, look_cons, look_nil, cond_true, cond_false, Nat.reduceBEq, Nat.reduceAdd, Nat.reduceSub, if_true, Bool.not_true, AVal.eval, h4]
    refine post1 ?_
    simp -implicitDefEqProofs only [ev_E, look_cons, look_nil, cond_true, cond_false, Nat.reduceBEq, Nat.reduceAdd, Nat.reduceSub, St.one]
    simp_all [bne]
  simp -implicitDefEqProofs only [wOps_cons, val_g, valK_eq, onPut_some, onGuard_bool, br_true, beq_false', callK_eq, call_g, ev_E, set_E, getD_B, look_cons, lookB_cons, look_nil, lookB_nil, cond_true, cond_false, Nat.reduceBEq, Nat.reduceAdd, Nat.reduceSub, Nat.reduceLeDiff, if_true, Bool.not_false, List.getElem?_cons_zero, List.getElem?_cons_succ, List.length_cons, List.length_nil, List.drop_succ_cons, List.drop_zero, List.take_succ_cons, List.take_zero, List.map_cons, List.map_nil, AVal.eval, loadOf, cellsAt, boxOf, partOf, h4]
  simp only [bne_eq_false_iff_eq] at h1 h3 h4
  simp -implicitDefEqProofs only [Ex.fold]
  refine callOk_pure (same26 x.e y.e (by omega)) ?_
  simp -implicitDefEqProofs only [wOps_cons, val_0, val_g, valK_eq, onPut_some, onGuard_bool, br_true, br_not, beq_false', retK_some, ev_E, ev_c, set_E, look_cons, look_nil, cond_true, cond_false, Nat.reduceBEq, Nat.reduceAdd, Nat.reduceSub, if_false, Bool.false_eq_true, Bool.not_false, AVal.eval, unOf]
  refine br_intro2 (fun h5 => ?_) (fun h5 => ?_)
  · simp -implicitDefEqProofs only [W_region, W_seq, W_cond, W_ret, Thn_normal, Thn_ret, wOps_nil, wOps_cons, val_0, val_g, valK_eq, onPut_some, onGuard_bool, onBool_bool, br_true, br_false, beq_false', skipK_some, call_g, ev_E, ev_c, set_E, look_cons, look_nil, cond_true, cond_false, Nat.reduceBEq, Nat.reduceAdd, Nat.reduceSub, if_true, Bool.not_true, Bool.not_false, AVal.eval, h5]
    refine post1 ?_
    simp -implicitDefEqProofs only [ev_E, look_cons, look_nil, cond_true, cond_false, Nat.reduceBEq, Nat.reduceAdd, Nat.reduceSub, St.one, h5]
    simp
  simp -implicitDefEqProofs only [wOps_cons, val_g, valK_eq, onPut_some, onGuard_bool, br_true, beq_false', callK_eq, call_g, ev_E, set_E, getD_B, look_cons, lookB_cons, look_nil, lookB_nil, cond_true, cond_false, Nat.reduceBEq, Nat.reduceAdd, Nat.reduceSub, Nat.reduceLeDiff, if_true, Bool.not_true, Bool.not_false, List.getElem?_cons_zero, List.getElem?_cons_succ, List.length_cons, List.length_nil, List.drop_succ_cons, List.drop_zero, List.take_succ_cons, List.take_zero, List.map_cons, List.map_nil, AVal.eval, loadOf, cellsAt, boxOf, partOf, h5, Ex.fold]
  refine callOk_pure (same26 x.i y.i (by omega)) ?_
  simp -implicitDefEqProofs only [wOps_cons, val_0, val_g, valK_eq, onPut_some, onGuard_bool, br_true, br_not, beq_false', retK_some, ev_E, ev_c, set_E, look_cons, look_nil, cond_true, cond_false, Nat.reduceBEq, Nat.reduceAdd, Nat.reduceSub, if_false, Bool.false_eq_true, Bool.not_false, AVal.eval, unOf]
  refine br_intro2 (fun h6 => ?_) (fun h6 => ?_)
  · simp -implicitDefEqProofs only [W_region, W_seq, W_cond, W_ret, Thn_normal, Thn_ret, wOps_nil, wOps_cons, val_0, val_g, valK_eq, onPut_some, onGuard_bool, onBool_bool, br_true, br_false, beq_false', skipK_some, call_g, ev_E, ev_c, set_E, look_cons, look_nil, cond_true, cond_false, Nat.reduceBEq, Nat.reduceAdd, Nat.reduceSub, if_true, Bool.not_true, Bool.not_false, AVal.eval, h6]
    refine post1 ?_
    simp -implicitDefEqProofs only [ev_E, look_cons, look_nil, cond_true, cond_false, Nat.reduceBEq, Nat.reduceAdd, Nat.reduceSub, St.one, h6]
    simp
  simp -implicitDefEqProofs only [wOps_cons, val_g, valK_eq, onPut_some, onGuard_bool, br_true, beq_false', callK_eq, call_g, ev_E, set_E, getD_B, look_cons, lookB_cons, look_nil, lookB_nil, cond_true, cond_false, Nat.reduceBEq, Nat.reduceAdd, Nat.reduceSub, Nat.reduceLeDiff, if_true, if_false, Bool.false_eq_true, Bool.not_true, Bool.not_false, List.getElem?_cons_zero, List.getElem?_cons_succ, List.length_cons, List.length_nil, List.drop_succ_cons, List.drop_zero, List.take_succ_cons, List.take_zero, List.map_cons, List.map_nil, AVal.eval, loadOf, cellsAt, boxOf, partOf, h6]
  refine callOk_pure (exprs27 x.l y.l (by omega)) ?_
  simp -implicitDefEqProofs only [wOps_cons, val_0, val_g, valK_eq, onPut_some, onGuard_bool, br_true, br_not, beq_false', retK_some, ev_E, ev_c, set_E, look_cons, look_nil, cond_true, cond_false, Nat.reduceBEq, Nat.reduceAdd, Nat.reduceSub, if_false, Bool.false_eq_true, Bool.not_false, AVal.eval, unOf]
  refine br_intro2 (fun h7 => ?_) (fun h7 => ?_)
  · simp -implicitDefEqProofs only [W_region, W_seq, W_cond, W_ret, Thn_normal, Thn_ret, wOps_nil, wOps_cons, val_0, val_g, valK_eq, onPut_some, onGuard_bool, onBool_bool, br_true, br_false, beq_false', skipK_some, ev_E, ev_c, set_E, look_cons, look_nil, cond_true, cond_false, Nat.reduceBEq, Nat.reduceAdd, Nat.reduceSub, if_true, Bool.not_true, Bool.not_false, AVal.eval, h7]
    refine post1 ?_
    simp -implicitDefEqProofs only [ev_E, look_cons, look_nil, cond_true, cond_false, Nat.reduceBEq, Nat.reduceAdd, Nat.reduceSub, St.one, h7]
    simp
  simp -implicitDefEqProofs only [wOps_cons, val_0, val_g, valK_eq, onPut_some, onGuard_bool, br_true, br_not, beq_false', ev_E, ev_c, set_E, getD_B, look_cons, lookB_cons, look_nil, lookB_nil, cond_true, cond_false, Nat.reduceBEq, Nat.reduceAdd, Nat.reduceSub, Nat.reduceLeDiff, if_true, if_false, Bool.false_eq_true, Bool.not_true, Bool.not_false, List.getElem?_cons_zero, List.getElem?_cons_succ, List.length_cons, List.length_nil, List.drop_succ_cons, List.drop_zero, List.take_succ_cons, List.take_zero, AVal.eval, List.length_map, loadOf, cellsAt, boxOf, partOf, binOf, intOf, h7]
  have hone : x.one y = all2 Ar.same x.args y.args := by simp [St.one, h1, h3, h4, h5, h6, h7]
  rw [hone]
  refine br_intro (fun h8 => ?_) (fun h8 => ?_)
  · simp -implicitDefEqProofs only [W_region, W_seq, W_cond, W_ret, Thn_normal, Thn_ret, wOps_nil, wOps_cons, val_0, val_g, valK_eq, onPut_some, onGuard_bool, onBool_bool, br_true, br_false, beq_false', skipK_some, ev_E, ev_c, set_E, look_cons, look_nil, cond_true, cond_false, Nat.reduceBEq, Nat.reduceAdd, Nat.reduceSub, if_true, Bool.not_true, AVal.eval, h8]
    refine post1 ?_
    simp -implicitDefEqProofs only [ev_E, look_cons, look_nil, cond_true, cond_false, Nat.reduceBEq, Nat.reduceAdd, Nat.reduceSub]
    rw [all2_len (by simpa [Int.natCast_inj] using h8)]
  simp -implicitDefEqProofs only [W_skip, W_region, W_seq, W_cond, W_block, W_loop, keep_eq, Thn_normal, wOps_nil, wOps_cons, val_0, val_g, valK_eq, onPut_some, onGuard_bool, onBool_bool, br_true, br_false, beq_false', ev_E, ev_c, set_E, getD_B, look_cons, lookB_cons, look_nil, lookB_nil, cond_true, cond_false, Nat.reduceBEq, Nat.reduceAdd, Nat.reduceSub, Nat.reduceLeDiff, if_true, if_false, Bool.false_eq_true, Bool.not_false, List.getElem?_cons_zero, List.getElem?_cons_succ, List.length_cons, List.length_nil, List.drop_succ_cons, List.drop_zero, List.take_succ_cons, List.take_nil, List.map_cons, List.map_nil, AVal.eval, loadOf, cellsAt, boxOf, partOf, binOf, intOf, h8, bne_self_eq_false]
  simp only [bne_eq_false_iff_eq, Int.natCast_inj] at h8
  have hal := hs.a
  refine Loop.rec (fun k : Nat => x.args.length - k) (fun k => ⟨E 153 [(2, .lp 2 g1 0), (3, .lp 3 g2 0), (5, .int .i64 k)], B 153 [(2, some (g1, x.cs)), (3, some (g2, y.cs))], Heap.none⟩)
    (fun k => k ≤ x.args.length ∧ all2 Ar.same x.args y.args = all2 Ar.same (x.args.drop k) (y.args.drop k)) ?_ 0 ⟨Nat.zero_le _, rfl⟩ (by simp [St.cs, x1, x2, x3, y1, y2, y3])
  intro k hk hi
  simp -implicitDefEqProofs only [W_region, W_seq, W_cond, Thn_normal, wOps_nil, wOps_cons, val_0, valK_eq, onPut_some, onBool_bool, ev_E, set_E, getD_B, look_cons, lookB_cons, look_nil, lookB_nil, cond_true, cond_false, Nat.reduceBEq, Nat.reduceAdd, Nat.reduceSub, Nat.reduceLeDiff, if_true, if_false, Bool.false_eq_true, List.getElem?_cons_zero, List.getElem?_cons_succ, List.length_cons, List.length_nil, List.drop_succ_cons, List.drop_zero, List.take_succ_cons, List.take_zero, List.map_nil, AVal.eval, List.length_map, loadOf, cellsAt, boxOf, partOf, binOf, intOf, St.cs, x1, x2, x3, y1, y2, y3]
  refine br_intro (fun c6 => ?_) (fun c6 => ?_)
  · have c7 : k < x.args.length := by simpa using c6
    obtain ⟨u, hu⟩ : ∃ u, x.args[k]? = some u := ⟨_, List.getElem?_eq_getElem c7⟩
    obtain ⟨v, hv⟩ : ∃ v, y.args[k]? = some v := ⟨_, List.getElem?_eq_getElem (h8 ▸ c7)⟩
    simp -implicitDefEqProofs only [W_skip, W_region, W_seq, W_block, Thn_normal, wOps_cons, val_0, val_g, valK_eq, onPut_some, onGuard_bool, br_not, beq_false', ev_E, set_E, getD_B, look_cons, lookB_cons, look_nil, lookB_nil, cond_true, cond_false, Nat.reduceBEq, Nat.reduceAdd, Nat.reduceSub, Nat.reduceLeDiff, if_true, if_false, Bool.false_eq_true, and_self, List.getElem?_cons_zero, List.getElem?_cons_succ, List.length_cons, List.length_nil, List.drop_succ_cons, List.drop_zero, List.take_succ_cons, List.take_zero, AVal.eval, nat_le, Int.toNat_natCast, List.getElem?_map, Option.map_some, loadOf, cellsAt, boxOf, partOf, binOf, intOf, c6, hu, hv, u.cells_eq, v.cells_eq]
    refine br_intro (fun d1 => ?_) (fun d1 => ?_)
    · simp -implicitDefEqProofs only [W_region, W_seq, W_cond, W_ret, Again_ret, Thn_normal, Thn_ret, Bl_ret, wOps_nil, wOps_cons, val_0, val_g, valK_eq, onPut_some, onGuard_bool, onBool_bool, br_true, br_false, beq_false', skipK_some, call_g, ev_E, ev_c, set_E, look_cons, look_nil, cond_true, cond_false, Nat.reduceBEq, Nat.reduceAdd, Nat.reduceSub, if_true, Bool.not_true, AVal.eval, d1]
      refine post1 ?_
      simp -implicitDefEqProofs only [ev_E, look_cons, look_nil, cond_true, cond_false, Nat.reduceBEq, Nat.reduceAdd, Nat.reduceSub]
      rw [hk.2, all2_drop hu hv, Ar.same, show (u.field == v.field) = false by simpa [bne] using d1]; rfl
    · have d2 : (u.field == v.field) = true := by simpa [bne] using d1
      simp -implicitDefEqProofs only [wOps_cons, val_g, valK_eq, onPut_some, onGuard_bool, br_true, beq_false', callK_eq, call_g, ev_E, set_E, getD_B, look_cons, lookB_cons, look_nil, lookB_nil, cond_true, cond_false, Nat.reduceBEq, Nat.reduceAdd, Nat.reduceSub, Nat.reduceLeDiff, if_true, if_false, Bool.false_eq_true, Bool.not_false, and_self, List.getElem?_cons_zero, List.getElem?_cons_succ, List.length_cons, List.length_nil, List.drop_succ_cons, List.drop_zero, List.take_succ_cons, List.take_zero, List.take_nil, List.map_cons, List.map_nil, AVal.eval, nat_le, Int.toNat_natCast, List.getElem?_map, Option.map_some, loadOf, cellsAt, boxOf, partOf, d1, hu, hv, u.cells_eq, v.cells_eq, Ex.fold]
      refine callOk_pure (same26 u.e v.e (by have := hs.ae u (List.mem_of_getElem? hu); omega)) ?_
      simp -implicitDefEqProofs only [W_cond, Thn_normal, wOps_nil, wOps_cons, val_0, val_g, valK_eq, onPut_some, onGuard_bool, onBool_bool, br_true, br_not, beq_false', retK_some, ev_E, ev_c, set_E, look_cons, look_nil, cond_true, cond_false, Nat.reduceBEq, Nat.reduceAdd, Nat.reduceSub, if_false, Bool.false_eq_true, Bool.not_false, AVal.eval, unOf]
      refine br_intro (fun d3 => ?_) (fun d3 => ?_)
      · simp -implicitDefEqProofs only [W_skip, W_region, Again_normal, keep_eq, Thn_normal, Bl_normal, wOps_nil, wOps_cons, val_0, valK_eq, onPut_some, ev_E, ev_c, set_E, look_cons, lookB_cons, look_nil, lookB_nil, cond_true, cond_false, Nat.reduceBEq, Nat.reduceAdd, Nat.reduceSub, if_true, Bool.not_true, List.map_cons, List.map_nil, AVal.eval, binOf, intOf, d3, wrap_succ (show k < 9223372036854775807 by omega)]
        have := hi (k + 1) (by omega) ⟨by omega, by rw [hk.2, all2_drop hu hv, Ar.same, d2, d3]; rfl⟩
        simp only [St.cs, x1, x2, x3, y1, y2, y3, List.map_nil] at this
        exact this
      · simp -implicitDefEqProofs only [W_region, W_seq, W_ret, Again_ret, Thn_normal, Thn_ret, Bl_ret, wOps_nil, wOps_cons, val_0, valK_eq, onPut_some, ev_c, set_E, Bool.not_false, AVal.eval, d3]
        refine post1 ?_
        simp -implicitDefEqProofs only [ev_E, look_cons, look_nil, cond_true, cond_false, Nat.reduceBEq, Nat.reduceAdd, Nat.reduceSub]
        rw [hk.2, all2_drop hu hv, Ar.same, d2, d3]; rfl
  · have c7 : ¬ k < x.args.length := by simpa using c6
    simp -implicitDefEqProofs only [W_region, W_seq, W_block, W_exit, W_loop, Again_exit, keep_eq, Thn_normal, Thn_exit, Bl_exit, wOps_nil, wOps_cons, val_0, valK_eq, onPut_some, ev_c, set_E, look_cons, lookB_cons, look_nil, lookB_nil, cond_true, cond_false, Nat.reduceBEq, List.map_cons, List.map_nil, AVal.eval, c6]
    refine Loop.step ?_
    simp -implicitDefEqProofs only [W_region, W_seq, W_cond, W_exit, Again_exit, Thn_normal, Thn_exit, Bl_exit, wOps_nil, wOps_cons, val_0, valK_eq, onPut_some, onBool_bool, br_false, call_0, callK_eq, ev_E, set_E, getD_B, look_cons, lookB_cons, look_nil, lookB_nil, cond_true, cond_false, Nat.reduceBEq, Nat.reduceAdd, Nat.reduceSub, Nat.reduceLeDiff, if_true, if_false, Bool.false_eq_true, List.getElem?_cons_zero, List.getElem?_cons_succ, List.length_cons, List.length_nil, List.drop_succ_cons, List.drop_zero, List.take_succ_cons, List.take_zero, List.take_nil, List.map_cons, List.map_nil, AVal.eval, loadOf, cellsAt, boxOf, partOf, binOf, intOf, show decide ((0 : Int) < ((0 : Nat) : Int)) = false from rfl]
    refine callOk_pure same29nil ?_
    simp -implicitDefEqProofs only [wOps_cons, val_0, val_g, valK_eq, onPut_some, onGuard_bool, br_true, beq_true', callK_eq, call_g, retK_some, ev_E, set_E, getD_B, look_cons, lookB_cons, look_nil, lookB_nil, cond_true, cond_false, Nat.reduceBEq, Nat.reduceAdd, Nat.reduceSub, Nat.reduceLeDiff, if_true, if_false, Bool.false_eq_true, List.getElem?_cons_zero, List.getElem?_cons_succ, List.length_cons, List.length_nil, List.drop_succ_cons, List.drop_zero, List.take_succ_cons, List.take_zero, List.map_cons, List.map_nil, AVal.eval, loadOf, cellsAt, boxOf, partOf]
    refine callOk_pure same29nil ?_
    simp -implicitDefEqProofs only [W_ret, Thn_normal, wOps_nil, wOps_cons, val_0, valK_eq, onPut_some, retK_some, ev_E, ev_c, set_E, look_cons, look_nil, cond_true, cond_false, Nat.reduceBEq, Nat.reduceAdd, Nat.reduceSub, if_true, AVal.eval]
    refine post1 ?_
    simp -implicitDefEqProofs only [ev_E, look_cons, look_nil, cond_true, cond_false, Nat.reduceBEq, Nat.reduceAdd, Nat.reduceSub]
    rw [hk.2, all2_end (by omega) h8]
end TryT
end Go.Abs
