/-
  Contracts: sets of numbers.
-/
import Derived.Test.YtfgkfjmbjopfgaaGsC5
set_option linter.unusedVariables false
set_option linter.unusedSimpArgs false
set_option maxRecDepth 100000
namespace Go.Abs
open Go
/-- A word of bits in a cell. -/
def wordC (n : Int) : List V := [.int .u64 n]
def setV (room : Int) (w : List Int) : V := .agg [.int .i64 room, .fsl 1 (w.map wordC)]
def bitOf (x : Int) (j : Nat) : Bool := IntKind.u64.wrap ((BitVec.ofInt 64 (x.fdiv (2 ^ j)) &&& BitVec.ofInt 64 1).toNat : Int) == 1
def setOf (x : Int) (j : Nat) : Int := IntKind.u64.wrap ((BitVec.ofInt 64 x ||| BitVec.ofInt 64 (IntKind.u64.wrap (1 * 2 ^ j))).toNat : Int)
theorem ofInt_nat (n : Nat) : BitVec.ofInt 64 (n : Int) = BitVec.ofNat 64 n := BitVec.ofInt_natCast 64 n
theorem wrapu (n : Nat) (h : n < 18446744073709551616) : IntKind.u64.wrap (n : Int) = n := IntWalk.u64_in _ ⟨by omega, by omega⟩
theorem bitOf_nat (x : Nat) (hx : x < 2 ^ 64) (j : Nat) : bitOf (x : Int) j = x.testBit j := by
  have h1 : ((x : Int).fdiv (2 ^ j)) = ((x / 2 ^ j : Nat) : Int) := by
    rw [Int.fdiv_eq_ediv_of_nonneg _ (Int.le_of_lt (Int.pow_pos (by decide)))]; simp
  have h2 : x / 2 ^ j < 2 ^ 64 := Nat.lt_of_le_of_lt (Nat.div_le_self _ _) hx
  rw [bitOf, h1, ofInt_nat, show BitVec.ofInt 64 1 = BitVec.ofNat 64 1 from rfl, BitVec.toNat_and, BitVec.toNat_ofNat, BitVec.toNat_ofNat, Nat.mod_eq_of_lt h2, show 1 % 2 ^ 64 = 1 from rfl, Nat.and_one_is_mod, wrapu _ (by omega), Nat.testBit_eq_decide_div_mod_eq]
  generalize x / 2 ^ j % 2 = y
  rw [Bool.eq_iff_iff]; simp only [beq_iff_eq, decide_eq_true_eq]; omega
theorem setOf_nat (x : Nat) (hx : x < 2 ^ 64) (j : Nat) (hj : j < 64) : setOf (x : Int) j = ((x ||| 2 ^ j : Nat) : Int) ∧ x ||| 2 ^ j < 2 ^ 64 := by
  have hp : 2 ^ j < 2 ^ 64 := Nat.pow_lt_pow_right (by decide) hj
  have h3 : x ||| 2 ^ j < 2 ^ 64 := Nat.or_lt_two_pow hx hp
  have h1 : (1 * 2 ^ j : Int) = ((2 ^ j : Nat) : Int) := by simp
  refine ⟨?_, h3⟩
  rw [setOf, h1, wrapu (2 ^ j) (by simpa using hp), ofInt_nat, ofInt_nat, BitVec.toNat_or, BitVec.toNat_ofNat, BitVec.toNat_ofNat, Nat.mod_eq_of_lt hx, Nat.mod_eq_of_lt hp, wrapu _ (by simpa using h3)]
theorem shr_u64 (x : Int) (j : Nat) (hj : j < 64) : shiftOf BinOp.shr IntKind.u64 x (j : Int) = some (.int .u64 (x.fdiv (2 ^ j))) := by
  have h1 : ¬ (j : Int) < 0 := by omega
  have h2 : min ((j : Int).toNat) (IntKind.u64.bits) = j := by
    have : IntKind.u64.bits = 64 := rfl
    rw [this]; simp; omega
  simp only [shiftOf, h1, if_false, h2]
theorem shl_u64 (x : Int) (j : Nat) (hj : j < 64) : shiftOf BinOp.shl IntKind.u64 x (j : Int) = some (.int .u64 (IntKind.u64.wrap (x * 2 ^ j))) := by
  have h1 : ¬ (j : Int) < 0 := by omega
  have h2 : min ((j : Int).toNat) (IntKind.u64.bits) = j := by
    have : IntKind.u64.bits = 64 := rfl
    rw [this]; simp; omega
  simp only [shiftOf, h1, if_false, h2]
/-- A set: just these of the numbers below 'n'. -/
def SetIs (n : Nat) (S : Nat → Bool) (v : V) : Prop := ∃ w : List Nat, v = setV n (w.map fun (x : Nat) => (x : Int)) ∧ w.length = (n + 63) / 64 ∧ (∀ x ∈ w, x < 2 ^ 64) ∧ ∀ i, i < n → ((w[i / 64]?).getD 0).testBit (i % 64) = S i
namespace TryT
theorem new21 (n : Nat) (h : Heap) (hn : n ≤ 65536) (R : V → Heap → Prop) (hR : ∀ id, h id = none → R (.agg [.int .i64 n, .msl id 0 ((n + 63) / 64)]) (h.upd id (some (.arr 1 (List.replicate ((n + 63) / 64) (wordC 0)))))) : Ret prog 21 [.int .i64 n] h R := by
  refine Ret.by_text rfl rfl ?_
  simp -implicitDefEqProofs only [number, W_region, W_seq, Thn_normal, wOps_nil, wOps_cons, val_0, valK_eq, onPut_some, box_0, onCells_some, boxK_eq, ev_E, ev_c, set_E, set_B, getD_B, look_cons, look_nil, lookB_nil, cond_true, cond_false, Nat.reduceBEq, Nat.reduceAdd, Nat.reduceSub, if_true, true_and, List.length_cons, List.length_nil, AVal.eval, cellsOf_agg, binOf, intOf, a21]
  intro g
  have f1 : (if (65536 : Int) < (n : Int) then 65536 else (n : Int)) = n := if_neg (by omega)
  have f2 : (if (n : Int) > 0 then (n : Int) else 0) = n := by split <;> omega
  have f3 : IntKind.i64.wrap ((n : Int) + 63) = ((n + 63 : Nat) : Int) := by rw [wrap_in ⟨by omega, by omega⟩]; omega
  have f4 : IntKind.i64.wrap (((n + 63 : Nat) : Int).tdiv 64) = (((n + 63) / 64 : Nat) : Int) := by
    rw [Int.tdiv_eq_ediv_of_nonneg (by omega), wrap_in ⟨by omega, by omega⟩]; omega
  simp -implicitDefEqProofs only [W_ret, Thn_normal, wOps_nil, wOps_cons, val_0, valK_eq, onPut_some, st_0, stK_eq, onS_some, fill, onInts_int, mksK_eq, mks_0, ev_E, set_E, set_B, getD_B, look_cons, lookB_cons, look_nil, lookB_nil, cond_true, cond_false, Nat.reduceBEq, Nat.reduceAdd, Nat.reduceSub, Nat.reduceLeDiff, if_true, if_false, storeOf, storeCells, over, List.append_nil, true_and, and_self, List.length_cons, List.length_nil, List.drop_succ_cons, List.drop_zero, List.take_succ_cons, List.take_zero, List.drop_nil, List.nil_append, List.cons_append, AVal.eval, cellsOf_agg, cellsOf_int, cellsOf_msl, nat_le, Int.toNat_natCast, Option.map_some, boxOf, f1, f2, f3, f4, show ((64 : Int) = 0) = False by simp]
  refine ⟨by omega, by omega, by omega, fun id hid => ?_⟩
  refine postC (v := .agg [.int .i64 n, .msl id 0 ((n + 63) / 64)]) (by simp -implicitDefEqProofs only [ev_E, getD_B, look_cons, lookB_cons, look_nil, lookB_nil, cond_true, cond_false, Nat.reduceBEq, Nat.reduceAdd, Nat.reduceSub, Nat.reduceLeDiff, if_true, List.getElem?_cons_zero, List.length_cons, List.length_nil, List.drop_zero, List.take_succ_cons, List.take_nil, loadOf, cellsAt, boxOf, partOf]) (hR id hid)

theorem copied32 (n : Nat) (w : List Int) (h : Heap) (hn : n ≤ 65536) (hw : w.length = (n + 63) / 64) (R : V → Heap → Prop) (hR : ∀ id, h id = none → R (.agg [.int .i64 n, .msl id 0 ((n + 63) / 64)]) (h.upd id (some (.arr 1 (w.map wordC))))) :
    Ret prog 32 [setV n w, .int .i64 n] h R := by
  refine Ret.by_text rfl rfl ?_
  simp -implicitDefEqProofs only [number, W_region, W_seq, Thn_normal, wOps_nil, wOps_cons, val_0, valK_eq, onPut_some, box_0, onCells_some, boxK_eq, call_0, callK_eq, ev_E, ev_c, set_E, set_B, getD_B, look_cons, lookB_cons, look_nil, lookB_nil, cond_true, cond_false, Nat.reduceBEq, Nat.reduceAdd, Nat.reduceSub, true_and, List.length_cons, List.length_nil, List.map_cons, List.map_nil, AVal.eval, cellsOf_agg, a32, setV]
  intro g1 g2
  refine .inl (new21 n h hn _ fun id hid => ?_)
  simp -implicitDefEqProofs only [W_region, W_seq, Thn_normal, wOps_nil, wOps_cons, val_0, valK_eq, onPut_some, box_0, onCells_some, boxK_eq, st_0, stK_eq, onS_some, retK_some, cpy_0, ev_E, ev_c, set_E, set_B, getD_B, look_cons, lookB_cons, look_nil, lookB_nil, cond_true, cond_false, Nat.reduceBEq, Nat.reduceAdd, Nat.reduceSub, Nat.reduceLeDiff, if_true, if_false, storeOf, storeCells, over, List.append_nil, Bool.false_eq_true, true_and, and_self, List.getElem?_cons_zero, List.getElem?_cons_succ, List.length_cons, List.length_nil, List.drop_succ_cons, List.drop_zero, List.take_succ_cons, List.take_zero, List.take_nil, List.drop_nil, List.nil_append, AVal.eval, cellsOf_agg, loadOf, cellsAt, boxOf, partOf]
  intro g3
  refine cpyK_msl (upd_self _ _ _) (new := w.map wordC) rfl ?_ ?_ ?_
  · intro z hz
    obtain ⟨a, _, rfl⟩ := List.mem_map.1 hz
    rfl
  · simp
  simp -implicitDefEqProofs only [W_region, W_seq, W_ret, Thn_normal, wOps_nil, wOps_cons, val_0, valK_eq, onPut_some, st_0, stK_eq, onS_some, ev_E, set_E, set_B, getD_B, look_cons, lookB_cons, look_nil, lookB_nil, cond_true, cond_false, Nat.reduceBEq, Nat.reduceAdd, Nat.reduceSub, Nat.reduceLeDiff, if_true, storeOf, storeCells, over, List.append_nil, and_self, List.getElem?_cons_zero, List.length_cons, List.length_nil, List.drop_succ_cons, List.drop_zero, List.take_succ_cons, List.take_zero, List.take_nil, List.drop_nil, List.nil_append, AVal.eval, cellsOf_agg, List.length_map, loadOf, cellsAt, boxOf, partOf]
  refine postC (v := .agg [.int .i64 n, .msl id 0 ((n + 63) / 64)]) (by simp -implicitDefEqProofs only [ev_E, getD_B, look_cons, lookB_cons, look_nil, lookB_nil, cond_true, cond_false, Nat.reduceBEq, Nat.reduceAdd, Nat.reduceSub, Nat.reduceLeDiff, if_true, List.getElem?_cons_zero, List.length_cons, List.length_nil, List.drop_zero, List.take_succ_cons, List.take_nil, loadOf, cellsAt, boxOf, partOf]) ?_
  have e1 : List.take ((n + 63) / 64) (List.map wordC w) ++ List.drop (0 + min w.length ((n + 63) / 64)) (List.replicate ((n + 63) / 64) (wordC 0)) = w.map wordC := by
    rw [List.take_of_length_le (by simp [hw]), List.drop_eq_nil_of_le (by simp [hw]), List.append_nil]
  have e2 : ∀ (a b : Option Blk), (h.upd id a).upd id b = h.upd id b := fun a b => by funext i; simp only [Heap.upd]; split <;> rfl
  simp only [e1, e2]
  exact hR id hid

theorem has22 {n : Nat} {S : Nat → Bool} {v : V} (hs : SetIs n S v) (hn : n ≤ 65536) (i : Nat) (hi : i < 1000000) : Ret prog 22 [v, .int .i64 i] Heap.none fun r _ => r = .bool (decide (i < n) && S i) := by
  obtain ⟨w, rfl, hw, hb, hS⟩ := hs
  refine Ret.by_text rfl rfl ?_
  simp -implicitDefEqProofs only [number, W_region, W_seq, Thn_normal, wOps_nil, wOps_cons, val_0, val_g, valK_eq, onPut_some, onGuard_bool, br_true, beq_true', box_0, onCells_some, boxK_eq, ev_E, ev_c, set_E, set_B, getD_B, look_cons, lookB_cons, look_nil, lookB_nil, cond_true, cond_false, Nat.reduceBEq, Nat.reduceAdd, Nat.reduceSub, Nat.reduceLeDiff, if_true, if_false, Bool.false_eq_true, true_and, List.getElem?_cons_zero, List.length_cons, List.length_nil, List.drop_zero, List.take_succ_cons, List.take_zero, AVal.eval, cellsOf_agg, nat_le, dec_true, loadOf, cellsAt, boxOf, partOf, binOf, intOf, a22, setV]
  intro g
  refine br_intro (fun h1 => ?_) (fun h1 => ?_)
  · have h2 : i < n := by simpa using h1
    have f1 : IntKind.i64.wrap ((i : Int).tdiv 64) = ((i / 64 : Nat) : Int) := by
      rw [Int.tdiv_eq_ediv_of_nonneg (by omega), wrap_in ⟨by omega, by omega⟩]; omega
    have f2 : (i : Int).tmod 64 = ((i % 64 : Nat) : Int) := by rw [Int.tmod_eq_emod_of_nonneg (by omega)]; omega
    obtain ⟨x, hx⟩ : ∃ x, w[i / 64]? = some x := ⟨_, List.getElem?_eq_getElem (by rw [hw]; omega)⟩
    have hxb : x < 2 ^ 64 := hb x (List.mem_of_getElem? hx)
    have f3 := bitOf_nat x hxb (i % 64)
    have f4 := hS i h2
    rw [hx] at f4
    simp only [Option.getD_some] at f4
    rw [bitOf] at f3
    simp -implicitDefEqProofs only [W_ret, Thn_normal, wOps_nil, wOps_cons, val_0, val_g, valK_eq, onPut_some, onGuard_bool, br_true, beq_true', ev_E, ev_c, set_E, getD_B, look_cons, lookB_cons, look_nil, lookB_nil, cond_true, cond_false, Nat.reduceBEq, Nat.reduceAdd, Nat.reduceSub, Nat.reduceLeDiff, if_true, if_false, Bool.false_eq_true, and_self, List.getElem?_cons_zero, List.getElem?_cons_succ, List.length_cons, List.length_nil, List.drop_succ_cons, List.drop_zero, List.take_succ_cons, List.take_nil, AVal.eval, nat_le, Int.toNat_natCast, List.getElem?_map, Option.map_some, loadOf, cellsAt, boxOf, partOf, binOf, intOf, h1, f1, f2, hx, wordC, show ((64 : Int) = 0) = False by simp, shr_u64 (x : Int) (i % 64) (by omega), bitsOf, show IntKind.u64.bits = 64 from rfl]
    refine post1 ?_
    simp -implicitDefEqProofs only [ev_E, look_cons, look_nil, cond_true, cond_false, Nat.reduceBEq, Nat.reduceAdd, Nat.reduceSub]
    refine congrArg V.bool (Eq.trans f3 ?_)
    rw [f4, show decide (i < n) = true by simpa using h2, Bool.true_and]
  · simp -implicitDefEqProofs only [W_ret, Thn_normal, wOps_nil, wOps_cons, val_0, val_g, valK_eq, onPut_some, onGuard_bool, br_false, beq_true', skipK_some, ev_E, ev_c, set_E, look_cons, look_nil, cond_true, cond_false, Nat.reduceBEq, Nat.reduceAdd, Nat.reduceSub, if_false, Bool.false_eq_true, AVal.eval, h1]
    refine post1 ?_
    simp -implicitDefEqProofs only [ev_E, look_cons, look_nil, cond_true, cond_false, Nat.reduceBEq, Nat.reduceAdd, Nat.reduceSub]
    have h2 : ¬ i < n := by simpa using h1
    simp [h2]
/-- A set of which no number is below 0. -/
theorem SetIs.ext {n : Nat} {S T : Nat → Bool} {v : V} (h : SetIs n S v) (he : ∀ i, i < n → S i = T i) : SetIs n T v := by
  obtain ⟨w, h1, h2, h3, h4⟩ := h
  exact ⟨w, h1, h2, h3, fun i hi => by rw [h4 i hi, he i hi]⟩
theorem with23 {n : Nat} {S : Nat → Bool} {v : V} (hs : SetIs n S v) (hn : n ≤ 65536) (i : Nat) (hi : i < n) : Ret prog 23 [v, .int .i64 i] Heap.none fun r _ => SetIs n (fun k => S k || k == i) r := by
  obtain ⟨w, rfl, hw, hb, hS⟩ := hs
  refine Ret.by_text rfl rfl ?_
  simp -implicitDefEqProofs only [number, W_region, W_seq, Thn_normal, wOps_nil, wOps_cons, val_0, val_g, valK_eq, onPut_some, onGuard_bool, br_not, beq_false', box_0, onCells_some, boxK_eq, ev_E, ev_c, set_E, set_B, getD_B, look_cons, lookB_cons, look_nil, lookB_nil, cond_true, cond_false, Nat.reduceBEq, Nat.reduceAdd, Nat.reduceSub, if_true, true_and, List.length_cons, List.length_nil, AVal.eval, cellsOf_agg, binOf, intOf, a23, setV]
  intro g1 g2
  have h1 : decide ((i : Int) ≥ n) = false := by simp; omega
  have f1 : IntKind.i64.wrap ((i : Int).tdiv 64) = ((i / 64 : Nat) : Int) := by
    rw [Int.tdiv_eq_ediv_of_nonneg (by omega), wrap_in ⟨by omega, by omega⟩]; omega
  have f2 : (i : Int).tmod 64 = ((i % 64 : Nat) : Int) := by rw [Int.tmod_eq_emod_of_nonneg (by omega)]; omega
  have f0 : decide ((i : Int) < 0) = false := by simp
  simp -implicitDefEqProofs only [W_skip, W_region, W_seq, W_cond, Thn_normal, wOps_nil, wOps_cons, val_0, val_g, valK_eq, onPut_some, onGuard_bool, onBool_bool, br_true, br_false, beq_false', call_0, callK_eq, ev_E, ev_c, set_E, getD_B, look_cons, lookB_cons, look_nil, lookB_nil, cond_true, cond_false, Nat.reduceBEq, Nat.reduceAdd, Nat.reduceSub, Nat.reduceLeDiff, if_true, if_false, Bool.false_eq_true, Bool.not_false, List.getElem?_cons_zero, List.length_cons, List.length_nil, List.drop_zero, List.take_succ_cons, List.take_zero, List.take_nil, List.map_cons, List.map_nil, AVal.eval, loadOf, cellsAt, boxOf, partOf, binOf, intOf, f0, h1]
  refine .inl (copied32 n (w.map fun (x : Nat) => (x : Int)) _ hn (by simpa using hw) _ fun id hid => ?_)
  simp -implicitDefEqProofs only [W_region, W_seq, Thn_normal, wOps_nil, wOps_cons, val_0, valK_eq, onPut_some, box_0, onCells_some, boxK_eq, st_0, stK_eq, onS_some, retK_some, ev_E, ev_c, set_E, set_B, getD_B, look_cons, lookB_cons, look_nil, lookB_nil, cond_true, cond_false, Nat.reduceBEq, Nat.reduceAdd, Nat.reduceSub, Nat.reduceLeDiff, if_true, if_false, storeOf, storeCells, over, List.append_nil, Bool.false_eq_true, true_and, and_self, List.getElem?_cons_zero, List.getElem?_cons_succ, List.length_cons, List.length_nil, List.drop_succ_cons, List.drop_zero, List.take_succ_cons, List.take_zero, List.take_nil, List.drop_nil, List.nil_append, AVal.eval, cellsOf_agg, loadOf, cellsAt, boxOf, partOf, binOf, intOf]
  intro g3
  obtain ⟨x, hx⟩ : ∃ x, w[i / 64]? = some x := ⟨_, List.getElem?_eq_getElem (by rw [hw]; omega)⟩
  have hlt : i / 64 < (n + 63) / 64 := by omega
  have hxb : x < 2 ^ 64 := hb x (List.mem_of_getElem? hx)
  have f3 := setOf_nat x hxb (i % 64) (by omega)
  rw [setOf] at f3
  have f4 : (((i / 64 : Nat) : Int) < (((n + 63) / 64 : Nat) : Int)) = True := by simp; omega
  simp -implicitDefEqProofs only [W_region, W_seq, W_ret, Thn_normal, wOps_nil, wOps_cons, val_0, valK_eq, onPut_some, st_0, stK_eq, onS_some, ev_E, ev_c, set_E, set_B, getD_B, look_cons, lookB_cons, look_nil, lookB_nil, cond_true, cond_false, Nat.reduceBEq, Nat.reduceAdd, Nat.reduceSub, Nat.reduceLeDiff, if_true, if_false, storeOf, storeCells, over, List.append_nil, Bool.false_eq_true, and_self, List.getElem?_cons_zero, List.length_cons, List.length_nil, List.drop_succ_cons, List.drop_zero, List.take_succ_cons, List.take_zero, List.take_nil, List.drop_nil, List.nil_append, AVal.eval, cellsOf_agg, cellsOf_int, nat_le, Int.toNat_natCast, List.getElem?_map, Option.map_some, loadOf, cellsAt, boxOf, partOf, binOf, intOf, f1, f2, upd_self, hx, show ((64 : Int) = 0) = False by simp, f4, Nat.zero_add, wordC, bitsOf, shl_u64 1 (i % 64) (by omega), show IntKind.u64.bits = 64 from rfl]
  refine postCF (v := .agg [.int .i64 n, .msl id 0 ((n + 63) / 64)]) (u := setV n ((w.set (i / 64) (x ||| 2 ^ (i % 64))).map fun (x : Nat) => (x : Int))) (h2 := Heap.none) (fun k => k = id) (by simp -implicitDefEqProofs only [ev_E, getD_B, look_cons, lookB_cons, look_nil, lookB_nil, cond_true, cond_false, Nat.reduceBEq, Nat.reduceAdd, Nat.reduceSub, Nat.reduceLeDiff, if_true, List.getElem?_cons_zero, List.length_cons, List.length_nil, List.drop_zero, List.take_succ_cons, List.take_nil, loadOf, cellsAt, boxOf, partOf]) ?_ (fun k b h => by cases h) (fun k _ => rfl) ?_
  · refine Frz.aggL (.cons (.same _) (.cons (Frz.whole rfl (Eq.trans (upd_self _ _ _) ?_) (by simp [hw])) .nil))
    rw [List.map_set, List.map_set]
    refine congrArg (fun z => some (Blk.arr 1 z)) (congrArg (List.set _ _) ?_)
    rw [wordC, ← f3.1]; rfl
  · refine ⟨_, rfl, by simpa using hw, fun y hy => ?_, fun k hk => ?_⟩
    · rcases List.mem_or_eq_of_mem_set hy with h | h
      · exact hb y h
      · rw [h]; exact f3.2
    · have hk2 := hS k hk
      by_cases e : i / 64 = k / 64
      · rw [← e, hx] at hk2
        simp only [Option.getD_some] at hk2
        rw [← e, List.getElem?_set_self (by omega)]
        simp only [Option.getD_some, Nat.testBit_or, hk2, Nat.testBit_two_pow]
        congr 1
        by_cases e2 : k = i
        · subst e2; simp
        · have : i % 64 ≠ k % 64 := by omega
          simp [this, e2]
      · rw [List.getElem?_set_ne e, hk2]
        have : k ≠ i := by intro h; subst h; exact e rfl
        simp [this]
end TryT
end Go.Abs
