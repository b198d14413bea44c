/-
  Contract: do two graphs go together, as the document says it?
-/
import Derived.Test.YtfgkfjmbjopfgaaGsC9
import Derived.Test.YtfgkfjmbjopfgaaGsL3
set_option linter.unusedVariables false
set_option linter.unusedSimpArgs false
set_option maxRecDepth 100000
set_option maxHeartbeats 4000000
namespace Go.Abs
open Go
def boolC (b : Bool) : List V := [.bool b]
/-- What a loop over pairs has. -/
structure GR where
  atp : Nat
  more : Bool
  bs : List Bool
  h : Heap
namespace TryT
theorem same9 (a b : List Ev) (ha : ShortG a) (hb : ShortG b) (hra : ∀ x ∈ a, x.s.body.length < 1000000 ∧ x.s.els.length < 1000000 ∧ x.s.arms.length < 1000000) (hrb : ∀ x ∈ b, x.s.body.length < 1000000 ∧ x.s.els.length < 1000000 ∧ x.s.arms.length < 1000000) :
    Ret prog 9 [evsV a, evsV b] Heap.none fun r _ => ∃ t : Bool, r = .bool t ∧ (t = true ↔ Goes a b) := by
  have hla := ha.len
  have hlb := hb.len
  refine Ret.by_text rfl rfl ?_
  simp -implicitDefEqProofs only [number, W_region, W_seq, Thn_normal, wOps_nil, wOps_cons, val_0, valK_eq, onPut_some, call_0, callK_eq, ev_E, ev_c, set_E, look_cons, look_nil, cond_true, cond_false, Nat.reduceBEq, Nat.reduceAdd, Nat.reduceSub, List.map_cons, List.map_nil, AVal.eval, a9]
  refine callOk_pure (right8 a (by omega) (fun x hx => ⟨by have := ha.next x hx; omega, hra x hx⟩)) ?_
  simp -implicitDefEqProofs only [wOps_cons, val_0, val_g, valK_eq, onPut_some, onGuard_bool, br_not, beq_false', retK_some, ev_E, set_E, look_cons, look_nil, cond_true, cond_false, Nat.reduceBEq, Nat.reduceAdd, Nat.reduceSub, AVal.eval, unOf]
  refine br_intro2 (fun h1 => ?_) (fun h1 => ?_)
  · simp -implicitDefEqProofs only [W_region, W_seq, W_cond, W_ret, Thn_normal, Thn_ret, wOps_nil, wOps_cons, val_0, val_g, valK_eq, onPut_some, onGuard_bool, onBool_bool, br_true, br_false, beq_false', skipK_some, call_g, ev_E, ev_c, set_E, look_cons, look_nil, cond_true, cond_false, Nat.reduceBEq, Nat.reduceAdd, Nat.reduceSub, if_true, Bool.not_true, Bool.not_false, AVal.eval, h1]
    refine post1 ?_
    simp -implicitDefEqProofs only [ev_E, look_cons, look_nil, cond_true, cond_false, Nat.reduceBEq, Nat.reduceAdd, Nat.reduceSub]
    exact ⟨false, rfl, by simp [Goes, h1]⟩
  simp -implicitDefEqProofs only [wOps_cons, valK_eq, onPut_some, onGuard_bool, br_true, beq_false', callK_eq, call_g, ev_E, set_E, look_cons, look_nil, cond_true, cond_false, Nat.reduceBEq, Nat.reduceAdd, Nat.reduceSub, Bool.not_true, Bool.not_false, List.map_cons, List.map_nil, AVal.eval, h1]
  refine callOk_pure (right8 b (by omega) (fun x hx => ⟨by have := hb.next x hx; omega, hrb x hx⟩)) ?_
  simp -implicitDefEqProofs only [W_cond, Thn_normal, wOps_nil, wOps_cons, val_0, val_g, valK_eq, onPut_some, onGuard_bool, onBool_bool, br_true, br_not, beq_false', retK_some, ev_E, ev_c, set_E, look_cons, look_nil, cond_true, cond_false, Nat.reduceBEq, Nat.reduceAdd, Nat.reduceSub, if_false, Bool.false_eq_true, Bool.not_false, AVal.eval, unOf]
  refine br_intro2 (fun h2 => ?_) (fun h2 => ?_)
  · simp -implicitDefEqProofs only [W_region, W_seq, W_ret, Thn_normal, Thn_ret, wOps_nil, wOps_cons, val_0, valK_eq, onPut_some, ev_c, set_E, Bool.not_false, AVal.eval, h2]
    refine post1 ?_
    simp -implicitDefEqProofs only [ev_E, look_cons, look_nil, cond_true, cond_false, Nat.reduceBEq, Nat.reduceAdd, Nat.reduceSub]
    exact ⟨false, rfl, by simp [Goes, h2]⟩
  have hL : a.length * b.length ≤ 16777216 := Nat.le_trans (Nat.mul_le_mul hla hlb) (by decide)
  have f1 : IntKind.i64.wrap ((a.length : Int) * (b.length : Int)) = ((a.length * b.length : Nat) : Int) := by
    rw [← Int.natCast_mul, wrap_in ⟨by omega, by omega⟩]
  have hpa := right_pos h1
  have hpb := right_pos h2
  have hpL : 0 < a.length * b.length := Nat.mul_pos hpa hpb
  simp -implicitDefEqProofs only [W_skip, W_region, W_seq, Thn_normal, wOps_nil, wOps_cons, val_0, valK_eq, onPut_some, onInts_int, mksK_eq, mks_0, ev_E, ev_c, set_E, look_cons, look_nil, cond_true, cond_false, Nat.reduceBEq, Nat.reduceAdd, Nat.reduceSub, if_true, Bool.not_true, true_and, AVal.eval, nat_le, Int.toNat_natCast, Int.reduceLE, Int.reduceToNat, List.length_map, binOf, intOf, h2, f1, evsV]
  refine ⟨by omega, by omega, by omega, fun id hid => ?_⟩
  have f2 : ((0 : Int) < ((a.length * b.length : Nat) : Int)) = True := eq_true (by omega)
  have f3 : (List.replicate (a.length * b.length) [V.bool false])[0]? = some [V.bool false] := by rw [List.getElem?_replicate, if_pos hpL]
  simp -implicitDefEqProofs only [W_region, W_seq, W_block, W_loop, keep_eq, Thn_normal, wOps_nil, wOps_cons, val_0, valK_eq, onPut_some, st_0, stK_eq, onS_some, ev_E, ev_c, set_E, look_cons, look_nil, lookB_nil, cond_true, cond_false, Nat.reduceBEq, Nat.reduceAdd, Nat.reduceSub, Nat.reduceLeDiff, if_true, storeOf, storeCells, over, List.append_nil, and_self, List.length_cons, List.length_nil, List.drop_succ_cons, List.take_zero, List.drop_nil, List.map_cons, List.map_nil, List.nil_append, AVal.eval, cellsOf_bool, f2, upd_self, f3, upd_upd]
  refine Loop.rec (α := Nat × List Bool × Heap) (fun k => a.length * b.length + 1 - k.1) (fun k => ⟨E 143 [(0, evsV a), (1, evsV b), (5, .msl id 0 (a.length * b.length)), (6, .int .i64 k.1)], B 143 [], k.2.2⟩)
    (fun k => Rnd a b k.2.1 k.1 false ∧ k.2.2 id = some (.arr 1 (k.2.1.map boolC))) ?_ (0, (List.replicate (a.length * b.length) false).set 0 true, Heap.none.upd id (some (.arr 1 ((List.replicate (a.length * b.length) [V.bool false]).set 0 [V.bool true]))))
    ⟨Rnd.begin h1 h2, (upd_self _ _ _).trans (by simp [boolC])⟩ rfl
  rintro ⟨turn, bs0, hp⟩ ⟨hR, hh⟩ hrec
  simp only [] at hR hh
  have hturn := hR.turns
  have hbl := hR.len
  simp -implicitDefEqProofs only [W_skip, W_region, W_seq, W_cond, W_block, W_loop, keep_eq, Thn_normal, wOps_nil, wOps_cons, val_0, valK_eq, onPut_some, onBool_bool, br_true, ev_E, ev_c, set_E, look_cons, look_nil, lookB_nil, cond_true, cond_false, Nat.reduceBEq, Nat.reduceAdd, Nat.reduceSub, if_true, List.map_cons, List.map_nil, AVal.eval, binOf, intOf, show decide ((turn : Int) ≤ ((a.length * b.length : Nat) : Int)) = true by simp; omega]
  refine Loop.rec (α := GR) (fun k => a.length * b.length - k.atp) (fun k => ⟨E 143 [(0, evsV a), (1, evsV b), (5, .msl id 0 (a.length * b.length)), (6, .int .i64 turn), (7, .bool k.more), (8, .int .i64 k.atp)], B 143 [], k.h⟩)
    (fun k => k.atp ≤ a.length * b.length ∧ Rnd a b k.bs turn k.more ∧ k.h id = some (.arr 1 (k.bs.map boolC)) ∧ (k.more = false → ∀ p, p < k.atp → Mt k.bs p → Fits a b (p / b.length) (p % b.length) ∧ Clo a b k.bs (p / b.length) (p % b.length))) ?_
    ⟨0, false, bs0, hp⟩ ⟨Nat.zero_le _, hR, hh, fun _ p h => by simp only [] at h; omega⟩ rfl
  clear hR hh
  rintro ⟨atp, more, bs, h⟩ ⟨hat, hR, hh, hcl⟩ hrec2
  simp only [] at hat hR hh hcl
  have hbl := hR.len
  simp -implicitDefEqProofs only [W_region, W_seq, W_cond, Thn_normal, wOps_nil, wOps_cons, val_0, valK_eq, onPut_some, onBool_bool, ev_E, set_E, look_cons, look_nil, cond_true, cond_false, Nat.reduceBEq, Nat.reduceAdd, Nat.reduceSub, if_true, AVal.eval, binOf, intOf]
  refine br_intro (fun h3 => ?_) (fun h3 => ?_)
  · have hlt : atp < a.length * b.length := Int.ofNat_lt.1 (of_decide_eq_true h3)
    have f4 : ((atp : Int) < ((a.length * b.length : Nat) : Int)) = True := eq_true (by omega)
    obtain ⟨v, hv⟩ : ∃ v, bs[atp]? = some v := ⟨_, List.getElem?_eq_getElem (by omega)⟩
    simp -implicitDefEqProofs only [W_skip, W_region, W_seq, W_cond, W_block, Thn_normal, wOps_nil, wOps_cons, val_0, valK_eq, onPut_some, onBool_bool, br_not, ev_E, set_E, look_cons, look_nil, cond_true, cond_false, Nat.reduceBEq, Nat.reduceAdd, Nat.reduceSub, Nat.reduceLeDiff, if_true, if_false, Bool.false_eq_true, and_self, List.getElem?_cons_zero, List.length_cons, List.length_nil, List.drop_zero, List.take_succ_cons, List.take_nil, AVal.eval, nat_le, dec_true, Int.toNat_natCast, List.getElem?_map, Option.map_some, loadOf, cellsAt, partOf, unOf, f4, hh, Nat.zero_add, hv, boolC, br_not]
    have hnext := fun (more2 : Bool) (bs2 : List Bool) (h' : Heap) (q1 : Rnd a b bs2 turn more2) (q2 : h' id = some (.arr 1 (bs2.map boolC))) (q3 : more2 = false → ∀ p, p < atp + 1 → Mt bs2 p → Fits a b (p / b.length) (p % b.length) ∧ Clo a b bs2 (p / b.length) (p % b.length)) => hrec2 ⟨atp + 1, more2, bs2, h'⟩ (by simp only []; omega) ⟨by simp only []; omega, q1, q2, q3⟩
    clear hrec2
    refine br_intro2 (fun h4 => ?_) (fun h4 => ?_)
    · subst h4
      simp -implicitDefEqProofs only [W_region, W_seq, W_cond, W_exit, W_ret, Again_normal, Again_exit, keep_eq, Thn_normal, Thn_exit, Bl_exit, wOps_nil, wOps_cons, val_0, valK_eq, onPut_some, onBool_bool, br_not, ev_E, ev_c, set_E, look_cons, look_nil, lookB_nil, cond_true, cond_false, Nat.reduceBEq, Nat.reduceAdd, Nat.reduceSub, if_true, Bool.not_false, List.map_cons, List.map_nil, AVal.eval, binOf, intOf, unOf, wrap_succ (show atp < 9223372036854775807 by omega)]
      refine hnext more bs h hR hh fun hm p hp hM => ?_
      rcases Nat.lt_succ_iff_lt_or_eq.1 hp with hp | hp
      · exact hcl hm p hp hM
      · subst hp; unfold Mt at hM; rw [hv] at hM; cases hM
    subst h4
    have hM : Mt bs atp := hv
    have hmeets := hR.sound atp hM
    have hia : atp / b.length < a.length := Nat.div_lt_of_lt_mul (by rw [Nat.mul_comm]; exact hlt)
    have hkb : atp % b.length < b.length := Nat.mod_lt _ hpb
    have f5 : IntKind.i64.wrap ((atp : Int).tdiv b.length) = ((atp / b.length : Nat) : Int) := by
      have : atp / b.length ≤ atp := Nat.div_le_self _ _
      rw [Int.tdiv_eq_ediv_of_nonneg (by omega), ← Int.natCast_ediv, wrap_nat (by omega)]
    have f6 : (atp : Int).tmod b.length = ((atp % b.length : Nat) : Int) := by rw [Int.tmod_eq_emod_of_nonneg (by omega), ← Int.natCast_emod]
    have f7 : ((b.length : Int) = 0) = False := eq_false (by omega)
    simp -implicitDefEqProofs only [W_skip, W_region, W_seq, Thn_normal, wOps_cons, val_0, valK_eq, onPut_some, call_0, callK_eq, ev_E, set_E, look_cons, look_nil, cond_true, cond_false, Nat.reduceBEq, Nat.reduceAdd, Nat.reduceSub, if_true, if_false, Bool.not_true, List.map_cons, List.map_nil, AVal.eval, List.length_map, binOf, intOf, evsV, f5, f7]
    refine callOk_of (behind15 a _ h1 ha.cheap hia) ?_
    rintro u ⟨r1, hr1, rfl⟩
    obtain ⟨J1, C1, e1, hJ1⟩ := behV_cases r1
    simp -implicitDefEqProofs only [W_region, W_seq, Thn_normal, wOps_nil, wOps_cons, val_0, valK_eq, onPut_some, call_0, callK_eq, retK_some, ev_E, set_E, look_cons, look_nil, cond_true, cond_false, Nat.reduceBEq, Nat.reduceAdd, Nat.reduceSub, if_true, if_false, List.getElem?_cons_zero, List.getElem?_cons_succ, List.map_cons, List.map_nil, AVal.eval, List.length_map, binOf, intOf, f6, f7, e1]
    refine callOk_of (behind15 b _ h2 hb.cheap hkb) ?_
    rintro u ⟨r2, hr2, rfl⟩
    obtain ⟨J2, C2, e2, hJ2⟩ := behV_cases r2
    simp -implicitDefEqProofs only [W_region, W_seq, Thn_normal, wOps_nil, wOps_cons, val_0, val_g, valK_eq, onPut_some, onGuard_bool, beq_true', retK_some, ev_E, ev_c, set_E, look_cons, look_nil, cond_true, cond_false, Nat.reduceBEq, Nat.reduceAdd, Nat.reduceSub, if_true, List.getElem?_cons_zero, List.getElem?_cons_succ, AVal.eval, binOf, intOf, e2]
    clear e1 e2
    rcases hJ1 with ⟨g1, g2, g3⟩ | ⟨j, n, g1, g2, g3⟩
    · rw [g1] at hr1
      have f8 : decide (J1 < 0) = true := by simp; omega
      rcases hJ2 with ⟨k1, k2, k3⟩ | ⟨m, o, k1, k2, k3⟩
      · rw [k1] at hr2
        have f9 : decide (J2 < 0) = true := by simp; omega
        simp -implicitDefEqProofs only [W_region, W_seq, W_cond, W_exit, W_ret, Again_normal, Again_exit, keep_eq, Thn_normal, Thn_exit, Bl_exit, wOps_nil, wOps_cons, val_0, val_g, valK_eq, onPut_some, onGuard_bool, onBool_bool, br_true, br_not, beq_true', ev_E, ev_c, set_E, look_cons, look_nil, lookB_nil, cond_true, cond_false, Nat.reduceBEq, Nat.reduceAdd, Nat.reduceSub, if_true, List.map_cons, List.map_nil, AVal.eval, binOf, intOf, unOf, f8, f9, wrap_succ (show atp < 9223372036854775807 by omega)]
        refine hnext more bs h hR hh fun hm p hp hMp => ?_
        rcases Nat.lt_succ_iff_lt_or_eq.1 hp with hp | hp
        · exact hcl hm p hp hMp
        · subst hp; exact ⟨.inl ⟨hr1, hr2⟩, fun j n m o x y c q1 => by have := hr1.unique q1; cases this⟩
      · rw [k1] at hr2
        have f9 : decide (J2 < 0) = false := by simp; omega
        simp -implicitDefEqProofs only [W_skip, W_region, W_seq, W_cond, W_ret, Again_ret, Thn_normal, Thn_ret, Bl_ret, wOps_nil, wOps_cons, val_0, val_g, valK_eq, onPut_some, onGuard_bool, onBool_bool, br_true, br_false, beq_true', beq_false', skipK_some, call_g, ev_E, ev_c, set_E, look_cons, look_nil, cond_true, cond_false, Nat.reduceBEq, Nat.reduceAdd, Nat.reduceSub, if_true, Bool.not_true, AVal.eval, binOf, intOf, f8, f9]
        refine post1 ?_
        simp -implicitDefEqProofs only [ev_E, look_cons, look_nil, cond_true, cond_false, Nat.reduceBEq, Nat.reduceAdd, Nat.reduceSub]
        refine ⟨false, rfl, ?_⟩
        simp only [Bool.false_eq_true, false_iff]
        exact fun hg => Fits.none_some hr1 hr2 (hg.2.2 _ _ hmeets)
    · rw [g1] at hr1
      have f8 : decide (J1 < 0) = false := by simp; omega
      rcases hJ2 with ⟨k1, k2, k3⟩ | ⟨m, o, k1, k2, k3⟩
      · rw [k1] at hr2
        have f9 : decide (J2 < 0) = true := by simp; omega
        simp -implicitDefEqProofs only [W_skip, W_region, W_seq, W_cond, W_ret, Again_ret, Thn_normal, Thn_ret, Bl_ret, wOps_nil, wOps_cons, val_0, val_g, valK_eq, onPut_some, onGuard_bool, onBool_bool, br_true, br_false, beq_true', beq_false', skipK_some, call_g, ev_E, ev_c, set_E, look_cons, look_nil, cond_true, cond_false, Nat.reduceBEq, Nat.reduceAdd, Nat.reduceSub, if_true, if_false, Bool.false_eq_true, Bool.not_true, Bool.not_false, AVal.eval, binOf, intOf, f8, f9]
        refine post1 ?_
        simp -implicitDefEqProofs only [ev_E, look_cons, look_nil, cond_true, cond_false, Nat.reduceBEq, Nat.reduceAdd, Nat.reduceSub]
        refine ⟨false, rfl, ?_⟩
        simp only [Bool.false_eq_true, false_iff]
        exact fun hg => Fits.some_none hr1 hr2 (hg.2.2 _ _ hmeets)
      · rw [k1] at hr2
        have f9 : decide (J2 < 0) = false := by simp; omega
        obtain ⟨x, hx, _⟩ := hr1.at_end
        obtain ⟨y, hy, _⟩ := hr2.at_end
        simp only [] at hx hy
        have rx := right_at h1 hx
        have ry := right_at h2 hy
        have hbad : C1 ≠ C2 ∨ x.s.one y.s = false → ∃ t : Bool, V.bool false = V.bool t ∧ (t = true ↔ Goes a b) := by
          intro hno
          refine ⟨false, rfl, ?_⟩
          simp only [Bool.false_eq_true, false_iff]
          intro hg
          obtain ⟨e1, e2⟩ := Fits.some_some hr1 hr2 hx hy (hg.2.2 _ _ hmeets)
          rcases hno with hno | hno
          · exact hno (by omega)
          · rw [e2] at hno; cases hno
        have gx : a[J1.toNat]? = some x := by rw [g2]; exact hx
        have gy : b[J2.toNat]? = some y := by rw [k2]; exact hy
        have g0 : (0 ≤ J1) = True := eq_true (by omega)
        have k0 : (0 ≤ J2) = True := eq_true (by omega)
        simp -implicitDefEqProofs only [W_skip, W_region, W_seq, W_cond, Thn_normal, wOps_nil, wOps_cons, val_0, val_g, valK_eq, onPut_some, onGuard_bool, onBool_bool, br_true, br_false, br_not, beq_true', beq_false', skipK_some, ev_E, ev_c, set_E, look_cons, look_nil, cond_true, cond_false, Nat.reduceBEq, Nat.reduceAdd, Nat.reduceSub, if_true, if_false, Bool.false_eq_true, Bool.not_false, AVal.eval, binOf, intOf, f8, f9]
        refine br_intro (fun h9 => ?_) (fun h9 => ?_)
        · simp -implicitDefEqProofs only [W_region, W_seq, W_cond, W_ret, Again_ret, Thn_normal, Thn_ret, Bl_ret, wOps_nil, wOps_cons, val_0, val_g, valK_eq, onPut_some, onGuard_bool, onBool_bool, br_true, br_false, beq_false', skipK_some, call_g, ev_E, ev_c, set_E, look_cons, look_nil, cond_true, cond_false, Nat.reduceBEq, Nat.reduceAdd, Nat.reduceSub, if_true, Bool.not_true, AVal.eval, h9]
          refine post1 ?_
          simp -implicitDefEqProofs only [ev_E, look_cons, look_nil, cond_true, cond_false, Nat.reduceBEq, Nat.reduceAdd, Nat.reduceSub]
          exact hbad (.inl (by simpa using h9))
        have e : C1 = C2 := by simpa using h9
        simp -implicitDefEqProofs only [wOps_cons, val_g, valK_eq, onPut_some, onGuard_bool, br_true, beq_false', callK_eq, call_g, ev_E, set_E, look_cons, look_nil, cond_true, cond_false, Nat.reduceBEq, Nat.reduceAdd, Nat.reduceSub, Nat.reduceLeDiff, if_true, Bool.not_false, and_self, List.getElem?_cons_zero, List.length_cons, List.length_nil, List.drop_zero, List.take_succ_cons, List.take_zero, List.map_cons, List.map_nil, AVal.eval, List.getElem?_map, Option.map_some, loadOf, cellsAt, partOf, h9, g0, k0, gx, gy, x.cells_cs, y.cells_cs, Ev.cs, St.fold]
        refine callOk_pure (one16 x.s y.s (St.bare_of rx) (St.bare_of ry) (ha.s x (List.mem_of_getElem? hx))) ?_
        simp -implicitDefEqProofs only [W_cond, Thn_normal, wOps_nil, wOps_cons, val_0, val_g, valK_eq, onPut_some, onGuard_bool, onBool_bool, br_true, br_not, beq_false', retK_some, ev_E, ev_c, set_E, look_cons, look_nil, cond_true, cond_false, Nat.reduceBEq, Nat.reduceAdd, Nat.reduceSub, if_false, Bool.false_eq_true, Bool.not_false, AVal.eval, unOf]
        refine br_intro2 (fun h10 => ?_) (fun h10 => ?_)
        · simp -implicitDefEqProofs only [W_region, W_seq, W_ret, Again_ret, Thn_normal, Thn_ret, Bl_ret, wOps_nil, wOps_cons, val_0, valK_eq, onPut_some, ev_c, set_E, Bool.not_false, AVal.eval, h10]
          refine post1 ?_
          simp -implicitDefEqProofs only [ev_E, look_cons, look_nil, cond_true, cond_false, Nat.reduceBEq, Nat.reduceAdd, Nat.reduceSub]
          exact hbad (.inr h10)
        simp -implicitDefEqProofs only [W_skip, W_region, W_seq, W_block, W_loop, keep_eq, Thn_normal, wOps_nil, wOps_cons, val_0, valK_eq, onPut_some, ev_c, set_E, look_cons, look_nil, lookB_nil, cond_true, cond_false, Nat.reduceBEq, Bool.not_true, List.map_cons, List.map_nil, AVal.eval, h10]
        have hnx := ha.next x (List.mem_of_getElem? hx)
        have hny := hb.next y (List.mem_of_getElem? hy)
        have hxl : x.cells.length = 20 := by rw [Ev.cells_cs]; rfl
        have hyl : y.cells.length = 20 := by rw [Ev.cells_cs]; rfl
        obtain ⟨M, hM2⟩ : ∃ M, M = max x.next.length y.next.length := ⟨_, rfl⟩
        refine Loop.rec (α := Nat × Bool × List Bool × Heap) (fun c => M - c.1) (fun c => ⟨E 143 [(0, evsV a), (1, evsV b), (5, .msl id 0 (a.length * b.length)), (6, .int .i64 turn), (7, .bool c.2.1), (8, .int .i64 atp), (9, .int .i64 J1), (11, .int .i64 J2), (13, .int .i64 c.1)], B 143 [], c.2.2.2⟩)
          (fun c => c.1 ≤ M ∧ Rnd a b c.2.2.1 turn c.2.1 ∧ c.2.2.2 id = some (.arr 1 (c.2.2.1.map boolC)) ∧ (c.2.1 = false → (∀ p, p < atp → Mt c.2.2.1 p → Fits a b (p / b.length) (p % b.length) ∧ Clo a b c.2.2.1 (p / b.length) (p % b.length)) ∧ ∀ c', c' < c.1 → Mt c.2.2.1 (x.nx c' * b.length + y.nx c'))) ?_
          (0, more, bs, h) ⟨Nat.zero_le _, hR, hh, fun hm => ⟨hcl hm, fun c' h => by simp only [] at h; omega⟩⟩ (by simp only [evsV]; rfl)
        clear hR hh hcl hbl hv hM
        rintro ⟨c, more, bs, h⟩ ⟨hc, hR, hh, hcl⟩ hrec3
        simp only [] at hc hR hh hcl
        simp -implicitDefEqProofs only [W_region, W_seq, wOps_cons, val_0, val_g, valK_eq, onPut_some, onGuard_bool, br_not, beq_false', ev_E, set_E, look_cons, look_nil, cond_true, cond_false, Nat.reduceBEq, Nat.reduceAdd, Nat.reduceSub, Nat.reduceLeDiff, if_true, if_false, Bool.false_eq_true, and_self, List.getElem?_cons_zero, List.getElem?_cons_succ, List.length_cons, List.length_nil, List.drop_succ_cons, List.drop_zero, List.take_succ_cons, List.take_nil, AVal.eval, List.getElem?_map, List.length_map, Option.map_some, loadOf, cellsAt, partOf, binOf, intOf, evsV, g0, gx, x.cells_cs, Ev.cs]
        refine br_intro (fun h11 => ?_) (fun h11 => ?_)
        · simp -implicitDefEqProofs only [W_skip, W_region, W_seq, W_cond, W_block, Thn_normal, wOps_nil, wOps_cons, val_0, val_g, valK_eq, onPut_some, onGuard_bool, onBool_bool, br_true, br_false, beq_false', skipK_some, ev_E, ev_c, set_E, look_cons, look_nil, cond_true, cond_false, Nat.reduceBEq, Nat.reduceAdd, Nat.reduceSub, if_true, Bool.not_true, and_true, AVal.eval, List.getElem?_map, h11]
          have hcM : c < M := by have : c < x.next.length := by simpa using h11
                                 omega
          obtain ⟨hxp, hyp⟩ : 0 < x.next.length ∧ 0 < y.next.length := by
            rcases Ev.both_next rx ry h10 with q | q <;> omega
          simp -implicitDefEqProofs only [wOps_cons, val_0, valK_eq, onPut_some, call_0, callK_eq, ev_E, set_E, look_cons, look_nil, cond_true, cond_false, Nat.reduceBEq, Nat.reduceAdd, Nat.reduceSub, if_true, List.map_cons, List.map_nil, AVal.eval, Option.map_some, loadOf, cellsAt, g0, gx, partAll hxl, partAll hyl]
          refine callOk_pure (label17 x a.length c rx hxp (by omega)) ?_
          simp -implicitDefEqProofs only [wOps_cons, val_0, valK_eq, onPut_some, call_0, callK_eq, retK_some, ev_E, set_E, look_cons, look_nil, cond_true, cond_false, Nat.reduceBEq, Nat.reduceAdd, Nat.reduceSub, if_true, and_self, List.map_cons, List.map_nil, AVal.eval, List.getElem?_map, List.length_map, Option.map_some, binOf, intOf, k0, gy, partAll hxl, partAll hyl]
          refine callOk_pure (label17 y b.length c ry hyp (by omega)) ?_
          obtain ⟨kx, _, ex, lx⟩ := Ev.nx_at rx (c := c) hxp
          obtain ⟨ky, _, ey, ly⟩ := Ev.nx_at ry (c := c) hyp
          have hq := pair_lt (B := b.length) (ex ▸ lx : x.nx c < a.length) (ey ▸ ly : y.nx c < b.length)
          have hq1 : x.nx c * b.length ≤ a.length * b.length := Nat.mul_le_mul_right _ (by omega)
          have u1 : IntKind.i64.wrap ((x.nx c : Int) * (b.length : Int)) = ((x.nx c * b.length : Nat) : Int) := by rw [← Int.natCast_mul, wrap_nat (by omega)]
          have u2 : IntKind.i64.wrap (((x.nx c * b.length : Nat) : Int) + (y.nx c : Int)) = ((x.nx c * b.length + y.nx c : Nat) : Int) := by rw [← Int.natCast_add, wrap_nat (by omega)]
          have u3 : (((x.nx c * b.length + y.nx c : Nat) : Int) < ((a.length * b.length : Nat) : Int)) = True := eq_true (by omega)
          have hbl := hR.len
          obtain ⟨w, hw⟩ : ∃ w, bs[x.nx c * b.length + y.nx c]? = some w := ⟨_, List.getElem?_eq_getElem (by omega)⟩
          simp -implicitDefEqProofs only [W_region, W_seq, W_cond, Thn_normal, wOps_nil, wOps_cons, val_0, valK_eq, onPut_some, onBool_bool, br_not, retK_some, ev_E, set_E, look_cons, look_nil, cond_true, cond_false, Nat.reduceBEq, Nat.reduceAdd, Nat.reduceSub, Nat.reduceLeDiff, if_true, if_false, Bool.false_eq_true, and_self, List.getElem?_cons_zero, List.length_cons, List.length_nil, List.drop_zero, List.take_succ_cons, List.take_nil, AVal.eval, nat_le, Int.toNat_natCast, List.getElem?_map, Option.map_some, loadOf, cellsAt, partOf, binOf, intOf, unOf, u1, u2, u3, hh, hw, boolC, Nat.zero_add]
          refine br_intro2 (fun h13 => ?_) (fun h13 => ?_)
          · rw [h13] at hw
            simp -implicitDefEqProofs only [W_region, W_seq, Again_normal, keep_eq, Thn_normal, Bl_normal, wOps_nil, wOps_cons, val_0, valK_eq, onPut_some, st_0, stK_eq, onS_some, ev_E, ev_c, set_E, look_cons, look_nil, lookB_nil, cond_true, cond_false, Nat.reduceBEq, Nat.reduceAdd, Nat.reduceSub, Nat.reduceLeDiff, if_true, storeOf, storeCells, over, List.append_nil, Bool.not_false, and_self, List.length_cons, List.length_nil, List.drop_succ_cons, List.take_zero, List.drop_nil, List.map_cons, List.map_nil, List.nil_append, AVal.eval, cellsOf_bool, nat_le, Int.toNat_natCast, List.getElem?_map, Option.map_some, binOf, intOf, h13, hh, hw, boolC, u3, Nat.zero_add, wrap_succ (show c < 9223372036854775807 by omega)]
            have hmt : Meets a b ((x.nx c * b.length + y.nx c) / b.length) ((x.nx c * b.length + y.nx c) % b.length) := by
              obtain ⟨e1, e2⟩ := pair_div (j := x.nx c) (m := y.nx c) (B := b.length) (by omega)
              rw [e1, e2]
              exact .next hmeets hr1 hr2 hx hy (by omega)
            exact hrec3 (c + 1, true, bs.set (x.nx c * b.length + y.nx c) true, h.upd id (some (.arr 1 ((bs.map boolC).set (x.nx c * b.length + y.nx c) [.bool true])))) (by simp only []; omega) ⟨by simp only []; omega, hR.set hw hmt, by simp only []; rw [upd_self, List.map_set]; rfl, fun h => by cases h⟩
          · rw [h13] at hw
            simp -implicitDefEqProofs only [W_skip, W_region, Again_normal, keep_eq, Thn_normal, Bl_normal, wOps_nil, wOps_cons, val_0, valK_eq, onPut_some, ev_E, ev_c, set_E, look_cons, look_nil, lookB_nil, cond_true, cond_false, Nat.reduceBEq, Nat.reduceAdd, Nat.reduceSub, if_true, Bool.not_true, List.map_cons, List.map_nil, AVal.eval, binOf, intOf, h13, wrap_succ (show c < 9223372036854775807 by omega)]
            refine hrec3 (c + 1, more, bs, h) (by simp only []; omega) ⟨by simp only []; omega, hR, hh, fun hm => ⟨(hcl hm).1, fun c' hc' => ?_⟩⟩
            rcases Nat.lt_succ_iff_lt_or_eq.1 hc' with h' | h'
            · exact (hcl hm).2 c' h'
            · subst h'; exact hw
        · simp -implicitDefEqProofs only [W_cond, Thn_normal, wOps_nil, wOps_cons, val_0, val_g, valK_eq, onPut_some, onGuard_bool, onBool_bool, br_true, beq_false', ev_E, ev_c, set_E, look_cons, look_nil, cond_true, cond_false, Nat.reduceBEq, Nat.reduceAdd, Nat.reduceSub, Nat.reduceLeDiff, if_true, if_false, Bool.false_eq_true, Bool.not_false, and_self, List.getElem?_cons_zero, List.getElem?_cons_succ, List.length_cons, List.length_nil, List.drop_succ_cons, List.drop_zero, List.take_succ_cons, List.take_nil, AVal.eval, List.getElem?_map, List.length_map, Option.map_some, loadOf, cellsAt, partOf, binOf, intOf, h11, k0, gy, y.cells_cs, Ev.cs]
          refine br_intro (fun h12 => ?_) (fun h12 => ?_)
          · have hcM : c < M := by have : c < y.next.length := by simpa using h12
                                   omega
            simp -implicitDefEqProofs only [W_skip, W_region, W_seq, W_block, Thn_normal, wOps_cons, val_0, valK_eq, onPut_some, ev_E, set_E, look_cons, look_nil, cond_true, cond_false, Nat.reduceBEq, Nat.reduceAdd, Nat.reduceSub, and_true, AVal.eval, List.getElem?_map, h12]
            obtain ⟨hxp, hyp⟩ : 0 < x.next.length ∧ 0 < y.next.length := by
              rcases Ev.both_next rx ry h10 with q | q <;> omega
            simp -implicitDefEqProofs only [wOps_cons, val_0, valK_eq, onPut_some, call_0, callK_eq, ev_E, set_E, look_cons, look_nil, cond_true, cond_false, Nat.reduceBEq, Nat.reduceAdd, Nat.reduceSub, if_true, List.map_cons, List.map_nil, AVal.eval, Option.map_some, loadOf, cellsAt, g0, gx, partAll hxl, partAll hyl]
            refine callOk_pure (label17 x a.length c rx hxp (by omega)) ?_
            simp -implicitDefEqProofs only [wOps_cons, val_0, valK_eq, onPut_some, call_0, callK_eq, retK_some, ev_E, set_E, look_cons, look_nil, cond_true, cond_false, Nat.reduceBEq, Nat.reduceAdd, Nat.reduceSub, if_true, and_self, List.map_cons, List.map_nil, AVal.eval, List.getElem?_map, List.length_map, Option.map_some, binOf, intOf, k0, gy, partAll hxl, partAll hyl]
            refine callOk_pure (label17 y b.length c ry hyp (by omega)) ?_
            obtain ⟨kx, _, ex, lx⟩ := Ev.nx_at rx (c := c) hxp
            obtain ⟨ky, _, ey, ly⟩ := Ev.nx_at ry (c := c) hyp
            have hq := pair_lt (B := b.length) (ex ▸ lx : x.nx c < a.length) (ey ▸ ly : y.nx c < b.length)
            have hq1 : x.nx c * b.length ≤ a.length * b.length := Nat.mul_le_mul_right _ (by omega)
            have u1 : IntKind.i64.wrap ((x.nx c : Int) * (b.length : Int)) = ((x.nx c * b.length : Nat) : Int) := by rw [← Int.natCast_mul, wrap_nat (by omega)]
            have u2 : IntKind.i64.wrap (((x.nx c * b.length : Nat) : Int) + (y.nx c : Int)) = ((x.nx c * b.length + y.nx c : Nat) : Int) := by rw [← Int.natCast_add, wrap_nat (by omega)]
            have u3 : (((x.nx c * b.length + y.nx c : Nat) : Int) < ((a.length * b.length : Nat) : Int)) = True := eq_true (by omega)
            have hbl := hR.len
            obtain ⟨w, hw⟩ : ∃ w, bs[x.nx c * b.length + y.nx c]? = some w := ⟨_, List.getElem?_eq_getElem (by omega)⟩
            simp -implicitDefEqProofs only [W_region, W_seq, W_cond, Thn_normal, wOps_nil, wOps_cons, val_0, valK_eq, onPut_some, onBool_bool, br_not, retK_some, ev_E, set_E, look_cons, look_nil, cond_true, cond_false, Nat.reduceBEq, Nat.reduceAdd, Nat.reduceSub, Nat.reduceLeDiff, if_true, if_false, Bool.false_eq_true, and_self, List.getElem?_cons_zero, List.length_cons, List.length_nil, List.drop_zero, List.take_succ_cons, List.take_nil, AVal.eval, nat_le, Int.toNat_natCast, List.getElem?_map, Option.map_some, loadOf, cellsAt, partOf, binOf, intOf, unOf, u1, u2, u3, hh, hw, boolC, Nat.zero_add]
            refine br_intro2 (fun h13 => ?_) (fun h13 => ?_)
            · rw [h13] at hw
              simp -implicitDefEqProofs only [W_region, W_seq, Again_normal, keep_eq, Thn_normal, Bl_normal, wOps_nil, wOps_cons, val_0, valK_eq, onPut_some, st_0, stK_eq, onS_some, ev_E, ev_c, set_E, look_cons, look_nil, lookB_nil, cond_true, cond_false, Nat.reduceBEq, Nat.reduceAdd, Nat.reduceSub, Nat.reduceLeDiff, if_true, storeOf, storeCells, over, List.append_nil, Bool.not_false, and_self, List.length_cons, List.length_nil, List.drop_succ_cons, List.take_zero, List.drop_nil, List.map_cons, List.map_nil, List.nil_append, AVal.eval, cellsOf_bool, nat_le, Int.toNat_natCast, List.getElem?_map, Option.map_some, binOf, intOf, h13, hh, hw, boolC, u3, Nat.zero_add, wrap_succ (show c < 9223372036854775807 by omega)]
              have hmt : Meets a b ((x.nx c * b.length + y.nx c) / b.length) ((x.nx c * b.length + y.nx c) % b.length) := by
                obtain ⟨e1, e2⟩ := pair_div (j := x.nx c) (m := y.nx c) (B := b.length) (by omega)
                rw [e1, e2]
                exact .next hmeets hr1 hr2 hx hy (by omega)
              exact hrec3 (c + 1, true, bs.set (x.nx c * b.length + y.nx c) true, h.upd id (some (.arr 1 ((bs.map boolC).set (x.nx c * b.length + y.nx c) [.bool true])))) (by simp only []; omega) ⟨by simp only []; omega, hR.set hw hmt, by simp only []; rw [upd_self, List.map_set]; rfl, fun h => by cases h⟩
            · rw [h13] at hw
              simp -implicitDefEqProofs only [W_skip, W_region, Again_normal, keep_eq, Thn_normal, Bl_normal, wOps_nil, wOps_cons, val_0, valK_eq, onPut_some, ev_E, ev_c, set_E, look_cons, look_nil, lookB_nil, cond_true, cond_false, Nat.reduceBEq, Nat.reduceAdd, Nat.reduceSub, if_true, Bool.not_true, List.map_cons, List.map_nil, AVal.eval, binOf, intOf, h13, wrap_succ (show c < 9223372036854775807 by omega)]
              refine hrec3 (c + 1, more, bs, h) (by simp only []; omega) ⟨by simp only []; omega, hR, hh, fun hm => ⟨(hcl hm).1, fun c' hc' => ?_⟩⟩
              rcases Nat.lt_succ_iff_lt_or_eq.1 hc' with h' | h'
              · exact (hcl hm).2 c' h'
              · subst h'; exact hw
          · simp -implicitDefEqProofs only [W_region, W_seq, W_cond, W_exit, W_ret, Again_normal, Again_exit, keep_eq, Thn_normal, Thn_exit, Bl_normal, Bl_exit, wOps_nil, wOps_cons, val_0, valK_eq, onPut_some, onBool_bool, br_not, ev_E, ev_c, set_E, look_cons, look_nil, lookB_nil, cond_true, cond_false, Nat.reduceBEq, Nat.reduceAdd, Nat.reduceSub, if_true, List.map_cons, List.map_nil, AVal.eval, binOf, intOf, unOf, h12, wrap_succ (show atp < 9223372036854775807 by omega)]
            refine hnext more bs h hR hh fun hm p hp hMp => ?_
            rcases Nat.lt_succ_iff_lt_or_eq.1 hp with hp | hp
            · exact (hcl hm).1 p hp hMp
            · subst hp
              refine ⟨.inr ⟨j, m, n, x, y, hr1, by rw [show n = o by omega]; exact hr2, hx, hy, h10⟩, fun j' n' m' o' x' y' c' p1 p2 p3 p4 p5 => ?_⟩
              have e1 := hr1.unique p1; injection e1 with e1; injection e1 with e1 _; subst e1
              have e2 := hr2.unique p2; injection e2 with e2; injection e2 with e2 _; subst e2
              rw [hx] at p3; injection p3 with p3; subst p3
              rw [hy] at p4; injection p4 with p4; subst p4
              exact (hcl hm).2 c' (by simp at h11 h12; omega)
  · simp -implicitDefEqProofs only [W_region, W_seq, W_cond, W_exit, W_ret, Again_normal, Again_exit, keep_eq, Thn_normal, Thn_exit, Bl_exit, wOps_nil, wOps_cons, val_0, valK_eq, onPut_some, onBool_bool, br_not, ev_E, ev_c, set_E, look_cons, look_nil, lookB_nil, cond_true, cond_false, Nat.reduceBEq, Nat.reduceAdd, Nat.reduceSub, if_true, List.map_cons, List.map_nil, AVal.eval, binOf, intOf, unOf, h3]
    have hge : a.length * b.length ≤ atp := by have := of_decide_eq_false h3; omega
    refine br_intro2 (fun h4 => ?_) (fun h4 => ?_)
    · subst h4
      simp -implicitDefEqProofs only [W_region, W_seq, W_ret, Again_ret, Thn_normal, Thn_ret, Bl_ret, wOps_nil, wOps_cons, val_0, valK_eq, onPut_some, ev_c, set_E, Bool.not_false, AVal.eval]
      refine post1 ?_
      simp -implicitDefEqProofs only [ev_E, look_cons, look_nil, cond_true, cond_false, Nat.reduceBEq, Nat.reduceAdd, Nat.reduceSub]
      refine ⟨true, rfl, ?_⟩
      simp only [true_iff]
      exact hR.goes h1 h2 fun p hp hM => hcl rfl p (by omega) hM
    · subst h4
      simp -implicitDefEqProofs only [W_skip, W_region, Again_normal, keep_eq, Thn_normal, Bl_normal, wOps_nil, wOps_cons, val_0, valK_eq, onPut_some, ev_E, ev_c, set_E, look_cons, look_nil, lookB_nil, cond_true, cond_false, Nat.reduceBEq, Nat.reduceAdd, Nat.reduceSub, if_true, Bool.not_true, List.map_cons, List.map_nil, AVal.eval, binOf, intOf, wrap_succ (show turn < 9223372036854775807 by omega)]
      exact hrec (turn + 1, bs, h) (by simp only []; omega) ⟨⟨hR.len, hR.start, hR.sound, by have := hR.cnt; simp only [Bool.toNat_true, Bool.toNat_false] at this ⊢; omega⟩, hh⟩
end TryT
end Go.Abs
