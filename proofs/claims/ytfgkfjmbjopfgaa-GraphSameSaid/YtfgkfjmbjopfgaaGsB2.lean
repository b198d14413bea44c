/-
  Contracts: a builder of a graph: a list of statements; a plain one.
-/
import Derived.Test.YtfgkfjmbjopfgaaGsB1
import Derived.Test.YtfgkfjmbjopfgaaGsC3
set_option linter.unusedVariables false
set_option linter.unusedSimpArgs false
set_option maxRecDepth 100000
set_option maxHeartbeats 4000000
namespace Go.Abs
open Go
def placeV (b e n : Int) : V := .agg [.int .i64 b, .int .i64 e, .int .i64 n]
/-- Behind a call of the builder. -/
def Built (h : Heap) (idb : Nat) (own : Nat → Prop) (evs : List Ev) (h2 : Heap) : Prop := ∃ ida ids els, Bd h2 idb ida ids els evs ∧ Kept h h2 own ∧ ∀ j, Own idb ida ids evs j → own j ∨ h j = none
theorem Built.trans {h h1 h2 : Heap} {idb ida1 : Nat} {ids1 : List (Option Nat)} {own : Nat → Prop} {evs1 evs2 : List Ev} (hk : Kept h h1 own) (ho : ∀ j, Own idb ida1 ids1 evs1 j → own j ∨ h j = none)
    (h12 : Built h1 idb (Own idb ida1 ids1 evs1) evs2 h2) : Built h idb own evs2 h2 := by
  obtain ⟨ida, ids, els, q1, q2, q3⟩ := h12
  refine ⟨ida, ids, els, q1, fun j b hj hn => q2 j b (hk j b hj hn) (fun hh => ?_), fun j hj => ?_⟩
  · rcases ho j hh with hh | hh
    · exact hn hh
    · rw [hj] at hh; cases hh
  · rcases q3 j hj with hh | hh
    · exact ho j hh
    · by_cases e : own j
      · exact .inl e
      · refine .inr ?_
        cases e2 : h j with
        | none => rfl
        | some b => rw [hk j b e2 e] at hh; cases hh
theorem Built.alloc {h h2 : Heap} {idb j : Nat} {own : Nat → Prop} {evs : List Ev} {b : Option Blk} (hj : h j = none) (hb : Built (h.upd j b) idb own evs h2) : Built h idb own evs h2 := by
  obtain ⟨ida, ids, els, q1, q2, q3⟩ := hb
  refine ⟨ida, ids, els, q1, fun k c hk hn => q2 k c (by rw [upd_other _ _ (ne_of_some hk hj)]; exact hk) hn, fun k hk => ?_⟩
  rcases q3 k hk with h | h
  · exact .inl h
  · refine .inr ?_
    by_cases e : k = j
    · subst e; exact hj
    · rwa [upd_other _ _ e] at h
theorem Built.push {h h2 : Heap} {idb ida ida2 idn : Nat} {ids : List (Option Nat)} {els : List (List V)} {evs evs2 : List Ev} {b : Option Blk} (hj : h idn = none) (q1 : (h.upd idn b) ida2 = none ) (q2 : Bd h2 idb ida2 (ids ++ [some idn]) els evs2)
    (q3 : Kept (h.upd idn b) h2 (Own idb ida ids evs)) : Built h idb (Own idb ida ids evs) evs2 h2 := by
  refine ⟨ida2, _, _, q2, fun k c hk hn => q3 k c (by rw [upd_other _ _ (ne_of_some hk hj)]; exact hk) hn, fun j hj2 => ?_⟩
  rcases hj2 with rfl | ⟨rfl, _⟩ | hm
  · exact .inl (.inl rfl)
  · refine .inr ?_
    by_cases e : j = idn
    · subst e; exact hj
    · rwa [upd_other _ _ e] at q1
  · rcases List.mem_append.1 hm with hm | hm
    · exact .inl (.inr (.inr hm))
    · simp at hm; subst hm; exact .inr hj
/-- A next place is written. -/
theorem Bd.store {h : Heap} {idb ida : Nat} {ids : List (Option Nat)} {els : List (List V)} {evs : List Ev} (hb : Bd h idb ida ids els evs) {k c : Nat} {x : Ev} (hx : evs[k]? = some x) (hc : c < x.next.length) (v : Int) :
    ∃ i cs c19, ids[k]? = some (some i) ∧ els[k]? = some cs ∧ cs = c19 ++ [.msl i 0 x.next.length] ∧ NzL c19 x.s.cells ∧ h i = some (.arr 1 (x.next.map intC)) ∧ Own idb ida ids evs i ∧ i ≠ idb ∧ i ≠ ida ∧
      Bd (h.upd i (some (.arr 1 ((x.next.map intC).set c (intC v))))) idb ida ids els (evs.set k ⟨x.s, x.next.set c v⟩) := by
  obtain ⟨hk, hke⟩ := List.getElem?_eq_some_iff.1 hx
  have hlen := hb.len
  have hell := hb.ell
  obtain ⟨o, ho⟩ : ∃ o, ids[k]? = some o := ⟨_, List.getElem?_eq_getElem (by omega)⟩
  obtain ⟨cs, hcs⟩ : ∃ o, els[k]? = some o := ⟨_, List.getElem?_eq_getElem (by omega)⟩
  cases o with
  | none => rw [hb.bare k x hx ho] at hc; simp at hc
  | some i =>
    obtain ⟨c19, e1, e2⟩ := hb.ev k x (some i) cs hx ho hcs
    have hmem : some i ∈ ids := List.mem_of_getElem? ho
    have nb : i ≠ idb := fun e => hb.neb (by rw [← e]; exact hmem)
    have na : i ≠ ida := fun e => hb.nea (by rw [← e]; exact hmem)
    refine ⟨i, cs, c19, ho, hcs, e1, e2, hb.next k x i hx ho, .inr (.inr hmem), nb, na, ?_⟩
    have hget : ∀ (m : Nat) (y : Ev), (evs.set k ⟨x.s, x.next.set c v⟩)[m]? = some y → (m = k ∧ y = ⟨x.s, x.next.set c v⟩) ∨ (m ≠ k ∧ evs[m]? = some y) := by
      intro m y hy
      rw [List.getElem?_set] at hy
      split at hy
      · rename_i e; subst e; simp only [Option.some.injEq] at hy; exact .inl ⟨rfl, hy.symm⟩
      · rename_i e; exact .inr ⟨fun h => e h.symm, hy⟩
    refine ⟨by rw [List.length_set]; exact hlen, ?_, fun hp => ?_, by rw [List.length_set]; exact hell, fun m y o ds q1 q2 q3 => ?_, fun m y j q1 q2 => ?_, fun m y q1 q2 => ?_, hb.ne, hb.neb, hb.nea, hb.one⟩
    · rw [upd_other _ _ (Ne.symm nb), List.length_set]; exact hb.box
    · rw [upd_other _ _ (Ne.symm na)]; exact hb.arr (by simpa using hp)
    · rcases hget m y q1 with ⟨rfl, rfl⟩ | ⟨_, q4⟩
      · rw [ho] at q2; injection q2 with q2; subst q2
        rw [hcs] at q3; injection q3 with q3; subst q3
        exact ⟨c19, by rw [e1]; simp [nextV], e2⟩
      · exact hb.ev m y o ds q4 q2 q3
    · rcases hget m y q1 with ⟨rfl, rfl⟩ | ⟨q3, q4⟩
      · rw [ho] at q2; injection q2 with q2; injection q2 with q2; subst q2
        rw [upd_self, List.map_set]
      · rw [upd_other _ _ (fun e => q3 (hb.one m k j q2 (by rw [e]; exact ho)))]
        exact hb.next m y j q4 q2
    · rcases hget m y q1 with ⟨rfl, rfl⟩ | ⟨q3, q4⟩
      · rw [ho] at q2; cases q2
      · exact hb.bare m y q4 q2
/-- What is built, frozen. -/
theorem Bd.frz {h : Heap} {idb ida : Nat} {ids : List (Option Nat)} {els : List (List V)} {evs : List Ev} (hb : Bd h idb ida ids els evs) : Frz h (fun _ => True) (slV ida evs.length) (evsV evs) := by
  unfold slV
  split
  · rename_i h0
    rw [List.eq_nil_of_length_eq_zero h0]
    exact .nsl 20
  · rename_i h0
    have hell := hb.ell
    have hlen := hb.len
    have key : ∀ (i : Nat) (x y : List V), els[0 + i]? = some x → (evs.map Ev.cells)[i]? = some y → ∃ e o c19, evs[i]? = some e ∧ ids[i]? = some o ∧ x = c19 ++ [nextV e o] ∧ NzL c19 e.s.cells ∧ y = e.cells := by
      intro i x y h1 h2
      rw [Nat.zero_add] at h1
      rw [List.getElem?_map, Option.map_eq_some_iff] at h2
      obtain ⟨e, he, rfl⟩ := h2
      obtain ⟨o, ho⟩ : ∃ o, ids[i]? = some o := ⟨_, List.getElem?_eq_getElem (by have := (List.getElem?_eq_some_iff.1 he).1; omega)⟩
      obtain ⟨c19, q1, q2⟩ := hb.ev i e o x he ho h1
      exact ⟨e, o, c19, he, ho, q1, q2, rfl⟩
    refine .msl ida 0 evs.length 20 els (evs.map Ev.cells) trivial (hb.arr (by omega)) (by omega) (by simp) (fun i x y h1 h2 => ?_) (fun i x y j a b h1 h2 h3 h4 => ?_)
    · obtain ⟨e, o, c19, _, _, rfl, q, rfl⟩ := key i x y h1 h2
      rw [Ev.cells, List.length_append, List.length_append, q.1]; rfl
    · obtain ⟨e, o, c19, he, ho, rfl, q, rfl⟩ := key i x y h1 h2
      rw [Ev.cells] at h4
      have hl := q.1
      by_cases hj : j < c19.length
      · rw [List.getElem?_append_left hj] at h3
        rw [List.getElem?_append_left (by omega)] at h4
        exact (q.2 j a b h3 h4).frz
      · rw [List.getElem?_append_right (by omega)] at h3 h4
        have hj2 : j - c19.length = 0 := by have := (List.getElem?_eq_some_iff.1 h3).1; simp at this; omega
        rw [hj2] at h3
        rw [← hl, hj2] at h4
        simp at h3 h4
        subst h3; subst h4
        cases o with
        | none => rw [hb.bare i e he ho]; exact .nsl 1
        | some i2 => exact Frz.whole trivial (hb.next i e i2 he ho) (by simp)
abbrev OneF := St → List Ev → Int → List Ev × Int
def gFold (f : OneF) (l : List St) (evs : List Ev) (b : Int) : List Ev × Int := l.foldr (fun x r => f x r.1 r.2) (evs, b)
theorem gFold_nil (f : OneF) (evs : List Ev) (b : Int) : gFold f [] evs b = (evs, b) := rfl
theorem gFold_at {f : OneF} {l : List St} {k : Nat} {x : St} (hx : l[k]? = some x) (evs : List Ev) (b : Int) : gFold f (l.drop k) evs b = f x (gFold f (l.drop (k + 1)) evs b).1 (gFold f (l.drop (k + 1)) evs b).2 := by
  obtain ⟨a, e⟩ := List.getElem?_eq_some_iff.1 hx
  rw [List.drop_eq_getElem_cons a, e]; rfl
theorem gFold_len {f : OneF} (hf : ∀ x evs b, (f x evs b).1.length ≤ evs.length + x.cnt) (l : List St) (evs : List Ev) (b : Int) : (gFold f l evs b).1.length ≤ evs.length + cntL l := by
  induction l with
  | nil => simp [gFold, cntL]
  | cons x l ih => show (f x (gFold f l evs b).1 (gFold f l evs b).2).1.length ≤ _; have := hf x (gFold f l evs b).1 (gFold f l evs b).2; rw [cntL]; omega
theorem cntL_take (l : List St) : ∀ k : Nat, cntL (l.drop k) ≤ cntL l := by
  induction l with
  | nil => intro k; simp
  | cons x l ih => intro k; cases k with
    | zero => simp
    | succ k => have := ih k; simp [cntL]; omega
theorem cntL_len (l : List St) : l.length ≤ cntL l := by
  induction l with
  | nil => simp
  | cons x l ih => have := x.cnt_eq; simp [cntL]; omega
namespace TryT
/-- 'one' does of a statement what 'f' says. -/
def OneOk (f : OneF) (e n : Int) (x : St) : Prop := ∀ (b : Int) (h : Heap) (idb ida : Nat) (ids : List (Option Nat)) (els : List (List V)) (evs : List Ev), Bd h idb ida ids els evs → evs.length + x.cnt < 1000000 → ∀ R : V → Heap → Prop,
  (∀ h2, Built h idb (Own idb ida ids evs) (f x evs b).1 h2 → R (.int .i64 (f x evs b).2) h2) → Ret prog 31 [.ep idb 0 0, x.v, placeV b e n] h R
theorem list20 (f : OneF) (hf : ∀ x evs b, (f x evs b).1.length ≤ evs.length + x.cnt) (e n : Int) (l : List St) (hone : ∀ x ∈ l, OneOk f e n x) (b : Int) (h : Heap) (idb ida : Nat) (ids : List (Option Nat)) (els : List (List V)) (evs : List Ev)
    (hb : Bd h idb ida ids els evs) (hl : evs.length + cntL l < 1000000) (R : V → Heap → Prop) (hR : ∀ h2, Built h idb (Own idb ida ids evs) (gFold f l evs b).1 h2 → R (.int .i64 (gFold f l evs b).2) h2) :
    Ret prog 20 [.ep idb 0 0, stsV l, placeV b e n] h R := by
  have hcl := cntL_len l
  refine Ret.by_text rfl rfl ?_
  simp -implicitDefEqProofs only [number, W_region, W_seq, Thn_normal, wOps_nil, wOps_cons, val_0, valK_eq, onPut_some, box_0, onCells_some, boxK_eq, ev_E, ev_c, set_E, set_B, getD_B, look_cons, look_nil, lookB_nil, cond_true, cond_false, Nat.reduceBEq, Nat.reduceAdd, Nat.reduceSub, true_and, List.length_cons, List.length_nil, AVal.eval, cellsOf_agg, a20, placeV]
  intro g
  simp -implicitDefEqProofs only [W_block, W_loop, keep_eq, Thn_normal, wOps_nil, wOps_cons, val_0, valK_eq, onPut_some, ev_E, ev_c, set_E, look_cons, lookB_cons, look_nil, lookB_nil, cond_true, cond_false, Nat.reduceBEq, Nat.reduceAdd, Nat.reduceSub, if_true, List.map_cons, List.map_nil, AVal.eval, List.length_map, binOf, intOf, stsV, wrap_in (show -9223372036854775808 ≤ (l.length : Int) - 1 ∧ (l.length : Int) - 1 ≤ 9223372036854775807 by omega)]
  refine Loop.rec (α := Nat × Heap) (fun k => k.1) (fun k => ⟨E 25 [(0, .ep idb 0 0), (1, stsV l), (5, .lp 5 g 0), (7, .int .i64 ((k.1 : Int) - 1))], B 25 [(5, some (g, [.int .i64 (gFold f (l.drop k.1) evs b).2, .int .i64 e, .int .i64 n]))], k.2⟩)
    (fun k => k.1 ≤ l.length ∧ Built h idb (Own idb ida ids evs) (gFold f (l.drop k.1) evs b).1 k.2) ?_ (l.length, h) ⟨Nat.le_refl _, by
      rw [List.drop_eq_nil_of_le (Nat.le_refl _)]
      exact ⟨ida, ids, els, hb, fun j b hj _ => hj, fun j hj => .inl hj⟩⟩ (by rw [List.drop_eq_nil_of_le (Nat.le_refl _)]; rfl)
  rintro ⟨k, h1⟩ ⟨hk, hbu⟩ hrec
  simp only [] at hk hbu
  simp -implicitDefEqProofs only [W_region, W_seq, W_cond, Thn_normal, wOps_nil, wOps_cons, val_0, valK_eq, onPut_some, onBool_bool, ev_E, ev_c, set_E, look_cons, look_nil, cond_true, cond_false, Nat.reduceBEq, Nat.reduceAdd, Nat.reduceSub, if_true, AVal.eval, binOf, intOf]
  cases k with
  | zero =>
    simp -implicitDefEqProofs only [W_region, W_seq, W_exit, W_ret, Again_exit, Thn_normal, Thn_exit, Bl_exit, wOps_nil, wOps_cons, val_0, valK_eq, onPut_some, br_false, ev_E, set_E, getD_B, look_cons, lookB_cons, look_nil, lookB_nil, cond_true, cond_false, Nat.reduceBEq, Nat.reduceAdd, Nat.reduceSub, Nat.reduceLeDiff, if_true, if_false, Bool.false_eq_true, List.getElem?_cons_zero, List.length_cons, List.length_nil, List.drop_zero, List.take_succ_cons, List.take_zero, AVal.eval, loadOf, cellsAt, boxOf, partOf, show decide ((((0 : Nat) : Int) - 1) ≥ 0) = false from rfl]
    refine post1 ?_
    simp -implicitDefEqProofs only [ev_E, look_cons, look_nil, cond_true, cond_false, Nat.reduceBEq, Nat.reduceAdd, Nat.reduceSub]
    rw [List.drop_zero] at hbu
    exact hR h1 hbu
  | succ k =>
    obtain ⟨x, hx⟩ : ∃ x, l[k]? = some x := ⟨_, List.getElem?_eq_getElem (by omega)⟩
    have e1 : (((k + 1 : Nat) : Int) - 1) = (k : Int) := by omega
    have e2 : decide ((k : Int) ≥ 0) = true := by simp
    simp -implicitDefEqProofs only [W_skip, W_region, W_seq, W_block, Thn_normal, wOps_cons, val_0, valK_eq, onPut_some, br_true, call_0, callK_eq, ev_E, set_E, getD_B, look_cons, lookB_cons, look_nil, lookB_nil, cond_true, cond_false, Nat.reduceBEq, Nat.reduceAdd, Nat.reduceSub, Nat.reduceLeDiff, if_true, and_self, List.getElem?_cons_zero, List.length_cons, List.length_nil, List.drop_zero, List.take_succ_cons, List.take_nil, List.map_cons, List.map_nil, AVal.eval, nat_le, dec_true, Int.toNat_natCast, List.getElem?_map, Option.map_some, loadOf, cellsAt, boxOf, partOf, e1, stsV, hx, x.cells_cs, St.cs, St.fold]
    obtain ⟨ida1, ids1, els1, p1, p2, p3⟩ := hbu
    have hc1 := cnt_drop hx
    have hc2 := cntL_take l k
    have hlen1 := gFold_len hf (l.drop (k + 1)) evs b
    refine .inl (hone x (List.mem_of_getElem? hx) _ h1 idb ida1 ids1 els1 _ p1 (by omega) _ fun h2 hb2 => ?_)
    simp -implicitDefEqProofs only [W_region, Again_normal, keep_eq, Thn_normal, Bl_normal, wOps_nil, wOps_cons, val_0, valK_eq, onPut_some, st_0, stK_eq, onS_some, retK_some, ev_E, ev_c, set_E, set_B, getD_B, look_cons, lookB_cons, look_nil, lookB_nil, cond_true, cond_false, Nat.reduceBEq, Nat.reduceAdd, Nat.reduceSub, Nat.reduceLeDiff, if_true, storeOf, storeCells, over, and_self, List.length_cons, List.length_nil, List.drop_succ_cons, List.drop_zero, List.take_zero, List.map_cons, List.map_nil, List.nil_append, List.cons_append, AVal.eval, cellsOf_int, boxOf, binOf, intOf, wrap_in (show -9223372036854775808 ≤ (k : Int) - 1 ∧ (k : Int) - 1 ≤ 9223372036854775807 by omega)]
    have := hrec (k, h2) (by simp only []; omega) ⟨by simp only []; omega, by
      simp only []
      rw [gFold_at hx]
      exact Built.trans p2 p3 hb2⟩
    rw [gFold_at hx] at this
    exact this

/-- A plain statement. -/
def plainF : OneF := fun x evs b => (evs ++ [⟨x, [b]⟩], evs.length)
def _root_.Go.Abs.St.plainK (x : St) : Prop := x.kind ≠ 7 ∧ x.kind ≠ 8 ∧ x.kind ≠ 9 ∧ x.kind ≠ 10 ∧ x.kind ≠ 11 ∧ x.kind ≠ 12 ∧ x.kind ≠ 13 ∧ x.kind ≠ 14
theorem one31_plain (x : St) (hx : x.plainK) (e n : Int) : OneOk plainF e n x := by
  intro b h idb ida ids els evs hb hl R hR
  have hcx := x.cnt_eq
  obtain ⟨k7, k8, k9, k10, k11, k12, k13, k14⟩ := hx
  have f7 : (x.kind == 7) = false := by simpa using k7
  have f8 : (x.kind == 8) = false := by simpa using k8
  have f9 : (x.kind == 9) = false := by simpa using k9
  have f10 : (x.kind == 10) = false := by simpa using k10
  have f11 : (x.kind == 11) = false := by simpa using k11
  have f12 : (x.kind == 12) = false := by simpa using k12
  have f13 : (x.kind == 13) = false := by simpa using k13
  have f14 : (x.kind == 14) = false := by simpa using k14
  refine Ret.by_text rfl rfl ?_
  simp -implicitDefEqProofs only [number, W_region, W_seq, W_cond, W_block, Thn_normal, wOps_nil, wOps_cons, val_0, valK_eq, onPut_some, onBool_bool, box_0, onCells_some, boxK_eq, st_0, stK_eq, onS_some, fill, ev_E, ev_c, set_E, set_B, getD_B, look_cons, lookB_cons, look_nil, lookB_nil, cond_true, cond_false, Nat.reduceBEq, Nat.reduceAdd, Nat.reduceSub, Nat.reduceLeDiff, if_true, if_false, storeOf, storeCells, over, List.append_nil, Bool.false_eq_true, true_and, and_self, List.getElem?_cons_zero, List.getElem?_cons_succ, List.length_cons, List.length_nil, List.drop_succ_cons, List.drop_zero, List.take_succ_cons, List.take_zero, List.drop_nil, List.nil_append, List.cons_append, AVal.eval, cellsOf_agg, cellsOf_int, Option.map_some, loadOf, cellsAt, boxOf, partOf, binOf, intOf, a31, St.cellsOf_v, St.cs, placeV]
  intro g1 g2 g3 g4
  simp -implicitDefEqProofs only [W_skip, W_region, W_seq, W_cond, Thn_normal, Bl_normal, wOps_nil, wOps_cons, val_0, valK_eq, onPut_some, onBool_bool, br_false, onCells_some, call_0, callK_eq, bsl_0, bslK_eq, fill, range_one, rep_one, ev_E, ev_c, set_E, getD_B, look_cons, lookB_cons, look_nil, lookB_nil, cond_true, cond_false, Nat.reduceBEq, Nat.reduceAdd, Nat.reduceSub, Nat.reduceMul, Nat.reduceLeDiff, if_true, if_false, over, List.append_nil, Bool.false_eq_true, and_self, List.getElem?_cons_zero, List.length_cons, List.length_nil, List.drop_succ_cons, List.drop_zero, List.take_succ_cons, List.take_zero, List.take_nil, List.drop_nil, List.map_cons, List.map_nil, List.nil_append, AVal.eval, cellsOf_int, loadOf, cellsAt, boxOf, partOf, binOf, intOf, f7, f8, f9, f10, f11, f12, f13, f14, St.fold]
  intro idn hidn
  refine .inl (add19 (hb.alloc hidn _) x.cells ⟨x, [b]⟩ (some idn) (NzL.refl _) (fun h => by cases h) (fun j hj => by
    injection hj with hj; subst hj
    exact ⟨by rw [upd_self]; rfl, hb.fresh hidn⟩) (by omega) _ fun ida2 h2 q1 q2 q3 => ?_)
  simp -implicitDefEqProofs only [W_ret, Thn_normal, wOps_nil, wOps_cons, val_0, valK_eq, onPut_some, retK_some, ev_E, set_E, look_cons, look_nil, cond_true, cond_false, Nat.reduceBEq, Nat.reduceAdd, Nat.reduceSub, AVal.eval]
  refine post1 ?_
  simp -implicitDefEqProofs only [ev_E, look_cons, look_nil, cond_true, cond_false, Nat.reduceBEq, Nat.reduceAdd, Nat.reduceSub]
  refine hR h2 (Built.push hidn q1 q2 q3)

/-- A statement as an event without what its kind bears. -/
def zeroS (k c : Int) : St := .mk k c 0 0 (.mk 0 0 0 0 []) (.mk 0 0 0 0 []) [] [] [] [] []
/-- The graph of plain statements. -/
def plainG (l : List St) : List Ev :=
  let r := gFold plainF l [⟨zeroS 0 0, [0]⟩, ⟨zeroS 14 0, []⟩] 1
  r.1.set 0 ⟨zeroS 0 0, [r.2]⟩
theorem stmts11 (l : List St) (hp : ∀ x ∈ l, x.plainK) (hl : cntL l < 900000) : Ret prog 11 [stsV l] Heap.none fun r _ => r = evsV (plainG l) := by
  refine Ret.by_text rfl rfl ?_
  simp -implicitDefEqProofs only [number, W_region, W_seq, Thn_normal, wOps_nil, wOps_cons, val_0, valK_eq, onPut_some, onCells_some, call_0, callK_eq, hbox_0, hboxK_eq, bsl_0, bslK_eq, fill, range_one, rep_one, ev_E, ev_c, set_E, look_cons, look_nil, cond_true, cond_false, Nat.reduceBEq, Nat.reduceAdd, Nat.reduceSub, Nat.reduceMul, Nat.reduceLeDiff, if_true, over, List.append_nil, true_and, and_self, List.length_cons, List.length_nil, List.drop_succ_cons, List.drop_zero, List.take_succ_cons, List.take_zero, List.take_nil, List.drop_nil, List.map_cons, List.map_nil, List.nil_append, List.cons_append, AVal.eval, cellsOf_agg, cellsOf_int, Option.map_some, a11]
  intro idb hidb
  intro idn hidn
  have hb0 : Bd (Heap.none.upd idb (some (.arr 1 [[.nsl]]))) idb (idb + 1) [] [] [] := ⟨rfl, upd_self _ _ _, fun h => absurd h (by simp), rfl, fun k x i cs h => absurd h (by simp), fun k x i h => absurd h (by simp), fun k x h => absurd h (by simp), by omega, by simp, by simp, fun k m i h => absurd h (by simp)⟩
  have hz : ∀ k : Int, NzL [V.int .i64 k, .int .i64 0, .int .i64 0, .int .i64 0, .int .i64 0, .int .i64 0, .int .i64 0, .int .i64 0, .nsl, .int .i64 0, .int .i64 0, .int .i64 0, .int .i64 0, .nsl, .nsl, .nsl, .nsl, .nsl, .nsl] (zeroS k 0).cells := by
    intro k
    rw [St.cells_cs]
    refine ⟨rfl, fun i a b ha hb => ?_⟩
    have hi : i < 19 := by have := (List.getElem?_eq_some_iff.1 ha).1; simpa using this
    match i, hi with
    | 0, _ | 1, _ | 2, _ | 3, _ | 4, _ | 5, _ | 6, _ | 7, _ | 9, _ | 10, _ | 11, _ | 12, _ => simp [St.cs, zeroS, St.kind, St.cost, St.n, St.m, St.e, St.i, Ex.op, Ex.t, Ex.n, Ex.m] at ha hb; subst ha; subst hb; exact .inl rfl
    | 8, _ | 13, _ | 14, _ | 15, _ | 16, _ | 17, _ | 18, _ => simp [St.cs, zeroS, St.e, St.i, St.l, St.args, St.body, St.els, St.arms, Ex.l] at ha hb; subst ha; subst hb; exact .inr ⟨rfl, _, rfl⟩
  refine .inl (add19 (hb0.alloc hidn _) _ ⟨zeroS 0 0, [0]⟩ (some idn) (hz 0) (fun h => by cases h) (fun j hj => by
    injection hj with hj; subst hj
    exact ⟨by rw [upd_self]; rfl, hb0.fresh hidn⟩) (by simp) _ fun ida1 h1 q1 q2 q3 => ?_)
  simp -implicitDefEqProofs only [W_region, W_seq, Thn_normal, wOps_nil, wOps_cons, val_0, valK_eq, onPut_some, call_0, callK_eq, retK_some, fill, ev_E, ev_c, set_E, look_cons, look_nil, cond_true, cond_false, Nat.reduceBEq, Nat.reduceAdd, Nat.reduceSub, Nat.reduceLeDiff, if_true, over, and_self, List.length_cons, List.length_nil, List.drop_succ_cons, List.drop_zero, List.take_zero, List.map_cons, List.map_nil, List.nil_append, List.cons_append, AVal.eval, cellsOf_int, Option.map_some]
  refine .inl (add19 q2 _ ⟨zeroS 14 0, []⟩ none (hz 14) (fun h => rfl) (fun j hj => by cases hj) (by simp) _ fun ida2 h2 r1 r2 r3 => ?_)
  simp -implicitDefEqProofs only [W_region, W_seq, Thn_normal, wOps_nil, wOps_cons, val_0, valK_eq, onPut_some, call_0, callK_eq, retK_some, fill, ev_E, set_E, look_cons, look_nil, cond_true, cond_false, Nat.reduceBEq, Nat.reduceAdd, Nat.reduceSub, Nat.reduceLeDiff, if_true, over, List.append_nil, and_self, List.length_cons, List.length_nil, List.drop_succ_cons, List.drop_zero, List.take_succ_cons, List.take_zero, List.drop_nil, List.map_cons, List.map_nil, List.nil_append, List.cons_append, AVal.eval, cellsOf_int, Option.map_some]
  refine .inl (list20 plainF (fun x evs b => by have := x.cnt_eq; simp [plainF]; omega) 1 1 l (fun x hx => one31_plain x (hp x hx) 1 1) 1 h2 idb ida2 _ _ _ r2 (by simp; omega) _ fun h3 hb3 => ?_)
  simp -implicitDefEqProofs only [W_region, W_seq, Thn_normal, wOps_nil, wOps_cons, val_0, valK_eq, onPut_some, retK_some, ev_E, set_E, look_cons, look_nil, cond_true, cond_false, Nat.reduceBEq, Nat.reduceAdd, Nat.reduceSub, if_false, Bool.false_eq_true, List.nil_append, List.cons_append, AVal.eval, loadOf, cellsAt, partOf]
  have hG0 : ∀ (l : List St), (gFold plainF l [⟨zeroS 0 0, [0]⟩, ⟨zeroS 14 0, []⟩] 1).1[0]? = some ⟨zeroS 0 0, [0]⟩ := by
    intro l
    induction l with
    | nil => rfl
    | cons x l ih =>
      show ((gFold plainF l _ 1).1 ++ _)[0]? = _
      rw [List.getElem?_append_left (List.getElem?_eq_some_iff.1 ih).1]; exact ih
  obtain ⟨ida3, ids3, els3, s1, s2, s3⟩ := hb3
  simp only [List.nil_append, List.cons_append] at s1
  have hpos : 0 < (gFold plainF l [⟨zeroS 0 0, [0]⟩, ⟨zeroS 14 0, []⟩] 1).1.length := (List.getElem?_eq_some_iff.1 (hG0 l)).1
  obtain ⟨i, cs, c19, t1, t2, rfl, t4, t5, t6, t7, t8, t9⟩ := s1.store (hG0 l) (c := 0) (by simp) (gFold plainF l [⟨zeroS 0 0, [0]⟩, ⟨zeroS 14 0, []⟩] 1).2
  have hc19 : c19.length = 19 := by rw [t4.1, St.cells_cs]; rfl
  obtain ⟨c0, c1, c2, c3, c4, c5, c6, c7, c8, c9, c10, c11, c12, c13, c14, c15, c16, c17, c18, rfl⟩ := list19 hc19
  have hbox := s1.box
  rw [slV, if_neg (by omega)] at hbox
  have hbx2 := t9.box
  rw [List.length_set, slV, if_neg (by omega)] at hbx2
  have hpi : ((0 : Int) < ((gFold plainF l [⟨zeroS 0 0, [0]⟩, ⟨zeroS 14 0, []⟩] 1).1.length : Int)) = True := eq_true (by omega)
  simp -implicitDefEqProofs only [W_region, W_seq, W_ret, Thn_normal, wOps_nil, wOps_cons, val_0, valK_eq, onPut_some, st_0, stK_eq, onS_some, ev_E, ev_c, set_E, look_cons, look_nil, cond_true, cond_false, Nat.reduceBEq, Nat.reduceAdd, Nat.reduceSub, Nat.reduceLeDiff, if_true, if_false, storeOf, storeCells, over, List.append_nil, Bool.false_eq_true, and_self, List.getElem?_cons_zero, List.getElem?_cons_succ, List.length_cons, List.length_nil, List.drop_succ_cons, List.drop_zero, List.take_succ_cons, List.take_zero, List.take_nil, List.drop_nil, List.set_cons_zero, List.map_cons, List.map_nil, List.nil_append, List.cons_append, AVal.eval, cellsOf_int, Int.reduceLE, Int.reduceToNat, loadOf, cellsAt, partOf, hbox, s1.arr hpos, hpi, t2, t5, intC, show ((0 : Int) < ((1 : Nat) : Int)) = True by simp, upd_other _ _ (Ne.symm t7)]
  refine post_frz (R := fun r _ => r = evsV (plainG l)) (v := slV ida3 (plainG l).length) (u := evsV (plainG l)) (h2 := Heap.none) (fun _ => True) ?_ ?_ (fun _ _ hh => absurd hh (by simp [Heap.none])) (fun _ _ => rfl) rfl
  · have hpl : (plainG l).length = (gFold plainF l [⟨zeroS 0 0, [0]⟩, ⟨zeroS 14 0, []⟩] 1).1.length := by simp [plainG]
    rw [hpl, slV, if_neg (by omega)]
    rfl
  · exact t9.frz
end TryT
end Go.Abs
