/-
  Contracts: the program answers; the statement's own function.
-/
import Derived.Test.YtfgkfjmbjopfgaaGsB2
import Derived.Test.YtfgkfjmbjopfgaaGsC10
set_option linter.unusedVariables false
set_option linter.unusedSimpArgs false
set_option maxRecDepth 100000
set_option maxHeartbeats 4000000
namespace Go.Abs
open Go
/-- A call of frozen arguments behind which nothing else of the heap is wanted. -/
theorem callOk_drop {A : Prog} {f : Nat} {vs us : List V} {P : V → Prop} {h : Heap} {R : V → Heap → Prop} (ids : Nat → Prop) (hf : FrzL h ids vs us) (hc : Ret A f us Heap.none fun u _ => P u) (hR : ∀ u h3, P u → R u h3) : callOk (Ret A) f vs h R :=
  .inr (.inr ⟨ids, us, Heap.none, hf.spec.1, hf.spec.2, (fun _ _ e => by cases e), fun _ _ => rfl, Ret.mono _ _ _ _ _ (fun u h3 hp => hR u h3 hp) hc⟩)
/-- A slice of our own, frozen: nil slices in it are empty ones. -/
theorem Frz.nz {h : Heap} {ids : Nat → Prop} {id sz n : Nat} {els out : List (List V)} (hid : ids id) (hb : h id = some (.arr sz els)) (hn : els.length = n) (ho : out.length = n) (hz : ∀ (i : Nat) (x y : List V), els[i]? = some x → out[i]? = some y → NzL x y) : Frz h ids (.msl id 0 n) (.fsl sz out) :=
  .msl id 0 n sz els out hid hb (by omega) ho (fun i x y h1 h2 => by rw [Nat.zero_add] at h1; exact (hz i x y h1 h2).1.symm)
    (fun i x y j a b h1 h2 h3 h4 => by rw [Nat.zero_add] at h1; exact ((hz i x y h1 h2).2 j a b h3 h4).frz)
/-- The example's statement. -/
def exS (c : Int) : St := .mk 1 c 0 0 (.mk 1 2 1 0 []) (.mk 0 0 0 0 []) [] [] [] [] []
theorem exNz (k c : Int) (e : Ex) (he : e.l = []) : NzL [V.int .i64 k, .int .i64 c, .int .i64 0, .int .i64 0, .int .i64 e.op, .int .i64 e.t, .int .i64 e.n, .int .i64 e.m, .nsl, .int .i64 0, .int .i64 0, .int .i64 0, .int .i64 0, .nsl, .nsl, .nsl, .nsl, .nsl, .nsl] (St.mk k c 0 0 e (.mk 0 0 0 0 []) [] [] [] [] []).cells := by
  rw [St.cells_cs]
  refine ⟨rfl, fun i a b ha hb => ?_⟩
  have hi : i < 19 := by have := (List.getElem?_eq_some_iff.1 ha).1; simpa using this
  match i, hi with
  | 0, _ | 1, _ | 2, _ | 3, _ | 4, _ | 5, _ | 6, _ | 7, _ | 9, _ | 10, _ | 11, _ | 12, _ => simp [St.cs, St.kind, St.cost, St.n, St.m, St.e, St.i, Ex.op, Ex.t, Ex.n, Ex.m] at ha hb; subst ha; subst hb; exact .inl rfl
  | 8, _ | 13, _ | 14, _ | 15, _ | 16, _ | 17, _ | 18, _ => simp [St.cs, St.e, St.i, St.l, St.args, St.body, St.els, St.arms, he, show (Ex.mk 0 0 0 0 []).l = [] from rfl] at ha hb; subst ha; subst hb; exact .inr ⟨rfl, _, rfl⟩
theorem exNz1 (c : Int) : NzL [V.int .i64 1, .int .i64 c, .int .i64 0, .int .i64 0, .int .i64 1, .int .i64 2, .int .i64 1, .int .i64 0, .nsl, .int .i64 0, .int .i64 0, .int .i64 0, .int .i64 0, .nsl, .nsl, .nsl, .nsl, .nsl, .nsl] (exS c).cells := exNz 1 c (.mk 1 2 1 0 []) rfl
theorem exBare (c : Int) : (exS c).plainK := by simp [St.plainK, exS, St.kind]
namespace TryT
theorem exG1 : plainG [zeroS 0 1, exS 2] = [⟨zeroS 0 0, [3]⟩, ⟨zeroS 14 0, []⟩, ⟨exS 2, [1]⟩, ⟨zeroS 0 1, [2]⟩] := rfl
theorem exG2 (c : Int) : plainG [exS c] = [⟨zeroS 0 0, [2]⟩, ⟨zeroS 14 0, []⟩, ⟨exS c, [1]⟩] := rfl
theorem exGoes : Goes (plainG [zeroS 0 1, exS 2]) (plainG [exS 3]) := by
  have ha : right (plainG [zeroS 0 1, exS 2]) = true := rfl
  have hb : right (plainG [exS 3]) = true := rfl
  have i0 := Inv.begin (plainG [zeroS 0 1, exS 2]) (plainG [exS 3])
  have b1 : Beh (plainG [zeroS 0 1, exS 2]) 0 (some (2, 3)) := ⟨5, rfl⟩
  have b2 : Beh (plainG [exS 3]) 0 (some (2, 3)) := ⟨5, rfl⟩
  have i1 := Inv.more (ws := []) i0 b1 b2 (x := ⟨exS 2, [1]⟩) (y := ⟨exS 3, [1]⟩) rfl rfl rfl (by simp)
  have b3 : Beh (plainG [zeroS 0 1, exS 2]) 1 (some (1, 0)) := ⟨5, rfl⟩
  have b4 : Beh (plainG [exS 3]) 1 (some (1, 0)) := ⟨5, rfl⟩
  have i2 := Inv.more (ws := []) i1 b3 b4 (x := ⟨zeroS 14 0, []⟩) (y := ⟨zeroS 14 0, []⟩) rfl rfl rfl (by simp)
  exact i2.final ha hb
theorem exNot : ¬ Goes (plainG [exS 2]) (plainG [exS 3]) := by
  intro h
  have b1 : Beh (plainG [exS 2]) 0 (some (2, 2)) := ⟨5, rfl⟩
  have b2 : Beh (plainG [exS 3]) 0 (some (2, 3)) := ⟨5, rfl⟩
  have := Fits.some_some b1 b2 (x := ⟨exS 2, [1]⟩) (y := ⟨exS 3, [1]⟩) rfl rfl (h.2.2 0 0 .first)
  exact absurd this.1 (by decide)
theorem exShort : ∀ s ∈ [zeroS 0 0, zeroS 14 0, zeroS 0 1, exS 2, exS 3], s.Short ∧ 0 ≤ s.cost ∧ s.cost ≤ 1048576 := by
  intro s hs
  simp only [List.mem_cons, List.not_mem_nil, or_false] at hs
  rcases hs with rfl | rfl | rfl | rfl | rfl <;> exact ⟨⟨by decide, by decide, by decide, by decide, fun y hy => by cases hy⟩, by decide, by decide⟩
theorem exSG (l : List Ev) (hl : l.length ≤ 4) (hn : ∀ x ∈ l, x.next.length ≤ 1 ∧ x.s ∈ [zeroS 0 0, zeroS 14 0, zeroS 0 1, exS 2, exS 3]) : ShortG l :=
  ⟨by omega, fun x hx => by have := (hn x hx).1; omega, fun x hx => (exShort _ (hn x hx).2).2, fun x hx => (exShort _ (hn x hx).2).1⟩
theorem awake5 : Ret prog 5 [] Heap.none fun r _ => r = .bool true := by
  refine Ret.by_text rfl rfl ?_
  simp -implicitDefEqProofs only [number, W_region, W_seq, Thn_normal, wOps_nil, wOps_cons, val_0, valK_eq, onPut_some, box_0, onCells_some, boxK_eq, st_0, stK_eq, onS_some, call_0, callK_eq, bsl_0, bslK_eq, fill, range_two, rep_two, ev_E, ev_c, set_E, set_B, getD_B, look_cons, lookB_cons, look_nil, lookB_nil, cond_true, cond_false, Nat.reduceBEq, Nat.reduceAdd, Nat.reduceSub, Nat.reduceMul, Nat.reduceLeDiff, if_true, storeOf, storeCells, over, List.append_nil, true_and, and_self, List.getElem?_cons_zero, List.length_cons, List.length_nil, List.drop_succ_cons, List.drop_zero, List.take_succ_cons, List.take_zero, List.take_nil, List.drop_nil, List.map_cons, List.map_nil, List.nil_append, List.cons_append, AVal.eval, cellsOf_agg, cellsOf_int, Option.map_some, loadOf, cellsAt, boxOf, partOf, a5]
  intro g1 g2 id1 hid1
  refine callOk_drop (us := [stsV [zeroS 0 1, exS 2]]) (fun i => i = id1) (.cons (Frz.nz rfl (upd_self _ _ _) rfl rfl (fun i x y h1 h2 => by
    match i with
    | 0 => simp at h1 h2; subst h1; subst h2; exact exNz 0 1 (.mk 0 0 0 0 []) rfl
    | 1 => simp at h1 h2; subst h1; subst h2; exact exNz1 2
    | i + 2 => simp at h1)) .nil) (stmts11 [zeroS 0 1, exS 2] (fun x hx => by
      simp at hx
      rcases hx with rfl | rfl
      · simp [St.plainK, zeroS, St.kind]
      · exact exBare 2) (by decide)) ?_
  rintro u h3 rfl
  simp -implicitDefEqProofs only [wOps_cons, val_0, valK_eq, onPut_some, onCells_some, call_0, callK_eq, retK_some, bsl_0, bslK_eq, fill, range_one, rep_one, ev_E, set_E, getD_B, look_cons, lookB_cons, look_nil, lookB_nil, cond_true, cond_false, Nat.reduceBEq, Nat.reduceAdd, Nat.reduceSub, Nat.reduceMul, Nat.reduceLeDiff, if_true, over, List.append_nil, and_self, List.getElem?_cons_zero, List.length_cons, List.length_nil, List.drop_succ_cons, List.drop_zero, List.take_succ_cons, List.take_zero, List.take_nil, List.drop_nil, List.map_cons, List.map_nil, List.nil_append, AVal.eval, cellsOf_agg, boxOf, partOf]
  intro id2 hid2
  have one : ∀ (c : Int) (i : Nat) (x y : List V), [[V.int .i64 1, .int .i64 c, .int .i64 0, .int .i64 0, .int .i64 1, .int .i64 2, .int .i64 1, .int .i64 0, .nsl, .int .i64 0, .int .i64 0, .int .i64 0, .int .i64 0, .nsl, .nsl, .nsl, .nsl, .nsl, .nsl]][i]? = some x → (List.map St.cells [exS c])[i]? = some y → NzL x y := by
    intro c i x y h1 h2
    match i with
    | 0 => simp at h1 h2; subst h1; subst h2; exact exNz1 c
    | i + 1 => simp at h1
  have pl : ∀ c : Int, ∀ x ∈ [exS c], x.plainK := by
    intro c x hx
    simp at hx
    subst hx
    exact exBare c
  refine callOk_drop (us := [stsV [exS 3]]) (fun i => i = id2) (.cons (Frz.nz rfl (upd_self _ _ _) rfl rfl (one 3)) .nil) (stmts11 [exS 3] (pl 3) (by decide)) ?_
  rintro u h4 rfl
  simp -implicitDefEqProofs only [wOps_cons, call_0, callK_eq, retK_some, ev_E, set_E, look_cons, look_nil, cond_true, cond_false, Nat.reduceBEq, Nat.reduceAdd, Nat.reduceSub, List.map_cons, List.map_nil]
  have sh1 : ShortG (plainG [zeroS 0 1, exS 2]) := exSG _ (by decide) (fun x hx => by
    rw [exG1] at hx
    simp only [List.mem_cons, List.not_mem_nil, or_false] at hx
    rcases hx with rfl | rfl | rfl | rfl <;> simp)
  have sh3 : ∀ c : Int, c = 2 ∨ c = 3 → ShortG (plainG [exS c]) := fun c hc => exSG _ (by rw [exG2]; simp) (fun x hx => by
    rw [exG2] at hx
    simp only [List.mem_cons, List.not_mem_nil, or_false] at hx
    rcases hx with rfl | rfl | rfl <;> rcases hc with rfl | rfl <;> simp)
  refine callOk_of (same6 _ _ sh1 (sh3 3 (.inr rfl))) ?_
  rintro u ⟨t, rfl, ht⟩
  have ht2 : t = true := ht.2 exGoes
  subst ht2
  simp -implicitDefEqProofs only [wOps_cons, val_0, val_g, valK_eq, onPut_some, onGuard_bool, br_true, beq_true', onCells_some, callK_eq, call_g, retK_some, bslK_eq, bsl_g, bslS_eq, fill, range_one, rep_one, ev_E, set_E, getD_B, look_cons, lookB_cons, look_nil, lookB_nil, cond_true, cond_false, Nat.reduceBEq, Nat.reduceAdd, Nat.reduceSub, Nat.reduceMul, Nat.reduceLeDiff, if_true, over, List.append_nil, and_self, List.getElem?_cons_zero, List.length_cons, List.length_nil, List.drop_succ_cons, List.drop_zero, List.take_succ_cons, List.take_zero, List.take_nil, List.drop_nil, List.map_cons, List.map_nil, List.nil_append, AVal.eval, cellsOf_agg, loadOf, cellsAt, boxOf, partOf]
  intro id3 hid3
  refine callOk_drop (us := [stsV [exS 2]]) (fun i => i = id3) (.cons (Frz.nz rfl (upd_self _ _ _) rfl rfl (one 2)) .nil) (stmts11 [exS 2] (pl 2) (by decide)) ?_
  rintro u h5 rfl
  simp -implicitDefEqProofs only [wOps_cons, val_g, valK_eq, onPut_some, onGuard_bool, br_true, beq_true', onCells_some, callK_eq, call_g, retK_some, bslK_eq, bsl_g, bslS_eq, fill, range_one, rep_one, ev_E, set_E, getD_B, look_cons, lookB_cons, look_nil, lookB_nil, cond_true, cond_false, Nat.reduceBEq, Nat.reduceAdd, Nat.reduceSub, Nat.reduceMul, Nat.reduceLeDiff, if_true, over, List.append_nil, and_self, List.getElem?_cons_zero, List.length_cons, List.length_nil, List.drop_succ_cons, List.drop_zero, List.take_succ_cons, List.take_zero, List.take_nil, List.drop_nil, List.map_cons, List.map_nil, List.nil_append, AVal.eval, cellsOf_agg, boxOf, partOf]
  intro id4 hid4
  refine callOk_drop (us := [stsV [exS 3]]) (fun i => i = id4) (.cons (Frz.nz rfl (upd_self _ _ _) rfl rfl (one 3)) .nil) (stmts11 [exS 3] (pl 3) (by decide)) ?_
  rintro u h6 rfl
  simp -implicitDefEqProofs only [wOps_cons, onGuard_bool, br_true, beq_true', callK_eq, call_g, retK_some, ev_E, set_E, look_cons, look_nil, cond_true, cond_false, Nat.reduceBEq, Nat.reduceAdd, Nat.reduceSub, List.map_cons, List.map_nil]
  refine callOk_of (same6 _ _ (sh3 2 (.inl rfl)) (sh3 3 (.inr rfl))) ?_
  rintro u ⟨t, rfl, ht⟩
  have ht2 : t = false := by
    cases t
    · rfl
    · exact (exNot (ht.1 rfl)).elim
  subst ht2
  simp -implicitDefEqProofs only [W_ret, Thn_normal, wOps_nil, wOps_cons, val_0, val_g, valK_eq, onPut_some, onGuard_bool, br_true, beq_true', retK_some, ev_E, ev_c, set_E, look_cons, look_nil, cond_true, cond_false, Nat.reduceBEq, Nat.reduceAdd, Nat.reduceSub, if_true, Bool.not_false, AVal.eval, unOf]
  refine post1 ?_
  simp -implicitDefEqProofs only [ev_E, look_cons, look_nil, cond_true, cond_false, Nat.reduceBEq, Nat.reduceAdd, Nat.reduceSub]
theorem sizeL_le (l : List Ex) (h : ∀ y ∈ l, y.size ≤ 100) : sizeL l ≤ 100 * l.length := by
  induction l with
  | nil => simp [sizeL]
  | cons x l ih =>
    have h1 := h x (by simp)
    have h2 := ih (fun y hy => h y (by simp [hy]))
    simp only [sizeL, List.length_cons]
    omega
theorem okShort {x : Ev} (h : x.Ok) : x.s.Short ∧ x.s.body.length < 1000000 ∧ x.s.els.length < 1000000 ∧ x.s.arms.length < 1000000 := by
  have hs : St.Small (39 + 1) x.s := h.s
  rw [St.Small] at hs
  obtain ⟨hf, _⟩ := hs
  have h1 := sizeL_le x.s.l hf.l
  have h2 := hf.ll
  have h3 := hf.al
  have h4 := x.s.cnt_eq
  have h5 := h.cnt
  have h6 := cntL_len x.s.body
  have h7 := cntL_len x.s.els
  have h8 := hf.rl
  have h9 := hf.e
  have h10 := hf.i
  exact ⟨⟨by omega, by omega, by omega, by omega, fun y hy => by have := hf.a y hy; omega⟩, by omega, by omega, by omega⟩
theorem okSG {l : List Ev} (hl : (l.length : Int) ≤ 24) (h : ∀ x ∈ l, x.Ok) : ShortG l :=
  ⟨by omega, fun x hx => by have := (h x hx).next; omega, fun x hx => ⟨(h x hx).cost0, (h x hx).cost⟩, fun x hx => (okShort (h x hx)).1⟩
theorem root3 (a b : List Ev) : Ret prog 3 [evsV a, evsV b] Heap.none fun r _ => r = .bool true := by
  refine Ret.by_text rfl rfl ?_
  simp -implicitDefEqProofs only [number, W_region, W_seq, Thn_normal, wOps_nil, wOps_cons, val_0, valK_eq, onPut_some, call_0, callK_eq, ev_E, ev_c, set_E, look_cons, look_nil, cond_true, cond_false, Nat.reduceBEq, Nat.reduceAdd, Nat.reduceSub, List.map_cons, List.map_nil, AVal.eval, a3]
  refine callOk_of (few4 a 24 (by omega) (by omega)) ?_
  rintro u ⟨b1, rfl, h1⟩
  simp -implicitDefEqProofs only [wOps_cons, val_0, val_g, valK_eq, onPut_some, onGuard_bool, br_not, beq_false', retK_some, ev_E, set_E, look_cons, look_nil, cond_true, cond_false, Nat.reduceBEq, Nat.reduceAdd, Nat.reduceSub, AVal.eval, unOf]
  refine br_intro2 (fun h2 => ?_) (fun h2 => ?_)
  · simp -implicitDefEqProofs only [W_region, W_seq, W_cond, Thn_normal, wOps_nil, wOps_cons, val_0, val_g, valK_eq, onPut_some, onGuard_bool, onBool_bool, br_true, br_false, beq_false', skipK_some, call_0, callK_eq, call_g, ev_E, ev_c, set_E, look_cons, look_nil, cond_true, cond_false, Nat.reduceBEq, Nat.reduceAdd, Nat.reduceSub, if_true, Bool.not_true, Bool.not_false, List.map_nil, AVal.eval, h2]
    refine callOk_pure awake5 ?_
    simp -implicitDefEqProofs only [W_ret, Thn_normal, Thn_ret, wOps_nil, wOps_cons, val_0, valK_eq, onPut_some, retK_some, ev_E, set_E, look_cons, look_nil, cond_true, cond_false, Nat.reduceBEq, Nat.reduceAdd, Nat.reduceSub, AVal.eval]
    refine post1 ?_
    simp -implicitDefEqProofs only [ev_E, look_cons, look_nil, cond_true, cond_false, Nat.reduceBEq, Nat.reduceAdd, Nat.reduceSub]
  obtain ⟨ha1, ha2⟩ := h1 h2
  simp -implicitDefEqProofs only [wOps_cons, valK_eq, onPut_some, onGuard_bool, br_true, beq_false', callK_eq, call_g, ev_E, ev_c, set_E, look_cons, look_nil, cond_true, cond_false, Nat.reduceBEq, Nat.reduceAdd, Nat.reduceSub, Bool.not_true, Bool.not_false, List.map_cons, List.map_nil, AVal.eval, h2]
  refine callOk_of (few4 b 24 (by omega) (by omega)) ?_
  rintro u ⟨b2, rfl, h3⟩
  simp -implicitDefEqProofs only [W_cond, Thn_normal, wOps_nil, wOps_cons, val_0, val_g, valK_eq, onPut_some, onGuard_bool, onBool_bool, br_true, br_not, beq_false', retK_some, ev_E, ev_c, set_E, look_cons, look_nil, cond_true, cond_false, Nat.reduceBEq, Nat.reduceAdd, Nat.reduceSub, if_false, Bool.false_eq_true, Bool.not_false, AVal.eval, unOf]
  refine br_intro2 (fun h4 => ?_) (fun h4 => ?_)
  · simp -implicitDefEqProofs only [W_region, W_seq, wOps_cons, call_0, callK_eq, Bool.not_false, List.map_nil, h4]
    refine callOk_pure awake5 ?_
    simp -implicitDefEqProofs only [W_ret, Thn_normal, Thn_ret, wOps_nil, wOps_cons, val_0, valK_eq, onPut_some, retK_some, ev_E, set_E, look_cons, look_nil, cond_true, cond_false, Nat.reduceBEq, Nat.reduceAdd, Nat.reduceSub, AVal.eval]
    refine post1 ?_
    simp -implicitDefEqProofs only [ev_E, look_cons, look_nil, cond_true, cond_false, Nat.reduceBEq, Nat.reduceAdd, Nat.reduceSub]
  obtain ⟨hb1, hb2⟩ := h3 h4
  have sa := okSG ha1 ha2
  have sb := okSG hb1 hb2
  simp -implicitDefEqProofs only [W_skip, W_region, W_seq, Thn_normal, wOps_cons, val_0, valK_eq, onPut_some, call_0, callK_eq, ev_E, set_E, look_cons, look_nil, cond_true, cond_false, Nat.reduceBEq, Nat.reduceAdd, Nat.reduceSub, Bool.not_true, List.map_cons, List.map_nil, AVal.eval, h4]
  refine callOk_of (same6 a b sa sb) ?_
  rintro u ⟨t1, rfl, e1⟩
  simp -implicitDefEqProofs only [W_region, W_seq, Thn_normal, wOps_nil, wOps_cons, val_0, valK_eq, onPut_some, call_0, callK_eq, retK_some, ev_E, set_E, look_cons, look_nil, cond_true, cond_false, Nat.reduceBEq, Nat.reduceAdd, Nat.reduceSub, List.map_cons, List.map_nil, AVal.eval]
  refine callOk_pure (right7 a (by omega) (fun x hx => by have := sa.next x hx; omega)) ?_
  simp -implicitDefEqProofs only [wOps_cons, val_0, valK_eq, onPut_some, call_0, callK_eq, retK_some, ev_E, set_E, look_cons, look_nil, cond_true, cond_false, Nat.reduceBEq, Nat.reduceAdd, Nat.reduceSub, List.map_cons, List.map_nil, AVal.eval]
  refine callOk_pure (right8 a (by omega) (fun x hx => ⟨by have := sa.next x hx; omega, (okShort (ha2 x hx)).2⟩)) ?_
  simp -implicitDefEqProofs only [wOps_cons, val_0, val_g, valK_eq, onPut_some, onGuard_bool, br_true, callK_eq, call_g, retK_some, ev_E, set_E, look_cons, look_nil, cond_true, cond_false, Nat.reduceBEq, Nat.reduceAdd, Nat.reduceSub, if_false, Bool.false_eq_true, Bool.not_true, List.map_cons, List.map_nil, AVal.eval, beq_self_eq_true]
  refine callOk_of (same9 a b sa sb (fun x hx => (okShort (ha2 x hx)).2) (fun x hx => (okShort (hb2 x hx)).2)) ?_
  rintro u ⟨t2, rfl, e2⟩
  have q2 : (t1 == t2) = true := by rw [beq_iff_eq, Bool.eq_iff_iff, e1, e2]
  simp -implicitDefEqProofs only [wOps_cons, val_0, val_g, valK_eq, onPut_some, onGuard_bool, br_true, beq_true', callK_eq, call_g, retK_some, ev_E, ev_c, set_E, look_cons, look_nil, cond_true, cond_false, Nat.reduceBEq, Nat.reduceAdd, Nat.reduceSub, if_true, if_false, Bool.false_eq_true, Bool.not_true, List.map_cons, List.map_nil, AVal.eval, q2]
  refine callOk_of (same6 b a sb sa) ?_
  rintro u ⟨t3, rfl, e3⟩
  have q3 : (t1 == t3) = true := by rw [beq_iff_eq, Bool.eq_iff_iff, e1, e3]; exact Goes.comm
  simp -implicitDefEqProofs only [wOps_cons, val_0, val_g, valK_eq, onPut_some, onGuard_bool, br_true, beq_true', callK_eq, call_g, retK_some, ev_E, ev_c, set_E, look_cons, look_nil, cond_true, cond_false, Nat.reduceBEq, Nat.reduceAdd, Nat.reduceSub, if_true, if_false, Bool.false_eq_true, Bool.not_true, List.map_cons, List.map_nil, AVal.eval, q3]
  refine callOk_of (same6 a a sa sa) ?_
  rintro u ⟨t4, rfl, e4⟩
  simp -implicitDefEqProofs only [wOps_cons, val_g, valK_eq, onPut_some, onGuard_bool, br_true, beq_true', callK_eq, call_g, retK_some, ev_E, set_E, look_cons, look_nil, cond_true, cond_false, Nat.reduceBEq, Nat.reduceAdd, Nat.reduceSub, List.map_cons, List.map_nil, AVal.eval]
  refine callOk_pure (right8 a (by omega) (fun x hx => ⟨by have := sa.next x hx; omega, (okShort (ha2 x hx)).2⟩)) ?_
  have q4 : (t4 == right a) = true := by rw [beq_iff_eq, Bool.eq_iff_iff, e4]; exact Goes.self
  simp -implicitDefEqProofs only [wOps_cons, val_0, val_g, valK_eq, onPut_some, onGuard_bool, br_true, beq_true', callK_eq, call_g, retK_some, ev_E, ev_c, set_E, look_cons, look_nil, cond_true, cond_false, Nat.reduceBEq, Nat.reduceAdd, Nat.reduceSub, if_true, if_false, Bool.false_eq_true, Bool.not_true, List.map_nil, AVal.eval, q4]
  refine callOk_pure awake5 ?_
  simp -implicitDefEqProofs only [W_ret, Thn_normal, wOps_nil, wOps_cons, val_0, valK_eq, onPut_some, retK_some, ev_E, ev_c, set_E, look_cons, look_nil, cond_true, cond_false, Nat.reduceBEq, Nat.reduceAdd, Nat.reduceSub, if_true, AVal.eval]
  refine post1 ?_
  simp -implicitDefEqProofs only [ev_E, look_cons, look_nil, cond_true, cond_false, Nat.reduceBEq, Nat.reduceAdd, Nat.reduceSub]
end TryT
end Go.Abs
