/-
  Contracts: a builder of a graph: one event more.
-/
import Derived.Test.YtfgkfjmbjopfgaaAbsT
import Derived.Test.YtfgkfjmbjopfgaaGsTy
set_option linter.unusedVariables false
set_option linter.unusedSimpArgs false
set_option maxRecDepth 100000
set_option maxHeartbeats 4000000
namespace Go.Abs
open Go
/-- As it is, or a nil slice in place of an empty one. -/
def Nz (a b : V) : Prop := a = b ∨ (a = .nsl ∧ ∃ sz, b = .fsl sz [])
def NzL (cs ds : List V) : Prop := cs.length = ds.length ∧ ∀ (i : Nat) (a b : V), cs[i]? = some a → ds[i]? = some b → Nz a b
theorem Nz.frz {h : Heap} {ids : Nat → Prop} {a b : V} (hn : Nz a b) : Frz h ids a b := by
  rcases hn with rfl | ⟨rfl, sz, rfl⟩
  · exact .same _
  · exact .nsl sz
theorem NzL.refl (cs : List V) : NzL cs cs := ⟨rfl, fun i a b h1 h2 => .inl (by rw [h1] at h2; injection h2)⟩
/-- The slice of next places. -/
def nextV (x : Ev) : Option Nat → V
  | none => .nsl
  | some i => .msl i 0 x.next.length
def slV (ida n : Nat) : V := if n = 0 then .nsl else .msl ida 0 n
/-- A builder: its box, its events, and their next places, each an array of its own. -/
structure Bd (h : Heap) (idb ida : Nat) (ids : List (Option Nat)) (els : List (List V)) (evs : List Ev) : Prop where
  len : ids.length = evs.length
  box : h idb = some (.arr 1 [[slV ida evs.length]])
  arr : 0 < evs.length → h ida = some (.arr 20 els)
  ell : els.length = evs.length
  ev : ∀ (k : Nat) (x : Ev) (i : Option Nat) (cs : List V), evs[k]? = some x → ids[k]? = some i → els[k]? = some cs → ∃ c19, cs = c19 ++ [nextV x i] ∧ NzL c19 x.s.cells
  next : ∀ (k : Nat) (x : Ev) (i : Nat), evs[k]? = some x → ids[k]? = some (some i) → h i = some (.arr 1 (x.next.map intC))
  bare : ∀ (k : Nat) (x : Ev), evs[k]? = some x → ids[k]? = some none → x.next = []
  ne : idb ≠ ida
  neb : some idb ∉ ids
  nea : some ida ∉ ids
  one : ∀ (k m i : Nat), ids[k]? = some (some i) → ids[m]? = some (some i) → k = m
/-- What a builder owns. -/
def Own (idb ida : Nat) (ids : List (Option Nat)) (evs : List Ev) (j : Nat) : Prop := j = idb ∨ (j = ida ∧ 0 < evs.length) ∨ some j ∈ ids
def Kept (h h2 : Heap) (own : Nat → Prop) : Prop := ∀ j b, h j = some b → ¬ own j → h2 j = some b
theorem Bd.there {h : Heap} {idb ida : Nat} {ids : List (Option Nat)} {els : List (List V)} {evs : List Ev} (hb : Bd h idb ida ids els evs) {j : Nat} (hj : Own idb ida ids evs j) : ∃ b, h j = some b := by
  rcases hj with rfl | ⟨rfl, hp⟩ | hj
  · exact ⟨_, hb.box⟩
  · exact ⟨_, hb.arr hp⟩
  · obtain ⟨k, hk, e⟩ := List.getElem_of_mem hj
    obtain ⟨x, hx⟩ : ∃ x, evs[k]? = some x := ⟨_, List.getElem?_eq_getElem (by rw [← hb.len]; exact hk)⟩
    exact ⟨_, hb.next k x j hx (by rw [← e]; exact List.getElem?_eq_getElem hk)⟩
/-- A heap that has the same in what a builder owns. -/
theorem Bd.congr {h h2 : Heap} {idb ida : Nat} {ids : List (Option Nat)} {els : List (List V)} {evs : List Ev} (hb : Bd h idb ida ids els evs) (he : ∀ j, Own idb ida ids evs j → h2 j = h j) : Bd h2 idb ida ids els evs :=
  ⟨hb.len, by rw [he _ (.inl rfl)]; exact hb.box, fun hp => by rw [he _ (.inr (.inl ⟨rfl, hp⟩))]; exact hb.arr hp, hb.ell, hb.ev,
    fun k x i h1 h3 => by rw [he _ (.inr (.inr (List.mem_of_getElem? h3)))]; exact hb.next k x i h1 h3, hb.bare, hb.ne, hb.neb, hb.nea, hb.one⟩
theorem Bd.fresh {h : Heap} {idb ida : Nat} {ids : List (Option Nat)} {els : List (List V)} {evs : List Ev} (hb : Bd h idb ida ids els evs) {j : Nat} (hj : h j = none) : ¬ Own idb ida ids evs j := by
  intro ho
  obtain ⟨b, e⟩ := hb.there ho
  rw [hj] at e; cases e
theorem Bd.alloc {h : Heap} {idb ida : Nat} {ids : List (Option Nat)} {els : List (List V)} {evs : List Ev} (hb : Bd h idb ida ids els evs) {j : Nat} (hj : h j = none) (b : Option Blk) : Bd (h.upd j b) idb ida ids els evs :=
  hb.congr fun k hk => upd_other _ _ (fun e => hb.fresh hj (e ▸ hk))
theorem list19 {cs : List V} (h : cs.length = 19) : ∃ c0 c1 c2 c3 c4 c5 c6 c7 c8 c9 c10 c11 c12 c13 c14 c15 c16 c17 c18, cs = [c0, c1, c2, c3, c4, c5, c6, c7, c8, c9, c10, c11, c12, c13, c14, c15, c16, c17, c18] := by
  match cs, h with
  | [c0, c1, c2, c3, c4, c5, c6, c7, c8, c9, c10, c11, c12, c13, c14, c15, c16, c17, c18], _ => exact ⟨c0, c1, c2, c3, c4, c5, c6, c7, c8, c9, c10, c11, c12, c13, c14, c15, c16, c17, c18, rfl⟩
/-- One more. -/
theorem Bd.push {h h2 : Heap} {idb ida ida2 : Nat} {ids : List (Option Nat)} {els : List (List V)} {evs : List Ev} (hb : Bd h idb ida ids els evs) {x : Ev} {i : Option Nat} {cs : List V} (hcs : NzL cs x.s.cells)
    (hn : i = none → x.next = []) (hi : ∀ j, i = some j → h j = some (.arr 1 (x.next.map intC)) ∧ ¬ Own idb ida ids evs j) (ha2 : h ida2 = none)
    (e1 : h2 idb = some (.arr 1 [[.msl ida2 0 (evs.length + 1)]])) (e2 : h2 ida2 = some (.arr 20 (els ++ [cs ++ [nextV x i]]))) (e3 : ∀ j b, h j = some b → j ≠ idb → (j = ida → evs.length = 0) → h2 j = some b) :
    Bd h2 idb ida2 (ids ++ [i]) (els ++ [cs ++ [nextV x i]]) (evs ++ [x]) ∧ Kept h h2 (Own idb ida ids evs) := by
  have hlen := hb.len
  have hell := hb.ell
  have hnida : ∀ (k : Nat) (m : Nat), ids[k]? = some (some m) → h2 m = h m := by
    intro k m hk
    have ho : Own idb ida ids evs m := .inr (.inr (List.mem_of_getElem? hk))
    obtain ⟨b, hbm⟩ := hb.there ho
    rw [hbm]
    refine e3 m b hbm (fun e => hb.neb (by rw [← e]; exact List.mem_of_getElem? hk)) (fun e => (hb.nea (by rw [← e]; exact List.mem_of_getElem? hk)).elim)
  have hi2 : ∀ j, i = some j → h2 j = some (.arr 1 (x.next.map intC)) := by
    intro j hj
    obtain ⟨q1, q2⟩ := hi j hj
    refine e3 j _ q1 (fun e => q2 (.inl e)) (fun e => ?_)
    rcases Nat.eq_zero_or_pos evs.length with h0 | h0
    · exact h0
    · exact (q2 (.inr (.inl ⟨e, h0⟩))).elim
  have hown2 : ∀ j, Own idb ida ids evs j → j ≠ ida2 := fun j hj e => hb.fresh ha2 (e ▸ hj)
  refine ⟨⟨by simp [hlen], ?_, fun _ => e2, by simp [hell], ?_, ?_, ?_, hown2 _ (.inl rfl), ?_, ?_, ?_⟩, fun j b hj hno => e3 j b hj (fun e => hno (.inl e)) (fun e => ?_)⟩
  · rw [e1]; simp [slV]
  · intro k y i' cs' h1 h3 h4
    by_cases hk : k < evs.length
    · rw [List.getElem?_append_left hk] at h1
      rw [List.getElem?_append_left (by omega)] at h3 h4
      exact hb.ev k y i' cs' h1 h3 h4
    · have hk2 : k = evs.length := by have := (List.getElem?_eq_some_iff.1 h1).1; simp at this; omega
      subst hk2
      rw [List.getElem?_append_right (by omega)] at h1 h3 h4
      rw [hlen] at h3; rw [hell] at h4
      simp at h1 h3 h4
      subst h1; subst h3; subst h4
      exact ⟨cs, rfl, hcs⟩
  · intro k y m h1 h3
    by_cases hk : k < evs.length
    · rw [List.getElem?_append_left hk] at h1
      rw [List.getElem?_append_left (by omega)] at h3
      rw [hnida k m h3]
      exact hb.next k y m h1 h3
    · have hk2 : k = evs.length := by have := (List.getElem?_eq_some_iff.1 h1).1; simp at this; omega
      subst hk2
      rw [List.getElem?_append_right (by omega)] at h1 h3
      rw [hlen] at h3
      simp at h1 h3
      subst h1
      exact hi2 m h3
  · intro k y h1 h3
    by_cases hk : k < evs.length
    · rw [List.getElem?_append_left hk] at h1
      rw [List.getElem?_append_left (by omega)] at h3
      exact hb.bare k y h1 h3
    · have hk2 : k = evs.length := by have := (List.getElem?_eq_some_iff.1 h1).1; simp at this; omega
      subst hk2
      rw [List.getElem?_append_right (by omega)] at h1 h3
      rw [hlen] at h3
      simp at h1 h3
      subst h1
      exact hn h3
  · intro hm
    rcases List.mem_append.1 hm with hm | hm
    · exact hb.neb hm
    · simp at hm; exact (hi idb hm.symm).2 (.inl rfl)
  · intro hm
    rcases List.mem_append.1 hm with hm | hm
    · exact hown2 ida2 (.inr (.inr hm)) rfl
    · simp at hm
      have := (hi ida2 hm.symm).1
      rw [ha2] at this; cases this
  · intro k m j h1 h3
    have hlt : ∀ {k : Nat}, (ids ++ [i])[k]? = some (some j) → ids[k]? = some (some j) ∨ (k = ids.length ∧ i = some j) := by
      intro k hk
      by_cases h5 : k < ids.length
      · rw [List.getElem?_append_left h5] at hk; exact .inl hk
      · have h6 : k = ids.length := by have := (List.getElem?_eq_some_iff.1 hk).1; simp at this; omega
        subst h6
        rw [List.getElem?_append_right (by omega)] at hk
        simp at hk
        exact .inr ⟨rfl, hk⟩
    rcases hlt h1 with q1 | ⟨q1, q2⟩
    · rcases hlt h3 with q3 | ⟨q3, q4⟩
      · exact hb.one k m j q1 q3
      · exact ((hi j q4).2 (.inr (.inr (List.mem_of_getElem? q1)))).elim
    · rcases hlt h3 with q3 | ⟨q3, q4⟩
      · exact ((hi j q2).2 (.inr (.inr (List.mem_of_getElem? q3)))).elim
      · omega
  · rcases Nat.eq_zero_or_pos evs.length with h0 | h0
    · exact h0
    · exact (hno (.inr (.inl ⟨e, h0⟩))).elim
namespace TryT
theorem add19 {h : Heap} {idb ida : Nat} {ids : List (Option Nat)} {els : List (List V)} {evs : List Ev} (hb : Bd h idb ida ids els evs) (cs : List V) (x : Ev) (i : Option Nat) (hcs : NzL cs x.s.cells)
    (hn : i = none → x.next = []) (hi : ∀ j, i = some j → h j = some (.arr 1 (x.next.map intC)) ∧ ¬ Own idb ida ids evs j) (hl : evs.length < 1000000) (R : V → Heap → Prop)
    (hR : ∀ (ida2 : Nat) (h2 : Heap), h ida2 = none → Bd h2 idb ida2 (ids ++ [i]) (els ++ [cs ++ [nextV x i]]) (evs ++ [x]) → Kept h h2 (Own idb ida ids evs) → R (.int .i64 evs.length) h2) :
    Ret prog 19 [.ep idb 0 0, .agg cs, nextV x i] h R := by
  have hc19 : cs.length = 19 := by rw [hcs.1, St.cells_cs]; rfl
  have hbox := hb.box
  generalize hnv : nextV x i = nv at hR ⊢
  have hnvc : cellsOf nv = some [nv] := by rw [← hnv]; cases i <;> rfl
  obtain ⟨c0, c1, c2, c3, c4, c5, c6, c7, c8, c9, c10, c11, c12, c13, c14, c15, c16, c17, c18, rfl⟩ := list19 hc19
  refine Ret.by_text rfl rfl ?_
  simp -implicitDefEqProofs only [number, W_region, W_seq, Thn_normal, wOps_nil, wOps_cons, val_0, valK_eq, onPut_some, box_0, onCells_some, boxK_eq, ev_E, ev_c, set_E, set_B, getD_B, look_cons, look_nil, lookB_nil, cond_true, cond_false, Nat.reduceBEq, Nat.reduceAdd, Nat.reduceSub, if_false, Bool.false_eq_true, true_and, List.length_cons, List.length_nil, AVal.eval, cellsOf_agg, loadOf, cellsAt, partOf, a19]
  intro g
  simp -implicitDefEqProofs only [wOps_cons, val_0, valK_eq, onPut_some, onCells_some, bsl_0, bslK_eq, fill, range_one, rep_one, app_0, ev_E, set_E, getD_B, look_cons, lookB_cons, look_nil, lookB_nil, cond_true, cond_false, Nat.reduceBEq, Nat.reduceAdd, Nat.reduceSub, Nat.reduceMul, Nat.reduceLeDiff, if_true, over, List.append_nil, and_self, List.getElem?_cons_zero, List.length_cons, List.length_nil, List.drop_succ_cons, List.drop_zero, List.take_succ_cons, List.take_zero, List.take_nil, List.drop_nil, List.map_cons, List.map_nil, List.nil_append, List.cons_append, AVal.eval, cellsOf_agg, Option.map_some, loadOf, cellsAt, boxOf, partOf, hbox, hnvc]
  intro idt hidt
  have n1 : idb ≠ idt := ne_of_some hbox hidt
  simp -implicitDefEqProofs only [onEls_some, Nat.reduceAdd, Nat.reduceLeDiff, if_true, List.length_cons, List.length_nil, List.drop_zero, List.take_succ_cons, List.take_nil, elemsOf, upd_self]
  have hfin : ∀ (ida2 : Nat) (h2 : Heap), h ida2 = none → h2 idb = some (.arr 1 [[.msl ida2 0 (evs.length + 1)]]) → h2 ida2 = some (.arr 20 (els ++ [[c0, c1, c2, c3, c4, c5, c6, c7, c8, c9, c10, c11, c12, c13, c14, c15, c16, c17, c18] ++ [nextV x i]])) → (∀ j b, h j = some b → j ≠ idb → (j = ida → evs.length = 0) → h2 j = some b) → R (.int .i64 evs.length) h2 := by
    intro ida2 h2 q1 q2 q3 q4
    obtain ⟨p1, p2⟩ := hb.push hcs hn hi q1 q2 q3 q4
    rw [hnv] at p1
    exact hR ida2 h2 q1 p1 p2
  have hw : IntKind.i64.wrap (((evs.length + 1 : Nat) : Int) - 1) = (evs.length : Int) := wrap_pred (by omega)
  rcases Nat.eq_zero_or_pos evs.length with h0 | h0
  · have hels : els = [] := List.eq_nil_of_length_eq_zero (by rw [hb.ell, h0])
    rw [slV, if_pos h0]
    refine appK_nil (by simp) (by simp) (by simp) ?_
    intro ida2 hida2
    have n2 : idb ≠ ida2 := ne_of_some (by rw [upd_other _ _ n1]; exact hbox) hida2
    have n3 : ida2 ≠ idt := by intro e; subst e; rw [upd_self] at hida2; cases hida2
    have hida3 : h ida2 = none := by rw [← hida2, upd_other _ _ n3]
    rw [h0] at hbox hfin
    simp -implicitDefEqProofs only [W_region, W_seq, W_ret, Thn_normal, wOps_nil, wOps_cons, val_0, valK_eq, onPut_some, st_0, stK_eq, onS_some, ev_E, ev_c, set_E, look_cons, look_nil, cond_true, cond_false, Nat.reduceBEq, Nat.reduceAdd, Nat.reduceSub, Nat.reduceLeDiff, if_true, if_false, storeOf, storeCells, over, List.append_nil, Bool.false_eq_true, and_self, List.getElem?_cons_zero, List.length_cons, List.length_nil, List.drop_succ_cons, List.drop_zero, List.take_succ_cons, List.take_zero, List.take_nil, List.drop_nil, List.set_cons_zero, List.nil_append, AVal.eval, cellsOf_msl, loadOf, cellsAt, partOf, binOf, intOf, upd_other _ _ n2, upd_other _ _ n1, hbox, slV, upd_self, show IntKind.i64.wrap (((1 : Nat) : Int) - 1) = ((0 : Nat) : Int) from rfl]
    refine post1 ?_
    simp -implicitDefEqProofs only [ev_E, look_cons, look_nil, cond_true, cond_false, Nat.reduceBEq, Nat.reduceAdd, Nat.reduceSub]
    refine hfin ida2 _ hida3 ?_ ?_ fun j b hj hne _ => ?_
    · rw [upd_self]
    · rw [upd_other _ _ (Ne.symm n2), upd_self, hels, hnv]; rfl
    · rw [upd_other _ _ hne, upd_other _ _ (ne_of_some hj hida3), upd_other _ _ (ne_of_some hj hidt)]; exact hj
  · have hpos : evs.length ≠ 0 := by omega
    have harr := hb.arr h0
    have hell := hb.ell
    have n4 : ida ≠ idt := ne_of_some harr hidt
    rw [slV, if_neg hpos]
    refine appK_msl (els := els) (by rw [upd_other _ _ n4, harr]) (by simp) (by omega) (by simp only [List.length_cons, List.length_nil]; omega) ?_
    intro ida2 hida2 hne2
    have n2 : idb ≠ ida2 := ne_of_some (by rw [upd_other _ _ n1]; exact hbox) hida2
    have n3 : ida2 ≠ idt := by intro e; subst e; rw [upd_self] at hida2; cases hida2
    have hida3 : h ida2 = none := by rw [← hida2, upd_other _ _ n3]
    rw [slV, if_neg hpos] at hbox
    simp -implicitDefEqProofs only [W_region, W_seq, W_ret, Thn_normal, wOps_nil, wOps_cons, val_0, valK_eq, onPut_some, st_0, stK_eq, onS_some, ev_E, ev_c, set_E, look_cons, look_nil, cond_true, cond_false, Nat.reduceBEq, Nat.reduceAdd, Nat.reduceSub, Nat.reduceLeDiff, if_true, if_false, storeOf, storeCells, over, List.append_nil, Bool.false_eq_true, and_self, List.getElem?_cons_zero, List.length_cons, List.length_nil, List.drop_succ_cons, List.take_zero, List.drop_nil, List.set_cons_zero, List.nil_append, AVal.eval, cellsOf_msl, loadOf, cellsAt, partOf, binOf, intOf, upd_other _ _ n2, upd_other _ _ n1, upd_other _ _ hb.ne, hbox, upd_self, hw]
    refine post1 ?_
    simp -implicitDefEqProofs only [ev_E, look_cons, look_nil, cond_true, cond_false, Nat.reduceBEq, Nat.reduceAdd, Nat.reduceSub, List.drop_zero]
    refine hfin ida2 _ hida3 ?_ ?_ fun j b hj hne hj0 => ?_
    · rw [upd_self]
    · rw [upd_other _ _ (Ne.symm n2), upd_self, hnv, List.take_of_length_le (by omega)]; rfl
    · rw [upd_other _ _ hne, upd_other _ _ (ne_of_some hj hida3), upd_other _ _ (fun e => hpos (hj0 e)), upd_other _ _ (ne_of_some hj hidt)]; exact hj
end TryT
end Go.Abs
