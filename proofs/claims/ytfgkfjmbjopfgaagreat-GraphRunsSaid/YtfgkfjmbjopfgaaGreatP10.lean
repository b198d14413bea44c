/-
  A part of the proof. Conditions: none.
-/
import Derived.Test.YtfgkfjmbjopfgaaGreatP9
set_option linter.unusedVariables false
set_option linter.unusedSimpArgs false
set_option maxRecDepth 100000
set_option maxHeartbeats 16000000
open Nat renaming reduceBEq → rB, reduceAdd → rA, reduceSub → rS, reduceLeDiff → rL, reduceMul → rM
open Int renaming reduceLE → jL, reduceToNat → jN, reduceLT → jT, reduceGT → jG
open List renaming getElem?_eq_getElem → lG, getElem?_eq_some_iff → lS, mem_of_getElem? → lM, mem_cons_self → lC, mem_cons_of_mem → lK
namespace Go.Abs
open Go
theorem i01 : ((0 : Int) < ((1 : Nat) : Int)) = True := by simp
theorem i02 : ((0 : Int) < ((2 : Nat) : Int)) = True := by simp
theorem i12 : ((1 : Int) < ((2 : Nat) : Int)) = True := by simp
namespace TryzT
theorem one_8 (d : Nat) (x : St) (hk : x.kind = 8) (e n : Int) (ihB : ∀ e n, ∀ y ∈ x.body, OneOk (gOne d e n) e n y) : OneOk (gOne (d + 1) e n) e n x := by
 intro b h idb ida ids els evs hb hl R hR
 have hcx := x.cnt_eq
 have k12 : ¬ x.kind = 12 := by omega
 have k13 : ¬ x.kind = 13 := by omega
 have k14 : ¬ x.kind = 14 := by omega
 have k7 : ¬ x.kind = 7 := by omega
 have k11 : ¬ x.kind = 11 := by omega
 simp only [gOne, k12, k13, k14, k7, k11, if_false] at hR
 rw [if_pos hk] at hR
 simp only [] at hR
 have f12 : (x.kind == 12) = false := by simpa using k12
 have f13 : (x.kind == 13) = false := by simpa using k13
 have f14 : (x.kind == 14) = false := by simpa using k14
 have f7 : (x.kind == 7) = false := by simpa using k7
 have f11 : (x.kind == 11) = false := by simpa using k11
 have f8 : (x.kind == 8) = true := by simpa using hk
 have l1 := gFold_len (gOne_len d b evs.length) x.body (evs ++ [⟨bareK 7 x, [0, b]⟩]) evs.length
 have x1 := gFold_ext (gOne_ext d b evs.length) x.body (evs ++ [⟨bareK 7 x, [0, b]⟩]) evs.length
 have hget := x1.get (i := evs.length) (x := ⟨bareK 7 x, [0, b]⟩) (by simp)
 rw [List.length_append, List.length_cons, List.length_nil] at l1
 refine Ret.by_text rfl rfl ?_
 simp -implicitDefEqProofs only [go_sem, rB, rA, rS, rL, a48, St.cellsOf_v, St.cs, placeV]
 intro g1 g2 g3 g4
 simp -implicitDefEqProofs only [go_sem, rB, rA, rS, rM, rL, f12, f13, f14, f7, f11, f8]
 intro idn hidn
 refine .inl (add19 (hb.alloc hidn _) _ ⟨bareK 7 x, [0, b]⟩ (some idn) (bare_nz 7 x.cost x rfl) (fun h => by cases h) (fun j hj => by
  injection hj with hj; subst hj
  exact ⟨by rw [upd_self]; rfl, hb.fresh hidn⟩) (by omega) _ fun ida1 h1 q1 q2 q3 => ?_)
 have hb1 := Built.push hidn q1 q2 q3
 obtain ⟨ida1', ids1, els1, p1, p2, p3⟩ := hb1
 simp -implicitDefEqProofs only [go_sem, rB, rA, rS, rL]
 refine .inl (list20 (gOne d b evs.length) (gOne_len d b evs.length) b evs.length x.body (ihB b evs.length) evs.length h1 idb ida1' ids1 els1 _ p1 (by rw [List.length_append, List.length_cons, List.length_nil]; omega) _ fun h2 hb2 => ?_)
 have hb3 := Built.trans p2 p3 hb2
 clear hb2 p1 p2 p3 q1 q2 q3
 generalize hr : gFold (gOne d b evs.length) x.body (evs ++ [⟨bareK 7 x, [0, b]⟩]) evs.length = r at hR hget hb3 l1 ⊢
 obtain ⟨evs2, v⟩ := r
 simp only [] at hR hget hb3 l1
 obtain ⟨ida2, ids2, els2, s1, s2, s3⟩ := hb3
 have hlt := (lS.1 hget).1
 obtain ⟨i, cs, c19, t1, t2, rfl, t4, t5, t6, t7, t8, t9⟩ := s1.store hget (c := 0) (by simp) v
 have hc19 : c19.length = 19 := by rw [t4.1, St.cells_cs]; rfl
 obtain ⟨c0, c1, c2, c3, c4, c5, c6, c7, c8, c9, c10, c11, c12, c13, c14, c15, c16, c17, c18, rfl⟩ := list19 hc19
 have hbox := s1.box2 (by omega)
 have harr := s1.arr (by omega)
 have hpi : ((evs.length : Int) < (evs2.length : Int)) = True := eq_true (by omega)
 have hst := Built.store t9 t6
 simp -implicitDefEqProofs only [go_sem, rB, rA, rS, rL, jL, jN, hbox, harr, hpi, t2, t5, intC, i02, upd_other _ _ (Ne.symm t7), upd_other _ _ (Ne.symm t8), Nat.zero_add]
 refine post1 ?_
 simp -implicitDefEqProofs only [go_sem, rB, rA, rS]
 exact hR _ (Built.trans s2 s3 hst)

theorem one_9 (d : Nat) (x : St) (hk : x.kind = 9) (e n : Int) (ihB : ∀ e n, ∀ y ∈ x.body, OneOk (gOne d e n) e n y) : OneOk (gOne (d + 1) e n) e n x := by
 intro b h idb ida ids els evs hb hl R hR
 have hcx := x.cnt_eq
 have k12 : ¬ x.kind = 12 := by omega
 have k13 : ¬ x.kind = 13 := by omega
 have k14 : ¬ x.kind = 14 := by omega
 have k7 : ¬ x.kind = 7 := by omega
 have k11 : ¬ x.kind = 11 := by omega
 have k8 : ¬ x.kind = 8 := by omega
 simp only [gOne, k12, k13, k14, k7, k11, k8, if_false] at hR
 rw [if_pos hk] at hR
 simp only [] at hR
 have f12 : (x.kind == 12) = false := by simpa using k12
 have f13 : (x.kind == 13) = false := by simpa using k13
 have f14 : (x.kind == 14) = false := by simpa using k14
 have f7 : (x.kind == 7) = false := by simpa using k7
 have f11 : (x.kind == 11) = false := by simpa using k11
 have f8 : (x.kind == 8) = false := by simpa using k8
 have f9 : (x.kind == 9) = true := by simpa using hk
 have l1 := gFold_len (gOne_len d b evs.length) x.body (evs ++ [⟨zeroS 0 0, [0]⟩]) evs.length
 have x1 := gFold_ext (gOne_ext d b evs.length) x.body (evs ++ [⟨zeroS 0 0, [0]⟩]) evs.length
 have hget := x1.get (i := evs.length) (x := ⟨zeroS 0 0, [0]⟩) (by simp)
 rw [List.length_append, List.length_cons, List.length_nil] at l1
 refine Ret.by_text rfl rfl ?_
 simp -implicitDefEqProofs only [go_sem, rB, rA, rS, rL, a48, St.cellsOf_v, St.cs, placeV]
 intro g1 g2 g3 g4
 simp -implicitDefEqProofs only [go_sem, rB, rA, rS, rM, rL, f12, f13, f14, f7, f11, f8, f9]
 intro idn hidn
 refine .inl (add19 (hb.alloc hidn _) _ ⟨zeroS 0 0, [0]⟩ (some idn) (skip_nz 0 0) (fun h => by cases h) (fun j hj => by
  injection hj with hj; subst hj
  exact ⟨by rw [upd_self]; rfl, hb.fresh hidn⟩) (by omega) _ fun ida1 h1 q1 q2 q3 => ?_)
 have hb1 := Built.push hidn q1 q2 q3
 obtain ⟨ida1', ids1, els1, p1, p2, p3⟩ := hb1
 simp -implicitDefEqProofs only [go_sem, rB, rA, rS, rL]
 refine .inl (list20 (gOne d b evs.length) (gOne_len d b evs.length) b evs.length x.body (ihB b evs.length) evs.length h1 idb ida1' ids1 els1 _ p1 (by rw [List.length_append, List.length_cons, List.length_nil]; omega) _ fun h2 hb2 => ?_)
 have hb3 := Built.trans p2 p3 hb2
 clear hb2 p1 p2 p3 q1 q2 q3
 generalize hr : gFold (gOne d b evs.length) x.body (evs ++ [⟨zeroS 0 0, [0]⟩]) evs.length = r at hR hget hb3 l1 ⊢
 obtain ⟨evs2, v⟩ := r
 simp only [] at hR hget hb3 l1
 obtain ⟨ida2, ids2, els2, s1, s2, s3⟩ := hb3
 have hlt := (lS.1 hget).1
 obtain ⟨i, cs, c19, t1, t2, rfl, t4, t5, t6, t7, t8, t9⟩ := s1.store hget (c := 0) (by simp) v
 have hc19 : c19.length = 19 := by rw [t4.1, St.cells_cs]; rfl
 obtain ⟨c0, c1, c2, c3, c4, c5, c6, c7, c8, c9, c10, c11, c12, c13, c14, c15, c16, c17, c18, rfl⟩ := list19 hc19
 have hbox := s1.box2 (by omega)
 have harr := s1.arr (by omega)
 have hpi : ((evs.length : Int) < (evs2.length : Int)) = True := eq_true (by omega)
 have hst := Built.store t9 t6
 simp -implicitDefEqProofs only [go_sem, rB, rA, rS, rL, jL, jN, hbox, harr, hpi, t2, t5, intC, i01, upd_other _ _ (Ne.symm t7), upd_other _ _ (Ne.symm t8), Nat.zero_add]
 refine post1 ?_
 simp -implicitDefEqProofs only [go_sem, rB, rA, rS]
 exact hR _ (Built.trans s2 s3 hst)

theorem one_10 (d : Nat) (x : St) (hk : x.kind = 10) (e n : Int) (ihB : ∀ e n, ∀ y ∈ x.body, OneOk (gOne d e n) e n y) : OneOk (gOne (d + 1) e n) e n x := by
 intro b h idb ida ids els evs hb hl R hR
 have hcx := x.cnt_eq
 have k12 : ¬ x.kind = 12 := by omega
 have k13 : ¬ x.kind = 13 := by omega
 have k14 : ¬ x.kind = 14 := by omega
 have k7 : ¬ x.kind = 7 := by omega
 have k11 : ¬ x.kind = 11 := by omega
 have k8 : ¬ x.kind = 8 := by omega
 have k9 : ¬ x.kind = 9 := by omega
 simp only [gOne, k12, k13, k14, k7, k11, k8, k9, if_false] at hR
 rw [if_pos hk] at hR
 simp only [] at hR
 have f12 : (x.kind == 12) = false := by simpa using k12
 have f13 : (x.kind == 13) = false := by simpa using k13
 have f14 : (x.kind == 14) = false := by simpa using k14
 have f7 : (x.kind == 7) = false := by simpa using k7
 have f11 : (x.kind == 11) = false := by simpa using k11
 have f8 : (x.kind == 8) = false := by simpa using k8
 have f9 : (x.kind == 9) = false := by simpa using k9
 have f10 : (x.kind == 10) = true := by simpa using hk
 have l1 := gFold_len (gOne_len d b evs.length) x.body (evs ++ [⟨bareK 7 x, [b, 0]⟩]) evs.length
 have x1 := gFold_ext (gOne_ext d b evs.length) x.body (evs ++ [⟨bareK 7 x, [b, 0]⟩]) evs.length
 have hget := x1.get (i := evs.length) (x := ⟨bareK 7 x, [b, 0]⟩) (by simp)
 rw [List.length_append, List.length_cons, List.length_nil] at l1
 refine Ret.by_text rfl rfl ?_
 simp -implicitDefEqProofs only [go_sem, rB, rA, rS, rL, a48, St.cellsOf_v, St.cs, placeV]
 intro g1 g2 g3 g4
 simp -implicitDefEqProofs only [go_sem, rB, rA, rS, rM, rL, f12, f13, f14, f7, f11, f8, f9, f10]
 intro idn hidn
 refine .inl (add19 (hb.alloc hidn _) _ ⟨bareK 7 x, [b, 0]⟩ (some idn) (bare_nz 7 x.cost x rfl) (fun h => by cases h) (fun j hj => by
  injection hj with hj; subst hj
  exact ⟨by rw [upd_self]; rfl, hb.fresh hidn⟩) (by omega) _ fun ida1 h1 q1 q2 q3 => ?_)
 have hb1 := Built.push hidn q1 q2 q3
 obtain ⟨ida1', ids1, els1, p1, p2, p3⟩ := hb1
 simp -implicitDefEqProofs only [go_sem, rB, rA, rS, rL]
 refine .inl (list20 (gOne d b evs.length) (gOne_len d b evs.length) b evs.length x.body (ihB b evs.length) evs.length h1 idb ida1' ids1 els1 _ p1 (by rw [List.length_append, List.length_cons, List.length_nil]; omega) _ fun h2 hb2 => ?_)
 have hb3 := Built.trans p2 p3 hb2
 clear hb2 p1 p2 p3 q1 q2 q3
 generalize hr : gFold (gOne d b evs.length) x.body (evs ++ [⟨bareK 7 x, [b, 0]⟩]) evs.length = r at hR hget hb3 l1 ⊢
 obtain ⟨evs2, v⟩ := r
 simp only [] at hR hget hb3 l1
 obtain ⟨ida2, ids2, els2, s1, s2, s3⟩ := hb3
 have hlt := (lS.1 hget).1
 obtain ⟨i, cs, c19, t1, t2, rfl, t4, t5, t6, t7, t8, t9⟩ := s1.store hget (c := 1) (by simp) v
 have hc19 : c19.length = 19 := by rw [t4.1, St.cells_cs]; rfl
 obtain ⟨c0, c1, c2, c3, c4, c5, c6, c7, c8, c9, c10, c11, c12, c13, c14, c15, c16, c17, c18, rfl⟩ := list19 hc19
 have hbox := s1.box2 (by omega)
 have harr := s1.arr (by omega)
 have hpi : ((evs.length : Int) < (evs2.length : Int)) = True := eq_true (by omega)
 have hst := Built.store t9 t6
 simp -implicitDefEqProofs only [go_sem, rB, rA, rS, rL, jL, jN, hbox, harr, hpi, t2, t5, intC, i12, upd_other _ _ (Ne.symm t7), upd_other _ _ (Ne.symm t8), upd_self, Nat.zero_add]
 refine post1 ?_
 simp -implicitDefEqProofs only [go_sem, rB, rA, rS]
 exact hR _ (Built.trans s2 s3 hst)
end TryzT
end Go.Abs
namespace Go.Abs
open Go
theorem topL_ge (l : List Int) : ∀ n : Int, n ≤ topL l n := by
 induction l with
 | nil => exact fun n => Int.le_refl _
 | cons k l ih =>
  intro n
  simp only [topL, List.foldl_cons]
  refine Int.le_trans ?_ (ih _)
  split
  ·split <;> omega
  ·omega
theorem topL_mem {l : List Int} {k : Int} (hk : k ∈ l) (hb : lab k = true) : ∀ n : Int, k + 1 ≤ topL l n := by
 induction l with
 | nil => cases hk
 | cons y l ih =>
  intro n
  simp only [topL, List.foldl_cons]
  rcases List.mem_cons.1 hk with rfl | hk
  ·refine Int.le_trans ?_ (topL_ge l _)
   rw [if_pos hb]
   split <;> omega
  ·exact ih hk _
theorem topL_le (l : List Int) : ∀ n : Int, n ≤ 256 → topL l n ≤ 256 := by
 induction l with
 | nil => exact fun n h => h
 | cons k l ih =>
  intro n h
  simp only [topL, List.foldl_cons]
  refine ih _ ?_
  split
  ·rename_i hb
   simp [lab] at hb
   split <;> omega
  ·exact h
theorem topA_ge (l : List Am) : ∀ n : Int, n ≤ topA l n := by
 induction l with
 | nil => exact fun n => Int.le_refl _
 | cons a l ih => exact fun n => Int.le_trans (topL_ge a.labels n) (ih _)
theorem topA_le (l : List Am) : ∀ n : Int, n ≤ 256 → topA l n ≤ 256 := by
 induction l with
 | nil => exact fun n h => h
 | cons a l ih => exact fun n h => ih _ (topL_le a.labels n h)
theorem topA_mem {l : List Am} {a : Am} (ha : a ∈ l) {k : Int} (hk : k ∈ a.labels) (hb : lab k = true) : ∀ n : Int, k + 1 ≤ topA l n := by
 induction l with
 | nil => cases ha
 | cons y l ih =>
  intro n
  rcases List.mem_cons.1 ha with rfl | ha
  ·exact Int.le_trans (topL_mem hk hb n) (topA_ge l _)
  ·exact ih ha _
theorem topA_at {l : List Am} {i : Nat} {a : Am} (h : l[i]? = some a) (n : Int) : topA (l.drop i) n = topA (l.drop (i + 1)) (topL a.labels n) := by
 obtain ⟨h1, e⟩ := lS.1 h
 rw [List.drop_eq_getElem_cons h1, e]; rfl
theorem topL_at {l : List Int} {i : Nat} {k : Int} (h : l[i]? = some k) (n : Int) : topL (l.drop i) n = topL (l.drop (i + 1)) (if lab k = true then (if k + 1 > n then k + 1 else n) else n) := by
 obtain ⟨h1, e⟩ := lS.1 h
 rw [List.drop_eq_getElem_cons h1, e]; rfl
theorem setL_at {l : List Int} {i : Nat} {k : Int} (h : l[i]? = some k) (v : Int) (nx : List Int) : setL (l.drop i) v nx = setL (l.drop (i + 1)) v (if lab k = true then nx.set k.toNat v else nx) := by
 obtain ⟨h1, e⟩ := lS.1 h
 rw [List.drop_eq_getElem_cons h1, e]; rfl
theorem gArms_at {f : OneF} {b : Int} {l : List Am} {i : Nat} {a : Am} (h : l[i]? = some a) (evs : List Ev) (nx : List Int) : gArms f b (l.drop i) evs nx = gArms f b (l.drop (i + 1)) (gFold f a.body evs b).1 (setL a.labels (gFold f a.body evs b).2 nx) := by
 obtain ⟨h1, e⟩ := lS.1 h
 rw [List.drop_eq_getElem_cons h1, e]; rfl
theorem setL_len (l : List Int) (v : Int) : ∀ nx : List Int, (setL l v nx).length = nx.length := by
 induction l with
 | nil => exact fun nx => rfl
 | cons k l ih =>
  intro nx
  simp only [setL, List.foldl_cons] at ih ⊢
  rw [ih]
  split <;> simp
def fillL (v : Int) (m j : Nat) : List Int := List.replicate j v ++ List.replicate (m - j) 0
theorem fillL_zero (v : Int) (m : Nat) : fillL v m 0 = List.replicate m 0 := by simp [fillL]
theorem fillL_all (v : Int) (m : Nat) : fillL v m m = List.replicate m v := by simp [fillL]
theorem fillL_len (v : Int) (m j : Nat) (h : j ≤ m) : (fillL v m j).length = m := by simp [fillL]; omega
theorem fillL_set (v : Int) (m j : Nat) (h : j < m) : (fillL v m j).set j v = fillL v m (j + 1) := by
 obtain ⟨t, rfl⟩ : ∃ t, m = j + (t + 1) := ⟨m - j - 1, by omega⟩
 unfold fillL
 rw [show j + (t + 1) - j = t + 1 by omega, show j + (t + 1) - (j + 1) = t by omega, List.set_append, List.replicate_succ' (n := j), List.replicate_succ (n := t)]
 simp
structure Beside (h0 : Heap) (idb : Nat) (own0 : Nat → Prop) (evs : List Ev) (idn : Nat) (nx : List Int) (h : Heap) (ida : Nat) (ids : List (Option Nat)) (els : List (List V)) : Prop where
 bd : Bd h idb ida ids els evs
 kept : Kept h0 h own0
 own : ∀ j, Own idb ida ids evs j → own0 j ∨ h0 j = none
 fresh : own0 idn ∨ h0 idn = none
 nx : h idn = some (.arr 1 (nx.map intC))
 no : ¬ Own idb ida ids evs idn
theorem Beside.list {h0 h h2 : Heap} {idb : Nat} {own0 : Nat → Prop} {evs evs2 : List Ev} {idn : Nat} {nx : List Int} {ida : Nat} {ids : List (Option Nat)} {els : List (List V)} (hb : Beside h0 idb own0 evs idn nx h ida ids els) (h2b : Built h idb (Own idb ida ids evs) evs2 h2) : ∃ ida2 ids2 els2, Beside h0 idb own0 evs2 idn nx h2 ida2 ids2 els2 := by
 have ht := Built.trans hb.kept hb.own h2b
 obtain ⟨ida2, ids2, els2, q1, q2, q3⟩ := h2b
 refine ⟨ida2, ids2, els2, q1, ?_, ?_, hb.fresh, q2 _ _ hb.nx hb.no, fun ho => ?_⟩
 ·intro j b hj hn
  exact q2 j b (hb.kept j b hj hn) (fun hh => by
   rcases hb.own j hh with h | h
   ·exact hn h
   ·rw [hj] at h; cases h)
 ·intro j hj
  rcases q3 j hj with h | h
  ·exact hb.own j h
  ·by_cases e : own0 j
   ·exact .inl e
   ·refine .inr ?_
    cases e2 : h0 j with
    | none => rfl
    | some b => rw [hb.kept j b e2 e] at h; cases h
 ·rcases q3 idn ho with h | h
  ·exact hb.no h
  ·rw [hb.nx] at h; cases h
theorem Beside.set {h0 h : Heap} {idb : Nat} {own0 : Nat → Prop} {evs : List Ev} {idn : Nat} {nx nx2 : List Int} {ida : Nat} {ids : List (Option Nat)} {els : List (List V)} (hb : Beside h0 idb own0 evs idn nx h ida ids els) {c : List (List V)} (hc : c = nx2.map intC) : Beside h0 idb own0 evs idn nx2 (h.upd idn (some (.arr 1 c))) ida ids els := by
 subst hc
 exact ⟨hb.bd.congr fun k hk => upd_other _ _ (fun e => hb.no (e ▸ hk)), fun j b hj hn => by
  have hne : j ≠ idn := fun e => by
   subst e
   rcases hb.fresh with h | h
   ·exact hn h
   ·rw [hj] at h; cases h
  rw [upd_other _ _ hne]; exact hb.kept j b hj hn, hb.own, hb.fresh, upd_self _ _ _, hb.no⟩
theorem Beside.push {h0 h h2 : Heap} {idb : Nat} {own0 : Nat → Prop} {evs evs2 : List Ev} {idn : Nat} {nx : List Int} {ida ida2 : Nat} {ids : List (Option Nat)} {els els2 : List (List V)} (hb : Beside h0 idb own0 evs idn nx h ida ids els) (q1 : h ida2 = none) (q2 : Bd h2 idb ida2 (ids ++ [some idn]) els2 evs2) (q3 : Kept h h2 (Own idb ida ids evs)) : Built h0 idb own0 evs2 h2 := by
 refine ⟨ida2, _, _, q2, fun j b hj hn => q3 j b (hb.kept j b hj hn) (fun hh => ?_), fun j hj => ?_⟩
 ·rcases hb.own j hh with h | h
  ·exact hn h
  ·rw [hj] at h; cases h
 ·rcases hj with rfl | ⟨rfl, _⟩ | hm
  ·exact hb.own _ (.inl rfl)
  ·by_cases e : own0 j
   ·exact .inl e
   ·refine .inr ?_
    cases e2 : h0 j with
    | none => rfl
    | some b => rw [hb.kept j b e2 e] at q1; cases q1
  ·rcases List.mem_append.1 hm with hm | hm
   ·exact hb.own _ (.inr (.inr hm))
   ·simp at hm; subst hm; exact hb.fresh
end Go.Abs
namespace Go.Abs
open Go
namespace TryzT
theorem choice66 (d : Nat) (x : St) (hal : x.arms.length ≤ 60) (hll : ∀ a ∈ x.arms, a.labels.length ≤ 300) (e n : Int) (ihE : ∀ y ∈ x.els, OneOk (gOne d e n) e n y) (ihA : ∀ a ∈ x.arms, ∀ y ∈ a.body, OneOk (gOne d e n) e n y)
  (bc : List V) (hbc : NzL bc (bareK x.kind x).cells) (b : Int) (h : Heap) (idb ida : Nat) (ids : List (Option Nat)) (els : List (List V)) (evs : List Ev) (hb : Bd h idb ida ids els evs) (hl : evs.length + x.cnt < 1000000) (R : V → Heap → Prop)
  (hR : ∀ h2, Built h idb (Own idb ida ids evs) ((gArms (gOne d e n) b x.arms (gFold (gOne d e n) x.els evs b).1 (List.replicate (topA x.arms 0 + 1).toNat (gFold (gOne d e n) x.els evs b).2)).1 ++ [⟨bareK x.kind x, (gArms (gOne d e n) b x.arms (gFold (gOne d e n) x.els evs b).1 (List.replicate (topA x.arms 0 + 1).toNat (gFold (gOne d e n) x.els evs b).2)).2⟩]) h2 →
   R (.int .i64 (gArms (gOne d e n) b x.arms (gFold (gOne d e n) x.els evs b).1 (List.replicate (topA x.arms 0 + 1).toNat (gFold (gOne d e n) x.els evs b).2)).1.length) h2) :
  Ret prog 66 [.ep idb 0 0, x.v, .agg bc, placeV b e n] h R := by
 have hcx := x.cnt_eq
 have hbl : bc.length = 19 := by rw [hbc.1, St.cells_cs]; rfl
 obtain ⟨c0, c1, c2, c3, c4, c5, c6, c7, c8, c9, c10, c11, c12, c13, c14, c15, c16, c17, c18, rfl⟩ := list19 hbl
 have htop := topA_le x.arms 0 (by omega)
 have htop0 := topA_ge x.arms 0
 have l1 := gFold_len (gOne_len d e n) x.els evs b
 refine Ret.by_text rfl rfl ?_
 simp -implicitDefEqProofs only [go_sem, rB, rA, rS, rL, a66, St.cellsOf_v, St.cs, placeV]
 intro g5 g6 g7
 refine Loop.rec (α := Nat × Int) (fun k => x.arms.length - k.1) (fun k => ⟨E 93 [(0, .ep idb 0 0), (5, .lp 5 g5 0), (6, .lp 6 g6 0), (7, .lp 7 g7 0), (9, .int .i64 k.2), (23, .fsl 2 (x.arms.map Am.cells)), (24, .int .i64 x.arms.length), (25, .int .i64 k.1)], B 93 [(5, some (g5, x.cs)), (6, some (g6, [c0, c1, c2, c3, c4, c5, c6, c7, c8, c9, c10, c11, c12, c13, c14, c15, c16, c17, c18])), (7, some (g7, [.int .i64 b, .int .i64 e, .int .i64 n]))], h⟩)
  (fun k => k.1 ≤ x.arms.length ∧ 0 ≤ k.2 ∧ k.2 ≤ 256 ∧ topA (x.arms.drop k.1) k.2 = topA x.arms 0) ?_ (0, 0) ⟨Nat.zero_le _, Int.le_refl _, by decide, rfl⟩ rfl
 rintro ⟨k, m⟩ ⟨hk, hm0, hm1, hmt⟩ hrec
 simp only [] at hk hm0 hm1 hmt
 simp -implicitDefEqProofs only [go_sem, rB, rA, rS]
 refine br_intro (fun q1 => ?_) (fun q1 => ?_)
 ·have q2 : k < x.arms.length := by simpa using q1
  obtain ⟨a, ha⟩ : ∃ a, x.arms[k]? = some a := ⟨_, lG q2⟩
  have hla := hll a (lM ha)
  rw [topA_at ha] at hmt
  simp -implicitDefEqProofs only [go_sem, rB, rA, rS, rL, q1, ha, Am.cells_eq]
  intro g11
  refine Loop.rec (α := Nat × Int) (fun j => a.labels.length - j.1) (fun j => ⟨E 93 [(0, .ep idb 0 0), (5, .lp 5 g5 0), (6, .lp 6 g6 0), (7, .lp 7 g7 0), (9, .int .i64 j.2), (23, .fsl 2 (x.arms.map Am.cells)), (24, .int .i64 x.arms.length), (25, .int .i64 k), (30, .fsl 1 (a.labels.map intC)), (31, .int .i64 a.labels.length), (32, .int .i64 j.1)], B 93 [(5, some (g5, x.cs)), (6, some (g6, [c0, c1, c2, c3, c4, c5, c6, c7, c8, c9, c10, c11, c12, c13, c14, c15, c16, c17, c18])), (7, some (g7, [.int .i64 b, .int .i64 e, .int .i64 n]))], h⟩)
   (fun j => j.1 ≤ a.labels.length ∧ 0 ≤ j.2 ∧ j.2 ≤ 256 ∧ topA (x.arms.drop (k + 1)) (topL (a.labels.drop j.1) j.2) = topA x.arms 0) ?_ (0, m) ⟨Nat.zero_le _, hm0, hm1, hmt⟩ rfl
  rintro ⟨j, m⟩ ⟨hj, hm0, hm1, hmt⟩ hrec2
  simp only [] at hj hm0 hm1 hmt
  simp -implicitDefEqProofs only [go_sem, rB, rA, rS]
  refine br_intro (fun q3 => ?_) (fun q3 => ?_)
  ·have q4 : j < a.labels.length := by simpa using q3
   obtain ⟨y, hy⟩ : ∃ y, a.labels[j]? = some y := ⟨_, lG q4⟩
   rw [topL_at hy] at hmt
   have hws := wrap_succ (show j < 9223372036854775807 by omega)
   simp -implicitDefEqProofs only [go_sem, rB, rA, rS, rL, q3, hy, intC]
   refine callOk_of (label88 y) ?_
   rintro u rfl
   simp -implicitDefEqProofs only [go_sem, rB, rA, rS]
   refine br_intro (fun q5 => ?_) (fun q5 => ?_)
   ·have hy2 : 0 ≤ y ∧ y ≤ 255 := by simpa [lab] using q5
    rw [if_pos q5] at hmt
    simp -implicitDefEqProofs only [go_sem, rB, rA, rS, q5, wrap_in (n := y + 1) (by omega), hws]
    refine hrec2 (j + 1, if y + 1 > m then y + 1 else m) (by simp only []; omega) ⟨by simp only []; omega, by simp only []; split <;> omega, by simp only []; split <;> omega, ?_⟩
    simp only []
    exact hmt
   ·rw [if_neg (by simp [q5])] at hmt
    simp -implicitDefEqProofs only [go_sem, rB, rA, rS, q5, hws]
    exact hrec2 (j + 1, m) (by simp only []; omega) ⟨by simp only []; omega, hm0, hm1, hmt⟩
  ·have e0 : a.labels.drop j = [] := List.drop_eq_nil_of_le (by simp at q3; omega)
   rw [e0] at hmt
   simp -implicitDefEqProofs only [go_sem, rB, rA, rS, q3, wrap_succ (show k < 9223372036854775807 by omega)]
   exact hrec (k + 1, m) (by simp only []; omega) ⟨by simp only []; omega, hm0, hm1, hmt⟩
 have e0 : x.arms.drop k = [] := List.drop_eq_nil_of_le (by simp at q1; omega)
 rw [e0] at hmt
 have hmt : m = topA x.arms 0 := hmt
 subst hmt
 simp -implicitDefEqProofs only [go_sem, rB, rA, rS, rL, q1, St.cs]
 refine .inl (list20 (gOne d e n) (gOne_len d e n) e n x.els ihE b h idb ida ids els evs hb (by omega) _ fun h1 hb1 => ?_)
 generalize hr0 : gFold (gOne d e n) x.els evs b = r0 at hR l1 hb1 ⊢
 obtain ⟨evs0, other⟩ := r0
 simp only [] at hR l1 hb1
 generalize htp : topA x.arms 0 = tp at hR htop htop0 hm0 hm1 ⊢
 have hmm : ∃ mm : Nat, tp + 1 = (mm : Int) := ⟨(tp + 1).toNat, by omega⟩
 obtain ⟨mm, hmm⟩ := hmm
 have hmm1 : mm ≤ 257 := by omega
 rw [hmm, Int.toNat_natCast] at hR
 obtain ⟨ida1, ids1, els1, p1, p2, p3⟩ := hb1
 simp -implicitDefEqProofs only [go_sem, rB, rA, rS, hmm, wrap_nat (show mm < 9223372036854775808 by omega), mksK_eq]
 refine ⟨by omega, by omega, by omega, ?_⟩
 intro idn hidn
 have fresh0 : Own idb ida ids evs idn ∨ h idn = none := by
  by_cases e3 : Own idb ida ids evs idn
  ·exact .inl e3
  ·refine .inr ?_
   cases e2 : h idn with
   | none => rfl
   | some c => rw [p2 _ _ e2 e3] at hidn; cases hidn
 have hbs : ∀ c nx, c = List.map intC nx → Beside h idb (Own idb ida ids evs) evs0 idn nx (h1.upd idn (some (.arr 1 c))) ida1 ids1 els1 := fun c nx hc => by
  subst hc
  exact ⟨p1.alloc hidn _, fun j b hj hn => by rw [upd_other _ _ (ne_of_some (p2 j b hj hn) hidn)]; exact p2 j b hj hn, p3, fresh0, upd_self _ _ _, p1.fresh hidn⟩
 refine Loop.rec (fun j : Nat => mm - j) (fun j => ⟨E 93 [(0, .ep idb 0 0), (5, .lp 5 g5 0), (6, .lp 6 g6 0), (7, .lp 7 g7 0), (14, .int .i64 other), (15, .msl idn 0 mm), (53, .int .i64 mm), (54, .int .i64 j)], B 93 [(5, some (g5, x.cs)), (6, some (g6, [c0, c1, c2, c3, c4, c5, c6, c7, c8, c9, c10, c11, c12, c13, c14, c15, c16, c17, c18])), (7, some (g7, [.int .i64 b, .int .i64 e, .int .i64 n]))], h1.upd idn (some (.arr 1 ((fillL other mm j).map intC)))⟩) (fun j => j ≤ mm) ?_ 0 (Nat.zero_le _) (by rw [fillL_zero, List.map_replicate]; rfl)
 intro j hj hrec
 simp -implicitDefEqProofs only [go_sem, rB, rA, rS]
 refine br_intro (fun q3 => ?_) (fun q3 => ?_)
 ·have q4 : j < mm := by simpa using q3
  have f1 : ((j : Int) < (mm : Int)) = True := eq_true (by omega)
  have hlen := fillL_len other mm j hj
  have hget : ((fillL other mm j).map intC)[j]? = some (intC ((fillL other mm j)[j]'(by omega))) := by rw [List.getElem?_map, lG (by omega)]; rfl
  have hset : ((fillL other mm j).map intC).set j [.int .i64 other] = (fillL other mm (j + 1)).map intC := by rw [← fillL_set other mm j q4, List.map_set]; rfl
  simp -implicitDefEqProofs only [W_skip, W_region, W_seq, W_block, Again_normal, keep_eq, Thn_normal, Bl_normal, wOps_nil, wOps_cons, val_0, valK_eq, onPut_some, st_0, stK_eq, onS_some, ev_E, ev_c, set_E, look_cons, lookB_cons, look_nil, lookB_nil, cond_true, cond_false, rB, rA, rS, rL, if_true, storeOf, storeCells, over, List.append_nil, and_self, List.length_cons, List.length_nil, List.drop_succ_cons, List.take_zero, List.drop_nil, List.map_cons, List.map_nil, List.nil_append, AVal.eval, cellsOf_int, nat_le, dec_true, Int.toNat_natCast, binOf, intOf, f1, upd_self, Nat.zero_add, hget, intC, hset, upd_upd, wrap_succ (show j < 9223372036854775807 by omega)]
  exact hrec (j + 1) (by omega) (by omega)
 have q4 : ¬ j < mm := by simpa using q3
 have hjm : j = mm := by omega
 subst hjm
 simp -implicitDefEqProofs only [go_sem, rB, rA, rS, rL, q3, St.cs]
 have hb0 := hbs _ (fillL other j j) rfl
 have hlen0 := fillL_len other j j (Nat.le_refl _)
 rw [← fillL_all] at hR
 refine Loop.rec (α := Nat × Heap × List Ev × List Int × Nat × List (Option Nat) × List (List V)) (fun k => x.arms.length - k.1) (fun k => ⟨E 93 [(0, .ep idb 0 0), (6, .lp 6 g6 0), (7, .lp 7 g7 0), (15, .msl idn 0 j), (63, .fsl 2 (x.arms.map Am.cells)), (64, .int .i64 x.arms.length), (65, .int .i64 k.1)], B 93 [(6, some (g6, [c0, c1, c2, c3, c4, c5, c6, c7, c8, c9, c10, c11, c12, c13, c14, c15, c16, c17, c18])), (7, some (g7, [.int .i64 b, .int .i64 e, .int .i64 n]))], k.2.1⟩)
  (fun k => k.1 ≤ x.arms.length ∧ Beside h idb (Own idb ida ids evs) k.2.2.1 idn k.2.2.2.1 k.2.1 k.2.2.2.2.1 k.2.2.2.2.2.1 k.2.2.2.2.2.2 ∧ k.2.2.2.1.length = j ∧ gArms (gOne d e n) b (x.arms.drop k.1) k.2.2.1 k.2.2.2.1 = gArms (gOne d e n) b x.arms evs0 (fillL other j j) ∧ k.2.2.1.length + cntA (x.arms.drop k.1) + 1 < 1000000) ?_ (0, _, evs0, _, ida1, ids1, els1) ⟨Nat.zero_le _, hb0, hlen0, rfl, by simp only [List.drop_zero]; omega⟩ rfl
 rintro ⟨k2, h3, evs3, nx3, ida3, ids3, els3⟩ ⟨hk2, hbe, hnl, hga, hle⟩ hrecA
 simp only [] at hk2 hbe hnl hga hle
 simp -implicitDefEqProofs only [go_sem, rB, rA, rS]
 refine br_intro (fun r1 => ?_) (fun r1 => ?_)
 ·have r2 : k2 < x.arms.length := by simpa using r1
  obtain ⟨a, ha⟩ : ∃ a, x.arms[k2]? = some a := ⟨_, lG r2⟩
  have hma := lM ha
  have hla := hll a hma
  have hcd := Am.cnt_le ha
  rw [gArms_at ha] at hga
  have l3 := gFold_len (gOne_len d e n) a.body evs3 b
  simp -implicitDefEqProofs only [go_sem, rB, rA, rS, rL, r1, ha, Am.cells_eq]
  intro g18
  refine .inl (list20 (gOne d e n) (gOne_len d e n) e n a.body (ihA a hma) b h3 idb ida3 ids3 els3 evs3 hbe.bd (by omega) _ fun h4 hb4 => ?_)
  obtain ⟨ida4, ids4, els4, hbe4⟩ := hbe.list hb4
  generalize hr4 : gFold (gOne d e n) a.body evs3 b = r4 at hbe4 hga l3 ⊢
  obtain ⟨evs4, at4⟩ := r4
  simp only [] at hbe4 hga l3
  simp -implicitDefEqProofs only [go_sem, rB, rA, rS, rL]
  refine Loop.rec (α := Nat × Heap × List Int) (fun m => a.labels.length - m.1) (fun m => ⟨E 93 [(0, .ep idb 0 0), (6, .lp 6 g6 0), (7, .lp 7 g7 0), (15, .msl idn 0 j), (19, .int .i64 at4), (63, .fsl 2 (x.arms.map Am.cells)), (64, .int .i64 x.arms.length), (65, .int .i64 k2), (75, .fsl 1 (a.labels.map intC)), (76, .int .i64 a.labels.length), (77, .int .i64 m.1)], B 93 [(6, some (g6, [c0, c1, c2, c3, c4, c5, c6, c7, c8, c9, c10, c11, c12, c13, c14, c15, c16, c17, c18])), (7, some (g7, [.int .i64 b, .int .i64 e, .int .i64 n]))], m.2.1⟩)
   (fun m => m.1 ≤ a.labels.length ∧ Beside h idb (Own idb ida ids evs) evs4 idn m.2.2 m.2.1 ida4 ids4 els4 ∧ m.2.2.length = j ∧ gArms (gOne d e n) b (x.arms.drop (k2 + 1)) evs4 (setL (a.labels.drop m.1) at4 m.2.2) = gArms (gOne d e n) b x.arms evs0 (fillL other j j)) ?_ (0, h4, nx3) ⟨Nat.zero_le _, hbe4, hnl, hga⟩ rfl
  rintro ⟨m, h5, nx5⟩ ⟨hm, hbe5, hnl5, hga5⟩ hrecL
  simp only [] at hm hbe5 hnl5 hga5
  simp -implicitDefEqProofs only [go_sem, rB, rA, rS]
  refine br_intro (fun r3 => ?_) (fun r3 => ?_)
  ·have r4 : m < a.labels.length := by simpa using r3
   obtain ⟨y, hy⟩ : ∃ y, a.labels[m]? = some y := ⟨_, lG r4⟩
   rw [setL_at hy] at hga5
   have hws := wrap_succ (show m < 9223372036854775807 by omega)
   simp -implicitDefEqProofs only [go_sem, rB, rA, rS, rL, r3, hy, intC]
   refine callOk_of (label88 y) ?_
   rintro u rfl
   simp -implicitDefEqProofs only [go_sem, rB, rA, rS]
   refine br_intro (fun q5 => ?_) (fun q5 => ?_)
   ·have hy2 : 0 ≤ y ∧ y ≤ 255 := by simpa [lab] using q5
    have hyt := topA_mem hma (lM hy) q5 0
    rw [htp] at hyt
    obtain ⟨z, rfl⟩ := Int.eq_ofNat_of_zero_le hy2.1
    rw [if_pos q5, Int.toNat_natCast] at hga5
    have f1 : ((z : Int) < (j : Int)) = True := eq_true (by omega)
    have hget : (nx5.map intC)[z]? = some (intC (nx5[z]'(by omega))) := by rw [List.getElem?_map, lG (by omega)]; rfl
    simp -implicitDefEqProofs only [W_region, Again_normal, keep_eq, Thn_normal, Bl_normal, wOps_nil, wOps_cons, val_0, valK_eq, onPut_some, st_0, stK_eq, onS_some, ev_E, ev_c, set_E, look_cons, lookB_cons, look_nil, lookB_nil, cond_true, cond_false, rB, rA, rS, rL, if_true, storeOf, storeCells, over, List.append_nil, and_self, List.length_cons, List.length_nil, List.drop_succ_cons, List.take_zero, List.drop_nil, List.map_cons, List.map_nil, List.nil_append, AVal.eval, cellsOf_int, nat_le, Int.toNat_natCast, binOf, intOf, q5, f1, hbe5.nx, Nat.zero_add, hget, intC, hws]
    refine hrecL (m + 1, _, nx5.set z at4) (by simp only []; omega) ⟨by simp only []; omega, hbe5.set (by rw [List.map_set]; rfl), by simpa using hnl5, hga5⟩
   ·rw [if_neg (by simp [q5])] at hga5
    simp -implicitDefEqProofs only [go_sem, rB, rA, rS, q5, hws]
    exact hrecL (m + 1, h5, nx5) (by simp only []; omega) ⟨by simp only []; omega, hbe5, hnl5, hga5⟩
  ·have e1 : a.labels.drop m = [] := List.drop_eq_nil_of_le (by simp at r3; omega)
   rw [e1] at hga5
   simp -implicitDefEqProofs only [go_sem, rB, rA, rS, rL, r3, wrap_succ (show k2 < 9223372036854775807 by omega)]
   exact hrecA (k2 + 1, h5, evs4, nx5, ida4, ids4, els4) (by simp only []; omega) ⟨by simp only []; omega, hbe5, hnl5, hga5, by simp only []; omega⟩
 ·have e1 : x.arms.drop k2 = [] := List.drop_eq_nil_of_le (by simp at r1; omega)
  rw [e1] at hga
  have hga : (evs3, nx3) = gArms (gOne d e n) b x.arms evs0 (fillL other j j) := hga
  rw [← hga] at hR
  simp only [] at hR
  simp -implicitDefEqProofs only [go_sem, rB, rA, rS, rL, r1]
  have hnv : nextV ⟨bareK x.kind x, nx3⟩ (some idn) = V.msl idn 0 j := by rw [← hnl]; rfl
  rw [← hnv]
  refine .inl (add19 hbe.bd _ ⟨bareK x.kind x, nx3⟩ (some idn) hbc (fun h => by cases h) (fun i hi => by
   injection hi with hi; subst hi
   exact ⟨hbe.nx, hbe.no⟩) (by omega) _ fun ida5 h5 q1 q2 q3 => ?_)
  simp -implicitDefEqProofs only [go_sem, rB, rA, rS]
  refine post1 ?_
  simp -implicitDefEqProofs only [go_sem, rB, rA, rS]
  exact hR h5 (hbe.push q1 q2 q3)
theorem one_11 (d : Nat) (x : St) (hal : x.arms.length ≤ 60) (hll : ∀ a ∈ x.arms, a.labels.length ≤ 300) (hk : x.kind = 11) (e n : Int) (ihE : ∀ y ∈ x.els, OneOk (gOne d e n) e n y) (ihA : ∀ a ∈ x.arms, ∀ y ∈ a.body, OneOk (gOne d e n) e n y) : OneOk (gOne (d + 1) e n) e n x := by
 intro b h idb ida ids els evs hb hl R hR
 have hcx := x.cnt_eq
 have k12 : ¬ x.kind = 12 := by omega
 have k13 : ¬ x.kind = 13 := by omega
 have k14 : ¬ x.kind = 14 := by omega
 have k7 : ¬ x.kind = 7 := by omega
 simp only [gOne, k12, k13, k14, k7, if_false] at hR
 rw [if_pos hk] at hR
 simp only [] at hR
 have f12 : (x.kind == 12) = false := by simpa using k12
 have f13 : (x.kind == 13) = false := by simpa using k13
 have f14 : (x.kind == 14) = false := by simpa using k14
 have f7 : (x.kind == 7) = false := by simpa using k7
 have f11 : (x.kind == 11) = true := by simpa using hk
 refine Ret.by_text rfl rfl ?_
 simp -implicitDefEqProofs only [go_sem, rB, rA, rS, rL, a48, St.cellsOf_v, St.cs, placeV]
 intro g1 g2 g3 g4
 simp -implicitDefEqProofs only [go_sem, rB, rA, rS, rL, f12, f13, f14, f7, f11, St.fold]
 refine .inl (choice66 d x hal hll e n ihE ihA _ (bare_nz x.kind x.cost x rfl) b h idb ida ids els evs hb hl _ fun h2 hb2 => ?_)
 simp -implicitDefEqProofs only [go_sem, rB, rA, rS]
 refine post1 ?_
 simp -implicitDefEqProofs only [go_sem, rB, rA, rS]
 exact hR h2 hb2
theorem one_o (d : Nat) (x : St) (hx : x.plainK) (e n : Int) : OneOk (gOne (d + 1) e n) e n x := by
 obtain ⟨k7, k8, k9, k10, k11, k12, k13, k14⟩ := id hx
 have hf : ∀ evs b, gOne (d + 1) e n x evs b = plainF x evs b := fun evs b => by
  simp only [gOne, k7, k8, k9, k10, k11, k12, k13, k14, if_false, plainF]
 intro b h idb ida ids els evs hb hl R hR
 rw [hf] at hR
 exact one31_plain x hx e n b h idb ida ids els evs hb hl R hR
theorem one_all : ∀ (d : Nat) (e n : Int) (x : St), St.Small d x → OneOk (gOne d e n) e n x := by
 intro d
 induction d with
 | zero => intro e n x h; exact h.elim
 | succ d ih =>
  rintro e n x ⟨hf, sb, se, sa⟩
  by_cases k12 : x.kind = 12
  ·exact one_12 d x k12 e n
  by_cases k13 : x.kind = 13
  ·exact one_13 d x k13 e n
  by_cases k14 : x.kind = 14
  ·exact one_14 d x k14 e n
  by_cases k7 : x.kind = 7
  ·exact one_7 d x k7 e n (fun y hy => ih e n y (sb y hy)) (fun y hy => ih e n y (se y hy))
  by_cases k11 : x.kind = 11
  ·exact one_11 d x hf.rl (fun a ha => (sa a ha).1) k11 e n (fun y hy => ih e n y (se y hy)) (fun a ha y hy => ih e n y ((sa a ha).2 y hy))
  by_cases k8 : x.kind = 8
  ·exact one_8 d x k8 e n (fun e n y hy => ih e n y (sb y hy))
  by_cases k9 : x.kind = 9
  ·exact one_9 d x k9 e n (fun e n y hy => ih e n y (sb y hy))
  by_cases k10 : x.kind = 10
  ·exact one_10 d x k10 e n (fun e n y hy => ih e n y (sb y hy))
  exact one_o d x ⟨k7, k8, k9, k10, k11, k12, k13, k14⟩ e n
end TryzT
end Go.Abs
namespace Go.Abs
open Go
def gStmts (d : Nat) (l : List St) : List Ev :=
 let r := gFold (gOne d 1 1) l [⟨TryzT.zeroS 0 0, [0]⟩, ⟨TryzT.zeroS 14 0, []⟩] 1
 r.1.set 0 ⟨TryzT.zeroS 0 0, [r.2]⟩
namespace TryzT
theorem stmtsG (d : Nat) (l : List St) (hp : ∀ x ∈ l, St.Small d x) (hl : cntL l < 900000) : Ret prog 10 [stsV l] Heap.none fun r _ => r = evsV (gStmts d l) := by
 refine Ret.by_text rfl rfl ?_
 simp -implicitDefEqProofs only [go_sem, rB, rA, rS, rM, rL, a10]
 intro idb hidb
 intro idn hidn
 have hb0 : Bd (Heap.none.upd idb (some (.arr 1 [[.nsl]]))) idb (idb + 1) [] [] [] := ⟨rfl, upd_self _ _ _, fun h => absurd h (by simp), rfl, fun k x i cs h => absurd h (by simp), fun k x i h => absurd h (by simp), fun k x h => absurd h (by simp), by omega, by simp, by simp, fun k m i h => absurd h (by simp)⟩
 have hz : ∀ k : Int, NzL [V.int .i64 k, .int .i64 0, .int .i64 0, .int .i64 0, .int .i64 0, .int .i64 0, .int .i64 0, .int .i64 0, .nsl, .int .i64 0, .int .i64 0, .int .i64 0, .int .i64 0, .nsl, .nsl, .nsl, .nsl, .nsl, .nsl] (zeroS k 0).cells := by
  intro k
  rw [St.cells_cs]
  refine ⟨rfl, fun i a b ha hb => ?_⟩
  have hi : i < 19 := by have := (lS.1 ha).1; simpa using this
  match i, hi with
  | 0, _ | 1, _ | 2, _ | 3, _ | 4, _ | 5, _ | 6, _ | 7, _ | 9, _ | 10, _ | 11, _ | 12, _ => simp [St.cs, zeroS, St.kind, St.cost, St.n, St.m, St.e, St.i, Ex.op, Ex.t, Ex.n, Ex.m] at ha hb; subst ha; subst hb; exact .inl rfl
  | 8, _ | 13, _ | 14, _ | 15, _ | 16, _ | 17, _ | 18, _ => simp [St.cs, zeroS, St.e, St.i, St.l, St.args, St.body, St.els, St.arms, Ex.l] at ha hb; subst ha; subst hb; exact .inr ⟨rfl, _, rfl⟩
 refine .inl (add19 (hb0.alloc hidn _) _ ⟨zeroS 0 0, [0]⟩ (some idn) (hz 0) (fun h => by cases h) (fun j hj => by
  injection hj with hj; subst hj
  exact ⟨by rw [upd_self]; rfl, hb0.fresh hidn⟩) (by simp) _ fun ida1 h1 q1 q2 q3 => ?_)
 simp -implicitDefEqProofs only [go_sem, rB, rA, rS, rL]
 refine .inl (add19 q2 _ ⟨zeroS 14 0, []⟩ none (hz 14) (fun h => rfl) (fun j hj => by cases hj) (by simp) _ fun ida2 h2 r1 r2 r3 => ?_)
 simp -implicitDefEqProofs only [go_sem, rB, rA, rS, rL]
 refine .inl (list20 (gOne d 1 1) (gOne_len d 1 1) 1 1 l (fun x hx => one_all d 1 1 x (hp x hx)) 1 h2 idb ida2 _ _ _ r2 (by simp; omega) _ fun h3 hb3 => ?_)
 simp -implicitDefEqProofs only [go_sem, rB, rA, rS]
 have hG0 : ∀ (l : List St), (gFold (gOne d 1 1) l [⟨zeroS 0 0, [0]⟩, ⟨zeroS 14 0, []⟩] 1).1[0]? = some ⟨zeroS 0 0, [0]⟩ := fun l => (gFold_ext (gOne_ext d 1 1) l _ _).get rfl
 obtain ⟨ida3, ids3, els3, s1, s2, s3⟩ := hb3
 simp only [List.nil_append, List.cons_append] at s1
 have hpos : 0 < (gFold (gOne d 1 1) l [⟨zeroS 0 0, [0]⟩, ⟨zeroS 14 0, []⟩] 1).1.length := (lS.1 (hG0 l)).1
 obtain ⟨i, cs, c19, t1, t2, rfl, t4, t5, t6, t7, t8, t9⟩ := s1.store (hG0 l) (c := 0) (by simp) (gFold (gOne d 1 1) l [⟨zeroS 0 0, [0]⟩, ⟨zeroS 14 0, []⟩] 1).2
 have hc19 : c19.length = 19 := by rw [t4.1, St.cells_cs]; rfl
 obtain ⟨c0, c1, c2, c3, c4, c5, c6, c7, c8, c9, c10, c11, c12, c13, c14, c15, c16, c17, c18, rfl⟩ := list19 hc19
 have hbox := s1.box
 rw [slV, if_neg (by omega)] at hbox
 have hbx2 := t9.box
 rw [List.length_set, slV, if_neg (by omega)] at hbx2
 have hpi : ((0 : Int) < ((gFold (gOne d 1 1) l [⟨zeroS 0 0, [0]⟩, ⟨zeroS 14 0, []⟩] 1).1.length : Int)) = True := eq_true (by omega)
 simp -implicitDefEqProofs only [go_sem, rB, rA, rS, rL, jL, jN, hbox, s1.arr hpos, hpi, t2, t5, intC, show ((0 : Int) < ((1 : Nat) : Int)) = True by simp, upd_other _ _ (Ne.symm t7)]
 refine post_frz (R := fun r _ => r = evsV (gStmts d l)) (v := slV ida3 (gStmts d l).length) (u := evsV (gStmts d l)) (h2 := Heap.none) (fun _ => True) ?_ ?_ (fun _ _ hh => absurd hh (by simp [Heap.none])) (fun _ _ => rfl) rfl
 ·have hpl : (gStmts d l).length = (gFold (gOne d 1 1) l [⟨zeroS 0 0, [0]⟩, ⟨zeroS 14 0, []⟩] 1).1.length := by simp [gStmts]
  rw [hpl, slV, if_neg (by omega)]
  rfl
 ·exact t9.frz
end TryzT
end Go.Abs
namespace Go.Abs
open Go
namespace TryzT
def PricedP (s : Src) (r : V) : Prop := ∃ (s2 : Src) (ok : Bool), r = .tup [s2.v, .bool ok] ∧ (ok = true → ∃ f f2 : Fn, s.funcs = [f] ∧ s2 = ⟨s.vars, s.blocks, [f2]⟩ ∧ f2.params = f.params ∧ f2.result = f.result ∧ f2.locals = f.locals ∧ (∀ v ∈ s.vars, 1 ≤ v.n) ∧ ∀ x ∈ f2.body, CW (scF s f) 0 x)
theorem priced8 (s : Src) (hs : s.Short) : Ret prog 8 [s.v] Heap.none fun r _ => PricedP s r := by
 obtain ⟨vs, bs, fs⟩ := s
 have no : ∀ s2 : S, resultOf [ARes.cell 2 3 true, ARes.tmp 3] s2 = some (.tup [(Src.mk vs bs fs).v, .bool false]) → post [ARes.cell 2 3 true, ARes.tmp 3] (fun r _ => PricedP ⟨vs, bs, fs⟩ r) .ret s2 := fun s2 h => post_ret h ⟨_, false, rfl, fun h => by cases h⟩
 refine Ret.by_text rfl rfl ?_
 simp -implicitDefEqProofs only [go_sem, rB, rA, rS, rL, a8, Src.cellsOf_v, Src.cs]
 intro g1 g2 g4
 refine br_intro (fun c1 => ?_) (fun c1 => ?_)
 ·simp -implicitDefEqProofs only [go_sem, rB, rA, rS, rL, c1]
  exact no _ (by simp -implicitDefEqProofs only [go_sem, rB, rA, rS, rL, resultOf, mapM?, ARes.val]; rfl)
 obtain ⟨f, rfl⟩ : ∃ f, fs = [f] := by
  have h1 : fs.length = 1 := by simp at c1; omega
  match fs, h1 with
  | [f], _ => exact ⟨f, rfl⟩
 have hf := hs.s f lC
 have hcf := hf.c
 simp -implicitDefEqProofs only [go_sem, rB, rA, rS, rL]
 refine callOk_of (check20 vs bs f hf hs.v hs.b) ?_
 rintro u ⟨n, m, rfl, hm⟩
 simp -implicitDefEqProofs only [go_sem, rB, rA, rS]
 refine br_intro (fun c2 => ?_) (fun c2 => ?_)
 ·simp -implicitDefEqProofs only [go_sem, rB, rA, rS, rL, c2]
  exact no _ (by simp -implicitDefEqProofs only [go_sem, rB, rA, rS, rL, resultOf, mapM?, ARes.val]; rfl)
 obtain ⟨hn, hw⟩ := hm (by simpa using c2)
 simp -implicitDefEqProofs only [go_sem, rB, rA, rS, rL, jL, jN, c2, Fn.cells]
 intro g7
 first | refine callPure_of (scope22 vs bs f hf) ?_ | refine callOk_of (scope22 vs bs f hf) ?_
 rintro u rfl
 simp -implicitDefEqProofs only [go_sem, rB, rA, rS]
 refine callOk_of (costs21 (scF ⟨vs, bs, [f]⟩ f) 40 0 f.body hf.s hw (by omega)) ?_
 rintro u ⟨l, rfl, hll, hcw⟩
 simp -implicitDefEqProofs only [go_sem, rB, rA, rS, rM, rL, stsV, intsV]
 intro idt hidt
 refine post_frz (h2 := Heap.none) (u := .tup [(Src.mk vs bs [⟨f.name, f.params, f.result, f.locals, l⟩]).v, .bool true]) (fun _ => True) (v := .tup [.agg [.fsl 5 (vs.map Vr.cells), .fsl 2 (bs.map Bk.cells), .msl idt 0 1], .bool true]) (by simp -implicitDefEqProofs only [go_sem, rB, rA, rS, rL, resultOf, mapM?, ARes.val]) ?_ (fun _ _ e => by cases e) (fun _ _ => rfl) ?_
 ·refine Frz.tupL (.cons (Frz.aggL (.cons (.same _) (.cons (.same _) (.cons ?_ .nil)))) (.cons (.same _) .nil))
  exact (SlH.mk (els := [(Fn.mk f.name f.params f.result f.locals l).cells]) (upd_self _ _ _) rfl).frz_self fun _ _ => trivial
 ·exact ⟨_, true, rfl, fun _ => ⟨f, _, rfl, rfl, rfl, rfl, rfl, hn, hcw⟩⟩
end TryzT
end Go.Abs
namespace Go.Abs
open Go
def varsC (ids : List Nat) (vals : List (List Int)) : List (List V) := List.zipWith (fun i l => [V.msl i 0 l.length]) ids vals
theorem varsC_at {ids : List Nat} {vals : List (List Int)} {i : Nat} {id : Nat} {l : List Int} (h1 : ids[i]? = some id) (h2 : vals[i]? = some l) : (varsC ids vals)[i]? = some [V.msl id 0 l.length] := by
 simp [varsC, List.getElem?_zipWith, h1, h2]
theorem varsC_len {ids : List Nat} {vals : List (List Int)} (h : ids.length ≤ vals.length) : (varsC ids vals).length = ids.length := by
 simp [varsC]; omega
theorem varsC_push {ids : List Nat} {vals : List (List Int)} {id : Nat} {l : List Int} (h : vals[ids.length]? = some l) : varsC (ids ++ [id]) vals = varsC ids vals ++ [[V.msl id 0 l.length]] := by
 induction ids generalizing vals with
 | nil =>
  cases vals with
  | nil => simp at h
  | cons y vals => simp at h; subst h; simp [varsC]
 | cons i ids ih =>
  cases vals with
  | nil => simp at h
  | cons y vals =>
   simp at h
   have := ih h
   simp only [varsC, List.cons_append, List.zipWith_cons_cons] at this ⊢
   rw [this]
open Classical in
noncomputable def Heap.but (h : Heap) (P : Nat → Prop) : Heap := fun i => if P i then Option.none else h i
theorem Heap.but_in (h : Heap) {P : Nat → Prop} {i : Nat} (hi : P i) : h.but P i = Option.none := by simp only [Heap.but, hi, if_true]
theorem Heap.but_out (h : Heap) {P : Nat → Prop} {i : Nat} (hi : ¬ P i) : h.but P i = h i := by simp only [Heap.but, hi, if_false]
theorem Heap.but_le (h : Heap) (P : Nat → Prop) : (h.but P).le h := by
 intro i b hi
 by_cases hp : P i
 ·rw [h.but_in hp] at hi; cases hi
 ·rwa [h.but_out hp] at hi
structure StH (h : Heap) (ids : List Nat) (bv : V) (x : Sta) : Prop where
 len : ids.length = x.vars.length
 var : ∀ (i id : Nat) (l : List Int), ids[i]? = some id → x.vars[i]? = some l → h id = some (.arr 1 (l.map intC))
 one : ∀ (i j id : Nat), ids[i]? = some id → ids[j]? = some id → i = j
 blk : SlH 10 h bv (x.blocks.map TryzT.instC)
 sep : ∀ i, SlH.own bv i → i ∉ ids
 b10 : ∀ b ∈ x.blocks, b.length = 10
def stC (ids : List Nat) (bv : V) (x : Sta) : List V := [.fsl 1 (varsC ids x.vars), bv, .int .i64 x.now, .int .i64 x.fault]
def StOwn (ids : List Nat) (bv : V) (i : Nat) : Prop := i ∈ ids ∨ SlH.own bv i
theorem StH.there {h : Heap} {ids : List Nat} {bv : V} {x : Sta} (hs : StH h ids bv x) {i : Nat} (hi : StOwn ids bv i) : ∃ b, h i = some b := by
 rcases hi with hi | hi
 ·obtain ⟨k, hk, e⟩ := List.getElem_of_mem hi
  have := hs.len
  exact ⟨_, hs.var k i _ (by rw [← e]; exact lG hk) (lG (by omega))⟩
 ·exact hs.blk.some_own hi
theorem StH.mono {h h2 : Heap} {ids : List Nat} {bv : V} {x : Sta} (hs : StH h ids bv x) (hm : ∀ i b, h i = some b → StOwn ids bv i → h2 i = some b) : StH h2 ids bv x :=
 ⟨hs.len, fun i id l h1 h3 => hm _ _ (hs.var i id l h1 h3) (.inl (lM h1)), hs.one, hs.blk.mono fun i b h1 h3 => hm i b h1 (.inr h3), hs.sep, hs.b10⟩
theorem StH.alloc {h : Heap} {ids : List Nat} {bv : V} {x : Sta} (hs : StH h ids bv x) {j : Nat} {b : Option Blk} (hj : h j = none) : StH (h.upd j b) ids bv x :=
 hs.mono fun i c hi _ => by rw [upd_other _ _ (ne_of_some hi hj)]; exact hi
theorem StH.frzV {h : Heap} {ids : List Nat} {bv : V} {x : Sta} (hs : StH h ids bv x) : Frz h (StOwn ids bv) (.fsl 1 (varsC ids x.vars)) (.fsl 1 (x.vars.map fun l => [intsV l])) := by
 have hl := hs.len
 have key : ∀ (i : Nat) (z y : List V), (varsC ids x.vars)[i]? = some z → (x.vars.map fun l => [intsV l])[i]? = some y → ∃ id l, ids[i]? = some id ∧ x.vars[i]? = some l ∧ z = [.msl id 0 l.length] ∧ y = [intsV l] := by
  intro i z y h1 h2
  rw [List.getElem?_map, Option.map_eq_some_iff] at h2
  obtain ⟨l, h3, rfl⟩ := h2
  obtain ⟨id, h4⟩ : ∃ id, ids[i]? = some id := ⟨_, lG (by have := (lS.1 h3).1; omega)⟩
  rw [varsC_at h4 h3] at h1
  injection h1 with h1
  exact ⟨id, l, h4, h3, h1.symm, rfl⟩
 refine .fsl 1 _ _ (by rw [List.length_map, varsC_len (by omega)]; exact hl.symm) (fun i z y h1 h2 => ?_) (fun i z y j a b h1 h2 h3 h4 => ?_)
 ·obtain ⟨_, _, _, _, rfl, rfl⟩ := key i z y h1 h2
  rfl
 ·obtain ⟨id, l, h5, h6, rfl, rfl⟩ := key i z y h1 h2
  have hj : j = 0 := by have := (lS.1 h3).1; simpa using this
  subst hj
  simp at h3 h4
  subst h3; subst h4
  exact Frz.whole (.inl (lM h5)) (hs.var i id l h5 h6) (by simp)
theorem StH.frz {h : Heap} {ids : List Nat} {bv : V} {x : Sta} (hs : StH h ids bv x) : Frz h (StOwn ids bv) (.agg (stC ids bv x)) x.v :=
 Frz.aggL (.cons hs.frzV (.cons (hs.blk.frz_self fun i hi => .inr hi) (.cons (.same _) (.cons (.same _) .nil))))
namespace TryzT
theorem clone13 (x : Sta) (hx : StShort x) (hb : ∀ b ∈ x.blocks, b.length = 10) : Ret prog 13 [x.v] Heap.none fun r h => ∃ ids bv, r = .agg (stC ids bv x) ∧ StH h ids bv x := by
 obtain ⟨s1, s2, s3⟩ := hx
 refine Ret.by_text rfl rfl ?_
 simp -implicitDefEqProofs only [go_sem, rB, rA, rS, rL, a13, Sta.cellsOf_v, Sta.cs]
 intro g1 g2 g3
 refine Loop.rec (α := Nat × Heap × V × List Nat) (fun k => x.vars.length - k.1) (fun k => ⟨E 48 [(1, .lp 1 g1 0), (2, .lp 2 g2 0), (3, .lp 3 g3 0), (4, .int .i64 k.1)], B 48 [(1, some (g1, x.cs)), (2, some (g2, [.nsl, .nsl, .int .i64 0, .int .i64 0])), (3, some (g3, [k.2.2.1, .nsl, .int .i64 x.now, .int .i64 x.fault]))], k.2.1⟩)
  (fun k => k.1 ≤ x.vars.length ∧ k.2.2.2.length = k.1 ∧ SlH 1 k.2.1 k.2.2.1 (varsC k.2.2.2 x.vars) ∧ (∀ (i id : Nat) (l : List Int), k.2.2.2[i]? = some id → x.vars[i]? = some l → k.2.1 id = some (.arr 1 (l.map intC))) ∧ (∀ (i j id : Nat), k.2.2.2[i]? = some id → k.2.2.2[j]? = some id → i = j) ∧ ∀ i ∈ k.2.2.2, ¬ SlH.own k.2.2.1 i) ?_ (0, Heap.none, .nsl, []) ⟨Nat.zero_le _, rfl, SlH.nil _ _, (fun i id l h => by simp at h), (fun i j id h => by simp at h), fun i h => by cases h⟩ rfl
 rintro ⟨k, h, v, ids⟩ ⟨hk, hil, hs, hv, h1, hno⟩ hrec
 simp only [] at hk hil hs hv h1 hno
 simp -implicitDefEqProofs only [go_sem, rB, rA, rS, rL, Sta.cs]
 refine br_intro (fun c1 => ?_) (fun c1 => ?_)
 ·have c2 : k < x.vars.length := by simpa using c1
  obtain ⟨l, hl⟩ : ∃ l, x.vars[k]? = some l := ⟨_, lG c2⟩
  have hl100 := s3 l (lM hl)
  simp -implicitDefEqProofs only [go_sem, rB, rA, rS, rL, c1, hl, intsV]
  intro id0 hid0
  simp -implicitDefEqProofs only [go_sem, elemsOf, show List.range 0 = ([] : List Nat) from rfl]
  refine appK_msl (els := []) (upd_self _ _ _) (fun z hz => by obtain ⟨n, _, rfl⟩ := List.mem_map.1 hz; rfl) (by simp) (by simp; omega) fun id1 hid1 hne => ?_
  simp -implicitDefEqProofs only [go_sem, rB, rA, rS, rM, rL]
  intro idt hidt
  have hid1' : h id1 = none := by rwa [upd_other _ _ hne] at hid1
  have hold : ∀ j b, h j = some b → ((h.upd id0 (some (.arr 1 []))).upd id0 none).upd id1 (some (.arr 1 (l.map intC))) j = some b := fun j b hj => by
   rw [upd_other _ _ (ne_of_some hj hid1'), upd_other _ _ (ne_of_some hj hid0), upd_other _ _ (ne_of_some hj hid0)]; exact hj
  have hnew : ((h.upd id0 (some (.arr 1 []))).upd id0 none).upd id1 (some (.arr 1 (l.map intC))) id1 = some (.arr 1 (l.map intC)) := upd_self _ _ _
  simp -implicitDefEqProofs only [go_sem, rA, rL, elemsOf, upd_self]
  have hs2 : SlH 1 (((h.upd id0 (some (.arr 1 []))).upd id0 none).upd id1 (some (.arr 1 (l.map intC)))) v (varsC ids x.vars) := hs.mono fun j b hj _ => hold j b hj
  refine appK_sl (hs2.alloc hidt) (one_len rfl) (by simp) (by rw [varsC_len (by omega)]; simp; omega) fun id2 h2 hn hi hm => ?_
  simp -implicitDefEqProofs only [go_sem, rB, rA, rS, rL, wrap_succ (show k < 9223372036854775807 by omega)]
  have hkeep : ∀ j b, h j = some b → ¬ SlH.own v j → h2 j = some b := fun j b hj ho => hm j b (by rw [upd_other _ _ (ne_of_some (hold j b hj) hidt)]; exact hold j b hj) ho
  have hno1 : ¬ SlH.own v id1 := fun ho => by
   obtain ⟨b, hb⟩ := hs.some_own ho
   rw [hid1'] at hb; cases hb
  have hnew2 : h2 id1 = some (.arr 1 (l.map intC)) := hm id1 _ (by rw [upd_other _ _ (ne_of_some hnew hidt)]; exact hnew) hno1
  have hnin : id1 ∉ ids := fun hmem => by
   obtain ⟨i, hi, e⟩ := List.getElem_of_mem hmem
   have := hv i id1 _ (by rw [← e]; exact lG hi) (lG (by omega))
   rw [hid1'] at this; cases this
  have hpush := varsC_push (ids := ids) (vals := x.vars) (id := id1) (l := l) (by rw [hil]; exact hl)
  have hat : ∀ (i id : Nat), (ids ++ [id1])[i]? = some id → ids[i]? = some id ∨ (i = k ∧ id = id1) := fun i id hi => by
   by_cases e : i < ids.length
   ·rw [List.getElem?_append_left e] at hi; exact .inl hi
   ·have e2 : i = ids.length := by have h5 : i < (ids ++ [id1]).length := (lS.1 hi).1; rw [List.length_append, List.length_cons, List.length_nil] at h5; omega
    subst e2
    rw [List.getElem?_append_right (by omega)] at hi
    simp at hi
    exact .inr ⟨hil, hi.symm⟩
  have hlen : (varsC ids x.vars).length + 1 = ids.length + 1 := by rw [varsC_len (by omega)]
  have := hrec (k + 1, h2, .msl id2 0 ((varsC ids x.vars).length + 1), ids ++ [id1]) (by simp only []; omega) ⟨by simp only []; omega, by simp [hil], by
   simp only [hpush]
   exact .mk (by simpa using hi) (by simp), fun i id l' h3 h4 => ?_, fun i j id h3 h4 => ?_, fun i hi2 ho => ?_⟩
  ·simp only [] at this ⊢
   exact this
  ·simp only [] at h3 h4 ⊢
   rcases hat i id h3 with h5 | ⟨rfl, rfl⟩
   ·exact hkeep _ _ (hv i id l' h5 h4) (hno _ (lM h5))
   ·rw [hl] at h4; injection h4 with h4; subst h4; exact hnew2
  ·simp only [] at h3 h4
   rcases hat i id h3 with h5 | ⟨e1, e2⟩
   ·rcases hat j id h4 with h6 | ⟨e3, e4⟩
    ·exact h1 i j id h5 h6
    ·exact (hnin (e4 ▸ lM h5)).elim
   ·rcases hat j id h4 with h6 | ⟨e3, e4⟩
    ·exact (hnin (e2 ▸ lM h6)).elim
    ·omega
  ·simp only [] at hi2 ho
   obtain ⟨n, e⟩ := ho
   injection e with e _ _
   subst e
   rcases List.mem_append.1 hi2 with h5 | h5
   ·obtain ⟨i, hi', e⟩ := List.getElem_of_mem h5
    have h6 := hv i id2 _ (by rw [← e]; exact lG hi') (lG (by omega))
    have h7 := hold _ _ h6
    rw [upd_other _ _ (ne_of_some h7 hidt)] at hn
    rw [h7] at hn; cases hn
   ·simp at h5; subst h5
    rw [upd_other _ _ (ne_of_some hnew hidt), hnew] at hn; cases hn
 ·have c2 : ¬ k < x.vars.length := by simpa using c1
  have hkv : k = x.vars.length := by omega
  simp -implicitDefEqProofs only [go_sem, rB, c1]
  refine Loop.rec (α := Nat × Heap × V) (fun j => x.blocks.length - j.1) (fun j => ⟨E 48 [(1, .lp 1 g1 0), (2, .lp 2 g2 0), (3, .lp 3 g3 0), (5, .int .i64 j.1)], B 48 [(1, some (g1, x.cs)), (2, some (g2, [.nsl, .nsl, .int .i64 0, .int .i64 0])), (3, some (g3, [v, j.2.2, .int .i64 x.now, .int .i64 x.fault]))], j.2.1⟩)
   (fun j => j.1 ≤ x.blocks.length ∧ SlH 10 j.2.1 j.2.2 ((x.blocks.take j.1).map instC) ∧ SlH 1 j.2.1 v (varsC ids x.vars) ∧ (∀ (i id : Nat) (l : List Int), ids[i]? = some id → x.vars[i]? = some l → j.2.1 id = some (.arr 1 (l.map intC))) ∧ ∀ i, SlH.own j.2.2 i → i ∉ ids ∧ ¬ SlH.own v i) ?_ (0, h, .nsl) ⟨Nat.zero_le _, SlH.nil _ _, hs, hv, fun i ⟨n, e⟩ => by cases e⟩ rfl
  rintro ⟨j, h, bv⟩ ⟨hj, hs2, hs, hv, hown⟩ hrec2
  simp only [] at hj hs2 hs hv hown
  simp -implicitDefEqProofs only [go_sem, rB, rA, rS, rL, Sta.cs]
  refine br_intro (fun c3 => ?_) (fun c3 => ?_)
  ·have c4 : j < x.blocks.length := by simpa using c3
   obtain ⟨l, hl⟩ : ∃ l, x.blocks[j]? = some l := ⟨_, lG c4⟩
   have h10 := hb l (lM hl)
   have hil2 := inst_len h10
   have hit := inst_take h10
   simp -implicitDefEqProofs only [W_skip, W_region, W_seq, W_block, Thn_normal, wOps_cons, val_0, valK_eq, onPut_some, onCells_some, bsl_0, bslK_eq, fill, range_one, rep_one, app_0, ev_E, set_E, getD_B, look_cons, lookB_cons, look_nil, lookB_nil, cond_true, cond_false, rB, rA, rS, rM, rL, if_true, if_false, Bool.false_eq_true, and_self, List.getElem?_cons_zero, List.getElem?_cons_succ, List.length_cons, List.length_nil, List.drop_succ_cons, List.drop_zero, List.take_succ_cons, List.take_zero, List.map_cons, List.map_nil, AVal.eval, cellsOf_agg, nat_le, Int.toNat_natCast, List.getElem?_map, Option.map_some, loadOf, cellsAt, boxOf, partOf, c3, hl, hil2, hit, over_zero hil2]
   intro idt hidt
   have hlen : (List.map instC (x.blocks.take j)).length = j := by simp; omega
   simp -implicitDefEqProofs only [go_sem, rA, rL, elemsOf, upd_self, List.drop_zero]
   refine appK_sl (hs2.alloc hidt) (one_len hil2) (by simp) (by rw [hlen]; simp; omega) fun id2 h2 hn hi hm => ?_
   have hkeep : ∀ i b, h i = some b → ¬ SlH.own bv i → h2 i = some b := fun i b hi ho => hm i b (by rw [upd_other _ _ (ne_of_some hi hidt)]; exact hi) ho
   simp -implicitDefEqProofs only [go_sem, rB, rA, rS, rL, wrap_succ (show j < 9223372036854775807 by omega), over]
   have hn2 : h id2 = none := by
    by_cases e : id2 = idt
    ·subst e; exact hidt
    ·rwa [upd_other _ _ e] at hn
   refine hrec2 (j + 1, h2, .msl id2 0 ((x.blocks.take j).length + 1)) (by simp only []; omega) ⟨by simp only []; omega, .mk (by
    show h2 id2 = _
    rw [hi, List.take_add_one, hl]; simp) (by simp only [List.length_map, List.length_take]; omega), hs.mono fun i b h5 h6 => hkeep i b h5 (fun h7 => (hown i h7).2 h6), fun i id l' h5 h6 => hkeep _ _ (hv i id l' h5 h6) (fun h7 => (hown _ h7).1 (lM h5)), fun i ⟨n, e⟩ => ?_⟩
   simp only [] at e
   injection e with e _ _
   subst e
   refine ⟨fun hmem => ?_, fun ho => ?_⟩
   ·obtain ⟨i, hi', e⟩ := List.getElem_of_mem hmem
    have h6 := hv i id2 _ (by rw [← e]; exact lG hi') (lG (by omega))
    rw [hn2] at h6; cases h6
   ·obtain ⟨b, hb⟩ := hs.some_own ho
    rw [hn2] at hb; cases hb
  ·have c4 : ¬ j < x.blocks.length := by simpa using c3
   simp -implicitDefEqProofs only [go_sem, rB, rA, rS, rL, c3]
   rw [List.take_of_length_le (by omega)] at hs2
   refine post_frz (h2 := h.but (SlH.own v)) (u := .agg (stC ids bv x)) (SlH.own v) (v := .agg [v, bv, .int .i64 x.now, .int .i64 x.fault]) (by simp -implicitDefEqProofs only [go_sem, rB, rA, rS, rL, resultOf, mapM?, ARes.val]) ?_ (h.but_le _) (fun i hi => h.but_in hi) ⟨ids, bv, rfl, by omega, fun i id l h5 h6 => ?_, h1, hs2.mono fun i b h5 h6 => ?_, fun i hi => (hown i hi).1, hb⟩
   ·exact Frz.aggL (.cons (hs.frz_self fun i hi => hi) (.cons (.same _) (.cons (.same _) (.cons (.same _) .nil))))
   ·rw [h.but_out (hno _ (lM h5))]; exact hv i id l h5 h6
   ·rw [h.but_out (hown i h6).2]; exact h5
end TryzT
end Go.Abs
namespace Go.Abs
open Go
def areaF (a : Int) : List Vr → List (List Int) → List Int
 | v :: vs, l :: xs => (if v.area = a then l else []) ++ areaF a vs xs
 | _, _ => []
theorem areaF_at {a : Int} {vs : List Vr} {xs : List (List Int)} {k : Nat} {v : Vr} {l : List Int} (h1 : vs[k]? = some v) (h2 : xs[k]? = some l) : areaF a (vs.drop k) (xs.drop k) = (if v.area = a then l else []) ++ areaF a (vs.drop (k + 1)) (xs.drop (k + 1)) := by
 obtain ⟨p1, e1⟩ := lS.1 h1
 obtain ⟨p2, e2⟩ := lS.1 h2
 rw [List.drop_eq_getElem_cons p1, List.drop_eq_getElem_cons p2, e1, e2]; rfl
theorem areaF_end {a : Int} {vs : List Vr} {xs : List (List Int)} {k : Nat} (h : vs.length ≤ k ∨ xs.length ≤ k) : areaF a (vs.drop k) (xs.drop k) = [] := by
 rcases h with h | h
 ·rw [List.drop_eq_nil_of_le h]; simp [areaF]
 ·rw [List.drop_eq_nil_of_le h]
  cases vs.drop k <;> simp [areaF]
theorem areaF_len (a : Int) : ∀ (vs : List Vr) (xs : List (List Int)), (∀ l ∈ xs, l.length ≤ 100) → (areaF a vs xs).length ≤ 100 * vs.length
 | [], _, _ => by simp [areaF]
 | v :: vs, [], _ => by simp [areaF]
 | v :: vs, l :: xs, h => by
  have h1 := h l lC
  have h2 := areaF_len a vs xs fun y hy => h y (lK _ hy)
  simp only [areaF, List.length_append, List.length_cons]
  split
  ·omega
  ·simp; omega
namespace TryzT
theorem area49 (vs : List Vr) (hvs : vs.length ≤ 100) (x : Sta) (hx : StShort x) (a : Int) : Ret prog 49 [.fsl 5 (vs.map Vr.cells), x.v, .int .i64 a] Heap.none fun r _ => r = intsV (areaF a vs x.vars) := by
 obtain ⟨s1, s2, s3⟩ := hx
 have hal := areaF_len a vs x.vars s3
 refine Ret.by_text rfl rfl ?_
 simp -implicitDefEqProofs only [go_sem, rB, rA, rS, a49, Sta.cellsOf_v, Sta.cs]
 intro g
 refine Loop.rec (α := Nat × Heap × V × List Int) (fun k => vs.length - k.1) (fun k => ⟨E 54 [(0, .fsl 5 (vs.map Vr.cells)), (2, .int .i64 a), (4, .lp 4 g 0), (7, k.2.2.1), (8, .int .i64 k.1)], B 54 [(4, some (g, x.cs))], k.2.1⟩)
  (fun k => k.1 ≤ vs.length ∧ SlH 1 k.2.1 k.2.2.1 (k.2.2.2.map intC) ∧ k.2.2.2 ++ areaF a (vs.drop k.1) (x.vars.drop k.1) = areaF a vs x.vars) ?_ (0, Heap.none, .nsl, []) ⟨Nat.zero_le _, SlH.nil _ _, by simp⟩ rfl
 rintro ⟨k, h, out, acc⟩ ⟨hk, hs, he⟩ hrec
 simp only [] at hk hs he
 have fin : vs.length ≤ k ∨ x.vars.length ≤ k → ∀ s : S, s.h = h → resultOf [ARes.tmp 6] s = some out → post [ARes.tmp 6] (fun r _ => r = intsV (areaF a vs x.vars)) .ret s := fun hh s h1 h2 => by
  rw [areaF_end hh, List.append_nil] at he
  refine post_frz (h2 := Heap.none) (u := intsV acc) (fun _ => True) h2 ?_ (fun _ _ e => by cases e) (fun _ _ => rfl) (by rw [he])
  rw [h1]; exact hs.frz_self fun _ _ => trivial
 simp -implicitDefEqProofs only [go_sem, rB, rA, rS, Sta.cs]
 refine br_intro2 (fun c1 => ?_) (fun c1 => ?_)
 ·simp -implicitDefEqProofs only [go_sem, rB, rA, rS, c1]
  exact fin (.inl (by simp at c1; omega)) _ rfl rfl
 simp -implicitDefEqProofs only [go_sem, rB, rA, rS, rL, c1]
 refine br_intro2 (fun c2 => ?_) (fun c2 => ?_)
 ·simp -implicitDefEqProofs only [go_sem, rB, rA, rS, c2]
  exact fin (.inr (by simp at c2; omega)) _ rfl rfl
 have d1 : k < vs.length := by simpa using c1
 have d2 : k < x.vars.length := by simpa using c2
 obtain ⟨v, hv⟩ : ∃ v, vs[k]? = some v := ⟨_, lG d1⟩
 obtain ⟨l, hl⟩ : ∃ v, x.vars[k]? = some v := ⟨_, lG d2⟩
 have hl100 := s3 l (lM hl)
 rw [areaF_at hv hl] at he
 have hacc : acc.length ≤ 10000 := by
  have := congrArg List.length he
  simp only [List.length_append] at this
  omega
 simp -implicitDefEqProofs only [go_sem, rB, c2]
 refine Loop.rec (α := Nat × Heap × V × List Int) (fun j => l.length - j.1) (fun j => ⟨E 54 [(0, .fsl 5 (vs.map Vr.cells)), (2, .int .i64 a), (4, .lp 4 g 0), (7, j.2.2.1), (8, .int .i64 k), (9, .int .i64 j.1)], B 54 [(4, some (g, x.cs))], j.2.1⟩)
  (fun j => j.1 ≤ l.length ∧ SlH 1 j.2.1 j.2.2.1 (j.2.2.2.map intC) ∧ (v.area = a → j.2.2.2 = acc ++ l.take j.1) ∧ (v.area ≠ a → j.1 = 0 ∧ j.2.2.2 = acc)) ?_ (0, h, out, acc) ⟨Nat.zero_le _, hs, fun _ => by simp, fun _ => ⟨rfl, rfl⟩⟩ rfl
 rintro ⟨j, h, out, acc2⟩ ⟨hj, hs, ha1, ha2⟩ hrec2
 simp only [] at hj hs ha1 ha2
 have hws := wrap_succ (show k < 9223372036854775807 by omega)
 simp -implicitDefEqProofs only [go_sem, rB, rA, rS, rL, Sta.cs, hl, intsV]
 refine br_intro2 (fun c3 => ?_) (fun c3 => ?_)
 ·have hjl : j = l.length := by simp at c3; omega
  simp -implicitDefEqProofs only [go_sem, rB, rA, rS, c3, hws]
  refine hrec (k + 1, h, out, acc2) (by simp only []; omega) ⟨by simp only []; omega, hs, ?_⟩
  simp only []
  by_cases e : v.area = a
  ·rw [if_pos e] at he
   rw [ha1 e, List.take_of_length_le (by omega), List.append_assoc]; exact he
  ·rw [if_neg e, List.nil_append] at he
   rw [(ha2 e).2]; exact he
 simp -implicitDefEqProofs only [go_sem, rB, rA, rS, rL, c3, hv, Vr.cells]
 refine br_intro2 (fun c4 => ?_) (fun c4 => ?_)
 ·have hne : v.area ≠ a := by simpa using c4
  simp -implicitDefEqProofs only [go_sem, rB, rA, rS, c4, hws]
  refine hrec (k + 1, h, out, acc2) (by simp only []; omega) ⟨by simp only []; omega, hs, ?_⟩
  simp only []
  rw [if_neg hne, List.nil_append] at he
  rw [(ha2 hne).2]; exact he
 have hj2 : j < l.length := by simpa using c3
 have heq : v.area = a := by simpa using c4
 obtain ⟨y, hy⟩ : ∃ y, l[j]? = some y := ⟨_, lG hj2⟩
 have hacc2 : acc2.length ≤ 10100 := by rw [ha1 heq, List.length_append, List.length_take]; omega
 simp -implicitDefEqProofs only [go_sem, rB, rA, rS, rM, rL, c4, hl, hy, intC]
 intro idt hidt
 simp -implicitDefEqProofs only [go_sem, rA, rL, elemsOf, upd_self]
 refine appK_sl (hs.alloc hidt) (one_len rfl) (by simp) (by simp; omega) fun id2 h2 hn hi hm => ?_
 simp -implicitDefEqProofs only [go_sem, rB, rA, rS, wrap_succ (show j < 9223372036854775807 by omega)]
 refine hrec2 (j + 1, h2, .msl id2 0 (acc2.length + 1), acc2 ++ [y]) (by simp only []; omega) ⟨by simp only []; omega, .mk (by
  show h2 id2 = _
  rw [hi]; simp [intC]) (by simp), fun e => ?_, fun e => absurd heq e⟩
 simp only []
 rw [ha1 e, List.take_add_one, hy, List.append_assoc]; rfl
theorem off26 (vs : List Vr) (hvs : vs.length ≤ 100) (x : Sta) (hx : StShort x) : Ret prog 26 [.fsl 5 (vs.map Vr.cells), x.v] Heap.none fun r _ => r = intsV (List.replicate (areaF 2 vs x.vars).length 0) := by
 have hal := areaF_len 2 vs x.vars hx.2.2
 refine Ret.by_text rfl rfl ?_
 simp -implicitDefEqProofs only [go_sem, rB, rA, rS, rL, a26, Sta.cellsOf_v, Sta.cs, Sta.fold]
 intro g
 refine callOk_of (area49 vs hvs x hx 2) ?_
 rintro u rfl
 simp -implicitDefEqProofs only [go_sem, rB, rA, rS, intsV, mksK_eq]
 refine ⟨by omega, by omega, by omega, ?_⟩
 intro id hid
 refine post_frz (h2 := Heap.none) (u := intsV (List.replicate (areaF 2 vs x.vars).length 0)) (fun _ => True) rfl ?_ (fun _ _ e => by cases e) (fun _ _ => rfl) rfl
 exact Frz.whole trivial (upd_self _ _ _ |>.trans (by simp [intC])) (by simp)
def endSt (was now : Sta) (f : Int) : Sta := if f = 0 then now else { was with fault := f }
def endOut (vs : List Vr) (was now : Sta) (f : Int) : List Int := if f = 0 then areaF 2 vs now.vars else List.replicate (areaF 2 vs was.vars).length 0
end TryzT
end Go.Abs
namespace Go.Abs
open Go
theorem varsC_set {ids : List Nat} {vals : List (List Int)} {i : Nat} {l l2 : List Int} (h : vals[i]? = some l) (hl : l2.length = l.length) : varsC ids (vals.set i l2) = varsC ids vals := by
 apply List.ext_getElem?
 intro j
 simp only [varsC, List.getElem?_zipWith, List.getElem?_set]
 by_cases e : i = j
 ·subst e
  have := (lS.1 h).1
  simp only [if_true, this, h]
  cases ids[i]? <;> simp [hl]
 ·simp [e]
theorem StH.setV {h : Heap} {ids : List Nat} {bv : V} {x : Sta} (hs : StH h ids bv x) {i id : Nat} {l l2 : List Int} (h1 : ids[i]? = some id) (h2 : x.vars[i]? = some l) {c : List (List V)} (hc : c = l2.map intC) : StH (h.upd id (some (.arr 1 c))) ids bv { x with vars := x.vars.set i l2 } := by
 subst hc
 have hmem := lM h1
 refine ⟨by simpa using hs.len, fun j id2 l3 h3 h4 => ?_, hs.one, hs.blk.mono fun j b h3 h4 => ?_, hs.sep, hs.b10⟩
 ·simp only [List.getElem?_set] at h4
  split at h4
  ·rename_i e
   subst e
   split at h4
   ·injection h4 with h4
    subst h4
    rw [h1] at h3; injection h3 with h3; subst h3
    exact upd_self _ _ _
   ·cases h4
  ·rename_i e
   have hne : id2 ≠ id := fun e2 => e (hs.one i j id h1 (by rw [h3, e2]))
   rw [upd_other _ _ hne]
   exact hs.var j id2 l3 h3 h4
 ·rw [upd_other _ _ (fun e => hs.sep j h4 (by rw [e]; exact hmem))]; exact h3
theorem StH.setB {h : Heap} {ids : List Nat} {bv : V} {x : Sta} (hs : StH h ids bv x) {i idb n : Nat} (hbv : bv = .msl idb 0 n) {y : List Int} (hy : y.length = 10) {c : List (List V)} (hc : c = (x.blocks.map TryzT.instC).set i (TryzT.instC y)) : StH (h.upd idb (some (.arr 10 c))) ids bv { x with blocks := x.blocks.set i y } := by
 subst hc
 subst hbv
 have hsep := hs.sep idb ⟨n, rfl⟩
 refine ⟨hs.len, fun j id2 l3 h3 h4 => ?_, hs.one, ?_, hs.sep, fun b hb => ?_⟩
 ·rw [upd_other _ _ (fun e => hsep (by rw [← e]; exact lM h3))]; exact hs.var j id2 l3 h3 h4
 ·rcases hs.blk with ⟨_, e⟩ | ⟨id, e, _⟩
  ·cases e
  ·injection e with _ _ e
   refine .mk (by rw [upd_self, List.map_set]) (by simpa using e)
 ·rcases List.mem_or_eq_of_mem_set hb with h | h
  ·exact hs.b10 b h
  ·subst h; exact hy
namespace TryzT
theorem wrap_ex (t v : Int) : ∃ n : Int, Ret prog 50 [.int .i64 t, .int .i64 v] Heap.none (fun u _ => u = .int .i64 n) ∧ (t = 1 → n = 0 ∨ n = 1) := by
 obtain ⟨r, ⟨n, rfl, h⟩, hr⟩ := d_wrap t v
 exact ⟨n, hr, h⟩
noncomputable def wrapF (t v : Int) : Int := Classical.choose (wrap_ex t v)
theorem wrapF_spec (t v : Int) : Ret prog 50 [.int .i64 t, .int .i64 v] Heap.none (fun u _ => u = .int .i64 (wrapF t v)) ∧ (t = 1 → wrapF t v = 0 ∨ wrapF t v = 1) := Classical.choose_spec (wrap_ex t v)
noncomputable def inOf (t : Int) (ins : List Int) : Int := match ins with | [] => 0 | i :: _ => wrapF t i
noncomputable def fillIn (t : Int) : List Int → List Int → List Int
 | [], _ => []
 | _ :: l, ins => inOf t ins :: fillIn t l ins.tail
noncomputable def beginV : List Vr → List (List Int) → List Int → List (List Int)
 | v :: vs, l :: xs, ins => if v.area = 1 then fillIn v.t l ins :: beginV vs xs (ins.drop l.length) else l :: beginV vs xs ins
 | _, xs, _ => xs
theorem fillIn_len (t : Int) : ∀ l ins : List Int, (fillIn t l ins).length = l.length
 | [], _ => rfl
 | _ :: l, ins => by simp [fillIn, fillIn_len t l]
theorem fillIn_at (t : Int) {l : List Int} {j : Nat} (hj : j < l.length) (ins : List Int) : fillIn t (l.drop j) ins = inOf t ins :: fillIn t (l.drop (j + 1)) ins.tail := by
 rw [List.drop_eq_getElem_cons hj]; rfl
theorem beginV_at {vs : List Vr} {xs : List (List Int)} {k : Nat} {v : Vr} {l : List Int} (h1 : vs[k]? = some v) (h2 : xs[k]? = some l) (ins : List Int) : beginV (vs.drop k) (xs.drop k) ins = if v.area = 1 then fillIn v.t l ins :: beginV (vs.drop (k + 1)) (xs.drop (k + 1)) (ins.drop l.length) else l :: beginV (vs.drop (k + 1)) (xs.drop (k + 1)) ins := by
 obtain ⟨p1, e1⟩ := lS.1 h1
 obtain ⟨p2, e2⟩ := lS.1 h2
 rw [List.drop_eq_getElem_cons p1, List.drop_eq_getElem_cons p2, e1, e2]; rfl
noncomputable def beginF (vs : List Vr) (x : Sta) (ins : List Int) : Sta := { x with vars := beginV vs x.vars ins }
theorem begin27 (vs : List Vr) (x : Sta) (hx : StShort x) (hb : ∀ b ∈ x.blocks, b.length = 10) (hvl : x.vars.length = vs.length) (hnow : 0 ≤ x.now ∧ x.now ≤ 1099511627776) (ins : List Int) (hin : ins.length ≤ 50) : Ret prog 27 [.fsl 5 (vs.map Vr.cells), x.v, intsV ins, .int .i64 0] Heap.none fun r h => ∃ ids bv, r = .agg (stC ids bv (beginF vs x ins)) ∧ StH h ids bv (beginF vs x ins) := by
 obtain ⟨s1, s2, s3⟩ := id hx
 refine Ret.by_text rfl rfl ?_
 simp -implicitDefEqProofs only [go_sem, rB, rA, rS, rL, a27, Sta.cellsOf_v, Sta.cs, Sta.fold]
 intro g5 g8
 refine .inl (Ret.mono _ _ _ _ _ ?_ (clone13 x hx hb))
 rintro u h ⟨ids, bv, rfl, hs⟩
 have hn1 : decide (x.now > IntKind.i64.wrap (1099511627776 - 0)) = false := by rw [show IntKind.i64.wrap (1099511627776 - 0) = 1099511627776 from rfl]; simp; omega
 have hn2 : IntKind.i64.wrap (x.now + 0) = x.now := by rw [Int.add_zero]; exact wrap_in (by omega)
 simp -implicitDefEqProofs only [go_sem, rB, rA, rS, rL, stC]
 intro g9
 simp -implicitDefEqProofs only [go_sem, rB, rA, rS, rL, jT, jG, show decide ((0 : Int) < 0) = false from rfl, show decide ((0 : Int) > 1099511627776) = false from rfl, hn1, hn2]
 have hil := hs.len
 refine Loop.rec (α := Nat × Heap × List (List Int) × Nat) (fun k => vs.length - k.1) (fun k => ⟨E 92 [(0, .fsl 5 (vs.map Vr.cells)), (2, intsV ins), (5, .lp 5 g5 0), (8, .lp 8 g8 0), (9, .lp 9 g9 0), (10, .int .i64 k.2.2.2), (11, .int .i64 k.1)], B 92 [(5, some (g5, x.cs)), (8, some (g8, [.nsl, .nsl, .int .i64 0, .int .i64 0])), (9, some (g9, [.fsl 1 (varsC ids x.vars), bv, .int .i64 x.now, .int .i64 x.fault]))], k.2.1⟩)
  (fun k => k.1 ≤ vs.length ∧ StH k.2.1 ids bv { x with vars := k.2.2.1 } ∧ k.2.2.1.length = x.vars.length ∧ varsC ids k.2.2.1 = varsC ids x.vars ∧ (∀ i : Nat, k.1 ≤ i → k.2.2.1[i]? = x.vars[i]?) ∧ k.2.2.1.take k.1 ++ beginV (vs.drop k.1) (x.vars.drop k.1) (ins.drop k.2.2.2) = beginV vs x.vars ins ∧ k.2.2.2 ≤ 100 * k.1) ?_ (0, h, x.vars, 0) ⟨Nat.zero_le _, hs, rfl, rfl, fun _ _ => rfl, by simp, by simp⟩ rfl
 rintro ⟨k, h, cur, n⟩ ⟨hk, hs, hcl, hvc, hrest, he, hn⟩ hrec
 simp only [] at hk hs hcl hvc hrest he hn
 simp -implicitDefEqProofs only [go_sem, rB, rA, rS, Sta.cs, intsV]
 refine br_intro2 (fun c1 => ?_) (fun c1 => ?_)
 ·have e0 : k = vs.length := by simp at c1; omega
  simp -implicitDefEqProofs only [go_sem, rB, rA, rS, rL, c1]
  have ec : cur = beginV vs x.vars ins := by
   rw [List.drop_eq_nil_of_le (show vs.length ≤ k by omega), List.drop_eq_nil_of_le (show x.vars.length ≤ k by omega), List.take_of_length_le (by omega)] at he
   simpa [beginV] using he
  refine post_ret (v := .agg (stC ids bv (beginF vs x ins))) (by simp -implicitDefEqProofs only [go_sem, rB, rA, rS, rL, resultOf, mapM?, ARes.val]; rw [stC, beginF, ← ec, ← hvc]) ⟨ids, bv, rfl, ?_⟩
  rw [beginF, ← ec]; exact hs
 have d1 : k < vs.length := by simpa using c1
 obtain ⟨v, hv⟩ : ∃ v, vs[k]? = some v := ⟨_, lG d1⟩
 obtain ⟨l, hl⟩ : ∃ v, x.vars[k]? = some v := ⟨_, lG (by omega)⟩
 obtain ⟨id, hid⟩ : ∃ v, ids[k]? = some v := ⟨_, lG (by omega)⟩
 have hl100 := s3 l (lM hl)
 have hcur : cur[k]? = some l := by rw [hrest k (Nat.le_refl _)]; exact hl
 have c2 : decide ((k : Int) < (x.vars.length : Int)) = true := by simp; omega
 have hws := wrap_succ (show k < 9223372036854775807 by omega)
 rw [beginV_at hv hl] at he
 simp -implicitDefEqProofs only [go_sem, rB, rA, rS, rL, c1, c2]
 refine Loop.rec (α := Nat × Heap × List (List Int) × List Int × Nat) (fun j => l.length - j.1) (fun j => ⟨E 92 [(0, .fsl 5 (vs.map Vr.cells)), (2, intsV ins), (5, .lp 5 g5 0), (8, .lp 8 g8 0), (9, .lp 9 g9 0), (10, .int .i64 j.2.2.2.2), (11, .int .i64 k), (12, .int .i64 j.1)], B 92 [(5, some (g5, x.cs)), (8, some (g8, [.nsl, .nsl, .int .i64 0, .int .i64 0])), (9, some (g9, [.fsl 1 (varsC ids x.vars), bv, .int .i64 x.now, .int .i64 x.fault]))], j.2.1⟩)
  (fun j => j.1 ≤ l.length ∧ StH j.2.1 ids bv { x with vars := j.2.2.1 } ∧ j.2.2.1 = cur.set k j.2.2.2.1 ∧ j.2.2.2.1.length = l.length ∧ (v.area = 1 → j.2.2.2.2 = n + j.1 ∧ j.2.2.2.1.take j.1 ++ fillIn v.t (l.drop j.1) (ins.drop j.2.2.2.2) = fillIn v.t l (ins.drop n)) ∧ (v.area ≠ 1 → j.1 = 0 ∧ j.2.2.2.2 = n ∧ j.2.2.2.1 = l)) ?_ (0, h, cur, l, n) ⟨Nat.zero_le _, hs, by
   apply List.ext_getElem?
   intro i
   simp only [List.getElem?_set]
   split
   ·rename_i e; subst e; rw [if_pos (by omega)]; exact hcur
   ·rfl, rfl, fun _ => ⟨rfl, by simp⟩, fun _ => ⟨rfl, rfl, rfl⟩⟩ rfl
 rintro ⟨j, h, cur2, row, m⟩ ⟨hj, hs, hc2, hrl, ha1, ha2⟩ hrec2
 simp only [] at hj hs hc2 hrl ha1 ha2
 have hset : varsC ids cur2 = varsC ids x.vars := by rw [hc2, varsC_set hcur (by omega), hvc]
 have hclen : cur2.length = x.vars.length := by rw [hc2]; simpa using hcl
 have hrest2 : ∀ i : Nat, k + 1 ≤ i → cur2[i]? = x.vars[i]? := fun i hi => by rw [hc2, List.getElem?_set_ne (by omega)]; exact hrest i (by omega)
 have htake : cur2.take (k + 1) = cur.take k ++ [row] := by
  rw [hc2, List.take_add_one, List.take_set_of_le (Nat.le_refl _), List.getElem?_set_self (by omega)]; rfl
 simp -implicitDefEqProofs only [go_sem, rB, rA, rS, rL, Sta.cs, hl, intsV]
 refine br_intro2 (fun c3 => ?_) (fun c3 => ?_)
 ·have hjl : j = l.length := by simp at c3; omega
  simp -implicitDefEqProofs only [go_sem, rB, rA, rS, rL, c3, hws]
  refine hrec (k + 1, h, cur2, m) (by simp only []; omega) ⟨by simp only []; omega, hs, hclen, hset, hrest2, ?_, ?_⟩
  ·simp only []
   rw [htake]
   by_cases e : v.area = 1
   ·rw [if_pos e] at he
    obtain ⟨e1, e2⟩ := ha1 e
    rw [List.drop_eq_nil_of_le (show l.length ≤ j by omega), List.take_of_length_le (by omega)] at e2
    simp only [fillIn, List.append_nil] at e2
    rw [List.drop_drop] at he
    rw [e1, hjl, e2, List.append_assoc]
    exact he
   ·rw [if_neg e] at he
    obtain ⟨e1, e2, e3⟩ := ha2 e
    rw [e2, e3, List.append_assoc]; exact he
  ·simp only []
   by_cases e : v.area = 1
   ·have := (ha1 e).1; omega
   ·have := (ha2 e).2.1; omega
 simp -implicitDefEqProofs only [go_sem, rB, rA, rS, rL, c3, hv, Vr.cells]
 refine br_intro2 (fun c4 => ?_) (fun c4 => ?_)
 ·have hne : v.area ≠ 1 := by simpa using c4
  obtain ⟨e1, e2, e3⟩ := ha2 hne
  simp -implicitDefEqProofs only [go_sem, rB, rA, rS, rL, c4, hws]
  refine hrec (k + 1, h, cur2, m) (by simp only []; omega) ⟨by simp only []; omega, hs, hclen, hset, hrest2, ?_, by simp only []; omega⟩
  simp only []
  rw [if_neg hne] at he
  rw [htake, e2, e3, List.append_assoc]; exact he
 have hj2 : j < l.length := by simpa using c3
 have heq : v.area = 1 := by simpa using c4
 obtain ⟨e1, e2⟩ := ha1 heq
 rw [fillIn_at v.t hj2] at e2
 have hrow : cur2[k]? = some row := by rw [hc2, List.getElem?_set_self (by omega)]
 have hbid := hs.var k id row hid hrow
 have f1 : ((j : Int) < (row.length : Int)) = True := eq_true (by omega)
 obtain ⟨y, hy⟩ : ∃ y, row[j]? = some y := ⟨_, lG (by omega)⟩
 have hvat := varsC_at hid hrow
 rw [hset] at hvat
 have st1 := hs.setV hid hrow (l2 := row.set j 0) (c := (row.map intC).set j [.int .i64 0]) (by rw [List.map_set]; rfl)
 have hcc : ∀ r2 : List Int, cur2.set k r2 = cur.set k r2 := fun r2 => by rw [hc2]; simp
 have htk : ∀ z : Int, (row.set j z).take (j + 1) = row.take j ++ [z] := fun z => by
  rw [List.take_add_one, List.take_set_of_le (Nat.le_refl _), List.getElem?_set_self (by omega)]; rfl
 have hmn : m < 100000 := by omega
 simp -implicitDefEqProofs only [W_skip, W_region, W_seq, W_cond, W_block, Thn_normal, wOps_nil, wOps_cons, val_0, valK_eq, onPut_some, onBool_bool, st_0, stK_eq, onS_some, ev_E, ev_c, set_E, getD_B, look_cons, lookB_cons, look_nil, lookB_nil, cond_true, cond_false, rB, rA, rS, rL, if_true, if_false, storeOf, storeCells, over, List.append_nil, Bool.false_eq_true, and_self, List.getElem?_cons_zero, List.length_cons, List.length_nil, List.drop_succ_cons, List.drop_zero, List.take_succ_cons, List.take_zero, List.take_nil, List.drop_nil, List.nil_append, AVal.eval, cellsOf_int, nat_le, Int.toNat_natCast, List.length_map, Option.map_some, loadOf, cellsAt, boxOf, partOf, binOf, intOf, c4, hvat, f1, hbid, Nat.zero_add, hy, List.getElem?_map, intC]
 refine br_intro (fun c5 => ?_) (fun c5 => ?_)
 ·have hmi : m < ins.length := by simpa using c5
  obtain ⟨i, hi⟩ : ∃ y, ins[m]? = some y := ⟨_, lG hmi⟩
  obtain ⟨w1, w2⟩ := wrapF_spec v.t i
  have hins : ins.drop m = i :: ins.drop (m + 1) := by
   obtain ⟨p, e⟩ := lS.1 hi
   rw [List.drop_eq_getElem_cons p, e]
  rw [hins] at e2
  simp -implicitDefEqProofs only [go_sem, rB, rA, rS, rL, c5, hvat, hv, Vr.cells, hi, intC]
  refine callOk_of w1 ?_
  rintro u rfl
  have hset2 : ((List.map intC row).set j [.int .i64 0])[j]? = some [.int .i64 0] := by rw [List.getElem?_set_self (by simp; omega)]
  simp -implicitDefEqProofs only [go_sem, rB, rA, rS, rL, f1, upd_self, upd_upd, Nat.zero_add, hset2, List.set_set, wrap_succ (show m < 9223372036854775807 by omega), wrap_succ (show j < 9223372036854775807 by omega)]
  refine hrec2 (j + 1, _, cur2.set k (row.set j (wrapF v.t i)), row.set j (wrapF v.t i), m + 1) (by simp only []; omega) ⟨by simp only []; omega, hs.setV hid hrow (by rw [List.map_set]; rfl), hcc _, by simpa using hrl, fun _ => ⟨by simp only []; omega, ?_⟩, fun h => absurd heq h⟩
  simp only []
  rw [htk, List.append_assoc, ← e2]
  rfl
 ·have hmi : ¬ m < ins.length := by simpa using c5
  have hins : ins.drop m = [] := List.drop_eq_nil_of_le (by omega)
  have hins2 : ins.drop (m + 1) = [] := List.drop_eq_nil_of_le (by omega)
  rw [hins] at e2
  simp -implicitDefEqProofs only [go_sem, rB, rA, rS, c5, wrap_succ (show m < 9223372036854775807 by omega), wrap_succ (show j < 9223372036854775807 by omega)]
  refine hrec2 (j + 1, _, cur2.set k (row.set j 0), row.set j 0, m + 1) (by simp only []; omega) ⟨by simp only []; omega, st1, hcc _, by simpa using hrl, fun _ => ⟨by simp only []; omega, ?_⟩, fun h => absurd heq h⟩
  simp only []
  rw [htk, List.append_assoc, hins2, ← e2]
  rfl
end TryzT
end Go.Abs
namespace Go.Abs
open Go
structure RS where
 x : Sta
 left : Int
 fault : Int
namespace TryzT
theorem eval_ex (s : Sc) (st : Sta) (sl : List Int) (hs : FitsS s st) (hsl : FitsL s sl) (e : Ex) (hg : Good s e) : ∃ p : Int × Int, Ret prog 52 [s.v, st.v, intsV sl, e.v] Heap.none (fun u _ => u = .tup [.int .i64 p.1, .int .i64 p.2]) ∧ (B1 s e → p.1 = 0 ∨ p.1 = 1) := by
 obtain ⟨r, ⟨a, f, rfl, hb⟩, hr⟩ := d_eval s st sl hs hsl e hg
 exact ⟨(a, f), hr, hb⟩
open Classical in
noncomputable def evalF (s : Sc) (st : Sta) (sl : List Int) (e : Ex) : Int × Int :=
 if h : ∃ p : Int × Int, Ret prog 52 [s.v, st.v, intsV sl, e.v] Heap.none (fun u _ => u = .tup [.int .i64 p.1, .int .i64 p.2]) ∧ (B1 s e → p.1 = 0 ∨ p.1 = 1) then Classical.choose h else (0, 0)
theorem evalF_spec (s : Sc) (st : Sta) (sl : List Int) (hs : FitsS s st) (hsl : FitsL s sl) (e : Ex) (hg : Good s e) : Ret prog 52 [s.v, st.v, intsV sl, e.v] Heap.none (fun u _ => u = .tup [.int .i64 (evalF s st sl e).1, .int .i64 (evalF s st sl e).2]) ∧ (B1 s e → (evalF s st sl e).1 = 0 ∨ (evalF s st sl e).1 = 1) := by
 have h := eval_ex s st sl hs hsl e hg
 unfold evalF
 rw [dif_pos h]
 exact Classical.choose_spec h
theorem set_ex (k : Int) (xs : List Int) (hx : xs.length = 10) (i v : Int) : ∃ ys : List Int, ys.length = 10 ∧ Ret prog 90 [.int .i64 k, .agg (instC xs), .int .i64 i, .int .i64 v] Heap.none (fun u _ => u = .agg (instC ys)) := by
 obtain ⟨r, ⟨ys, h, rfl⟩, hr⟩ := d_set k xs hx i v
 exact ⟨ys, h, hr⟩
theorem run_ex (k : Int) (xs : List Int) (hx : xs.length = 10) (now : Int) : ∃ ys : List Int, ys.length = 10 ∧ Ret prog 91 [.int .i64 k, .agg (instC xs), .int .i64 now] Heap.none (fun u _ => u = .agg (instC ys)) := by
 match xs, hx with
 | [a, b, c, d, e, f, g, h, i, j], _ =>
  obtain ⟨r, ⟨a1, b1, c1, d1, e1, f1, g1, h1, i1, j1, rfl⟩, hr⟩ := d_run k a b c d e f g h i j now
  exact ⟨[a1, b1, c1, d1, e1, f1, g1, h1, i1, j1], rfl, hr⟩
open Classical in
noncomputable def setF (k : Int) (xs : List Int) (i v : Int) : List Int := if h : xs.length = 10 then Classical.choose (set_ex k xs h i v) else xs
open Classical in
noncomputable def runF (k : Int) (xs : List Int) (now : Int) : List Int := if h : xs.length = 10 then Classical.choose (run_ex k xs h now) else xs
theorem setF_spec (k : Int) (xs : List Int) (hx : xs.length = 10) (i v : Int) : (setF k xs i v).length = 10 ∧ Ret prog 90 [.int .i64 k, .agg (instC xs), .int .i64 i, .int .i64 v] Heap.none (fun u _ => u = .agg (instC (setF k xs i v))) := by
 unfold setF
 rw [dif_pos hx]
 exact Classical.choose_spec (set_ex k xs hx i v)
theorem runF_spec (k : Int) (xs : List Int) (hx : xs.length = 10) (now : Int) : (runF k xs now).length = 10 ∧ Ret prog 91 [.int .i64 k, .agg (instC xs), .int .i64 now] Heap.none (fun u _ => u = .agg (instC (runF k xs now))) := by
 unfold runF
 rw [dif_pos hx]
 exact Classical.choose_spec (run_ex k xs hx now)
/-! ### Steps -/
def takeF (r : RS) (n : Int) : RS := if r.fault = 0 then (if n > r.left then { r with fault := 1 } else { r with left := r.left - n }) else r
noncomputable def ofF (s : Sc) (r : RS) (sl : List Int) (e : Ex) : RS × Int := if r.fault ≠ 0 then (r, 0) else ({ r with fault := (evalF s r.x sl e).2 }, (evalF s r.x sl e).1)
def putV (r : RS) (n : Nat) (k : Nat) (v : Int) : RS := { r with x := { r.x with vars := r.x.vars.set n (((r.x.vars[n]?).getD []).set k v) } }
def putB (r : RS) (n : Nat) (y : List Int) : RS := { r with x := { r.x with blocks := r.x.blocks.set n y } }
def kindB (s : Sc) (n : Nat) : Int := ((s.blocks[n]?).map Bk.kind).getD 0
def getB (r : RS) (n : Nat) : List Int := (r.x.blocks[n]?).getD []
noncomputable def argsF (s : Sc) (n : Nat) (sl : List Int) : List Ar → RS → RS
 | [], r => r
 | a :: l, r =>
  let p := ofF s r sl a.e
  if p.1.fault ≠ 0 then p.1 else argsF s n sl l (putB p.1 n (setF (kindB s n) (getB p.1 n) a.field p.2))
noncomputable def plF (s : Sc) (r : RS) (sl : List Int) (x : St) : RS × List Int :=
 let n := x.n.toNat
 if x.kind = 1 then
  let p := ofF s r sl x.e
  if p.1.fault ≠ 0 then (p.1, sl) else (putV p.1 n 0 p.2, sl)
 else if x.kind = 3 then
  let q := ofF s r sl x.i
  let p := ofF s q.1 sl x.e
  if p.1.fault ≠ 0 then (p.1, sl)
  else if q.2 < 0 ∨ q.2 ≥ (((r.x.vars[n]?).getD []).length : Int) then ({ p.1 with fault := 3 }, sl)
  else (putV p.1 n q.2.toNat p.2, sl)
 else if x.kind = 2 then
  let p := ofF s r sl x.e
  if p.1.fault ≠ 0 then (p.1, sl) else (p.1, sl.set n p.2)
 else if x.kind = 4 then
  let p := ofF s r sl x.e
  if p.1.fault ≠ 0 then (p.1, sl) else (putB p.1 n (setF (kindB s n) (getB p.1 n) x.m p.2), sl)
 else if x.kind = 5 then
  let r1 := argsF s n sl x.args r
  if r1.fault ≠ 0 then (r1, sl) else (putB r1 n (runF (kindB s n) (getB r1 n) r1.x.now), sl)
 else (r, sl)
def pickF (x : St) (v : Int) : List St := x.arms.foldl (fun b a => a.labels.foldl (fun b k => if k = v then a.body else b) b) (if x.kind = 7 ∧ v = 1 then x.body else x.els)
mutual
noncomputable def exL (s : Sc) : Nat → RS → List Int → List St → Option (RS × List Int × Int)
 | 0, _, _, _ => none
 | _ + 1, r, sl, [] => some (r, sl, 0)
 | n + 1, r, sl, x :: l =>
  if r.fault ≠ 0 then some (r, sl, 0) else
  match exO s n r sl x with
  | none => none
  | some (r2, sl2, e) => if e ≠ 0 then some (r2, sl2, e) else exL s n r2 sl2 l
noncomputable def exO (s : Sc) : Nat → RS → List Int → St → Option (RS × List Int × Int)
 | 0, _, _, _ => none
 | n + 1, r, sl, x =>
  if x.kind ≥ 8 ∧ x.kind ≤ 10 then exW s n r sl x
  else if (takeF r x.cost).fault ≠ 0 then some (takeF r x.cost, sl, 0)
  else if x.kind ≥ 12 then some (takeF r x.cost, sl, x.kind - 11)
  else if x.kind = 7 ∨ x.kind = 11 then exL s n (ofF s (takeF r x.cost) sl x.e).1 sl (pickF x (ofF s (takeF r x.cost) sl x.e).2)
  else some ((plF s (takeF r x.cost) sl x).1, (plF s (takeF r x.cost) sl x).2, 0)
noncomputable def exW (s : Sc) : Nat → RS → List Int → St → Option (RS × List Int × Int)
 | 0, _, _, _ => none
 | n + 1, r, sl, x =>
  if r.fault ≠ 0 then some (r, sl, 0)
  else if x.kind = 8 then
   if (takeF r x.cost).fault ≠ 0 then some (takeF r x.cost, sl, 0)
   else if (ofF s (takeF r x.cost) sl x.e).2 = 0 then some ((ofF s (takeF r x.cost) sl x.e).1, sl, 0)
   else exB s n r.left (ofF s (takeF r x.cost) sl x.e).1 sl x
  else exB s n r.left r sl x
noncomputable def exB (s : Sc) : Nat → Int → RS → List Int → St → Option (RS × List Int × Int)
 | 0, _, _, _, _ => none
 | n + 1, was, r, sl, x =>
  match exL s n r sl x.body with
  | none => none
  | some (r2, sl2, e) =>
   if e = 3 ∨ e = 1 then some (r2, sl2, if e = 3 then 3 else 0)
   else if x.kind = 10 then
    if (takeF r2 x.cost).fault ≠ 0 then some (takeF r2 x.cost, sl2, 0)
    else if (ofF s (takeF r2 x.cost) sl2 x.e).2 = 1 then some ((ofF s (takeF r2 x.cost) sl2 x.e).1, sl2, 0)
    else exW s n (if (ofF s (takeF r2 x.cost) sl2 x.e).1.left = was then takeF (ofF s (takeF r2 x.cost) sl2 x.e).1 1 else (ofF s (takeF r2 x.cost) sl2 x.e).1) sl2 x
   else exW s n (if r2.left = was then takeF r2 1 else r2) sl2 x
end
end TryzT
end Go.Abs
namespace Go.Abs
open Go
namespace TryzT
structure Fit (s : Sc) (r : RS) (sl : List Int) : Prop where
 st : FitsS s r.x
 sl : FitsL s sl
 l0 : 0 ≤ r.left
 l1 : r.left ≤ 1048576
 sh : StShort r.x
theorem takeF_x (r : RS) (n : Int) : (takeF r n).x = r.x := by
 unfold takeF
 repeat' split
 all_goals rfl
theorem takeF_fault {r : RS} {n : Int} (h : (takeF r n).fault = 0) : r.fault = 0 ∧ n ≤ r.left ∧ takeF r n = { r with left := r.left - n } := by
 unfold takeF at h ⊢
 split at h
 ·rename_i h0
  split at h
  ·simp at h
  ·rename_i h1
   exact ⟨h0, by omega, by rw [if_pos h0, if_neg h1]⟩
 ·rename_i h0; exact absurd h h0
theorem takeF_left (r : RS) (n : Int) (hn : 0 ≤ n) : (takeF r n).left ≤ r.left ∧ (0 ≤ r.left → 0 ≤ (takeF r n).left) := by
 unfold takeF
 repeat' split
 ·exact ⟨Int.le_refl _, id⟩
 ·exact ⟨by simp only []; omega, fun h => by simp only []; omega⟩
 ·exact ⟨Int.le_refl _, id⟩
theorem takeF_bad {r : RS} (h : r.fault ≠ 0) (n : Int) : takeF r n = r := by unfold takeF; rw [if_neg h]
theorem Fit.take {s : Sc} {r : RS} {sl : List Int} (h : Fit s r sl) {n : Int} (hn : 0 ≤ n) : Fit s (takeF r n) sl := by
 obtain ⟨h1, h2⟩ := takeF_left r n hn
 exact ⟨by rw [takeF_x]; exact h.st, h.sl, h2 h.l0, by have := h.l1; omega, by rw [takeF_x]; exact h.sh⟩
theorem ofF_x (s : Sc) (r : RS) (sl : List Int) (e : Ex) : (ofF s r sl e).1.x = r.x ∧ (ofF s r sl e).1.left = r.left := by unfold ofF; split <;> exact ⟨rfl, rfl⟩
theorem Fit.of {s : Sc} {r : RS} {sl : List Int} (h : Fit s r sl) (e : Ex) : Fit s (ofF s r sl e).1 sl := by
 obtain ⟨h1, h2⟩ := ofF_x s r sl e
 exact ⟨by rw [h1]; exact h.st, h.sl, by rw [h2]; exact h.l0, by rw [h2]; exact h.l1, by rw [h1]; exact h.sh⟩
theorem Fit.bit {s : Sc} {r : RS} {sl : List Int} (h : Fit s r sl) {e : Ex} (hg : Good s e) (hb : B1 s e) : (ofF s r sl e).2 = 0 ∨ (ofF s r sl e).2 = 1 := by
 unfold ofF
 split
 ·exact .inl rfl
 ·exact (evalF_spec s r.x sl h.st h.sl e hg).2 hb
theorem FitsS.setV {s : Sc} {st : Sta} (hs : FitsS s st) (n k : Nat) (v : Int) (hv : ∀ vr, s.vars[n]? = some vr → vr.t = 1 → v = 0 ∨ v = 1) : FitsS s { st with vars := st.vars.set n (((st.vars[n]?).getD []).set k v) } := by
 have key : ∀ (i : Nat) (l : List Int), (st.vars.set n (((st.vars[n]?).getD []).set k v))[i]? = some l → ∃ l0, st.vars[i]? = some l0 ∧ l.length = l0.length ∧ (l = l0 ∨ (i = n ∧ l = l0.set k v)) := by
  intro i l hl
  rw [List.getElem?_set] at hl
  split at hl
  ·rename_i e
   subst e
   split at hl
   ·injection hl with hl
    rename_i h5
    have h6 : st.vars[n]? = some st.vars[n] := lG h5
    rw [h6] at hl
    exact ⟨_, h6, by rw [← hl]; simp, .inr ⟨rfl, hl.symm⟩⟩
   ·cases hl
  ·exact ⟨l, hl, rfl, .inl rfl⟩
 refine ⟨by simpa using hs.len, fun i l hl => ?_, fun i vr l h1 h2 ht y hy => ?_, hs.blen, hs.b10⟩
 ·obtain ⟨l0, h1, h2, _⟩ := key i l hl
  rw [h2]; exact hs.pos i l0 h1
 ·obtain ⟨l0, h3, _, h4⟩ := key i l h2
  rcases h4 with h4 | ⟨h4, h5⟩
  ·subst h4; exact hs.bit i vr l h1 h3 ht y hy
  ·subst h4; subst h5
   rcases List.mem_or_eq_of_mem_set hy with h6 | h6
   ·exact hs.bit i vr l0 h1 h3 ht y h6
   ·subst h6; exact hv vr h1 ht
theorem StShort.setV {st : Sta} (hs : StShort st) (n k : Nat) (v : Int) : StShort { st with vars := st.vars.set n (((st.vars[n]?).getD []).set k v) } := by
 obtain ⟨h1, h2, h3⟩ := hs
 refine ⟨by simpa using h1, h2, fun l hl => ?_⟩
 rcases List.mem_or_eq_of_mem_set hl with h | h
 ·exact h3 l h
 ·subst h
  rw [List.length_set]
  cases e : st.vars[n]? with
  | none => simp
  | some l => exact h3 l (lM e)
theorem Fit.putV {s : Sc} {r : RS} {sl : List Int} (h : Fit s r sl) (n k : Nat) (v : Int) (hv : ∀ vr, s.vars[n]? = some vr → vr.t = 1 → v = 0 ∨ v = 1) : Fit s (putV r n k v) sl :=
 ⟨FitsS.setV h.st n k v hv, h.sl, h.l0, h.l1, StShort.setV h.sh n k v⟩
theorem Fit.putB {s : Sc} {r : RS} {sl : List Int} (h : Fit s r sl) (n : Nat) (y : List Int) (hy : n < r.x.blocks.length → y.length = 10) : Fit s (putB r n y) sl := by
 refine ⟨⟨h.st.len, h.st.pos, h.st.bit, by simpa [TryzT.putB] using h.st.blen, fun b hb => ?_⟩, h.sl, h.l0, h.l1, ⟨h.sh.1, by simpa [TryzT.putB] using h.sh.2.1, h.sh.2.2⟩⟩
 by_cases hn : n < r.x.blocks.length
 ·rcases List.mem_or_eq_of_mem_set hb with h1 | h1
  ·exact h.st.b10 b h1
  ·subst h1; exact hy hn
 ·have : r.x.blocks.set n y = r.x.blocks := List.set_eq_of_length_le (by omega)
  simp only [TryzT.putB, this] at hb
  exact h.st.b10 b hb
theorem getB_len {s : Sc} {r : RS} {sl : List Int} (h : Fit s r sl) {n : Nat} (hn : n < r.x.blocks.length) : (getB r n).length = 10 := by
 unfold getB
 rw [lG hn]
 exact h.st.b10 _ (List.getElem_mem hn)
theorem Fit.slot {s : Sc} {r : RS} {sl : List Int} (h : Fit s r sl) (n : Nat) (v : Int) (hv : s.slots[n]? = some 1 → v = 0 ∨ v = 1) : Fit s r (sl.set n v) := by
 refine ⟨h.st, ⟨by simpa using h.sl.len, fun i y h1 h2 => ?_⟩, h.l0, h.l1, h.sh⟩
 rw [List.getElem?_set] at h2
 split at h2
 ·rename_i e
  subst e
  split at h2
  ·injection h2 with h2; subst h2; exact hv h1
  ·cases h2
 ·exact h.sl.bit i y h1 h2
theorem Fit.args {s : Sc} (n : Nat) {sl : List Int} : ∀ (l : List Ar) {r : RS}, Fit s r sl → Fit s (argsF s n sl l r) sl ∧ (argsF s n sl l r).left = r.left
 | [], r, h => ⟨h, rfl⟩
 | a :: l, r, h => by
  have h1 := h.of a.e
  have h2 := (ofF_x s r sl a.e).2
  simp only [argsF]
  split
  ·exact ⟨h1, h2⟩
  ·obtain ⟨h3, h4⟩ := Fit.args n l (h1.putB n (setF (kindB s n) (getB (ofF s r sl a.e).1 n) a.field (ofF s r sl a.e).2) fun hn => (setF_spec _ _ (getB_len h1 hn) _ _).1)
   exact ⟨h3, by rw [h4]; exact h2⟩
theorem Fit.pl {s : Sc} {r : RS} {sl : List Int} (h : Fit s r sl) {x : St} {lp : Int} (hw : WF s lp x) : Fit s (plF s r sl x).1 (plF s r sl x).2 ∧ (plF s r sl x).1.left = r.left := by
 cases hw with
 | mk _ _ hc hk hB h13 h2 h4 h5 h6 hg h8 h9 h11 body els arms =>
 have h1 := h.of x.e
 have hx1 := (ofF_x s r sl x.e).2
 unfold plF
 simp only []
 split
 ·rename_i k1
  obtain ⟨k, v, hn, hv, gx, bx, _⟩ := h13 (.inl k1)
  split
  ·exact ⟨h1, hx1⟩
  ·refine ⟨h1.putV _ _ _ fun vr hvr ht => h.bit gx (bx ?_), hx1⟩
   rw [hn, Int.toNat_natCast, hv] at hvr; injection hvr with hvr; subst hvr; exact ht
 ·split
  ·rename_i k3
   obtain ⟨k, v, hn, hv, gx, bx, gi⟩ := h13 (.inr k3)
   have h2 := h.of x.i
   have h3 := h2.of x.e
   have hx2 := (ofF_x s r sl x.i).2
   have hx3 := (ofF_x s (ofF s r sl x.i).1 sl x.e).2
   split
   ·exact ⟨h3, by rw [hx3, hx2]⟩
   ·split
    ·exact ⟨⟨h3.st, h3.sl, h3.l0, h3.l1, h3.sh⟩, by rw [← hx2, ← hx3]⟩
    ·refine ⟨h3.putV _ _ _ fun vr hvr ht => h2.bit gx (bx ?_), by rw [← hx2, ← hx3]; rfl⟩
     rw [hn, Int.toNat_natCast, hv] at hvr; injection hvr with hvr; subst hvr; exact ht
  ·split
   ·rename_i k2
    obtain ⟨k, t, hn, ht, gx, bx⟩ := h2 k2
    split
    ·exact ⟨h1, hx1⟩
    ·refine ⟨h1.slot _ _ fun hs => h.bit gx (bx ?_), hx1⟩
     rw [hn, Int.toNat_natCast, ht] at hs; injection hs
   ·split
    ·split
     ·exact ⟨h1, hx1⟩
     ·exact ⟨h1.putB _ _ fun hn => (setF_spec _ _ (getB_len h1 hn) _ _).1, hx1⟩
    ·split
     ·obtain ⟨h3, h4⟩ := Fit.args x.n.toNat x.args h
      split
      ·exact ⟨h3, h4⟩
      ·exact ⟨h3.putB _ _ fun hn => (runF_spec _ _ (getB_len h3 hn) _).1, h4⟩
     ·exact ⟨h, rfl⟩
end TryzT
end Go.Abs
namespace Go.Abs
open Go
namespace TryzT
theorem ex_mono (s : Sc) : ∀ n : Nat,
  (∀ r sl l q, exL s n r sl l = some q → exL s (n + 1) r sl l = some q) ∧
  (∀ r sl x q, exO s n r sl x = some q → exO s (n + 1) r sl x = some q) ∧
  (∀ r sl x q, exW s n r sl x = some q → exW s (n + 1) r sl x = some q) ∧
  (∀ w r sl x q, exB s n w r sl x = some q → exB s (n + 1) w r sl x = some q) := by
 intro n
 induction n with
 | zero => exact ⟨fun r sl l q h => by simp [exL] at h, fun r sl l q h => by simp [exO] at h, fun r sl l q h => by simp [exW] at h, fun w r sl l q h => by simp [exB] at h⟩
 | succ n ih =>
  obtain ⟨iL, iO, iW, iB⟩ := ih
  refine ⟨fun r sl l q h => ?_, fun r sl x q h => ?_, fun r sl x q h => ?_, fun w r sl x q h => ?_⟩
  ·cases l with
   | nil => simpa [exL] using h
   | cons x l =>
    rw [exL] at h ⊢
    split at h
    ·rename_i hf; rw [if_pos hf]; exact h
    ·rename_i hf
     rw [if_neg hf]
     split at h
     ·cases h
     ·rename_i r2 sl2 e he
      rw [iO _ _ _ _ he]
      simp only []
      split at h
      ·rename_i h0; rw [if_pos h0]; exact h
      ·rename_i h0; rw [if_neg h0]; exact iL _ _ _ _ h
  ·rw [exO] at h ⊢
   split at h
   ·rename_i c1; rw [if_pos c1]; exact iW _ _ _ _ h
   ·rename_i c1
    rw [if_neg c1]
    split at h
    ·rename_i c2; rw [if_pos c2]; exact h
    ·rename_i c2
     rw [if_neg c2]
     split at h
     ·rename_i c3; rw [if_pos c3]; exact h
     ·rename_i c3
      rw [if_neg c3]
      split at h
      ·rename_i c4; rw [if_pos c4]; exact iL _ _ _ _ h
      ·rename_i c4; rw [if_neg c4]; exact h
  ·rw [exW] at h ⊢
   split at h
   ·rename_i c1; rw [if_pos c1]; exact h
   ·rename_i c1
    rw [if_neg c1]
    split at h
    ·rename_i c2
     rw [if_pos c2]
     split at h
     ·rename_i c3; rw [if_pos c3]; exact h
     ·rename_i c3
      rw [if_neg c3]
      split at h
      ·rename_i c4; rw [if_pos c4]; exact h
      ·rename_i c4; rw [if_neg c4]; exact iB _ _ _ _ _ h
    ·rename_i c2; rw [if_neg c2]; exact iB _ _ _ _ _ h
  ·rw [exB] at h ⊢
   split at h
   ·cases h
   ·rename_i r2 sl2 e he
    rw [iL _ _ _ _ he]
    simp only []
    split at h
    ·rename_i h0; rw [if_pos h0]; exact h
    ·rename_i h0
     rw [if_neg h0]
     split at h
     ·rename_i h1
      rw [if_pos h1]
      split at h
      ·rename_i h2; rw [if_pos h2]; exact h
      ·rename_i h2
       rw [if_neg h2]
       split at h
       ·rename_i h3; rw [if_pos h3]; exact h
       ·rename_i h3; rw [if_neg h3]; exact iW _ _ _ _ h
     ·rename_i h1; rw [if_neg h1]; exact iW _ _ _ _ h
theorem exL_le (s : Sc) {n m : Nat} (h : n ≤ m) {r : RS} {sl : List Int} {l : List St} {q : RS × List Int × Int} (hq : exL s n r sl l = some q) : exL s m r sl l = some q := by
 induction h with
 | refl => exact hq
 | step _ ih => exact (ex_mono s _).1 _ _ _ _ ih
theorem exO_le (s : Sc) {n m : Nat} (h : n ≤ m) {r : RS} {sl : List Int} {l : St} {q : RS × List Int × Int} (hq : exO s n r sl l = some q) : exO s m r sl l = some q := by
 induction h with
 | refl => exact hq
 | step _ ih => exact (ex_mono s _).2.1 _ _ _ _ ih
theorem exW_le (s : Sc) {n m : Nat} (h : n ≤ m) {r : RS} {sl : List Int} {l : St} {q : RS × List Int × Int} (hq : exW s n r sl l = some q) : exW s m r sl l = some q := by
 induction h with
 | refl => exact hq
 | step _ ih => exact (ex_mono s _).2.2.1 _ _ _ _ ih
theorem pick_mem {x : St} {v : Int} {lp : Int} {P : St → Prop} (hb : ∀ y ∈ x.body, P y) (he : ∀ y ∈ x.els, P y) (ha : ∀ a ∈ x.arms, ∀ y ∈ a.body, P y) : ∀ y ∈ pickF x v, P y := by
 unfold pickF
 have h0 : ∀ y ∈ (if x.kind = 7 ∧ v = 1 then x.body else x.els), P y := by split <;> assumption
 have key : ∀ (l : List Am), (∀ a ∈ l, ∀ y ∈ a.body, P y) → ∀ b : List St, (∀ y ∈ b, P y) → ∀ y ∈ l.foldl (fun b a => a.labels.foldl (fun b k => if k = v then a.body else b) b) b, P y := by
  intro l
  induction l with
  | nil => exact fun _ b hb => hb
  | cons a l ih =>
   intro hl b hb
   refine ih (fun c hc => hl c (lK _ hc)) _ ?_
   have hab := hl a lC
   have key2 : ∀ (ks : List Int) (b : List St), (∀ y ∈ b, P y) → ∀ y ∈ ks.foldl (fun b k => if k = v then a.body else b) b, P y := by
    intro ks
    induction ks with
    | nil => exact fun b hb => hb
    | cons k ks ih2 =>
     intro b hb
     refine ih2 _ ?_
     show ∀ y ∈ (if k = v then a.body else b), P y
     split <;> assumption
   exact key2 _ _ hb
 exact key _ ha _ h0
theorem Fu.facts {x : St} (h : Fu x) : (x.kind < 7 ∨ 11 < x.kind → 1 ≤ x.cost) ∧ (x.kind = 8 → 1 ≤ x.cost) ∧ (x.kind = 9 ∨ x.kind = 10 → ∃ r, x.body = zeroS 0 1 :: r) ∧ (∀ y ∈ x.body, Fu y) ∧ (∀ y ∈ x.els, Fu y) ∧ ∀ a ∈ x.arms, ∀ y ∈ a.body, Fu y := by
 cases h with
 | mk _ hc h8 h9 b e a => exact ⟨hc, h8, h9, b, e, a⟩
theorem CW.body {s : Sc} {lp : Int} {x : St} (h : CW s lp x) : ∀ y ∈ x.body, CW s (inner x.kind lp) y := fun y hy => ⟨h.1.sub.2.1 y hy, h.2.facts.2.2.2.1 y hy⟩
theorem CW.els {s : Sc} {lp : Int} {x : St} (h : CW s lp x) : ∀ y ∈ x.els, CW s lp y := fun y hy => ⟨h.1.sub.2.2.1 y hy, h.2.facts.2.2.2.2.1 y hy⟩
theorem CW.arms {s : Sc} {lp : Int} {x : St} (h : CW s lp x) : ∀ a ∈ x.arms, ∀ y ∈ a.body, CW s lp y := fun a ha y hy => ⟨h.1.sub.2.2.2 a ha y hy, h.2.facts.2.2.2.2.2 a ha y hy⟩
def CW' (s : Sc) (x : St) : Prop := ∃ lp, CW s lp x
theorem CW'.pick {s : Sc} {x : St} (h : CW' s x) (v : Int) : ∀ y ∈ pickF x v, CW' s y := by
 obtain ⟨lp, h⟩ := h
 exact pick_mem (lp := lp) (fun y hy => ⟨_, h.body y hy⟩) (fun y hy => ⟨_, h.els y hy⟩) (fun a ha y hy => ⟨_, h.arms a ha y hy⟩)
def Keep (s : Sc) (r : RS) (q : RS × List Int × Int) : Prop := Fit s q.1 q.2.1 ∧ q.1.left ≤ r.left
theorem Fit.one {s : Sc} {r : RS} {sl : List Int} (h : Fit s r sl) : Fit s (takeF r 1) sl := h.take (by decide)
theorem ex_keep (s : Sc) : ∀ n : Nat,
  (∀ r sl l q, (∀ x ∈ l, CW' s x) → Fit s r sl → exL s n r sl l = some q → Keep s r q) ∧
  (∀ r sl x q, CW' s x → Fit s r sl → exO s n r sl x = some q → Keep s r q) ∧
  (∀ r sl x q, CW' s x → Fit s r sl → exW s n r sl x = some q → Keep s r q) ∧
  (∀ w r sl x q, CW' s x → Fit s r sl → exB s n w r sl x = some q → Keep s r q) := by
 intro n
 induction n with
 | zero => exact ⟨fun r sl l q _ _ h => by simp [exL] at h, fun r sl l q _ _ h => by simp [exO] at h, fun r sl l q _ _ h => by simp [exW] at h, fun w r sl l q _ _ h => by simp [exB] at h⟩
 | succ n ih =>
  obtain ⟨iL, iO, iW, iB⟩ := ih
  refine ⟨fun r sl l q hc hf h => ?_, fun r sl x q hc hf h => ?_, fun r sl x q hc hf h => ?_, fun w r sl x q hc hf h => ?_⟩
  ·cases l with
   | nil => simp only [exL, Option.some.injEq] at h; subst h; exact ⟨hf, Int.le_refl _⟩
   | cons x l =>
    rw [exL] at h
    split at h
    ·injection h with h; subst h; exact ⟨hf, Int.le_refl _⟩
    ·split at h
     ·cases h
     ·rename_i r2 sl2 e he
      obtain ⟨h1, h2⟩ := iO _ _ _ _ (hc x lC) hf he
      split at h
      ·injection h with h; subst h; exact ⟨h1, h2⟩
      ·obtain ⟨h3, h4⟩ := iL _ _ _ _ (fun y hy => hc y (lK _ hy)) h1 h
       exact ⟨h3, Int.le_trans h4 h2⟩
  ·have hc' := hc
   obtain ⟨lp, hw⟩ := hc'
   have hcost := hw.1.facts.1
   have ht := hf.take hcost
   have htl := (takeF_left r x.cost hcost).1
   rw [exO] at h
   split at h
   ·exact iW _ _ _ _ hc hf h
   ·split at h
    ·injection h with h; subst h; exact ⟨ht, htl⟩
    ·split at h
     ·injection h with h; subst h; exact ⟨ht, htl⟩
     ·split at h
      ·obtain ⟨h3, h4⟩ := iL _ _ _ _ (hc.pick _) (ht.of x.e) h
       exact ⟨h3, Int.le_trans h4 (by rw [(ofF_x s _ sl x.e).2]; exact htl)⟩
      ·injection h with h; subst h
       obtain ⟨h3, h4⟩ := ht.pl hw.1
       exact ⟨h3, by simp only []; omega⟩
  ·have hc' := hc
   obtain ⟨lp, hw⟩ := hc'
   have hcost := hw.1.facts.1
   have ht := hf.take hcost
   have htl := (takeF_left r x.cost hcost).1
   have hol := (ofF_x s (takeF r x.cost) sl x.e).2
   rw [exW] at h
   split at h
   ·injection h with h; subst h; exact ⟨hf, Int.le_refl _⟩
   ·split at h
    ·split at h
     ·injection h with h; subst h; exact ⟨ht, htl⟩
     ·split at h
      ·injection h with h; subst h; exact ⟨ht.of x.e, by simp only []; omega⟩
      ·obtain ⟨h3, h4⟩ := iB _ _ _ _ _ hc (ht.of x.e) h
       exact ⟨h3, by omega⟩
    ·exact iB _ _ _ _ _ hc hf h
  ·have hc' := hc
   obtain ⟨lp, hw⟩ := hc'
   have hcost := hw.1.facts.1
   rw [exB] at h
   split at h
   ·cases h
   ·rename_i r2 sl2 e he
    obtain ⟨h1, h2⟩ := iL _ _ _ _ (fun y hy => ⟨_, hw.body y hy⟩) hf he
    simp only [] at h1 h2
    have ht := h1.take hcost
    have htl := (takeF_left r2 x.cost hcost).1
    have hol := (ofF_x s (takeF r2 x.cost) sl2 x.e).2
    have hone : ∀ (r : RS), (takeF r 1).left ≤ r.left := fun r => (takeF_left r 1 (by decide)).1
    split at h
    ·injection h with h; subst h; exact ⟨h1, h2⟩
    ·split at h
     ·split at h
      ·injection h with h; subst h; exact ⟨ht, by simp only []; omega⟩
      ·split at h
       ·injection h with h; subst h; exact ⟨ht.of x.e, by simp only []; omega⟩
       ·split at h
        ·obtain ⟨h3, h4⟩ := iW _ _ _ _ hc (ht.of x.e).one h
         have := hone (ofF s (takeF r2 x.cost) sl2 x.e).1
         exact ⟨h3, by omega⟩
        ·obtain ⟨h3, h4⟩ := iW _ _ _ _ hc (ht.of x.e) h
         exact ⟨h3, by omega⟩
     ·split at h
      ·obtain ⟨h3, h4⟩ := iW _ _ _ _ hc h1.one h
       have := hone r2
       exact ⟨h3, by omega⟩
      ·obtain ⟨h3, h4⟩ := iW _ _ _ _ hc h1 h
       exact ⟨h3, by omega⟩
end TryzT
end Go.Abs
