/-
  A part of the proof. Conditions: none.
-/
import Derived.Test.YtfgkfjmbjopfgaaGreatP8
set_option linter.unusedVariables false
set_option linter.unusedSimpArgs false
set_option maxRecDepth 100000
set_option maxHeartbeats 16000000
open Nat renaming reduceBEq → rB, reduceAdd → rA, reduceSub → rS, reduceLeDiff → rL, reduceMul → rM, reduceEqDiff → rE
open Int renaming reduceLE → jL, reduceToNat → jN, reduceBEq → jB, reduceLT → jT, reduceGT → jG, reduceGE → jH, reduceBNe → jZ
open List renaming getElem?_eq_getElem → lG, getElem?_eq_some_iff → lS, mem_of_getElem? → lM, mem_cons_self → lC
namespace Go.Abs
open Go
namespace TryzT
inductive Fu : St → Prop
 | mk (x : St) (hc : x.kind < 7 ∨ 11 < x.kind → 1 ≤ x.cost) (h8 : x.kind = 8 → 1 ≤ x.cost) (h9 : x.kind = 9 ∨ x.kind = 10 → ∃ r, x.body = zeroS 0 1 :: r) (body : ∀ y ∈ x.body, Fu y) (els : ∀ y ∈ x.els, Fu y) (arms : ∀ a ∈ x.arms, ∀ y ∈ a.body, Fu y) : Fu x
def CW (s : Sc) (lp : Int) (x : St) : Prop := WF s lp x ∧ Fu x
theorem zero_cw (s : Sc) (lp : Int) : CW s lp (zeroS 0 1) :=
 ⟨.mk lp _ (by decide) (by decide) ⟨fun _ => rfl, fun _ _ => rfl, fun _ => rfl⟩ (fun h => by simp [zeroS, St.kind] at h) (fun h => by simp [zeroS, St.kind] at h) (fun h => by simp [zeroS, St.kind] at h) (fun h => by simp [zeroS, St.kind] at h) (by decide) (fun h => by simp [zeroS, St.kind] at h) (fun h => by simp [zeroS, St.kind] at h) (fun h => by simp [zeroS, St.kind] at h) (fun h => by simp [zeroS, St.kind] at h) (fun y hy => by cases hy) (fun y hy => by cases hy) (fun y hy => by cases hy),
  .mk _ (fun _ => by decide) (fun h => by simp [zeroS, St.kind] at h) (fun h => by simp [zeroS, St.kind] at h) (fun y hy => by cases hy) (fun y hy => by cases hy) (fun y hy => by cases hy)⟩
theorem with_cw {s : Sc} {lp : Int} {l : List St} (h : ∀ y ∈ l, CW s lp y) (fr en : Bool) : ∀ y ∈ withF fr l en, CW s lp y := by
 intro y hy
 simp only [withF, List.mem_append] at hy
 rcases hy with (hy | hy) | hy
 ·cases fr <;> simp at hy; subst hy; exact zero_cw s lp
 ·exact h y hy
 ·cases en <;> simp at hy; subst hy; exact zero_cw s lp
theorem WF.recost {s : Sc} {lp : Int} {x : St} (h : WF s lp x) (c : Int) (b e : List St) (ams : List Am) (hc : 0 ≤ c) (h9 : x.kind = 9 → c = 0) (hc1 : x.kind < 7 ∨ 11 < x.kind → 1 ≤ c) (hb : ∀ y ∈ b, CW s (inner x.kind lp) y) (he : ∀ y ∈ e, CW s lp y) (ha : ∀ a ∈ ams, ∀ y ∈ a.body, CW s lp y)
  (hl : x.kind = 11 → ∀ a ∈ ams, LabOk a) (q1 : x.kind < 7 ∨ x.kind > 10 → b = []) (q2 : x.kind ≠ 7 → x.kind ≠ 11 → e = []) (q3 : x.kind ≠ 11 → ams = []) (f8 : x.kind = 8 → 1 ≤ c) (f9 : x.kind = 9 ∨ x.kind = 10 → ∃ r, b = zeroS 0 1 :: r) : CW s lp (.mk x.kind c x.n x.m x.e x.i x.l x.args b e ams) := by
 cases h with
 | mk _ _ hc0 hk hB h13 h2 h4 h5 h6 hg h8 h9' h11 body els arms =>
  exact ⟨.mk lp _ hc hk ⟨q1, q2, q3⟩ h13 h2 h4 h5 h6 hg h8 h9 hl (fun y hy => (hb y hy).1) (fun y hy => (he y hy).1) (fun a h y hy => (ha a h y hy).1),
   .mk _ hc1 f8 f9 (fun y hy => (hb y hy).2) (fun y hy => (he y hy).2) (fun a h y hy => (ha a h y hy).2)⟩
theorem WF.facts {s : Sc} {lp : Int} {x : St} (h : WF s lp x) : 0 ≤ x.cost ∧ (0 ≤ x.kind ∧ x.kind ≤ 14) ∧ BareP x ∧ (x.kind = 9 → x.cost = 0) ∧ (x.kind = 11 → ∀ a ∈ x.arms, LabOk a) := by
 cases h with
 | mk _ _ hc0 hk hB h13 h2 h4 h5 h6 hg h8 h9' h11 body els arms => exact ⟨hc0, hk, hB, h9', h11⟩
theorem nil_of_le {l : List St} {n : Nat} (h : l.length ≤ n) (hn : n = 0) : l = [] := List.eq_nil_of_length_eq_zero (by omega)
theorem costs21 (s : Sc) : ∀ (d : Nat) (lp : Int) (l : List St), (∀ x ∈ l, St.Small d x) → (∀ x ∈ l, WF s lp x) → cntL l < 1000000 → Ret prog 21 [stsV l, s.v] Heap.none fun r _ => StsP l.length (CW s lp) r := by
 intro d
 induction d with
 | zero =>
  intro lp l hl hw hc
  have : l = [] := by
   cases l with
   | nil => rfl
   | cons x l => exact (hl x lC).elim
  subst this
  refine Ret.by_text rfl rfl ?_
  simp -implicitDefEqProofs only [go_sem, rB, rA, rS, a21, stsV, Sc.cellsOf_v, show s.cs.length = 4 from rfl]
  intro g
  refine Loop.step ?_
  simp -implicitDefEqProofs only [go_sem, rB, rA, rS, lt00]
  exact post_frz (h2 := Heap.none) (u := .fsl 19 []) (fun _ => True) rfl (.nsl 19) (fun _ _ e => by cases e) (fun _ _ => rfl) ⟨[], rfl, Nat.le_refl _, fun y hy => by cases hy⟩
 | succ d ih =>
 intro lp l hl hw hc
 have hll := cntL_len l
 refine Ret.by_text rfl rfl ?_
 simp -implicitDefEqProofs only [go_sem, rB, rA, rS, a21, stsV, Sc.cellsOf_v, show s.cs.length = 4 from rfl]
 intro g0
 refine Loop.rec (α := Nat × Heap × V × List (List V) × List St × (Nat → Prop)) (fun k => l.length - k.1) (fun k => ⟨E 125 [(0, stsV l), (3, .lp 3 g0 0), (5, k.2.2.1), (6, .int .i64 k.1)], B 125 [(3, some (g0, s.cs))], k.2.1⟩)
  (fun k => k.1 ≤ l.length ∧ Grow k.2.2.2.2.2 19 k.2.1 k.2.2.1 k.2.2.2.1 (k.2.2.2.2.1.map St.cells) ∧ k.2.2.2.2.1.length ≤ k.1 ∧ ∀ y ∈ k.2.2.2.2.1, CW s lp y) ?_ (0, Heap.none, .nsl, [], [], fun _ => False) ⟨Nat.zero_le _, Grow.nil _ _, Nat.le_refl _, fun y hy => by cases hy⟩ rfl
 rintro ⟨k, h, out, els, ys, A⟩ ⟨hk, hg, hle, hcw⟩ hrec
 simp only [] at hk hg hle hcw
 simp -implicitDefEqProofs only [go_sem, rB, rA, rS, stsV]
 refine br_intro (fun h1 => ?_) (fun h1 => ?_)
 ·have h2 : k < l.length := by simpa using h1
  obtain ⟨x, hx⟩ : ∃ x, l[k]? = some x := ⟨_, lG h2⟩
  have hmx := lM hx
  have hsm := hl x hmx
  obtain ⟨hf, sb, se, sa⟩ := hsm
  have hwx := hw x hmx
  obtain ⟨hx6, wb, we, wa⟩ := hwx.sub
  obtain ⟨hc0, hK, hB, hk9, hk11⟩ := hwx.facts
  have hcx := cnt_mem hmx
  have hce := x.cnt_eq
  have hlb := cntL_len x.body
  have hle2 := cntL_len x.els
  have hws := wrap_succ (show k < 9223372036854775807 by omega)
  have he100 := hf.e
  have w1 := wrap_in (n := (x.e.size : Int) + 1) (by omega)
  have w2 := wrap_in (n := (x.e.size : Int) + 1 + 1) (by omega)
  have key : ∀ (lp : Int) (y : List St), (∀ z ∈ y, St.Small d z) → (∀ z ∈ y, WF s lp z) → cntL y < 1000000 → Ret prog 21 [stsV y, s.v] Heap.none fun r _ => StsP y.length (CW s lp) r := ih
  simp -implicitDefEqProofs only [go_sem, rB, rA, rS, rL, h1, hx, x.cells_cs, St.cs]
  intro g
  refine br_intro (fun h3 => ?_) (fun h3 => ?_)
  ·simp -implicitDefEqProofs only [go_sem, rB, rA, rS, h3, hws]
   exact hrec (k + 1, h, out, els, ys, A) (by simp only []; omega) ⟨by simp only []; omega, hg, by simp only []; omega, hcw⟩
  have hk0 : x.kind ≠ 0 := by simpa using h3
  simp -implicitDefEqProofs only [go_sem, rB, rA, rS, rL, h3]
  refine callOk_of (erase42 d x.els se (by omega) (fun y hy => by have := cnt_mem hy; omega)) ?_
  rintro u ⟨er, rfl, _, _⟩
  simp -implicitDefEqProofs only [go_sem, rB, rA, rS, rL, stsV, Sc.cs, Sc.fold, St.fold]
  refine callOk_of (one43 s (d + 1) lp x ⟨hf, sb, se, sa⟩ hwx (by omega)) ?_
  rintro u ⟨cst, rfl, hcst⟩
  simp -implicitDefEqProofs only [go_sem, rB, rA, rS, rL, Sc.fold]
  refine callOk_of (key (inner x.kind lp) x.body sb wb (by omega)) ?_
  rintro u ⟨b2, rfl, hb2l, hb2⟩
  simp -implicitDefEqProofs only [go_sem, rB, rA, rS, rL, stsV, Sc.fold]
  refine callOk_of (key lp x.els se we (by omega)) ?_
  rintro u ⟨e2, rfl, he2l, he2⟩
  simp -implicitDefEqProofs only [go_sem, rB, rA, rS, rL, stsV]
  generalize hmore : decide ((er.length : Int) > 0) = more
  refine Loop.rec (α := Nat × Heap × V × List (List V) × List Am) (fun j => x.arms.length - j.1) (fun j => ⟨E 125 [(0, stsV l), (3, .lp 3 g0 0), (5, out), (6, .int .i64 k), (7, .lp 7 g 0), (8, .bool more), (9, .int .i64 cst), (10, j.2.2.1), (11, .int .i64 j.1)], B 125 [(3, some (g0, s.cs)), (7, some (g, [.int .i64 x.kind, .int .i64 (x.cost), .int .i64 x.n, .int .i64 x.m, .int .i64 x.e.op, .int .i64 x.e.t, .int .i64 x.e.n, .int .i64 x.e.m, .fsl 5 (x.e.l.map Ex.cells), .int .i64 x.i.op, .int .i64 x.i.t, .int .i64 x.i.n, .int .i64 x.i.m, .fsl 5 (x.i.l.map Ex.cells), .fsl 5 (x.l.map Ex.cells), .fsl 6 (x.args.map Ar.cells), .fsl 19 (b2.map St.cells), .fsl 19 (e2.map St.cells), .fsl 2 (x.arms.map Am.cells)]))], j.2.1⟩)
   (fun j => j.1 ≤ x.arms.length ∧ Grow A 19 j.2.1 out els (ys.map St.cells) ∧ SlH 2 j.2.1 j.2.2.1 j.2.2.2.1 ∧ j.2.2.2.1 = j.2.2.2.2.map Am.cells ∧ j.2.2.2.2.length = j.1 ∧ (∀ i, SlH.own j.2.2.1 i → ¬ A i ∧ ¬ SlH.own out i) ∧ (∀ a ∈ j.2.2.2.2, (∀ y ∈ a.body, CW s lp y) ∧ (x.kind = 11 → LabOk a))) ?_ (0, h, .nsl, [], []) ⟨Nat.zero_le _, hg, SlH.nil _ _, rfl, rfl, fun i ⟨n, e⟩ => (by cases e), fun a ha => (by cases ha)⟩ rfl
  rintro ⟨j, h, arms, elsA, ams⟩ ⟨hj, hg, hs, hea, hla, hdj, hcA⟩ hrec2
  simp only [] at hj hg hs hea hla hdj hcA
  simp -implicitDefEqProofs only [go_sem, rB, rA, rS, rL, stsV, Sc.cs]
  refine br_intro (fun h4 => ?_) (fun h4 => ?_)
  ·have h5 : j < x.arms.length := by simpa using h4
   obtain ⟨a, ha⟩ : ∃ a, x.arms[j]? = some a := ⟨_, lG h5⟩
   have hma := lM ha
   have hca := cntA_mem hma
   have hlab := cntL_len a.body
   have hrl := hf.rl
   simp -implicitDefEqProofs only [go_sem, rB, rA, rS, rL, h4, ha, Am.cells_eq, Sc.fold]
   refine callOk_of (key lp a.body (sa a hma).2 (wa a hma) (by omega)) ?_
   rintro u ⟨b3, rfl, hb3l, hb3⟩
   simp -implicitDefEqProofs only [go_sem, rB, rA, rS]
   refine callOk_of (with44 false b3 true (by omega)) ?_
   rintro u rfl
   simp -implicitDefEqProofs only [go_sem, rB, rA, rS, rM, rL, stsV]
   intro idt hidt
   simp -implicitDefEqProofs only [go_sem, rA, rL, elemsOf, upd_self]
   refine appK_sl (hs.alloc hidt) (one_len rfl) (by simp) (by rw [hea]; simp only [List.length_map, List.length_cons, List.length_nil]; omega) fun id2 h2 hn hi hm => ?_
   have hm2 : ∀ i b, h i = some b → ¬ SlH.own arms i → h2 i = some b := fun i b hi ho => hm i b (by rw [upd_other _ _ (ne_of_some hi hidt)]; exact hi) ho
   have hn2 : h id2 = none := by
    by_cases e : id2 = idt
    ·subst e; exact hidt
    ·rwa [upd_other _ _ e] at hn
   simp -implicitDefEqProofs only [go_sem, rB, rA, rS, wrap_succ (show j < 9223372036854775807 by omega)]
   refine hrec2 (j + 1, h2, .msl id2 0 (elsA.length + 1), elsA ++ [[.fsl 1 (a.labels.map intC), .fsl 19 ((withF false b3 true).map St.cells)]], ams ++ [.mk a.labels (withF false b3 true)]) (by simp only []; omega) ⟨by simp only []; omega, hg.mono fun i b hi ho => hm2 i b hi (fun h => ?_), .mk hi (by simp), by simp [hea, Am.cells_eq, Am.labels, Am.body], by simp [hla], fun i ⟨n, e⟩ => ?_, fun a' ha' => ?_⟩
   ·have := hdj i h
    rcases ho with ho | ho
    ·exact this.1 ho
    ·exact this.2 ho
   ·simp only [] at e
    injection e with e _ _
    subst e
    refine ⟨fun hA => ?_, fun ho => ?_⟩
    ·obtain ⟨⟨b, hb⟩, _⟩ := hg.own _ hA
     rw [hn2] at hb; cases hb
    ·obtain ⟨b, hb⟩ := hg.sl.some_own ho
     rw [hn2] at hb; cases hb
   ·rcases List.mem_append.1 ha' with ha' | ha'
    ·exact hcA a' ha'
    ·simp at ha'
     subst ha'
     exact ⟨with_cw hb3 false true, fun h11 => hk11 h11 a hma⟩
  ·have h5 : ¬ j < x.arms.length := by simpa using h4
   have hlen : els.length = ys.length := by have := hg.el.1; simpa using this
   have hbare11 : x.kind ≠ 11 → ams = [] := fun h => List.eq_nil_of_length_eq_zero (by rw [hla]; have := hB.2.2 h; rw [this] at hj; simpa using hj)
   have hbB : x.kind < 7 ∨ x.kind > 10 → b2 = [] := fun h => nil_of_le hb2l (by rw [hB.1 h]; rfl)
   have heB : x.kind ≠ 7 → x.kind ≠ 11 → e2 = [] := fun h h' => nil_of_le he2l (by rw [hB.2.1 h h']; rfl)
   have harms : ∀ a ∈ ams, ∀ y ∈ a.body, CW s lp y := fun a h => (hcA a h).1
   have hlabs : x.kind = 11 → ∀ a ∈ ams, LabOk a := fun h a ha => (hcA a ha).2 h
   simp -implicitDefEqProofs only [go_sem, rB, rA, rS, rL, h4, hs.cells, Ex.fold]
   refine callOk_of (size45 x.e (by omega)) ?_
   rintro u rfl
   simp -implicitDefEqProofs only [go_sem, rB, rA, rS, rL, w1]
   refine br_intro (fun c7 => ?_) (fun c7 => ?_)
   ·have k7 : x.kind = 7 := by simpa using c7
    simp -implicitDefEqProofs only [go_sem, rB, rA, rS, rL, c7]
    refine callOk_of (with44 false b2 more (by omega)) ?_
    rintro u rfl
    simp -implicitDefEqProofs only [go_sem, rB, rA, rS, rM, rL, stsV]
    intro idt hidt
    simp -implicitDefEqProofs only [go_sem, rA, rL, elemsOf, upd_self]
    have hf2 := frz_st x.kind ((x.e.size : Int) + 1) x.n x.m x.e x.i x.l x.args (withF false b2 more) e2 (hs.alloc (b := some (.arr 19 [[.int .i64 x.kind, .int .i64 ((x.e.size : Int) + 1), .int .i64 x.n, .int .i64 x.m, .int .i64 x.e.op, .int .i64 x.e.t, .int .i64 x.e.n, .int .i64 x.e.m, .fsl 5 (x.e.l.map Ex.cells), .int .i64 x.i.op, .int .i64 x.i.t, .int .i64 x.i.n, .int .i64 x.i.m, .fsl 5 (x.i.l.map Ex.cells), .fsl 5 (x.l.map Ex.cells), .fsl 6 (x.args.map Ar.cells), .fsl 19 ((withF false b2 more).map St.cells), .fsl 19 (e2.map St.cells), arms]])) hidt) hea
    refine appK_sl (hg.alloc hidt).sl (one_len rfl) (by simp) (by simp only [List.length_cons, List.length_nil]; omega) fun id2 h2 hn hi hm => ?_
    have hp := (hg.alloc hidt).push hf2 (fun i hi => ⟨(hs.alloc hidt).some_own hi, (hdj i hi).2⟩) hn hi hm
    simp -implicitDefEqProofs only [go_sem, rB, rA, rS, hws]
    refine hrec (k + 1, h2, .msl id2 0 (els.length + 1), _, ys ++ [St.mk x.kind ((x.e.size : Int) + 1) x.n x.m x.e x.i x.l x.args (withF false b2 more) e2 ams], _) (by simp only []; omega) ⟨by simp only []; omega, by simp only [List.map_append, List.map_cons, List.map_nil]; exact hp, by simp; omega, fun y hy => ?_⟩
    rcases List.mem_append.1 hy with hy | hy
    ·exact hcw y hy
    ·simp at hy
     subst hy
     exact hwx.recost ((x.e.size : Int) + 1) (withF false b2 more) e2 ams (by omega) (fun h => by omega) (fun h => by omega) (with_cw hb2 _ _) he2 harms hlabs (fun h => by omega) heB hbare11 (fun h => by omega) (fun h => by omega)
   simp -implicitDefEqProofs only [go_sem, rB, rA, rS, c7]
   refine br_intro (fun c8 => ?_) (fun c8 => ?_)
   ·have k8 : x.kind = 8 := by simpa using c8
    simp -implicitDefEqProofs only [go_sem, rB, rA, rS, rL, c8, w2]
    refine callOk_of (with44 false b2 true (by omega)) ?_
    rintro u rfl
    simp -implicitDefEqProofs only [go_sem, rB, rA, rS, rM, rL, stsV]
    intro idt hidt
    simp -implicitDefEqProofs only [go_sem, rA, rL, elemsOf, upd_self]
    have hf2 := frz_st x.kind ((x.e.size : Int) + 1 + 1) x.n x.m x.e x.i x.l x.args (withF false b2 true) e2 (hs.alloc (b := some (.arr 19 [[.int .i64 x.kind, .int .i64 ((x.e.size : Int) + 1 + 1), .int .i64 x.n, .int .i64 x.m, .int .i64 x.e.op, .int .i64 x.e.t, .int .i64 x.e.n, .int .i64 x.e.m, .fsl 5 (x.e.l.map Ex.cells), .int .i64 x.i.op, .int .i64 x.i.t, .int .i64 x.i.n, .int .i64 x.i.m, .fsl 5 (x.i.l.map Ex.cells), .fsl 5 (x.l.map Ex.cells), .fsl 6 (x.args.map Ar.cells), .fsl 19 ((withF false b2 true).map St.cells), .fsl 19 (e2.map St.cells), arms]])) hidt) hea
    refine appK_sl (hg.alloc hidt).sl (one_len rfl) (by simp) (by simp only [List.length_cons, List.length_nil]; omega) fun id2 h2 hn hi hm => ?_
    have hp := (hg.alloc hidt).push hf2 (fun i hi => ⟨(hs.alloc hidt).some_own hi, (hdj i hi).2⟩) hn hi hm
    simp -implicitDefEqProofs only [go_sem, rB, rA, rS, hws]
    refine hrec (k + 1, h2, .msl id2 0 (els.length + 1), _, ys ++ [St.mk x.kind ((x.e.size : Int) + 1 + 1) x.n x.m x.e x.i x.l x.args (withF false b2 true) e2 ams], _) (by simp only []; omega) ⟨by simp only []; omega, by simp only [List.map_append, List.map_cons, List.map_nil]; exact hp, by simp; omega, fun y hy => ?_⟩
    rcases List.mem_append.1 hy with hy | hy
    ·exact hcw y hy
    ·simp at hy
     subst hy
     exact hwx.recost ((x.e.size : Int) + 1 + 1) (withF false b2 true) e2 ams (by omega) (fun h => by omega) (fun h => by omega) (with_cw hb2 _ _) he2 harms hlabs (fun h => by omega) heB hbare11 (fun h => by omega) (fun h => by omega)
   simp -implicitDefEqProofs only [go_sem, rB, rA, rS, c8]
   refine br_intro (fun c9 => ?_) (fun c9 => ?_)
   ·have k9 : x.kind = 9 := by simpa using c9
    simp -implicitDefEqProofs only [go_sem, rB, rA, rS, rL, c9]
    refine callOk_of (with44 true b2 true (by omega)) ?_
    rintro u rfl
    simp -implicitDefEqProofs only [go_sem, rB, rA, rS, rM, rL, stsV]
    intro idt hidt
    simp -implicitDefEqProofs only [go_sem, rA, rL, elemsOf, upd_self]
    have hf2 := frz_st x.kind (x.cost) x.n x.m x.e x.i x.l x.args (withF true b2 true) e2 (hs.alloc (b := some (.arr 19 [[.int .i64 x.kind, .int .i64 (x.cost), .int .i64 x.n, .int .i64 x.m, .int .i64 x.e.op, .int .i64 x.e.t, .int .i64 x.e.n, .int .i64 x.e.m, .fsl 5 (x.e.l.map Ex.cells), .int .i64 x.i.op, .int .i64 x.i.t, .int .i64 x.i.n, .int .i64 x.i.m, .fsl 5 (x.i.l.map Ex.cells), .fsl 5 (x.l.map Ex.cells), .fsl 6 (x.args.map Ar.cells), .fsl 19 ((withF true b2 true).map St.cells), .fsl 19 (e2.map St.cells), arms]])) hidt) hea
    refine appK_sl (hg.alloc hidt).sl (one_len rfl) (by simp) (by simp only [List.length_cons, List.length_nil]; omega) fun id2 h2 hn hi hm => ?_
    have hp := (hg.alloc hidt).push hf2 (fun i hi => ⟨(hs.alloc hidt).some_own hi, (hdj i hi).2⟩) hn hi hm
    simp -implicitDefEqProofs only [go_sem, rB, rA, rS, hws]
    refine hrec (k + 1, h2, .msl id2 0 (els.length + 1), _, ys ++ [St.mk x.kind (x.cost) x.n x.m x.e x.i x.l x.args (withF true b2 true) e2 ams], _) (by simp only []; omega) ⟨by simp only []; omega, by simp only [List.map_append, List.map_cons, List.map_nil]; exact hp, by simp; omega, fun y hy => ?_⟩
    rcases List.mem_append.1 hy with hy | hy
    ·exact hcw y hy
    ·simp at hy
     subst hy
     exact hwx.recost (x.cost) (withF true b2 true) e2 ams hc0 hk9 (fun h => by omega) (with_cw hb2 _ _) he2 harms hlabs (fun h => by omega) heB hbare11 (fun h => by omega) (fun _ => ⟨_, rfl⟩)
   simp -implicitDefEqProofs only [go_sem, rB, rA, rS, c9]
   refine br_intro (fun c10 => ?_) (fun c10 => ?_)
   ·have k10 : x.kind = 10 := by simpa using c10
    simp -implicitDefEqProofs only [go_sem, rB, rA, rS, rL, c10]
    refine callOk_of (with44 true b2 false (by omega)) ?_
    rintro u rfl
    simp -implicitDefEqProofs only [go_sem, rB, rA, rS, rM, rL, stsV]
    intro idt hidt
    simp -implicitDefEqProofs only [go_sem, rA, rL, elemsOf, upd_self]
    have hf2 := frz_st x.kind ((x.e.size : Int) + 1) x.n x.m x.e x.i x.l x.args (withF true b2 false) e2 (hs.alloc (b := some (.arr 19 [[.int .i64 x.kind, .int .i64 ((x.e.size : Int) + 1), .int .i64 x.n, .int .i64 x.m, .int .i64 x.e.op, .int .i64 x.e.t, .int .i64 x.e.n, .int .i64 x.e.m, .fsl 5 (x.e.l.map Ex.cells), .int .i64 x.i.op, .int .i64 x.i.t, .int .i64 x.i.n, .int .i64 x.i.m, .fsl 5 (x.i.l.map Ex.cells), .fsl 5 (x.l.map Ex.cells), .fsl 6 (x.args.map Ar.cells), .fsl 19 ((withF true b2 false).map St.cells), .fsl 19 (e2.map St.cells), arms]])) hidt) hea
    refine appK_sl (hg.alloc hidt).sl (one_len rfl) (by simp) (by simp only [List.length_cons, List.length_nil]; omega) fun id2 h2 hn hi hm => ?_
    have hp := (hg.alloc hidt).push hf2 (fun i hi => ⟨(hs.alloc hidt).some_own hi, (hdj i hi).2⟩) hn hi hm
    simp -implicitDefEqProofs only [go_sem, rB, rA, rS, hws]
    refine hrec (k + 1, h2, .msl id2 0 (els.length + 1), _, ys ++ [St.mk x.kind ((x.e.size : Int) + 1) x.n x.m x.e x.i x.l x.args (withF true b2 false) e2 ams], _) (by simp only []; omega) ⟨by simp only []; omega, by simp only [List.map_append, List.map_cons, List.map_nil]; exact hp, by simp; omega, fun y hy => ?_⟩
    rcases List.mem_append.1 hy with hy | hy
    ·exact hcw y hy
    ·simp at hy
     subst hy
     exact hwx.recost ((x.e.size : Int) + 1) (withF true b2 false) e2 ams (by omega) (fun h => by omega) (fun h => by omega) (with_cw hb2 _ _) he2 harms hlabs (fun h => by omega) heB hbare11 (fun h => by omega) (fun _ => ⟨_, rfl⟩)
   simp -implicitDefEqProofs only [go_sem, rB, rA, rS, c10]
   refine br_intro (fun c11 => ?_) (fun c11 => ?_)
   ·have k11 : x.kind = 11 := by simpa using c11
    simp -implicitDefEqProofs only [go_sem, rB, rA, rS, rL, c11]
    refine callOk_of (with44 false e2 true (by omega)) ?_
    rintro u rfl
    simp -implicitDefEqProofs only [go_sem, rB, rA, rS, rM, rL, stsV]
    intro idt hidt
    simp -implicitDefEqProofs only [go_sem, rA, rL, elemsOf, upd_self]
    have hf2 := frz_st x.kind ((x.e.size : Int) + 1) x.n x.m x.e x.i x.l x.args b2 (withF false e2 true) (hs.alloc (b := some (.arr 19 [[.int .i64 x.kind, .int .i64 ((x.e.size : Int) + 1), .int .i64 x.n, .int .i64 x.m, .int .i64 x.e.op, .int .i64 x.e.t, .int .i64 x.e.n, .int .i64 x.e.m, .fsl 5 (x.e.l.map Ex.cells), .int .i64 x.i.op, .int .i64 x.i.t, .int .i64 x.i.n, .int .i64 x.i.m, .fsl 5 (x.i.l.map Ex.cells), .fsl 5 (x.l.map Ex.cells), .fsl 6 (x.args.map Ar.cells), .fsl 19 (b2.map St.cells), .fsl 19 ((withF false e2 true).map St.cells), arms]])) hidt) hea
    refine appK_sl (hg.alloc hidt).sl (one_len rfl) (by simp) (by simp only [List.length_cons, List.length_nil]; omega) fun id2 h2 hn hi hm => ?_
    have hp := (hg.alloc hidt).push hf2 (fun i hi => ⟨(hs.alloc hidt).some_own hi, (hdj i hi).2⟩) hn hi hm
    simp -implicitDefEqProofs only [go_sem, rB, rA, rS, hws]
    refine hrec (k + 1, h2, .msl id2 0 (els.length + 1), _, ys ++ [St.mk x.kind ((x.e.size : Int) + 1) x.n x.m x.e x.i x.l x.args b2 (withF false e2 true) ams], _) (by simp only []; omega) ⟨by simp only []; omega, by simp only [List.map_append, List.map_cons, List.map_nil]; exact hp, by simp; omega, fun y hy => ?_⟩
    rcases List.mem_append.1 hy with hy | hy
    ·exact hcw y hy
    ·simp at hy
     subst hy
     exact hwx.recost ((x.e.size : Int) + 1) b2 (withF false e2 true) ams (by omega) (fun h => by omega) (fun h => by omega) hb2 (with_cw he2 _ _) harms hlabs hbB (fun h h2 => absurd k11 h2) hbare11 (fun h => by omega) (fun h => by omega)
   simp -implicitDefEqProofs only [go_sem, rB, rA, rS, rM, rL, c11]
   have hko : x.kind < 7 ∨ 11 < x.kind := by simp at c7 c8 c9 c10 c11; omega
   intro idt hidt
   simp -implicitDefEqProofs only [go_sem, rA, rL, elemsOf, upd_self]
   have hf2 := frz_st x.kind (cst) x.n x.m x.e x.i x.l x.args b2 e2 (hs.alloc (b := some (.arr 19 [[.int .i64 x.kind, .int .i64 (cst), .int .i64 x.n, .int .i64 x.m, .int .i64 x.e.op, .int .i64 x.e.t, .int .i64 x.e.n, .int .i64 x.e.m, .fsl 5 (x.e.l.map Ex.cells), .int .i64 x.i.op, .int .i64 x.i.t, .int .i64 x.i.n, .int .i64 x.i.m, .fsl 5 (x.i.l.map Ex.cells), .fsl 5 (x.l.map Ex.cells), .fsl 6 (x.args.map Ar.cells), .fsl 19 (b2.map St.cells), .fsl 19 (e2.map St.cells), arms]])) hidt) hea
   refine appK_sl (hg.alloc hidt).sl (one_len rfl) (by simp) (by simp only [List.length_cons, List.length_nil]; omega) fun id2 h2 hn hi hm => ?_
   have hp := (hg.alloc hidt).push hf2 (fun i hi => ⟨(hs.alloc hidt).some_own hi, (hdj i hi).2⟩) hn hi hm
   simp -implicitDefEqProofs only [go_sem, rB, rA, rS, hws]
   refine hrec (k + 1, h2, .msl id2 0 (els.length + 1), _, ys ++ [St.mk x.kind (cst) x.n x.m x.e x.i x.l x.args b2 e2 ams], _) (by simp only []; omega) ⟨by simp only []; omega, by simp only [List.map_append, List.map_cons, List.map_nil]; exact hp, by simp; omega, fun y hy => ?_⟩
   rcases List.mem_append.1 hy with hy | hy
   ·exact hcw y hy
   ·simp at hy
    subst hy
    exact hwx.recost (cst) b2 e2 ams (by have := hcst hk0 hko; omega) (fun h => by omega) (fun _ => hcst hk0 hko) hb2 he2 harms hlabs hbB heB hbare11 (fun h => by omega) (fun h => by omega)
 ·have h2 : ¬ k < l.length := by simpa using h1
  simp -implicitDefEqProofs only [go_sem, rB, rA, rS, h1]
  exact post_frz (h2 := Heap.none) (u := stsV ys) (fun _ => True) rfl hg.frz (fun _ _ e => by cases e) (fun _ _ => rfl) ⟨ys, rfl, by omega, hcw⟩
end TryzT
end Go.Abs
namespace Go.Abs
open Go
theorem c10 : ((10 : Nat) : Int) = 10 := rfl
def instV (a b c d e f g h i j : Int) : V := .agg [.int .i64 a, .int .i64 b, .int .i64 c, .int .i64 d, .int .i64 e, .int .i64 f, .int .i64 g, .int .i64 h, .int .i64 i, .int .i64 j]
def IsI10 (v : V) : Prop := ∃ a b c d e f g h i j : Int, v = .agg [.int .i64 a, .int .i64 b, .int .i64 c, .int .i64 d, .int .i64 e, .int .i64 f, .int .i64 g, .int .i64 h, .int .i64 i, .int .i64 j]
namespace TryzT
theorem d_held (n m : Int) : Det prog 116 [.int .i64 n, .int .i64 m] IsInt := by
 refine Det.by_text rfl rfl ?_
 simp -implicitDefEqProofs only [go_sem, rB, rA, rS, a116]
 repeat' first
  | (refine dx_br (fun hb => ?_) (fun hb => ?_) <;> simp -implicitDefEqProofs only [go_sem, rB, rA, rS, hb])
  | (refine dx_all ?_; simp -implicitDefEqProofs only [go_sem, rB, rA, rS, rM, rL, rE, jL, jN])
  | refine dx_all ?_
  | (refine dx_post _ (fun _ => (by simp -implicitDefEqProofs only [go_sem, rB, rA, rS, resultOf, mapM?, ARes.val]; exact rfl)) ?_; exact ⟨_, rfl⟩)
theorem d_long (a b c d e f g h i j now : Int) : Det prog 108 [instV a b c d e f g h i j, .int .i64 now] IsInt := by
 refine Det.by_text rfl rfl ?_
 simp -implicitDefEqProofs only [go_sem, rB, rA, rS, a108, instV]
 repeat' first
  | (refine dx_br (fun hb => ?_) (fun hb => ?_) <;> simp -implicitDefEqProofs only [go_sem, rB, rA, rS, hb])
  | (first | refine dx_call (d_held _ _) ?_ | refine dx_pcall (d_held _ _) ?_); rintro u ⟨_, rfl⟩; simp -implicitDefEqProofs only [go_sem, rB, rA, rS, rM, rL, jL, jN, c10, jT]
  | (refine dx_all ?_; simp -implicitDefEqProofs only [go_sem, rB, rA, rS, rM, rL, rE, jL, jN, c10, jT])
  | refine dx_all ?_
  | (refine dx_post _ (fun _ => (by simp -implicitDefEqProofs only [go_sem, rB, rA, rS, resultOf, mapM?, ARes.val]; exact rfl)) ?_; exact ⟨_, rfl⟩)
theorem d_pt (a b c d e f g h i j : Int) : Det prog 109 [instV a b c d e f g h i j] IsInt := by
 refine Det.by_text rfl rfl ?_
 simp -implicitDefEqProofs only [go_sem, rB, rA, rS, rM, rL, jL, jN, a109, instV, c10, jT]
 repeat' first
  | (refine dx_br (fun hb => ?_) (fun hb => ?_) <;> simp -implicitDefEqProofs only [go_sem, rB, rA, rS, rM, rL, jL, jN, hb, c10, jT])
  | (refine dx_all ?_; simp -implicitDefEqProofs only [go_sem, rB, rA, rS, rM, rL, rE, jL, jN, c10, jT])
  | refine dx_all ?_
  | (refine dx_post _ (fun _ => (by simp -implicitDefEqProofs only [go_sem, rB, rA, rS, resultOf, mapM?, ARes.val]; exact rfl)) ?_; exact ⟨_, rfl⟩)
theorem d_told (a b c d e f g h i j now : Int) : Det prog 107 [instV a b c d e f g h i j, .int .i64 now] IsI10 := by
 refine Det.by_text rfl rfl ?_
 simp -implicitDefEqProofs only [go_sem, rB, rA, rS, rL, a107, instV]
 repeat' first
  | (refine dx_br (fun hb => ?_) (fun hb => ?_) <;> simp -implicitDefEqProofs only [go_sem, rB, rA, rS, rM, rL, rE, jL, jN, hb, c10, jT])
  | (first | refine dx_call (d_long _ _ _ _ _ _ _ _ _ _ _) ?_ | refine dx_pcall (d_long _ _ _ _ _ _ _ _ _ _ _) ?_); rintro u ⟨_, rfl⟩; simp -implicitDefEqProofs only [go_sem, rB, rA, rS, rL]
  | (first | refine dx_call (d_pt _ _ _ _ _ _ _ _ _ _) ?_ | refine dx_pcall (d_pt _ _ _ _ _ _ _ _ _ _) ?_); rintro u ⟨_, rfl⟩; simp -implicitDefEqProofs only [go_sem, rB, rA, rS]
  | (first | refine dx_call (d_held _ _) ?_ | refine dx_pcall (d_held _ _) ?_); rintro u ⟨_, rfl⟩; simp -implicitDefEqProofs only [go_sem, rB, rA, rS, rM, rL, jL, jN, c10, jT]
  | (refine dx_all ?_; simp -implicitDefEqProofs only [go_sem, rB, rA, rS, rM, rL, rE, jL, jN, c10, jT])
  | refine dx_all ?_
  | (refine dx_post _ (fun _ => (by simp -implicitDefEqProofs only [go_sem, rB, rA, rS, rL, resultOf, mapM?, ARes.val, loadOf, cellsAt]; exact rfl)) ?_; exact ⟨_, _, _, _, _, _, _, _, _, _, rfl⟩)
theorem d_pulse (a b c d e f g h i j now : Int) (on : Bool) : Det prog 110 [instV a b c d e f g h i j, .bool on, .int .i64 now] IsI10 := by
 refine Det.by_text rfl rfl ?_
 simp -implicitDefEqProofs only [go_sem, rB, rA, rS, rM, rL, jL, jN, a110, instV, c10, jT]
 repeat' first
  | (refine dx_br (fun hb => ?_) (fun hb => ?_) <;> simp -implicitDefEqProofs only [go_sem, rB, rA, rS, rM, rL, jL, jN, hb, c10, jT])
  | (first | refine dx_call (d_told _ _ _ _ _ _ _ _ _ _ _) ?_ | refine dx_pcall (d_told _ _ _ _ _ _ _ _ _ _ _) ?_); rintro u ⟨_, _, _, _, _, _, _, _, _, _, rfl⟩; simp -implicitDefEqProofs only [go_sem, rB, rA, rS, rL]
  | (first | refine dx_call (d_long _ _ _ _ _ _ _ _ _ _ _) ?_ | refine dx_pcall (d_long _ _ _ _ _ _ _ _ _ _ _) ?_); rintro u ⟨_, rfl⟩; simp -implicitDefEqProofs only [go_sem, rB, rA, rS, rL]
  | (first | refine dx_call (d_pt _ _ _ _ _ _ _ _ _ _) ?_ | refine dx_pcall (d_pt _ _ _ _ _ _ _ _ _ _) ?_); rintro u ⟨_, rfl⟩; simp -implicitDefEqProofs only [go_sem, rB, rA, rS]
  | (refine dx_all ?_; simp -implicitDefEqProofs only [go_sem, rB, rA, rS, rM, rL, rE, jL, jN, c10, jT])
  | refine dx_all ?_
  | (refine dx_post _ (fun _ => (by simp -implicitDefEqProofs only [go_sem, rB, rA, rS, rL, resultOf, mapM?, ARes.val, loadOf, cellsAt]; exact rfl)) ?_; exact ⟨_, _, _, _, _, _, _, _, _, _, rfl⟩)
theorem d_step8 (k a b c d e f g h i j now : Int) : Det prog 103 [.int .i64 k, instV a b c d e f g h i j, .int .i64 now] IsI10 := by
 refine Det.by_text rfl rfl ?_
 simp -implicitDefEqProofs only [go_sem, rB, rA, rS, rM, rL, jL, jN, a103, instV, c10, jT]
 repeat' first
  | (refine dx_br (fun hb => ?_) (fun hb => ?_) <;> simp -implicitDefEqProofs only [go_sem, rB, rA, rS, rM, rL, jL, jN, hb, c10, jT])
  | (first | refine dx_call (d_told _ _ _ _ _ _ _ _ _ _ _) ?_ | refine dx_pcall (d_told _ _ _ _ _ _ _ _ _ _ _) ?_); rintro u ⟨_, _, _, _, _, _, _, _, _, _, rfl⟩; simp -implicitDefEqProofs only [go_sem, rB, rA, rS, rM, rL, jL, jN, c10, jT]
  | (first | refine dx_call (d_long _ _ _ _ _ _ _ _ _ _ _) ?_ | refine dx_pcall (d_long _ _ _ _ _ _ _ _ _ _ _) ?_); rintro u ⟨_, rfl⟩; simp -implicitDefEqProofs only [go_sem, rB, rA, rS, rL]
  | (first | refine dx_call (d_pt _ _ _ _ _ _ _ _ _ _) ?_ | refine dx_pcall (d_pt _ _ _ _ _ _ _ _ _ _) ?_); rintro u ⟨_, rfl⟩; simp -implicitDefEqProofs only [go_sem, rB, rA, rS]
  | (first | refine dx_call (d_pulse _ _ _ _ _ _ _ _ _ _ _ _) ?_ | refine dx_pcall (d_pulse _ _ _ _ _ _ _ _ _ _ _ _) ?_); rintro u ⟨_, _, _, _, _, _, _, _, _, _, rfl⟩; simp -implicitDefEqProofs only [go_sem, rB, rA, rS, rL]
  | (refine dx_all ?_; simp -implicitDefEqProofs only [go_sem, rB, rA, rS, rM, rL, rE, jL, jN, c10, jT])
  | refine dx_all ?_
  | (refine dx_post _ (fun _ => (by simp -implicitDefEqProofs only [go_sem, rB, rA, rS, rL, resultOf, mapM?, ARes.val, loadOf, cellsAt]; exact rfl)) ?_; exact ⟨_, _, _, _, _, _, _, _, _, _, rfl⟩)
theorem d_bit (b : Bool) : Det prog 111 [.bool b] IsInt := by
 refine Det.by_text rfl rfl ?_
 simp -implicitDefEqProofs only [go_sem, rB, rA, rS, a111]
 repeat' first
  | (refine dx_br (fun hb => ?_) (fun hb => ?_) <;> simp -implicitDefEqProofs only [go_sem, hb])
  | (refine dx_all ?_; simp -implicitDefEqProofs only [go_sem, rB, rA, rS, rM, rL, rE, jL, jN])
  | refine dx_all ?_
  | (refine dx_post _ (fun _ => (by simp -implicitDefEqProofs only [go_sem, rB, rA, rS, resultOf, mapM?, ARes.val]; exact rfl)) ?_; exact ⟨_, rfl⟩)
theorem d_up (n : Int) : Det prog 113 [.int .i64 n] IsInt := by
 refine Det.by_text rfl rfl ?_
 simp -implicitDefEqProofs only [go_sem, rB, rA, rS, a113]
 repeat' first
  | (refine dx_br (fun hb => ?_) (fun hb => ?_) <;> simp -implicitDefEqProofs only [go_sem, rB, rA, rS, hb])
  | (refine dx_all ?_; simp -implicitDefEqProofs only [go_sem, rB, rA, rS, rM, rL, rE, jL, jN])
  | refine dx_all ?_
  | (refine dx_post _ (fun _ => (by simp -implicitDefEqProofs only [go_sem, rB, rA, rS, resultOf, mapM?, ARes.val]; exact rfl)) ?_; exact ⟨_, rfl⟩)
theorem d_down (n : Int) : Det prog 114 [.int .i64 n] IsInt := by
 refine Det.by_text rfl rfl ?_
 simp -implicitDefEqProofs only [go_sem, rB, rA, rS, a114]
 repeat' first
  | (refine dx_br (fun hb => ?_) (fun hb => ?_) <;> simp -implicitDefEqProofs only [go_sem, rB, rA, rS, hb])
  | (refine dx_all ?_; simp -implicitDefEqProofs only [go_sem, rB, rA, rS, rM, rL, rE, jL, jN])
  | refine dx_all ?_
  | (refine dx_post _ (fun _ => (by simp -implicitDefEqProofs only [go_sem, rB, rA, rS, resultOf, mapM?, ARes.val]; exact rfl)) ?_; exact ⟨_, rfl⟩)
theorem d_step10 (k a b c d e f g h i j : Int) : Det prog 105 [.int .i64 k, instV a b c d e f g h i j] IsI10 := by
 refine Det.by_text rfl rfl ?_
 simp -implicitDefEqProofs only [go_sem, rB, rA, rS, a105, instV]
 repeat' first
  | (refine dx_br (fun hb => ?_) (fun hb => ?_) <;> simp -implicitDefEqProofs only [go_sem, rB, rA, rS, rM, rL, jL, jN, hb, c10, jT])
  | (refine dx_all ?_; simp -implicitDefEqProofs only [go_sem, rB, rA, rS, rM, rL, rE, jL, jN, c10, jT])
  | refine dx_all ?_
  | (refine dx_post _ (fun _ => (by simp -implicitDefEqProofs only [go_sem, rB, rA, rS, rL, resultOf, mapM?, ARes.val, loadOf, cellsAt]; exact rfl)) ?_; exact ⟨_, _, _, _, _, _, _, _, _, _, rfl⟩)
end TryzT
end Go.Abs
namespace Go.Abs
open Go
namespace TryzT
theorem d_rises05 (a b c d e f g h i j : Int) : Det prog 112 [instV a b c d e f g h i j, .int .i64 0, .int .i64 5] IsBool := by
 refine Det.by_text rfl rfl ?_
 simp -implicitDefEqProofs only [go_sem, rB, rA, rS, rM, rL, jL, jN, a112, instV, c10, jT]
 repeat' first
  | (refine dx_br (fun hb => ?_) (fun hb => ?_) <;> simp -implicitDefEqProofs only [go_sem, rB, rA, rS, rM, rL, jL, jN, hb, c10, jT])
  | (refine dx_all ?_; simp -implicitDefEqProofs only [go_sem, rB, rA, rS, rM, rL, rE, jL, jN, c10, jT])
  | refine dx_all ?_
  | (refine dx_post _ (fun _ => (by simp -implicitDefEqProofs only [go_sem, rB, rA, rS, resultOf, mapM?, ARes.val]; exact rfl)) ?_; exact ⟨_, rfl⟩)
theorem d_rises08 (a b c d e f g h i j : Int) : Det prog 112 [instV a b c d e f g h i j, .int .i64 0, .int .i64 8] IsBool := by
 refine Det.by_text rfl rfl ?_
 simp -implicitDefEqProofs only [go_sem, rB, rA, rS, rM, rL, jL, jN, a112, instV, c10, jT]
 repeat' first
  | (refine dx_br (fun hb => ?_) (fun hb => ?_) <;> simp -implicitDefEqProofs only [go_sem, rB, rA, rS, rM, rL, jL, jN, hb, c10, jT])
  | (refine dx_all ?_; simp -implicitDefEqProofs only [go_sem, rB, rA, rS, rM, rL, rE, jL, jN, c10, jT])
  | refine dx_all ?_
  | (refine dx_post _ (fun _ => (by simp -implicitDefEqProofs only [go_sem, rB, rA, rS, resultOf, mapM?, ARes.val]; exact rfl)) ?_; exact ⟨_, rfl⟩)
theorem d_rises19 (a b c d e f g h i j : Int) : Det prog 112 [instV a b c d e f g h i j, .int .i64 1, .int .i64 9] IsBool := by
 refine Det.by_text rfl rfl ?_
 simp -implicitDefEqProofs only [go_sem, rB, rA, rS, rM, rL, jL, jN, a112, instV, c10, jT]
 repeat' first
  | (refine dx_br (fun hb => ?_) (fun hb => ?_) <;> simp -implicitDefEqProofs only [go_sem, rB, rA, rS, rM, rL, jL, jN, hb, c10, jT])
  | (refine dx_all ?_; simp -implicitDefEqProofs only [go_sem, rB, rA, rS, rM, rL, rE, jL, jN, c10, jT])
  | refine dx_all ?_
  | (refine dx_post _ (fun _ => (by simp -implicitDefEqProofs only [go_sem, rB, rA, rS, resultOf, mapM?, ARes.val]; exact rfl)) ?_; exact ⟨_, rfl⟩)
theorem d_step9_4 (k a b c d e f g h i j : Int) (h4 : (k == 4) = true) (h5 : (k == 5) = false) (h6 : (k == 6) = false) : Det prog 104 [.int .i64 k, instV a b c d e f g h i j] IsI10 := by
 refine Det.by_text rfl rfl ?_
 simp -implicitDefEqProofs only [go_sem, rB, rA, rS, rM, rL, jL, jN, a104, instV, c10, jT, h4]
 repeat' first
  | (refine dx_br (fun hb => ?_) (fun hb => ?_) <;> simp -implicitDefEqProofs only [go_sem, rB, rA, rS, rM, rL, jL, jN, hb, c10, jT, h4, h5])
  | (first | refine dx_call (d_rises05 _ _ _ _ _ _ _ _ _ _) ?_ | refine dx_pcall (d_rises05 _ _ _ _ _ _ _ _ _ _) ?_); rintro u ⟨_, rfl⟩; simp -implicitDefEqProofs only [go_sem, rB, rA, rS]
  | (first | refine dx_call (d_rises08 _ _ _ _ _ _ _ _ _ _) ?_ | refine dx_pcall (d_rises08 _ _ _ _ _ _ _ _ _ _) ?_); rintro u ⟨_, rfl⟩; simp -implicitDefEqProofs only [go_sem, rB, rA, rS, rM, rL, rE, jL, jN, c10, jT, h4, h5, h6]
  | (first | refine dx_call (d_rises19 _ _ _ _ _ _ _ _ _ _) ?_ | refine dx_pcall (d_rises19 _ _ _ _ _ _ _ _ _ _) ?_); rintro u ⟨_, rfl⟩; simp -implicitDefEqProofs only [go_sem, rB, rA, rS, rM, rL, rE, jL, jN, c10, jT, h4, h5, h6]
  | (first | refine dx_call (d_bit _) ?_ | refine dx_pcall (d_bit _) ?_); rintro u ⟨_, rfl⟩; simp -implicitDefEqProofs only [go_sem, rB, rA, rS, rM, rL, jL, jN, c10, jT, h4, h6]
  | (first | refine dx_call (d_up _) ?_ | refine dx_pcall (d_up _) ?_); rintro u ⟨_, rfl⟩; simp -implicitDefEqProofs only [go_sem, rB, rA, rS, rM, rL, jL, jN, c10, jT, h4]
  | (first | refine dx_call (d_down _) ?_ | refine dx_pcall (d_down _) ?_); rintro u ⟨_, rfl⟩; simp -implicitDefEqProofs only [go_sem, rB, rA, rS, rM, rL, jL, jN, c10, jT, h4]
  | (refine dx_all ?_; simp -implicitDefEqProofs only [go_sem, rB, rA, rS, rM, rL, rE, jL, jN, c10, jT, h4, h5, h6])
  | refine dx_all ?_
  | (refine dx_post _ (fun _ => (by simp -implicitDefEqProofs only [go_sem, rB, rA, rS, rL, resultOf, mapM?, ARes.val, loadOf, cellsAt]; exact rfl)) ?_; exact ⟨_, _, _, _, _, _, _, _, _, _, rfl⟩)
theorem d_step9_5 (k a b c d e f g h i j : Int) (h4 : (k == 4) = false) (h5 : (k == 5) = true) (h6 : (k == 6) = false) : Det prog 104 [.int .i64 k, instV a b c d e f g h i j] IsI10 := by
 refine Det.by_text rfl rfl ?_
 simp -implicitDefEqProofs only [go_sem, rB, rA, rS, rM, rL, jL, jN, a104, instV, c10, jT, h4, h5]
 repeat' first
  | (refine dx_br (fun hb => ?_) (fun hb => ?_) <;> simp -implicitDefEqProofs only [go_sem, rB, rA, rS, rM, rL, jL, jN, hb, c10, jT, h4, h5])
  | (first | refine dx_call (d_rises05 _ _ _ _ _ _ _ _ _ _) ?_ | refine dx_pcall (d_rises05 _ _ _ _ _ _ _ _ _ _) ?_); rintro u ⟨_, rfl⟩; simp -implicitDefEqProofs only [go_sem, rB, rA, rS]
  | (first | refine dx_call (d_rises08 _ _ _ _ _ _ _ _ _ _) ?_ | refine dx_pcall (d_rises08 _ _ _ _ _ _ _ _ _ _) ?_); rintro u ⟨_, rfl⟩; simp -implicitDefEqProofs only [go_sem, rB, rA, rS, rM, rL, rE, jL, jN, c10, jT, h4, h5, h6]
  | (first | refine dx_call (d_rises19 _ _ _ _ _ _ _ _ _ _) ?_ | refine dx_pcall (d_rises19 _ _ _ _ _ _ _ _ _ _) ?_); rintro u ⟨_, rfl⟩; simp -implicitDefEqProofs only [go_sem, rB, rA, rS, rM, rL, rE, jL, jN, c10, jT, h4, h5, h6]
  | (first | refine dx_call (d_bit _) ?_ | refine dx_pcall (d_bit _) ?_); rintro u ⟨_, rfl⟩; simp -implicitDefEqProofs only [go_sem, rB, rA, rS, rM, rL, jL, jN, c10, jT, h4, h5, h6]
  | (first | refine dx_call (d_up _) ?_ | refine dx_pcall (d_up _) ?_); rintro u ⟨_, rfl⟩; simp -implicitDefEqProofs only [go_sem, rB, rA, rS, rM, rL, rE, jL, jN, c10, jT, h4, h5, h6]
  | (first | refine dx_call (d_down _) ?_ | refine dx_pcall (d_down _) ?_); rintro u ⟨_, rfl⟩; simp -implicitDefEqProofs only [go_sem, rB, rA, rS, rM, rL, jL, jN, c10, jT, h4, h5]
  | (refine dx_all ?_; simp -implicitDefEqProofs only [go_sem, rB, rA, rS, rM, rL, rE, jL, jN, c10, jT, h4, h5, h6])
  | refine dx_all ?_
  | (refine dx_post _ (fun _ => (by simp -implicitDefEqProofs only [go_sem, rB, rA, rS, rL, resultOf, mapM?, ARes.val, loadOf, cellsAt]; exact rfl)) ?_; exact ⟨_, _, _, _, _, _, _, _, _, _, rfl⟩)
theorem d_step9_6 (k a b c d e f g h i j : Int) (h4 : (k == 4) = false) (h5 : (k == 5) = false) (h6 : (k == 6) = true) : Det prog 104 [.int .i64 k, instV a b c d e f g h i j] IsI10 := by
 refine Det.by_text rfl rfl ?_
 simp -implicitDefEqProofs only [go_sem, rB, rA, rS, rM, rL, jL, jN, a104, instV, c10, jT, h4, h5, h6]
 repeat' first
  | (refine dx_br (fun hb => ?_) (fun hb => ?_) <;> simp -implicitDefEqProofs only [go_sem, rB, rA, rS, rM, rL, jL, jN, hb, c10, jT])
  | (first | refine dx_call (d_rises05 _ _ _ _ _ _ _ _ _ _) ?_ | refine dx_pcall (d_rises05 _ _ _ _ _ _ _ _ _ _) ?_); rintro u ⟨_, rfl⟩; simp -implicitDefEqProofs only [go_sem, rB, rA, rS, rM, rL, rE, jL, jN, c10, jT, h4, h5, h6]
  | (first | refine dx_call (d_rises08 _ _ _ _ _ _ _ _ _ _) ?_ | refine dx_pcall (d_rises08 _ _ _ _ _ _ _ _ _ _) ?_); rintro u ⟨_, rfl⟩; simp -implicitDefEqProofs only [go_sem, rB, rA, rS]
  | (first | refine dx_call (d_rises19 _ _ _ _ _ _ _ _ _ _) ?_ | refine dx_pcall (d_rises19 _ _ _ _ _ _ _ _ _ _) ?_); rintro u ⟨_, rfl⟩; simp -implicitDefEqProofs only [go_sem, rB, rA, rS]
  | (first | refine dx_call (d_bit _) ?_ | refine dx_pcall (d_bit _) ?_); rintro u ⟨_, rfl⟩; simp -implicitDefEqProofs only [go_sem, rB, rA, rS, rM, rL, jL, jN, c10, jT]
  | (first | refine dx_call (d_up _) ?_ | refine dx_pcall (d_up _) ?_); rintro u ⟨_, rfl⟩; simp -implicitDefEqProofs only [go_sem, rB, rA, rS, rM, rL, jL, jN, c10, jT]
  | (first | refine dx_call (d_down _) ?_ | refine dx_pcall (d_down _) ?_); rintro u ⟨_, rfl⟩; simp -implicitDefEqProofs only [go_sem, rB, rA, rS, rM, rL, jL, jN, c10, jT]
  | (refine dx_all ?_; simp -implicitDefEqProofs only [go_sem, rB, rA, rS, rM, rL, rE, jL, jN, c10, jT, h4, h5, h6])
  | refine dx_all ?_
  | (refine dx_post _ (fun _ => (by simp -implicitDefEqProofs only [go_sem, rB, rA, rS, rL, resultOf, mapM?, ARes.val, loadOf, cellsAt]; exact rfl)) ?_; exact ⟨_, _, _, _, _, _, _, _, _, _, rfl⟩)
theorem d_step9_o (k a b c d e f g h i j : Int) (h4 : (k == 4) = false) (h5 : (k == 5) = false) (h6 : (k == 6) = false) : Det prog 104 [.int .i64 k, instV a b c d e f g h i j] IsI10 := by
 refine Det.by_text rfl rfl ?_
 simp -implicitDefEqProofs only [go_sem, rB, rA, rS, rL, a104, instV, h4, h5, h6]
 repeat' first
  | (refine dx_br (fun hb => ?_) (fun hb => ?_) <;> simp -implicitDefEqProofs only [go_sem, rB, rA, rS, rM, rL, rE, jL, jN, hb, c10, jT, h4, h5, h6])
  | (first | refine dx_call (d_rises05 _ _ _ _ _ _ _ _ _ _) ?_ | refine dx_pcall (d_rises05 _ _ _ _ _ _ _ _ _ _) ?_); rintro u ⟨_, rfl⟩; simp -implicitDefEqProofs only [go_sem, rB, rA, rS, rM, rL, rE, jL, jN, c10, jT, h4, h5, h6]
  | (first | refine dx_call (d_rises08 _ _ _ _ _ _ _ _ _ _) ?_ | refine dx_pcall (d_rises08 _ _ _ _ _ _ _ _ _ _) ?_); rintro u ⟨_, rfl⟩; simp -implicitDefEqProofs only [go_sem, rB, rA, rS, rM, rL, rE, jL, jN, c10, jT, h4, h5, h6]
  | (first | refine dx_call (d_rises19 _ _ _ _ _ _ _ _ _ _) ?_ | refine dx_pcall (d_rises19 _ _ _ _ _ _ _ _ _ _) ?_); rintro u ⟨_, rfl⟩; simp -implicitDefEqProofs only [go_sem, rB, rA, rS, rM, rL, rE, jL, jN, c10, jT, h4, h5, h6]
  | (first | refine dx_call (d_bit _) ?_ | refine dx_pcall (d_bit _) ?_); rintro u ⟨_, rfl⟩; simp -implicitDefEqProofs only [go_sem, rB, rA, rS, rM, rL, rE, jL, jN, c10, jT, h4, h5, h6]
  | (first | refine dx_call (d_up _) ?_ | refine dx_pcall (d_up _) ?_); rintro u ⟨_, rfl⟩; simp -implicitDefEqProofs only [go_sem, rB, rA, rS, rM, rL, rE, jL, jN, c10, jT, h4, h5, h6]
  | (first | refine dx_call (d_down _) ?_ | refine dx_pcall (d_down _) ?_); rintro u ⟨_, rfl⟩; simp -implicitDefEqProofs only [go_sem, rB, rA, rS, rM, rL, rE, jL, jN, c10, jT, h4, h5, h6]
  | (refine dx_all ?_; simp -implicitDefEqProofs only [go_sem, rB, rA, rS, rM, rL, rE, jL, jN, c10, jT, h4, h5, h6])
  | refine dx_all ?_
  | (refine dx_post _ (fun _ => (by simp -implicitDefEqProofs only [go_sem, rB, rA, rS, rL, resultOf, mapM?, ARes.val, loadOf, cellsAt]; exact rfl)) ?_; exact ⟨_, _, _, _, _, _, _, _, _, _, rfl⟩)
theorem d_step9 (k a b c d e f g h i j : Int) : Det prog 104 [.int .i64 k, instV a b c d e f g h i j] IsI10 := by
 by_cases h4 : k = 4
 ·subst h4; exact d_step9_4 _ _ _ _ _ _ _ _ _ _ _ rfl rfl rfl
 by_cases h5 : k = 5
 ·subst h5; exact d_step9_5 _ _ _ _ _ _ _ _ _ _ _ rfl rfl rfl
 by_cases h6 : k = 6
 ·subst h6; exact d_step9_6 _ _ _ _ _ _ _ _ _ _ _ rfl rfl rfl
 exact d_step9_o _ _ _ _ _ _ _ _ _ _ _ (by simpa using h4) (by simpa using h5) (by simpa using h6)
theorem d_run (k a b c d e f g h i j now : Int) : Det prog 91 [.int .i64 k, instV a b c d e f g h i j, .int .i64 now] IsI10 := by
 refine Det.by_text rfl rfl ?_
 simp -implicitDefEqProofs only [go_sem, rB, rA, rS, a91, instV]
 repeat' first
  | (refine dx_br (fun hb => ?_) (fun hb => ?_) <;> simp -implicitDefEqProofs only [go_sem, rB, rA, rS, rL, hb])
  | (first | refine dx_call (d_step8 _ _ _ _ _ _ _ _ _ _ _ _) ?_ | refine dx_pcall (d_step8 _ _ _ _ _ _ _ _ _ _ _ _) ?_); rintro u ⟨_, _, _, _, _, _, _, _, _, _, rfl⟩; simp -implicitDefEqProofs only [go_sem, rB, rA, rS, rL]
  | (first | refine dx_call (d_step9 _ _ _ _ _ _ _ _ _ _ _) ?_ | refine dx_pcall (d_step9 _ _ _ _ _ _ _ _ _ _ _) ?_); rintro u ⟨_, _, _, _, _, _, _, _, _, _, rfl⟩; simp -implicitDefEqProofs only [go_sem, rB, rA, rS, rL]
  | (first | refine dx_call (d_step10 _ _ _ _ _ _ _ _ _ _ _) ?_ | refine dx_pcall (d_step10 _ _ _ _ _ _ _ _ _ _ _) ?_); rintro u ⟨_, _, _, _, _, _, _, _, _, _, rfl⟩; simp -implicitDefEqProofs only [go_sem, rB, rA, rS, rL]
  | (refine dx_all ?_; simp -implicitDefEqProofs only [go_sem, rB, rA, rS, rM, rL, rE, jL, jN, c10, jT])
  | refine dx_all ?_
  | (refine dx_post _ (fun _ => (by simp -implicitDefEqProofs only [go_sem, rB, rA, rS, rL, resultOf, mapM?, ARes.val, loadOf, cellsAt]; exact rfl)) ?_; exact ⟨_, _, _, _, _, _, _, _, _, _, rfl⟩)
end TryzT
end Go.Abs
namespace Go.Abs
open Go
structure Sta where
 vars : List (List Int)
 blocks : List (List Int)
 now : Int
 fault : Int
def Sta.cs (x : Sta) : List V := [.fsl 1 (x.vars.map fun l => [intsV l]), .fsl 10 (x.blocks.map TryzT.instC), .int .i64 x.now, .int .i64 x.fault]
def Sta.v (x : Sta) : V := .agg x.cs
theorem Sta.cellsOf_v (x : Sta) : cellsOf x.v = some x.cs := rfl
theorem Sta.fold (x : Sta) : V.agg [.fsl 1 (x.vars.map fun l => [intsV l]), .fsl 10 (x.blocks.map TryzT.instC), .int .i64 x.now, .int .i64 x.fault] = x.v := rfl
structure FitsS (s : Sc) (x : Sta) : Prop where
 len : x.vars.length = s.vars.length
 pos : ∀ (i : Nat) (l : List Int), x.vars[i]? = some l → 0 < l.length
 bit : ∀ (i : Nat) (v : Vr) (l : List Int), s.vars[i]? = some v → x.vars[i]? = some l → v.t = 1 → ∀ y ∈ l, y = 0 ∨ y = 1
 blen : x.blocks.length = s.blocks.length
 b10 : ∀ b ∈ x.blocks, b.length = 10
structure FitsL (s : Sc) (sl : List Int) : Prop where
 len : sl.length = s.slots.length
 bit : ∀ (i : Nat) (y : Int), s.slots[i]? = some 1 → sl[i]? = some y → y = 0 ∨ y = 1
theorem Good.v {s : Sc} {op t n m : Int} {l : List Ex} (h : Good s (.mk op t n m l)) (ho : op = 2 ∨ op = 4) : 0 ≤ n ∧ n < s.vars.length := by cases h with | mk _ _ _ _ _ h2 _ _ _ => exact h2 ho
theorem Good.s {s : Sc} {op t n m : Int} {l : List Ex} (h : Good s (.mk op t n m l)) (ho : op = 3) : 0 ≤ n ∧ n < s.slots.length := by cases h with | mk _ _ _ _ _ _ h3 _ _ => exact h3 ho
theorem Good.b {s : Sc} {op t n m : Int} {l : List Ex} (h : Good s (.mk op t n m l)) (ho : op = 5) : 0 ≤ n ∧ n < s.blocks.length := by cases h with | mk _ _ _ _ _ _ _ h5 _ => exact h5 ho
theorem Good.sub {s : Sc} {op t n m : Int} {l : List Ex} (h : Good s (.mk op t n m l)) (i : Nat) (e : Ex) (hi : i < 2) (he : l[i]? = some e) : Good s e := by cases h with | mk _ _ _ _ _ _ _ _ hl => exact hl i e hi he
namespace TryzT
def EvP (s : Sc) (e : Ex) (v : V) : Prop := ∃ a f : Int, v = .tup [.int .i64 a, .int .i64 f] ∧ (B1 s e → a = 0 ∨ a = 1)
def TxP (s : Sc) (op t n m : Int) (l : List Ex) (tx : Int) : Prop := B1 s (.mk op t n m l) → (op = 6 → tx = 1) ∧ (op = 7 → m ≥ 20 ∨ tx = 1)
theorem eval0_2 (s : Sc) (st : Sta) (sl : List Int) (t n m : Int) (i : Nat) (hi : n = i) (w : List Int) (hw : st.vars[i]? = some w) (y0 : Int) (hy0 : w[0]? = some y0) (hbit : B1 s (.mk 2 t n m []) → ∀ y ∈ w, y = 0 ∨ y = 1) : Det prog 52 [s.v, st.v, intsV sl, (Ex.mk 2 t n m []).v] (EvP s (.mk 2 t n m [])) := by
 subst hi
 have hlt := (lS.1 hw).1
 have f1 : ((i : Int) < (st.vars.length : Int)) = True := eq_true (by omega)
 refine Det.by_text rfl rfl ?_
 simp -implicitDefEqProofs only [go_sem, rB, rA, rS, rL, jL, jN, a52, Ex.cellsOf_v, Sc.cellsOf_v, Sta.cellsOf_v, op_mk, t_mk, n_mk, m_mk, l_mk, z0, jG, jL, jB, Sc.cs, Sta.cs, intsV, hw, hy0, intC]
 repeat' first
  | (refine dx_br (fun hb => ?_) (fun hb => ?_) <;> simp -implicitDefEqProofs only [go_sem, rB, rA, rS, rM, rL, rE, jL, jN, hb, z0, z1, z2, two_ne, jT, jG, jH, jL, jB, jZ, Sc.cs, Sc.fold, Sta.cs, Sta.fold, intsV, hw, hy0, intC])
  | (refine dx_all ?_; simp -implicitDefEqProofs only [go_sem, rB, rA, rS, rM, rL, rE, jL, jN, z0, z1, z2, two_ne, jT, jG, jH, jL, jB, jZ, Sc.cs, Sc.fold, Sta.cs, Sta.fold, intsV, hw, hy0, intC])
  | refine dx_all ?_
  | (refine dx_post _ (fun _ => (by simp -implicitDefEqProofs only [go_sem, rB, rA, rS, resultOf, mapM?, ARes.val]; exact rfl)) ?_; first | exact ⟨_, _, rfl, fun _ => .inl rfl⟩ | exact ⟨_, _, rfl, fun hb1 => hbit hb1 _ (lM hy0)⟩)

theorem eval0_3 (s : Sc) (st : Sta) (sl : List Int) (t n m : Int) (i : Nat) (hi : n = i) (y0 : Int) (hy0 : sl[i]? = some y0) (hbit : B1 s (.mk 3 t n m []) → y0 = 0 ∨ y0 = 1) : Det prog 52 [s.v, st.v, intsV sl, (Ex.mk 3 t n m []).v] (EvP s (.mk 3 t n m [])) := by
 subst hi
 refine Det.by_text rfl rfl ?_
 simp -implicitDefEqProofs only [go_sem, rB, rA, rS, rL, a52, Ex.cellsOf_v, Sc.cellsOf_v, Sta.cellsOf_v, op_mk, t_mk, n_mk, m_mk, l_mk, z0, jG, jB, Sc.cs, Sta.cs, intsV, hy0, intC]
 repeat' first
  | (refine dx_br (fun hb => ?_) (fun hb => ?_) <;> simp -implicitDefEqProofs only [go_sem, rB, rA, rS, rM, rL, rE, jL, jN, hb, z0, z1, z2, two_ne, jT, jG, jH, jL, jB, jZ, Sc.cs, Sc.fold, Sta.cs, Sta.fold, intsV, hy0, intC])
  | (refine dx_all ?_; simp -implicitDefEqProofs only [go_sem, rB, rA, rS, rM, rL, rE, jL, jN, z0, z1, z2, two_ne, jT, jG, jH, jL, jB, jZ, Sc.cs, Sc.fold, Sta.cs, Sta.fold, intsV, hy0, intC])
  | refine dx_all ?_
  | (refine dx_post _ (fun _ => (by simp -implicitDefEqProofs only [go_sem, rB, rA, rS, resultOf, mapM?, ARes.val]; exact rfl)) ?_; first | exact ⟨_, _, rfl, fun _ => .inl rfl⟩ | exact ⟨_, _, rfl, fun hb1 => hbit hb1⟩)

theorem eval0_4 (s : Sc) (st : Sta) (sl : List Int) (t n m : Int) (i : Nat) (hi : n = i) (w : List Int) (hw : st.vars[i]? = some w) (y0 : Int) (hy0 : w[0]? = some y0) (hbit : B1 s (.mk 4 t n m []) → ∀ y ∈ w, y = 0 ∨ y = 1) : Det prog 52 [s.v, st.v, intsV sl, (Ex.mk 4 t n m []).v] (EvP s (.mk 4 t n m [])) := by
 subst hi
 have hlt := (lS.1 hw).1
 have f1 : ((i : Int) < (st.vars.length : Int)) = True := eq_true (by omega)
 have f3 : decide ((0 : Int) ≥ (w.length : Int)) = false := by have := (lS.1 hy0).1; exact decide_eq_false (by omega)
 refine Det.by_text rfl rfl ?_
 simp -implicitDefEqProofs only [go_sem, rB, rA, rS, rL, jL, jN, a52, Ex.cellsOf_v, Sc.cellsOf_v, Sta.cellsOf_v, op_mk, t_mk, n_mk, m_mk, l_mk, z0, jT, jG, jL, jB, Sc.cs, Sta.cs, intsV, hw, hy0, intC, f3]
 repeat' first
  | (refine dx_br (fun hb => ?_) (fun hb => ?_) <;> simp -implicitDefEqProofs only [go_sem, rB, rA, rS, rM, rL, rE, jL, jN, hb, z0, z1, z2, two_ne, jT, jG, jH, jL, jB, jZ, Sc.cs, Sc.fold, Sta.cs, Sta.fold, intsV, hw, hy0, intC, f3])
  | (refine dx_all ?_; simp -implicitDefEqProofs only [go_sem, rB, rA, rS, rM, rL, rE, jL, jN, z0, z1, z2, two_ne, jT, jG, jH, jL, jB, jZ, Sc.cs, Sc.fold, Sta.cs, Sta.fold, intsV, hw, hy0, intC, f3])
  | refine dx_all ?_
  | (refine dx_post _ (fun _ => (by simp -implicitDefEqProofs only [go_sem, rB, rA, rS, resultOf, mapM?, ARes.val]; exact rfl)) ?_; first | exact ⟨_, _, rfl, fun _ => .inl rfl⟩ | exact ⟨_, _, rfl, fun hb1 => hbit hb1 _ (lM hy0)⟩)

theorem eval0_5 (s : Sc) (st : Sta) (sl : List Int) (t n m : Int) (i : Nat) (hi : n = i) (b : Bk) (hb0 : s.blocks[i]? = some b) (xs : List Int) (hxs : st.blocks[i]? = some xs) (h10 : xs.length = 10) (hbit : B1 s (.mk 5 t n m []) → m < 0 ∨ (ftypes b.kind)[m.toNat]? = some 1) : Det prog 52 [s.v, st.v, intsV sl, (Ex.mk 5 t n m []).v] (EvP s (.mk 5 t n m [])) := by
 subst hi
 have hl := inst_len h10
 have ht := inst_take h10
 refine Det.by_text rfl rfl ?_
 simp -implicitDefEqProofs only [go_sem, rB, rA, rS, rL, a52, Ex.cellsOf_v, Sc.cellsOf_v, Sta.cellsOf_v, op_mk, t_mk, n_mk, m_mk, l_mk, z0, jG, jB, Sc.cs, Sta.cs, intsV, hb0, Bk.cells, hxs, hl, ht]
 repeat' first
  | (refine dx_br (fun hb => ?_) (fun hb => ?_) <;> simp -implicitDefEqProofs only [go_sem, rB, rA, rS, rM, rL, rE, jL, jN, hb, z0, z1, z2, two_ne, jT, jG, jH, jL, jB, jZ, Sc.cs, Sc.fold, Sta.cs, Sta.fold, intsV, hb0, Bk.cells, hxs, hl, ht])
  | (first | refine dx_call (d_get _ _ h10 _) ?_ | refine dx_pcall (d_get _ _ h10 _) ?_); rintro u ⟨_, rfl, hg⟩; simp -implicitDefEqProofs only [go_sem, rB, rA, rS]
  | (refine dx_all ?_; simp -implicitDefEqProofs only [go_sem, rB, rA, rS, rM, rL, rE, jL, jN, z0, z1, z2, two_ne, jT, jG, jH, jL, jB, jZ, Sc.cs, Sc.fold, Sta.cs, Sta.fold, intsV, hb0, Bk.cells, hxs, hl, ht])
  | refine dx_all ?_
  | (refine dx_post _ (fun _ => (by simp -implicitDefEqProofs only [go_sem, rB, rA, rS, resultOf, mapM?, ARes.val]; exact rfl)) ?_; first | exact ⟨_, _, rfl, fun _ => .inl rfl⟩ | exact ⟨_, _, rfl, fun hb1 => hg (hbit hb1)⟩)

theorem eval0_o (s : Sc) (st : Sta) (sl : List Int) (op t n m : Int) (hT : TxP s op t n m [] 0) (h2 : (op == 2) = false) (h3 : (op == 3) = false) (h4 : (op == 4) = false) (h5 : (op == 5) = false) : Det prog 52 [s.v, st.v, intsV sl, (Ex.mk op t n m []).v] (EvP s (.mk op t n m [])) := by
 refine Det.by_text rfl rfl ?_
 simp -implicitDefEqProofs only [go_sem, rB, rA, rS, rL, a52, Ex.cellsOf_v, Sc.cellsOf_v, Sta.cellsOf_v, op_mk, t_mk, n_mk, m_mk, l_mk, z0, jG, Sc.cs, Sta.cs, intsV]
 repeat' first
  | (refine dx_br (fun hb => ?_) (fun hb => ?_) <;> simp -implicitDefEqProofs only [go_sem, rB, rA, rS, rL, hb, h2, h3, h4, h5])
  | (first | refine dx_call (d_un _ _ _) ?_ | refine dx_pcall (d_un _ _ _) ?_); rintro u ⟨_, _, rfl, hu⟩; simp -implicitDefEqProofs only [go_sem, rB, rA, rS]
  | (first | refine dx_call (d_bin _ _ _ _) ?_ | refine dx_pcall (d_bin _ _ _ _) ?_); rintro u ⟨_, _, _, rfl, hn⟩; simp -implicitDefEqProofs only [go_sem, rB, rA, rS]
  | (first | refine dx_call (d_conv _ _ _) ?_ | refine dx_pcall (d_conv _ _ _) ?_); rintro u ⟨_, _, rfl, hc⟩; simp -implicitDefEqProofs only [go_sem, rB, rA, rS]
  | (refine dx_all ?_; simp -implicitDefEqProofs only [go_sem, rB, rA, rS, rM, rL, rE, jL, jN, z0, z1, z2, two_ne, jT, jG, jH, jL, jB, jZ, Sc.cs, Sc.fold, Sta.cs, Sta.fold, intsV, h2, h3, h4, h5])
  | refine dx_all ?_
  | (refine dx_post _ (fun _ => (by simp -implicitDefEqProofs only [go_sem, rB, rA, rS, resultOf, mapM?, ARes.val]; exact rfl)) ?_; exact ⟨_, _, rfl, fun hb1 => by first | exact .inl rfl | exact hb1.1 (by simpa using hb) | exact hu ((hT hb1).1 (by simpa using hb)) | exact hn ((hT hb1).2 (by simpa using hb)) | exact hc (hb1.2.2.2.2.2.2 (by simp_all <;> omega))⟩)

theorem eval1_2 (s : Sc) (st : Sta) (sl : List Int) (t n m : Int) (x : Ex) (tx : Int) (hx : Det prog 71 [s.v, x.v] (· = .int .i64 tx)) (ex : Det prog 52 [s.v, st.v, intsV sl, x.v] (EvP s x)) (i : Nat) (hi : n = i) (w : List Int) (hw : st.vars[i]? = some w) (y0 : Int) (hy0 : w[0]? = some y0) (hbit : B1 s (.mk 2 t n m [x]) → ∀ y ∈ w, y = 0 ∨ y = 1) : Det prog 52 [s.v, st.v, intsV sl, (Ex.mk 2 t n m [x]).v] (EvP s (.mk 2 t n m [x])) := by
 subst hi
 have hlt := (lS.1 hw).1
 have f1 : ((i : Int) < (st.vars.length : Int)) = True := eq_true (by omega)
 refine Det.by_text rfl rfl ?_
 simp -implicitDefEqProofs only [go_sem, rB, rA, rS, rL, jL, jN, a52, Ex.cellsOf_v, Sc.cellsOf_v, Sta.cellsOf_v, op_mk, t_mk, n_mk, m_mk, l_mk, z1, jG, jL, Sc.cs, Sc.fold, Sta.cs, intsV, x.cells_eq, Ex.fold]
 repeat' first
  | (refine dx_br (fun hb => ?_) (fun hb => ?_) <;> simp -implicitDefEqProofs only [go_sem, rB, rA, rS, rL, jL, jN, hb, jL, Sc.fold, Ex.fold])
  | (first | refine dx_call (hx) ?_ | refine dx_pcall (hx) ?_); rintro u rfl; simp -implicitDefEqProofs only [go_sem, rB, rA, rS, rL, jL, jN, z1, jG, jL, jB, hw, hy0, intC]
  | (first | refine dx_call (ex) ?_ | refine dx_pcall (ex) ?_); rintro u ⟨_, _, rfl, _⟩; simp -implicitDefEqProofs only [go_sem, rB, rA, rS]
  | (refine dx_all ?_; simp -implicitDefEqProofs only [go_sem, rB, rA, rS, rM, rL, rE, jL, jN, z0, z1, z2, two_ne, jT, jG, jH, jL, jB, jZ, Sc.cs, Sc.fold, Sta.cs, Sta.fold, intsV, x.cells_eq, Ex.fold, hw, hy0, intC])
  | refine dx_all ?_
  | (refine dx_post _ (fun _ => (by simp -implicitDefEqProofs only [go_sem, rB, rA, rS, resultOf, mapM?, ARes.val]; exact rfl)) ?_; first | exact ⟨_, _, rfl, fun _ => .inl rfl⟩ | exact ⟨_, _, rfl, fun hb1 => hbit hb1 _ (lM hy0)⟩)

theorem eval1_3 (s : Sc) (st : Sta) (sl : List Int) (t n m : Int) (x : Ex) (tx : Int) (hx : Det prog 71 [s.v, x.v] (· = .int .i64 tx)) (ex : Det prog 52 [s.v, st.v, intsV sl, x.v] (EvP s x)) (i : Nat) (hi : n = i) (y0 : Int) (hy0 : sl[i]? = some y0) (hbit : B1 s (.mk 3 t n m [x]) → y0 = 0 ∨ y0 = 1) : Det prog 52 [s.v, st.v, intsV sl, (Ex.mk 3 t n m [x]).v] (EvP s (.mk 3 t n m [x])) := by
 subst hi
 refine Det.by_text rfl rfl ?_
 simp -implicitDefEqProofs only [go_sem, rB, rA, rS, rL, jL, jN, a52, Ex.cellsOf_v, Sc.cellsOf_v, Sta.cellsOf_v, op_mk, t_mk, n_mk, m_mk, l_mk, z1, jG, jL, Sc.cs, Sc.fold, Sta.cs, intsV, x.cells_eq, Ex.fold]
 repeat' first
  | (refine dx_br (fun hb => ?_) (fun hb => ?_) <;> simp -implicitDefEqProofs only [go_sem, rB, rA, rS, rL, jL, jN, hb, jL, Sc.fold, Ex.fold])
  | (first | refine dx_call (hx) ?_ | refine dx_pcall (hx) ?_); rintro u rfl; simp -implicitDefEqProofs only [go_sem, rB, rA, rS, rL, z1, jG, jB, hy0, intC]
  | (first | refine dx_call (ex) ?_ | refine dx_pcall (ex) ?_); rintro u ⟨_, _, rfl, _⟩; simp -implicitDefEqProofs only [go_sem, rB, rA, rS]
  | (refine dx_all ?_; simp -implicitDefEqProofs only [go_sem, rB, rA, rS, rM, rL, rE, jL, jN, z0, z1, z2, two_ne, jT, jG, jH, jL, jB, jZ, Sc.cs, Sc.fold, Sta.cs, Sta.fold, intsV, x.cells_eq, Ex.fold, hy0, intC])
  | refine dx_all ?_
  | (refine dx_post _ (fun _ => (by simp -implicitDefEqProofs only [go_sem, rB, rA, rS, resultOf, mapM?, ARes.val]; exact rfl)) ?_; first | exact ⟨_, _, rfl, fun _ => .inl rfl⟩ | exact ⟨_, _, rfl, fun hb1 => hbit hb1⟩)

theorem eval1_4 (s : Sc) (st : Sta) (sl : List Int) (t n m : Int) (x : Ex) (tx : Int) (hx : Det prog 71 [s.v, x.v] (· = .int .i64 tx)) (ex : Det prog 52 [s.v, st.v, intsV sl, x.v] (EvP s x)) (i : Nat) (hi : n = i) (w : List Int) (hw : st.vars[i]? = some w) (y0 : Int) (hy0 : w[0]? = some y0) (hbit : B1 s (.mk 4 t n m [x]) → ∀ y ∈ w, y = 0 ∨ y = 1) : Det prog 52 [s.v, st.v, intsV sl, (Ex.mk 4 t n m [x]).v] (EvP s (.mk 4 t n m [x])) := by
 subst hi
 have hlt := (lS.1 hw).1
 have f1 : ((i : Int) < (st.vars.length : Int)) = True := eq_true (by omega)
 refine Det.by_text rfl rfl ?_
 simp -implicitDefEqProofs only [go_sem, rB, rA, rS, rL, jL, jN, a52, Ex.cellsOf_v, Sc.cellsOf_v, Sta.cellsOf_v, op_mk, t_mk, n_mk, m_mk, l_mk, z1, jG, jL, Sc.cs, Sc.fold, Sta.cs, intsV, x.cells_eq, Ex.fold]
 repeat (first | (refine dx_all ?_; simp -implicitDefEqProofs only [go_sem, rB, rA, rS, rM, rL, rE, jL, jN, z0, z1, z2, two_ne, jT, jG, jH, jL, jB, jZ, Sc.cs, Sc.fold, Sta.cs, Sta.fold, intsV, x.cells_eq, Ex.fold, hw, hy0, intC]) | refine dx_all ?_)
 first | refine dx_pcall ex ?_ | refine dx_call ex ?_
 rintro u ⟨a, f, rfl, _⟩
 simp -implicitDefEqProofs only [go_sem, rB, rA, rS]
 refine dx_br (fun q1 => ?_) (fun q1 => ?_)
 ·simp -implicitDefEqProofs only [go_sem, rB, rA, rS, q1]
  repeat' first
   | (refine dx_br (fun hb => ?_) (fun hb => ?_) <;> simp -implicitDefEqProofs only [go_sem, rB, rA, rS, rM, rL, rE, jL, jN, hb, z0, z1, z2, two_ne, jT, jG, jH, jL, jB, jZ, Sc.cs, Sc.fold, Sta.cs, Sta.fold, intsV, x.cells_eq, Ex.fold, hw, hy0, intC])
   | (refine dx_all ?_; simp -implicitDefEqProofs only [go_sem, rB, rA, rS, rM, rL, rE, jL, jN, z0, z1, z2, two_ne, jT, jG, jH, jL, jB, jZ, Sc.cs, Sc.fold, Sta.cs, Sta.fold, intsV, x.cells_eq, Ex.fold, hw, hy0, intC])
   | refine dx_all ?_
   | (refine dx_post _ (fun _ => (by simp -implicitDefEqProofs only [go_sem, rB, rA, rS, resultOf, mapM?, ARes.val]; exact rfl)) ?_; exact ⟨_, _, rfl, fun _ => .inl rfl⟩)
 simp -implicitDefEqProofs only [go_sem, rB, rA, rS, rL, jL, jN, q1, jL, Sc.fold, Ex.fold]
 refine dx_call hx ?_
 rintro u rfl
 simp -implicitDefEqProofs only [go_sem, rB, rA, rS, rL, z1, jG, jB]
 refine dx_br (fun q3 => ?_) (fun q3 => ?_)
 ·simp -implicitDefEqProofs only [go_sem, rB, rA, rS, q3]
  repeat' first
   | (refine dx_br (fun hb => ?_) (fun hb => ?_) <;> simp -implicitDefEqProofs only [go_sem, rB, rA, rS, rM, rL, rE, jL, jN, hb, z0, z1, z2, two_ne, jT, jG, jH, jL, jB, jZ, Sc.cs, Sc.fold, Sta.cs, Sta.fold, intsV, x.cells_eq, Ex.fold, hw, hy0, intC])
   | (refine dx_all ?_; simp -implicitDefEqProofs only [go_sem, rB, rA, rS, rM, rL, rE, jL, jN, z0, z1, z2, two_ne, jT, jG, jH, jL, jB, jZ, Sc.cs, Sc.fold, Sta.cs, Sta.fold, intsV, x.cells_eq, Ex.fold, hw, hy0, intC])
   | refine dx_all ?_
   | (refine dx_post _ (fun _ => (by simp -implicitDefEqProofs only [go_sem, rB, rA, rS, resultOf, mapM?, ARes.val]; exact rfl)) ?_; exact ⟨_, _, rfl, fun _ => .inl rfl⟩)
 simp -implicitDefEqProofs only [go_sem, rB, rA, rS, rL, q3, hw]
 refine dx_br (fun q4 => ?_) (fun q4 => ?_)
 ·simp -implicitDefEqProofs only [go_sem, q4]
  repeat' first
   | (refine dx_br (fun hb => ?_) (fun hb => ?_) <;> simp -implicitDefEqProofs only [go_sem, rB, rA, rS, rM, rL, rE, jL, jN, hb, z0, z1, z2, two_ne, jT, jG, jH, jL, jB, jZ, Sc.cs, Sc.fold, Sta.cs, Sta.fold, intsV, x.cells_eq, Ex.fold, hw, hy0, intC])
   | (refine dx_all ?_; simp -implicitDefEqProofs only [go_sem, rB, rA, rS, rM, rL, rE, jL, jN, z0, z1, z2, two_ne, jT, jG, jH, jL, jB, jZ, Sc.cs, Sc.fold, Sta.cs, Sta.fold, intsV, x.cells_eq, Ex.fold, hw, hy0, intC])
   | refine dx_all ?_
   | (refine dx_post _ (fun _ => (by simp -implicitDefEqProofs only [go_sem, rB, rA, rS, resultOf, mapM?, ARes.val]; exact rfl)) ?_; exact ⟨_, _, rfl, fun _ => .inl rfl⟩)
 obtain ⟨j, rfl⟩ : ∃ j : Nat, a = j := ⟨a.toNat, by simp at q3; omega⟩
 obtain ⟨y1, hy1⟩ : ∃ y1, w[j]? = some y1 := ⟨_, lG (by simp at q4; omega)⟩
 simp -implicitDefEqProofs only [go_sem, rB, rA, rS, rL, q4, hy1, hw, intC]
 repeat' first
  | (refine dx_br (fun hb => ?_) (fun hb => ?_) <;> simp -implicitDefEqProofs only [go_sem, rB, rA, rS, rM, rL, rE, jL, jN, hb, hy1, z0, z1, z2, two_ne, jT, jG, jH, jL, jB, jZ, Sc.cs, Sc.fold, Sta.cs, Sta.fold, intsV, x.cells_eq, Ex.fold, hw, hy0, intC])
  | (refine dx_all ?_; simp -implicitDefEqProofs only [go_sem, rB, rA, rS, rM, rL, rE, jL, jN, hy1, z0, z1, z2, two_ne, jT, jG, jH, jL, jB, jZ, Sc.cs, Sc.fold, Sta.cs, Sta.fold, intsV, x.cells_eq, Ex.fold, hw, hy0, intC])
  | refine dx_all ?_
  | (refine dx_post _ (fun _ => (by simp -implicitDefEqProofs only [go_sem, rB, rA, rS, resultOf, mapM?, ARes.val]; exact rfl)) ?_; exact ⟨_, _, rfl, fun hb1 => hbit hb1 _ (lM hy1)⟩)

theorem eval1_5 (s : Sc) (st : Sta) (sl : List Int) (t n m : Int) (x : Ex) (tx : Int) (hx : Det prog 71 [s.v, x.v] (· = .int .i64 tx)) (ex : Det prog 52 [s.v, st.v, intsV sl, x.v] (EvP s x)) (i : Nat) (hi : n = i) (b : Bk) (hb0 : s.blocks[i]? = some b) (xs : List Int) (hxs : st.blocks[i]? = some xs) (h10 : xs.length = 10) (hbit : B1 s (.mk 5 t n m [x]) → m < 0 ∨ (ftypes b.kind)[m.toNat]? = some 1) : Det prog 52 [s.v, st.v, intsV sl, (Ex.mk 5 t n m [x]).v] (EvP s (.mk 5 t n m [x])) := by
 subst hi
 have hl := inst_len h10
 have ht := inst_take h10
 refine Det.by_text rfl rfl ?_
 simp -implicitDefEqProofs only [go_sem, rB, rA, rS, rL, jL, jN, a52, Ex.cellsOf_v, Sc.cellsOf_v, Sta.cellsOf_v, op_mk, t_mk, n_mk, m_mk, l_mk, z1, jG, jL, Sc.cs, Sc.fold, Sta.cs, intsV, x.cells_eq, Ex.fold]
 repeat' first
  | (refine dx_br (fun hb => ?_) (fun hb => ?_) <;> simp -implicitDefEqProofs only [go_sem, rB, rA, rS, rL, jL, jN, hb, jL, Sc.fold, Ex.fold])
  | (first | refine dx_call (hx) ?_ | refine dx_pcall (hx) ?_); rintro u rfl; simp -implicitDefEqProofs only [go_sem, rB, rA, rS, rL, z1, jG, jB, hb0, Bk.cells, hxs, hl, ht]
  | (first | refine dx_call (ex) ?_ | refine dx_pcall (ex) ?_); rintro u ⟨_, _, rfl, _⟩; simp -implicitDefEqProofs only [go_sem, rB, rA, rS]
  | (first | refine dx_call (d_get _ _ h10 _) ?_ | refine dx_pcall (d_get _ _ h10 _) ?_); rintro u ⟨_, rfl, hg⟩; simp -implicitDefEqProofs only [go_sem, rB, rA, rS]
  | (refine dx_all ?_; simp -implicitDefEqProofs only [go_sem, rB, rA, rS, rM, rL, rE, jL, jN, z0, z1, z2, two_ne, jT, jG, jH, jL, jB, jZ, Sc.cs, Sc.fold, Sta.cs, Sta.fold, intsV, x.cells_eq, Ex.fold, hb0, Bk.cells, hxs, hl, ht])
  | refine dx_all ?_
  | (refine dx_post _ (fun _ => (by simp -implicitDefEqProofs only [go_sem, rB, rA, rS, resultOf, mapM?, ARes.val]; exact rfl)) ?_; first | exact ⟨_, _, rfl, fun _ => .inl rfl⟩ | exact ⟨_, _, rfl, fun hb1 => hg (hbit hb1)⟩)

theorem eval1_o (s : Sc) (st : Sta) (sl : List Int) (op t n m : Int) (x : Ex) (tx : Int) (hx : Det prog 71 [s.v, x.v] (· = .int .i64 tx)) (ex : Det prog 52 [s.v, st.v, intsV sl, x.v] (EvP s x)) (hT : TxP s op t n m [x] tx) (h2 : (op == 2) = false) (h3 : (op == 3) = false) (h4 : (op == 4) = false) (h5 : (op == 5) = false) : Det prog 52 [s.v, st.v, intsV sl, (Ex.mk op t n m [x]).v] (EvP s (.mk op t n m [x])) := by
 refine Det.by_text rfl rfl ?_
 simp -implicitDefEqProofs only [go_sem, rB, rA, rS, rL, jL, jN, a52, Ex.cellsOf_v, Sc.cellsOf_v, Sta.cellsOf_v, op_mk, t_mk, n_mk, m_mk, l_mk, z1, jG, jL, Sc.cs, Sc.fold, Sta.cs, intsV, x.cells_eq, Ex.fold]
 repeat' first
  | (refine dx_br (fun hb => ?_) (fun hb => ?_) <;> simp -implicitDefEqProofs only [go_sem, rB, rA, rS, rL, jL, jN, hb, jL, Sc.fold, Ex.fold, h2, h3, h4, h5])
  | (first | refine dx_call (hx) ?_ | refine dx_pcall (hx) ?_); rintro u rfl; simp -implicitDefEqProofs only [go_sem, rB, rA, rS, rL, z1, jG]
  | (first | refine dx_call (ex) ?_ | refine dx_pcall (ex) ?_); rintro u ⟨_, _, rfl, _⟩; simp -implicitDefEqProofs only [go_sem, rB, rA, rS]
  | (first | refine dx_call (d_un _ _ _) ?_ | refine dx_pcall (d_un _ _ _) ?_); rintro u ⟨_, _, rfl, hu⟩; simp -implicitDefEqProofs only [go_sem, rB, rA, rS]
  | (first | refine dx_call (d_bin _ _ _ _) ?_ | refine dx_pcall (d_bin _ _ _ _) ?_); rintro u ⟨_, _, _, rfl, hn⟩; simp -implicitDefEqProofs only [go_sem, rB, rA, rS]
  | (first | refine dx_call (d_conv _ _ _) ?_ | refine dx_pcall (d_conv _ _ _) ?_); rintro u ⟨_, _, rfl, hc⟩; simp -implicitDefEqProofs only [go_sem, rB, rA, rS]
  | (refine dx_all ?_; simp -implicitDefEqProofs only [go_sem, rB, rA, rS, rM, rL, rE, jL, jN, z0, z1, z2, two_ne, jT, jG, jH, jL, jB, jZ, Sc.cs, Sc.fold, Sta.cs, Sta.fold, intsV, x.cells_eq, Ex.fold, h2, h3, h4, h5])
  | refine dx_all ?_
  | (refine dx_post _ (fun _ => (by simp -implicitDefEqProofs only [go_sem, rB, rA, rS, resultOf, mapM?, ARes.val]; exact rfl)) ?_; exact ⟨_, _, rfl, fun hb1 => by first | exact .inl rfl | exact hb1.1 (by simpa using hb) | exact hu ((hT hb1).1 (by simpa using hb)) | exact hn ((hT hb1).2 (by simpa using hb)) | exact hc (hb1.2.2.2.2.2.2 (by simp_all <;> omega))⟩)

theorem eval2_2 (s : Sc) (st : Sta) (sl : List Int) (t n m : Int) (x y : Ex) (r : List Ex) (tx : Int) (hx : Det prog 71 [s.v, x.v] (· = .int .i64 tx)) (ex : Det prog 52 [s.v, st.v, intsV sl, x.v] (EvP s x)) (ey : Det prog 52 [s.v, st.v, intsV sl, y.v] (EvP s y)) (i : Nat) (hi : n = i) (w : List Int) (hw : st.vars[i]? = some w) (y0 : Int) (hy0 : w[0]? = some y0) (hbit : B1 s (.mk 2 t n m (x :: y :: r)) → ∀ y ∈ w, y = 0 ∨ y = 1) : Det prog 52 [s.v, st.v, intsV sl, (Ex.mk 2 t n m (x :: y :: r)).v] (EvP s (.mk 2 t n m (x :: y :: r))) := by
 subst hi
 have g1 : decide ((((r.length + 1 + 1 : Nat) : Int)) > 0) = true := by simp; omega
 have g2 : decide ((((r.length + 1 + 1 : Nat) : Int)) > 1) = true := by simp; omega
 have g4 : (0 < r.length + 1 + 1) = True := by simp
 have g5 : (1 < r.length + 1 + 1) = True := by simp
 have hlt := (lS.1 hw).1
 have f1 : ((i : Int) < (st.vars.length : Int)) = True := eq_true (by omega)
 refine Det.by_text rfl rfl ?_
 simp -implicitDefEqProofs only [go_sem, rB, rA, rS, rL, jL, jN, a52, Ex.cellsOf_v, Sc.cellsOf_v, Sta.cellsOf_v, op_mk, t_mk, n_mk, m_mk, l_mk, jL, Sc.cs, Sc.fold, Sta.cs, intsV, x.cells_eq, y.cells_eq, Ex.fold, g1]
 repeat' first
  | (refine dx_br (fun hb => ?_) (fun hb => ?_) <;> simp -implicitDefEqProofs only [go_sem, rB, rA, rS, rL, jL, jN, hb, jL, jB, Sc.fold, Ex.fold, hw, hy0, intC])
  | (first | refine dx_call (hx) ?_ | refine dx_pcall (hx) ?_); rintro u rfl; simp -implicitDefEqProofs only [go_sem, rB, rA, rS, rL, jL, jN, jL, Sc.fold, Ex.fold, g2]
  | (first | refine dx_call (ex) ?_ | refine dx_pcall (ex) ?_); rintro u ⟨_, _, rfl, _⟩; simp -implicitDefEqProofs only [go_sem, rB, rA, rS]
  | (first | refine dx_call (ey) ?_ | refine dx_pcall (ey) ?_); rintro u ⟨_, _, rfl, _⟩; simp -implicitDefEqProofs only [go_sem, rB, rA, rS]
  | (refine dx_all ?_; simp -implicitDefEqProofs only [go_sem, rB, rA, rS, rM, rL, rE, jL, jN, z0, z1, z2, two_ne, jT, jG, jH, jL, jB, jZ, Sc.cs, Sc.fold, Sta.cs, Sta.fold, intsV, x.cells_eq, y.cells_eq, Ex.fold, g1, g2, g4, g5, hw, hy0, intC])
  | refine dx_all ?_
  | (refine dx_post _ (fun _ => (by simp -implicitDefEqProofs only [go_sem, rB, rA, rS, resultOf, mapM?, ARes.val]; exact rfl)) ?_; first | exact ⟨_, _, rfl, fun _ => .inl rfl⟩ | exact ⟨_, _, rfl, fun hb1 => hbit hb1 _ (lM hy0)⟩)

theorem eval2_3 (s : Sc) (st : Sta) (sl : List Int) (t n m : Int) (x y : Ex) (r : List Ex) (tx : Int) (hx : Det prog 71 [s.v, x.v] (· = .int .i64 tx)) (ex : Det prog 52 [s.v, st.v, intsV sl, x.v] (EvP s x)) (ey : Det prog 52 [s.v, st.v, intsV sl, y.v] (EvP s y)) (i : Nat) (hi : n = i) (y0 : Int) (hy0 : sl[i]? = some y0) (hbit : B1 s (.mk 3 t n m (x :: y :: r)) → y0 = 0 ∨ y0 = 1) : Det prog 52 [s.v, st.v, intsV sl, (Ex.mk 3 t n m (x :: y :: r)).v] (EvP s (.mk 3 t n m (x :: y :: r))) := by
 subst hi
 have g1 : decide ((((r.length + 1 + 1 : Nat) : Int)) > 0) = true := by simp; omega
 have g2 : decide ((((r.length + 1 + 1 : Nat) : Int)) > 1) = true := by simp; omega
 have g4 : (0 < r.length + 1 + 1) = True := by simp
 have g5 : (1 < r.length + 1 + 1) = True := by simp
 refine Det.by_text rfl rfl ?_
 simp -implicitDefEqProofs only [go_sem, rB, rA, rS, rL, jL, jN, a52, Ex.cellsOf_v, Sc.cellsOf_v, Sta.cellsOf_v, op_mk, t_mk, n_mk, m_mk, l_mk, jL, Sc.cs, Sc.fold, Sta.cs, intsV, x.cells_eq, y.cells_eq, Ex.fold, g1]
 repeat' first
  | (refine dx_br (fun hb => ?_) (fun hb => ?_) <;> simp -implicitDefEqProofs only [go_sem, rB, rA, rS, rL, jL, jN, hb, jL, jB, Sc.fold, Ex.fold, hy0, intC])
  | (first | refine dx_call (hx) ?_ | refine dx_pcall (hx) ?_); rintro u rfl; simp -implicitDefEqProofs only [go_sem, rB, rA, rS, rL, jL, jN, jL, Sc.fold, Ex.fold, g2]
  | (first | refine dx_call (ex) ?_ | refine dx_pcall (ex) ?_); rintro u ⟨_, _, rfl, _⟩; simp -implicitDefEqProofs only [go_sem, rB, rA, rS]
  | (first | refine dx_call (ey) ?_ | refine dx_pcall (ey) ?_); rintro u ⟨_, _, rfl, _⟩; simp -implicitDefEqProofs only [go_sem, rB, rA, rS]
  | (refine dx_all ?_; simp -implicitDefEqProofs only [go_sem, rB, rA, rS, rM, rL, rE, jL, jN, z0, z1, z2, two_ne, jT, jG, jH, jL, jB, jZ, Sc.cs, Sc.fold, Sta.cs, Sta.fold, intsV, x.cells_eq, y.cells_eq, Ex.fold, g1, g2, g4, g5, hy0, intC])
  | refine dx_all ?_
  | (refine dx_post _ (fun _ => (by simp -implicitDefEqProofs only [go_sem, rB, rA, rS, resultOf, mapM?, ARes.val]; exact rfl)) ?_; first | exact ⟨_, _, rfl, fun _ => .inl rfl⟩ | exact ⟨_, _, rfl, fun hb1 => hbit hb1⟩)

theorem eval2_4 (s : Sc) (st : Sta) (sl : List Int) (t n m : Int) (x y : Ex) (r : List Ex) (tx : Int) (hx : Det prog 71 [s.v, x.v] (· = .int .i64 tx)) (ex : Det prog 52 [s.v, st.v, intsV sl, x.v] (EvP s x)) (ey : Det prog 52 [s.v, st.v, intsV sl, y.v] (EvP s y)) (i : Nat) (hi : n = i) (w : List Int) (hw : st.vars[i]? = some w) (y0 : Int) (hy0 : w[0]? = some y0) (hbit : B1 s (.mk 4 t n m (x :: y :: r)) → ∀ y ∈ w, y = 0 ∨ y = 1) : Det prog 52 [s.v, st.v, intsV sl, (Ex.mk 4 t n m (x :: y :: r)).v] (EvP s (.mk 4 t n m (x :: y :: r))) := by
 subst hi
 have g1 : decide ((((r.length + 1 + 1 : Nat) : Int)) > 0) = true := by simp; omega
 have g2 : decide ((((r.length + 1 + 1 : Nat) : Int)) > 1) = true := by simp; omega
 have g4 : (0 < r.length + 1 + 1) = True := by simp
 have g5 : (1 < r.length + 1 + 1) = True := by simp
 have hlt := (lS.1 hw).1
 have f1 : ((i : Int) < (st.vars.length : Int)) = True := eq_true (by omega)
 refine Det.by_text rfl rfl ?_
 simp -implicitDefEqProofs only [go_sem, rB, rA, rS, rL, jL, jN, a52, Ex.cellsOf_v, Sc.cellsOf_v, Sta.cellsOf_v, op_mk, t_mk, n_mk, m_mk, l_mk, jL, Sc.cs, Sc.fold, Sta.cs, intsV, x.cells_eq, y.cells_eq, Ex.fold, g1]
 repeat (first | (refine dx_all ?_; simp -implicitDefEqProofs only [go_sem, rB, rA, rS, rM, rL, rE, jL, jN, z0, z1, z2, two_ne, jT, jG, jH, jL, jB, jZ, Sc.cs, Sc.fold, Sta.cs, Sta.fold, intsV, x.cells_eq, y.cells_eq, Ex.fold, g1, g2, g4, g5, hw, hy0, intC]) | refine dx_all ?_)
 first | refine dx_pcall ex ?_ | refine dx_call ex ?_
 rintro u ⟨a, f, rfl, _⟩
 simp -implicitDefEqProofs only [go_sem, rB, rA, rS]
 refine dx_br (fun q1 => ?_) (fun q1 => ?_)
 ·simp -implicitDefEqProofs only [go_sem, rB, rA, rS, q1]
  repeat' first
   | (refine dx_br (fun hb => ?_) (fun hb => ?_) <;> simp -implicitDefEqProofs only [go_sem, rB, rA, rS, rM, rL, rE, jL, jN, hb, z0, z1, z2, two_ne, jT, jG, jH, jL, jB, jZ, Sc.cs, Sc.fold, Sta.cs, Sta.fold, intsV, x.cells_eq, y.cells_eq, Ex.fold, g1, g2, g4, g5, hw, hy0, intC])
   | (refine dx_all ?_; simp -implicitDefEqProofs only [go_sem, rB, rA, rS, rM, rL, rE, jL, jN, z0, z1, z2, two_ne, jT, jG, jH, jL, jB, jZ, Sc.cs, Sc.fold, Sta.cs, Sta.fold, intsV, x.cells_eq, y.cells_eq, Ex.fold, g1, g2, g4, g5, hw, hy0, intC])
   | refine dx_all ?_
   | (refine dx_post _ (fun _ => (by simp -implicitDefEqProofs only [go_sem, rB, rA, rS, resultOf, mapM?, ARes.val]; exact rfl)) ?_; exact ⟨_, _, rfl, fun _ => .inl rfl⟩)
 simp -implicitDefEqProofs only [go_sem, rB, rA, rS, rL, jL, jN, q1, jL, Sc.fold, Ex.fold]
 refine dx_call hx ?_
 rintro u rfl
 simp -implicitDefEqProofs only [go_sem, rB, rA, rS, rL, jL, jN, jL, Sc.fold, Ex.fold, g2]
 first | refine dx_pcall ey ?_ | refine dx_call ey ?_
 rintro u ⟨a2, f2, rfl, _⟩
 simp -implicitDefEqProofs only [go_sem, rB, rA, rS]
 refine dx_br (fun q2 => ?_) (fun q2 => ?_)
 ·simp -implicitDefEqProofs only [go_sem, rB, rA, rS, q2]
  repeat' first
   | (refine dx_br (fun hb => ?_) (fun hb => ?_) <;> simp -implicitDefEqProofs only [go_sem, rB, rA, rS, rM, rL, rE, jL, jN, hb, z0, z1, z2, two_ne, jT, jG, jH, jL, jB, jZ, Sc.cs, Sc.fold, Sta.cs, Sta.fold, intsV, x.cells_eq, y.cells_eq, Ex.fold, g1, g2, g4, g5, hw, hy0, intC])
   | (refine dx_all ?_; simp -implicitDefEqProofs only [go_sem, rB, rA, rS, rM, rL, rE, jL, jN, z0, z1, z2, two_ne, jT, jG, jH, jL, jB, jZ, Sc.cs, Sc.fold, Sta.cs, Sta.fold, intsV, x.cells_eq, y.cells_eq, Ex.fold, g1, g2, g4, g5, hw, hy0, intC])
   | refine dx_all ?_
   | (refine dx_post _ (fun _ => (by simp -implicitDefEqProofs only [go_sem, rB, rA, rS, resultOf, mapM?, ARes.val]; exact rfl)) ?_; exact ⟨_, _, rfl, fun _ => .inl rfl⟩)
 simp -implicitDefEqProofs only [go_sem, rB, rA, rS, rL, q2, jB]
 refine dx_br (fun q3 => ?_) (fun q3 => ?_)
 ·simp -implicitDefEqProofs only [go_sem, rB, rA, rS, q3]
  repeat' first
   | (refine dx_br (fun hb => ?_) (fun hb => ?_) <;> simp -implicitDefEqProofs only [go_sem, rB, rA, rS, rM, rL, rE, jL, jN, hb, z0, z1, z2, two_ne, jT, jG, jH, jL, jB, jZ, Sc.cs, Sc.fold, Sta.cs, Sta.fold, intsV, x.cells_eq, y.cells_eq, Ex.fold, g1, g2, g4, g5, hw, hy0, intC])
   | (refine dx_all ?_; simp -implicitDefEqProofs only [go_sem, rB, rA, rS, rM, rL, rE, jL, jN, z0, z1, z2, two_ne, jT, jG, jH, jL, jB, jZ, Sc.cs, Sc.fold, Sta.cs, Sta.fold, intsV, x.cells_eq, y.cells_eq, Ex.fold, g1, g2, g4, g5, hw, hy0, intC])
   | refine dx_all ?_
   | (refine dx_post _ (fun _ => (by simp -implicitDefEqProofs only [go_sem, rB, rA, rS, resultOf, mapM?, ARes.val]; exact rfl)) ?_; exact ⟨_, _, rfl, fun _ => .inl rfl⟩)
 simp -implicitDefEqProofs only [go_sem, rB, rA, rS, rL, q3, hw]
 refine dx_br (fun q4 => ?_) (fun q4 => ?_)
 ·simp -implicitDefEqProofs only [go_sem, q4]
  repeat' first
   | (refine dx_br (fun hb => ?_) (fun hb => ?_) <;> simp -implicitDefEqProofs only [go_sem, rB, rA, rS, rM, rL, rE, jL, jN, hb, z0, z1, z2, two_ne, jT, jG, jH, jL, jB, jZ, Sc.cs, Sc.fold, Sta.cs, Sta.fold, intsV, x.cells_eq, y.cells_eq, Ex.fold, g1, g2, g4, g5, hw, hy0, intC])
   | (refine dx_all ?_; simp -implicitDefEqProofs only [go_sem, rB, rA, rS, rM, rL, rE, jL, jN, z0, z1, z2, two_ne, jT, jG, jH, jL, jB, jZ, Sc.cs, Sc.fold, Sta.cs, Sta.fold, intsV, x.cells_eq, y.cells_eq, Ex.fold, g1, g2, g4, g5, hw, hy0, intC])
   | refine dx_all ?_
   | (refine dx_post _ (fun _ => (by simp -implicitDefEqProofs only [go_sem, rB, rA, rS, resultOf, mapM?, ARes.val]; exact rfl)) ?_; exact ⟨_, _, rfl, fun _ => .inl rfl⟩)
 obtain ⟨j, rfl⟩ : ∃ j : Nat, a = j := ⟨a.toNat, by simp at q3; omega⟩
 obtain ⟨y1, hy1⟩ : ∃ y1, w[j]? = some y1 := ⟨_, lG (by simp at q4; omega)⟩
 simp -implicitDefEqProofs only [go_sem, rB, rA, rS, rL, q4, hy1, hw, intC]
 repeat' first
  | (refine dx_br (fun hb => ?_) (fun hb => ?_) <;> simp -implicitDefEqProofs only [go_sem, rB, rA, rS, rM, rL, rE, jL, jN, hb, hy1, z0, z1, z2, two_ne, jT, jG, jH, jL, jB, jZ, Sc.cs, Sc.fold, Sta.cs, Sta.fold, intsV, x.cells_eq, y.cells_eq, Ex.fold, g1, g2, g4, g5, hw, hy0, intC])
  | (refine dx_all ?_; simp -implicitDefEqProofs only [go_sem, rB, rA, rS, rM, rL, rE, jL, jN, hy1, z0, z1, z2, two_ne, jT, jG, jH, jL, jB, jZ, Sc.cs, Sc.fold, Sta.cs, Sta.fold, intsV, x.cells_eq, y.cells_eq, Ex.fold, g1, g2, g4, g5, hw, hy0, intC])
  | refine dx_all ?_
  | (refine dx_post _ (fun _ => (by simp -implicitDefEqProofs only [go_sem, rB, rA, rS, resultOf, mapM?, ARes.val]; exact rfl)) ?_; exact ⟨_, _, rfl, fun hb1 => hbit hb1 _ (lM hy1)⟩)

theorem eval2_5 (s : Sc) (st : Sta) (sl : List Int) (t n m : Int) (x y : Ex) (r : List Ex) (tx : Int) (hx : Det prog 71 [s.v, x.v] (· = .int .i64 tx)) (ex : Det prog 52 [s.v, st.v, intsV sl, x.v] (EvP s x)) (ey : Det prog 52 [s.v, st.v, intsV sl, y.v] (EvP s y)) (i : Nat) (hi : n = i) (b : Bk) (hb0 : s.blocks[i]? = some b) (xs : List Int) (hxs : st.blocks[i]? = some xs) (h10 : xs.length = 10) (hbit : B1 s (.mk 5 t n m (x :: y :: r)) → m < 0 ∨ (ftypes b.kind)[m.toNat]? = some 1) : Det prog 52 [s.v, st.v, intsV sl, (Ex.mk 5 t n m (x :: y :: r)).v] (EvP s (.mk 5 t n m (x :: y :: r))) := by
 subst hi
 have g1 : decide ((((r.length + 1 + 1 : Nat) : Int)) > 0) = true := by simp; omega
 have g2 : decide ((((r.length + 1 + 1 : Nat) : Int)) > 1) = true := by simp; omega
 have g4 : (0 < r.length + 1 + 1) = True := by simp
 have g5 : (1 < r.length + 1 + 1) = True := by simp
 have hl := inst_len h10
 have ht := inst_take h10
 refine Det.by_text rfl rfl ?_
 simp -implicitDefEqProofs only [go_sem, rB, rA, rS, rL, jL, jN, a52, Ex.cellsOf_v, Sc.cellsOf_v, Sta.cellsOf_v, op_mk, t_mk, n_mk, m_mk, l_mk, jL, Sc.cs, Sc.fold, Sta.cs, intsV, x.cells_eq, y.cells_eq, Ex.fold, g1]
 repeat' first
  | (refine dx_br (fun hb => ?_) (fun hb => ?_) <;> simp -implicitDefEqProofs only [go_sem, rB, rA, rS, rL, jL, jN, hb, jL, jB, Sc.fold, Ex.fold, hb0, Bk.cells, hxs, hl, ht])
  | (first | refine dx_call (hx) ?_ | refine dx_pcall (hx) ?_); rintro u rfl; simp -implicitDefEqProofs only [go_sem, rB, rA, rS, rL, jL, jN, jL, Sc.fold, Ex.fold, g2]
  | (first | refine dx_call (ex) ?_ | refine dx_pcall (ex) ?_); rintro u ⟨_, _, rfl, _⟩; simp -implicitDefEqProofs only [go_sem, rB, rA, rS]
  | (first | refine dx_call (ey) ?_ | refine dx_pcall (ey) ?_); rintro u ⟨_, _, rfl, _⟩; simp -implicitDefEqProofs only [go_sem, rB, rA, rS]
  | (first | refine dx_call (d_get _ _ h10 _) ?_ | refine dx_pcall (d_get _ _ h10 _) ?_); rintro u ⟨_, rfl, hg⟩; simp -implicitDefEqProofs only [go_sem, rB, rA, rS]
  | (refine dx_all ?_; simp -implicitDefEqProofs only [go_sem, rB, rA, rS, rM, rL, rE, jL, jN, z0, z1, z2, two_ne, jT, jG, jH, jL, jB, jZ, Sc.cs, Sc.fold, Sta.cs, Sta.fold, intsV, x.cells_eq, y.cells_eq, Ex.fold, g1, g2, g4, g5, hb0, Bk.cells, hxs, hl, ht])
  | refine dx_all ?_
  | (refine dx_post _ (fun _ => (by simp -implicitDefEqProofs only [go_sem, rB, rA, rS, resultOf, mapM?, ARes.val]; exact rfl)) ?_; first | exact ⟨_, _, rfl, fun _ => .inl rfl⟩ | exact ⟨_, _, rfl, fun hb1 => hg (hbit hb1)⟩)

theorem eval2_o (s : Sc) (st : Sta) (sl : List Int) (op t n m : Int) (x y : Ex) (r : List Ex) (tx : Int) (hx : Det prog 71 [s.v, x.v] (· = .int .i64 tx)) (ex : Det prog 52 [s.v, st.v, intsV sl, x.v] (EvP s x)) (ey : Det prog 52 [s.v, st.v, intsV sl, y.v] (EvP s y)) (hT : TxP s op t n m (x :: y :: r) tx) (h2 : (op == 2) = false) (h3 : (op == 3) = false) (h4 : (op == 4) = false) (h5 : (op == 5) = false) : Det prog 52 [s.v, st.v, intsV sl, (Ex.mk op t n m (x :: y :: r)).v] (EvP s (.mk op t n m (x :: y :: r))) := by
 have g1 : decide ((((r.length + 1 + 1 : Nat) : Int)) > 0) = true := by simp; omega
 have g2 : decide ((((r.length + 1 + 1 : Nat) : Int)) > 1) = true := by simp; omega
 have g4 : (0 < r.length + 1 + 1) = True := by simp
 have g5 : (1 < r.length + 1 + 1) = True := by simp
 refine Det.by_text rfl rfl ?_
 simp -implicitDefEqProofs only [go_sem, rB, rA, rS, rL, jL, jN, a52, Ex.cellsOf_v, Sc.cellsOf_v, Sta.cellsOf_v, op_mk, t_mk, n_mk, m_mk, l_mk, jL, Sc.cs, Sc.fold, Sta.cs, intsV, x.cells_eq, y.cells_eq, Ex.fold, g1]
 repeat' first
  | (refine dx_br (fun hb => ?_) (fun hb => ?_) <;> simp -implicitDefEqProofs only [go_sem, rB, rA, rS, rL, jL, jN, hb, jL, Sc.fold, Ex.fold, h2, h3, h4, h5])
  | (first | refine dx_call (hx) ?_ | refine dx_pcall (hx) ?_); rintro u rfl; simp -implicitDefEqProofs only [go_sem, rB, rA, rS, rL, jL, jN, jL, Sc.fold, Ex.fold, g2]
  | (first | refine dx_call (ex) ?_ | refine dx_pcall (ex) ?_); rintro u ⟨_, _, rfl, _⟩; simp -implicitDefEqProofs only [go_sem, rB, rA, rS]
  | (first | refine dx_call (ey) ?_ | refine dx_pcall (ey) ?_); rintro u ⟨_, _, rfl, _⟩; simp -implicitDefEqProofs only [go_sem, rB, rA, rS]
  | (first | refine dx_call (d_un _ _ _) ?_ | refine dx_pcall (d_un _ _ _) ?_); rintro u ⟨_, _, rfl, hu⟩; simp -implicitDefEqProofs only [go_sem, rB, rA, rS]
  | (first | refine dx_call (d_bin _ _ _ _) ?_ | refine dx_pcall (d_bin _ _ _ _) ?_); rintro u ⟨_, _, _, rfl, hn⟩; simp -implicitDefEqProofs only [go_sem, rB, rA, rS]
  | (first | refine dx_call (d_conv _ _ _) ?_ | refine dx_pcall (d_conv _ _ _) ?_); rintro u ⟨_, _, rfl, hc⟩; simp -implicitDefEqProofs only [go_sem, rB, rA, rS]
  | (refine dx_all ?_; simp -implicitDefEqProofs only [go_sem, rB, rA, rS, rM, rL, rE, jL, jN, z0, z1, z2, two_ne, jT, jG, jH, jL, jB, jZ, Sc.cs, Sc.fold, Sta.cs, Sta.fold, intsV, x.cells_eq, y.cells_eq, Ex.fold, g1, g2, g4, g5, h2, h3, h4, h5])
  | refine dx_all ?_
  | (refine dx_post _ (fun _ => (by simp -implicitDefEqProofs only [go_sem, rB, rA, rS, resultOf, mapM?, ARes.val]; exact rfl)) ?_; exact ⟨_, _, rfl, fun hb1 => by first | exact .inl rfl | exact hb1.1 (by simpa using hb) | exact hu ((hT hb1).1 (by simpa using hb)) | exact hn ((hT hb1).2 (by simpa using hb)) | exact hc (hb1.2.2.2.2.2.2 (by simp_all <;> omega))⟩)

end TryzT
end Go.Abs
namespace Go.Abs
open Go
namespace TryzT
theorem tx_ex (s : Sc) (op t n m : Int) (x : Ex) (r : List Ex) : ∃ tx : Int, Det prog 71 [s.v, x.v] (· = .int .i64 tx) ∧ TxP s op t n m (x :: r) tx := by
 by_cases h : B1 s (.mk op t n m (x :: r)) ∧ (op = 6 ∨ (op = 7 ∧ ¬ m ≥ 20))
 ·obtain ⟨hb, ho⟩ := h
  have hd : Det prog 71 [s.v, x.v] (· = .int .i64 1) := by
   rcases ho with ho | ⟨ho, hm⟩
   ·obtain ⟨x', r', e, hd⟩ := hb.2.2.2.2.1 ho
    injection e with e1 e2
    rw [e1]; exact hd
   ·obtain ⟨x', r', e, hd⟩ := (hb.2.2.2.2.2.1 ho).resolve_left hm
    injection e with e1 e2
    rw [e1]; exact hd
  exact ⟨1, hd, fun _ => ⟨fun _ => rfl, fun _ => .inr rfl⟩⟩
 ·obtain ⟨_, ⟨tx, rfl, _, _⟩, hx⟩ := d_type s x
  refine ⟨tx, ⟨_, rfl, hx⟩, fun hb => ⟨fun ho => absurd ⟨hb, .inl ho⟩ h, fun ho => ?_⟩⟩
  by_cases hm : m ≥ 20
  ·exact .inl hm
  ·exact absurd ⟨hb, .inr ⟨ho, hm⟩⟩ h
theorem d_eval (s : Sc) (st : Sta) (sl : List Int) (hs : FitsS s st) (hsl : FitsL s sl) (e : Ex) (hg : Good s e) : Det prog 52 [s.v, st.v, intsV sl, e.v] (EvP s e) := by
 induction hn : e.size using Nat.strongRecOn generalizing e with
 | ind k ih =>
 subst hn
 obtain ⟨op, t, n, m, l⟩ := e
 have hsub : ∀ (i : Nat) (x : Ex), i < 2 → l[i]? = some x → Det prog 52 [s.v, st.v, intsV sl, x.v] (EvP s x) := fun i x hi hx =>
  ih _ (by have := size_mem hx; simp only [Ex.size]; omega) x (hg.sub i x hi hx) rfl
 have k24 : (op = 2 ∨ op = 4) → ∃ (i : Nat) (w : List Int) (y0 : Int), n = i ∧ st.vars[i]? = some w ∧ w[0]? = some y0 ∧ (B1 s (.mk op t n m l) → ∀ y ∈ w, y = 0 ∨ y = 1) := by
  intro ho
  obtain ⟨i, hi, hlt⟩ := nat_of (hg.v ho)
  have hlt2 : i < st.vars.length := by have := hs.len; omega
  have hw : st.vars[i]? = some st.vars[i] := lG hlt2
  have hp := hs.pos i _ hw
  refine ⟨i, _, _, hi, hw, lG hp, fun hb => ?_⟩
  obtain ⟨v, hv, h1⟩ := hb.2.1 ho
  rw [hi, Int.toNat_natCast] at hv
  exact hs.bit i v _ hv hw h1
 have k3 : op = 3 → ∃ (i : Nat) (y0 : Int), n = i ∧ sl[i]? = some y0 ∧ (B1 s (.mk op t n m l) → y0 = 0 ∨ y0 = 1) := by
  intro ho
  obtain ⟨i, hi, hlt⟩ := nat_of (hg.s ho)
  have hlt2 : i < sl.length := by have := hsl.len; omega
  have hw : sl[i]? = some sl[i] := lG hlt2
  refine ⟨i, _, hi, hw, fun hb => ?_⟩
  have hv := hb.2.2.1 ho
  rw [hi, Int.toNat_natCast] at hv
  exact hsl.bit i _ hv hw
 have k5 : op = 5 → ∃ (i : Nat) (b : Bk) (xs : List Int), n = i ∧ s.blocks[i]? = some b ∧ st.blocks[i]? = some xs ∧ xs.length = 10 ∧ (B1 s (.mk op t n m l) → m < 0 ∨ (ftypes b.kind)[m.toNat]? = some 1) := by
  intro ho
  obtain ⟨i, hi, hlt⟩ := nat_of (hg.b ho)
  have hlt2 : i < st.blocks.length := by have := hs.blen; omega
  have hw : st.blocks[i]? = some st.blocks[i] := lG hlt2
  have hb0 : s.blocks[i]? = some s.blocks[i] := lG hlt
  refine ⟨i, _, _, hi, hb0, hw, hs.b10 _ (lM hw), fun hb => ?_⟩
  obtain ⟨v, hv, h1⟩ := hb.2.2.2.1 ho
  rw [hi, Int.toNat_natCast, hb0] at hv
  injection hv with hv
  subst hv
  exact .inr h1
 match l, hsub, k24, k3, k5 with
 | [], _, k24, k3, k5 =>
  by_cases h2 : op = 2
  ·obtain ⟨i, w, y0, q1, q2, q3, q4⟩ := k24 (.inl h2)
   subst h2
   exact eval0_2 s st sl t n m i q1 w q2 y0 q3 q4
  by_cases h3 : op = 3
  ·obtain ⟨i, y0, q1, q2, q3⟩ := k3 h3
   subst h3
   exact eval0_3 s st sl t n m i q1 y0 q2 q3
  by_cases h4 : op = 4
  ·obtain ⟨i, w, y0, q1, q2, q3, q4⟩ := k24 (.inr h4)
   subst h4
   exact eval0_4 s st sl t n m i q1 w q2 y0 q3 q4
  by_cases h5 : op = 5
  ·obtain ⟨i, b, xs, q1, q2, q3, q4, q5⟩ := k5 h5
   subst h5
   exact eval0_5 s st sl t n m i q1 b q2 xs q3 q4 q5
  refine eval0_o s st sl op t n m (fun hb => ⟨fun ho => ?_, fun ho => ?_⟩) (by simpa using h2) (by simpa using h3) (by simpa using h4) (by simpa using h5)
  ·obtain ⟨x', r', e, _⟩ := hb.2.2.2.2.1 ho; cases e
  ·rcases hb.2.2.2.2.2.1 ho with h | ⟨x', r', e, _⟩
   ·exact .inl h
   ·cases e
 | [x], hsub, k24, k3, k5 =>
  have ex := hsub 0 x (by omega) rfl
  obtain ⟨tx, hx, hT⟩ := tx_ex s op t n m x []
  by_cases h2 : op = 2
  ·obtain ⟨i, w, y0, q1, q2, q3, q4⟩ := k24 (.inl h2)
   subst h2
   exact eval1_2 s st sl t n m x tx hx ex i q1 w q2 y0 q3 q4
  by_cases h3 : op = 3
  ·obtain ⟨i, y0, q1, q2, q3⟩ := k3 h3
   subst h3
   exact eval1_3 s st sl t n m x tx hx ex i q1 y0 q2 q3
  by_cases h4 : op = 4
  ·obtain ⟨i, w, y0, q1, q2, q3, q4⟩ := k24 (.inr h4)
   subst h4
   exact eval1_4 s st sl t n m x tx hx ex i q1 w q2 y0 q3 q4
  by_cases h5 : op = 5
  ·obtain ⟨i, b, xs, q1, q2, q3, q4, q5⟩ := k5 h5
   subst h5
   exact eval1_5 s st sl t n m x tx hx ex i q1 b q2 xs q3 q4 q5
  exact eval1_o s st sl op t n m x tx hx ex hT (by simpa using h2) (by simpa using h3) (by simpa using h4) (by simpa using h5)
 | x :: y :: r, hsub, k24, k3, k5 =>
  have ex := hsub 0 x (by omega) rfl
  have ey := hsub 1 y (by omega) rfl
  obtain ⟨tx, hx, hT⟩ := tx_ex s op t n m x (y :: r)
  by_cases h2 : op = 2
  ·obtain ⟨i, w, y0, q1, q2, q3, q4⟩ := k24 (.inl h2)
   subst h2
   exact eval2_2 s st sl t n m x y r tx hx ex ey i q1 w q2 y0 q3 q4
  by_cases h3 : op = 3
  ·obtain ⟨i, y0, q1, q2, q3⟩ := k3 h3
   subst h3
   exact eval2_3 s st sl t n m x y r tx hx ex ey i q1 y0 q2 q3
  by_cases h4 : op = 4
  ·obtain ⟨i, w, y0, q1, q2, q3, q4⟩ := k24 (.inr h4)
   subst h4
   exact eval2_4 s st sl t n m x y r tx hx ex ey i q1 w q2 y0 q3 q4
  by_cases h5 : op = 5
  ·obtain ⟨i, b, xs, q1, q2, q3, q4, q5⟩ := k5 h5
   subst h5
   exact eval2_5 s st sl t n m x y r tx hx ex ey i q1 b q2 xs q3 q4 q5
  exact eval2_o s st sl op t n m x y r tx hx ex ey hT (by simpa using h2) (by simpa using h3) (by simpa using h4) (by simpa using h5)
end TryzT
end Go.Abs
namespace Go.Abs
open Go
theorem mem_of_idx {α : Type} {l : List α} {P : α → Prop} (n : Nat) (hn : l.length ≤ n) (h : ∀ (i : Nat) (a : α), i < n → l[i]? = some a → P a) : ∀ a ∈ l, P a := by
 intro a hm
 obtain ⟨i, hi, e⟩ := List.getElem_of_mem hm
 exact h i a (by omega) (by rw [← e]; exact lG hi)
theorem idx_step {α : Type} {l : List α} {P : α → Prop} {k : Nat} {x : α} (hx : l[k]? = some x) (hp : P x) (h : ∀ (i : Nat) (a : α), i < k → l[i]? = some a → P a) : ∀ (i : Nat) (a : α), i < k + 1 → l[i]? = some a → P a := by
 intro i a hi ha
 by_cases e : i = k
 ·subst e; rw [hx] at ha; injection ha with ha; subst ha; exact hp
 ·exact h i a (by omega) ha
structure Src.Short (s : Src) : Prop where
 f : s.funcs.length ≤ 10
 v : s.vars.length ≤ 70
 b : s.blocks.length ≤ 40
 s : ∀ f ∈ s.funcs, f.Short
namespace TryzT
theorem few29 (s : Src) : Ret prog 4 [s.v] Heap.none fun r _ => YesP s.Short r := by
 have nope : ∀ s2 : S, resultOf [ARes.tmp 2] s2 = some (.bool false) → post [ARes.tmp 2] (fun r _ => YesP s.Short r) .ret s2 := fun s2 h => post_ret h (YesP.no _)
 refine Ret.by_text rfl rfl ?_
 simp -implicitDefEqProofs only [go_sem, rB, rA, rS, rL, a4, Src.cellsOf_v, Src.cs]
 intro g
 refine br_intro (fun c1 => ?_) (fun c1 => ?_)
 ·simp -implicitDefEqProofs only [go_sem, rB, rA, rS, c1]
  exact nope _ rfl
 simp -implicitDefEqProofs only [go_sem, rB, rA, rS, rL, c1]
 refine br_intro (fun c2 => ?_) (fun c2 => ?_)
 ·simp -implicitDefEqProofs only [go_sem, rB, rA, rS, c2]
  exact nope _ rfl
 simp -implicitDefEqProofs only [go_sem, rB, rA, rS, rL, c2]
 refine br_intro (fun c3 => ?_) (fun c3 => ?_)
 ·simp -implicitDefEqProofs only [go_sem, c3]
  exact nope _ rfl
 have l1 : s.funcs.length ≤ 10 := by simp at c1; omega
 have l2 : s.vars.length ≤ 70 := by simp at c2; omega
 have l3 : s.blocks.length ≤ 40 := by simp at c3; omega
 simp -implicitDefEqProofs only [go_sem, rB, c3]
 refine Loop.rec (fun k : Nat => s.funcs.length - k) (fun k => ⟨E 87 [(1, .lp 1 g 0), (3, .int .i64 k)], B 87 [(1, some (g, s.cs))], Heap.none⟩) (fun k => k ≤ s.funcs.length ∧ ∀ (i : Nat) (f : Fn), i < k → s.funcs[i]? = some f → f.Short) ?_ 0 ⟨Nat.zero_le _, fun i f h => by omega⟩ rfl
 rintro k ⟨hk, hp⟩ hrec
 simp -implicitDefEqProofs only [go_sem, rB, rA, rS, rL, Src.cs]
 refine br_intro (fun h1 => ?_) (fun h1 => ?_)
 ·have h2 : k < s.funcs.length := by simpa using h1
  obtain ⟨f, hx⟩ : ∃ x, s.funcs[k]? = some x := ⟨_, lG h2⟩
  simp -implicitDefEqProofs only [go_sem, rB, rA, rS, rL, h1, hx, Fn.cells, intsV]
  intro g2
  refine br_intro (fun c4 => ?_) (fun c4 => ?_)
  ·simp -implicitDefEqProofs only [go_sem, rB, rA, rS, c4]
   exact nope _ rfl
  simp -implicitDefEqProofs only [go_sem, rB, rA, rS, rL, c4]
  refine br_intro (fun c5 => ?_) (fun c5 => ?_)
  ·simp -implicitDefEqProofs only [go_sem, rB, rA, rS, c5]
   exact nope _ rfl
  simp -implicitDefEqProofs only [go_sem, rB, rA, rS, rL, c5]
  refine br_intro (fun c6 => ?_) (fun c6 => ?_)
  ·simp -implicitDefEqProofs only [go_sem, rB, rA, rS, c6]
   exact nope _ rfl
  simp -implicitDefEqProofs only [go_sem, rB, rA, rS, rL, c6]
  refine callOk_of (few10 f.body 300 (by decide) (by decide)) ?_
  rintro u ⟨b, rfl, hb⟩
  simp -implicitDefEqProofs only [go_sem, rB, rA, rS]
  refine br_intro2 (fun c7 => ?_) (fun c7 => ?_)
  ·simp -implicitDefEqProofs only [go_sem, c7]
   exact nope _ rfl
  obtain ⟨q1, q2⟩ := hb c7
  simp -implicitDefEqProofs only [go_sem, rB, rA, rS, c7, wrap_succ (show k < 9223372036854775807 by omega)]
  exact hrec (k + 1) (by omega) ⟨by omega, idx_step hx ⟨by simp at c5; omega, by simp at c6; omega, q2, by omega⟩ hp⟩
 ·have h2 : ¬ k < s.funcs.length := by simpa using h1
  have hall := mem_of_idx k (by omega) hp
  simp -implicitDefEqProofs only [go_sem, rB, h1]
  refine Loop.rec (fun k : Nat => s.vars.length - k) (fun k => ⟨E 87 [(1, .lp 1 g 0), (5, .int .i64 k)], B 87 [(1, some (g, s.cs))], Heap.none⟩) (fun k => k ≤ s.vars.length) ?_ 0 (Nat.zero_le _) rfl
  intro k hk hrec
  simp -implicitDefEqProofs only [go_sem, rB, rA, rS, rL, Src.cs]
  refine br_intro (fun h1 => ?_) (fun h1 => ?_)
  ·have h2 : k < s.vars.length := by simpa using h1
   obtain ⟨f, hx⟩ : ∃ x, s.vars[k]? = some x := ⟨_, lG h2⟩
   simp -implicitDefEqProofs only [go_sem, rB, rA, rS, rL, h1, hx, Vr.cells]
   refine br_intro (fun c4 => ?_) (fun c4 => ?_)
   ·simp -implicitDefEqProofs only [go_sem, c4]
    exact nope _ rfl
   simp -implicitDefEqProofs only [go_sem, rB, rA, rS, c4, wrap_succ (show k < 9223372036854775807 by omega)]
   exact hrec (k + 1) (by omega) (by omega)
  ·simp -implicitDefEqProofs only [go_sem, rB, h1]
   refine Loop.rec (fun k : Nat => s.blocks.length - k) (fun k => ⟨E 87 [(1, .lp 1 g 0), (6, .int .i64 k)], B 87 [(1, some (g, s.cs))], Heap.none⟩) (fun k => k ≤ s.blocks.length) ?_ 0 (Nat.zero_le _) rfl
   intro k hk hrec
   simp -implicitDefEqProofs only [go_sem, rB, rA, rS, rL, Src.cs]
   refine br_intro (fun h1 => ?_) (fun h1 => ?_)
   ·have h2 : k < s.blocks.length := by simpa using h1
    obtain ⟨f, hx⟩ : ∃ x, s.blocks[k]? = some x := ⟨_, lG h2⟩
    simp -implicitDefEqProofs only [go_sem, rB, rA, rS, rL, h1, hx, Bk.cells]
    refine br_intro (fun c4 => ?_) (fun c4 => ?_)
    ·simp -implicitDefEqProofs only [go_sem, c4]
     exact nope _ rfl
    simp -implicitDefEqProofs only [go_sem, rB, rA, rS, c4, wrap_succ (show k < 9223372036854775807 by omega)]
    exact hrec (k + 1) (by omega) (by omega)
   ·simp -implicitDefEqProofs only [go_sem, rB, h1]
    exact post_ret rfl ⟨true, rfl, fun _ => ⟨l1, l2, l3, hall⟩⟩
def StShort (st : Sta) : Prop := st.vars.length ≤ 100 ∧ st.blocks.length ≤ 100 ∧ ∀ l ∈ st.vars, l.length ≤ 100
theorem short23 (st : Sta) : Ret prog 5 [st.v] Heap.none fun r _ => YesP (StShort st) r := by
 have nope : ∀ s2 : S, resultOf [ARes.tmp 2] s2 = some (.bool false) → post [ARes.tmp 2] (fun r _ => YesP (StShort st) r) .ret s2 := fun s2 h => post_ret h (YesP.no _)
 refine Ret.by_text rfl rfl ?_
 simp -implicitDefEqProofs only [go_sem, rB, rA, rS, rL, a5, Sta.cellsOf_v, Sta.cs]
 intro g
 refine br_intro (fun c1 => ?_) (fun c1 => ?_)
 ·simp -implicitDefEqProofs only [go_sem, rB, rA, rS, c1]
  exact nope _ rfl
 simp -implicitDefEqProofs only [go_sem, rB, rA, rS, rL, c1]
 refine br_intro (fun c2 => ?_) (fun c2 => ?_)
 ·simp -implicitDefEqProofs only [go_sem, c2]
  exact nope _ rfl
 have l1 : st.vars.length ≤ 100 := by simp at c1; omega
 have l2 : st.blocks.length ≤ 100 := by simp at c2; omega
 simp -implicitDefEqProofs only [go_sem, rB, c2]
 refine Loop.rec (fun k : Nat => st.vars.length - k) (fun k => ⟨E 28 [(1, .lp 1 g 0), (3, .int .i64 k)], B 28 [(1, some (g, st.cs))], Heap.none⟩) (fun k => k ≤ st.vars.length ∧ ∀ (i : Nat) (l : List Int), i < k → st.vars[i]? = some l → l.length ≤ 100) ?_ 0 ⟨Nat.zero_le _, fun i f h => by omega⟩ rfl
 rintro k ⟨hk, hp⟩ hrec
 simp -implicitDefEqProofs only [go_sem, rB, rA, rS, rL, Sta.cs]
 refine br_intro (fun h1 => ?_) (fun h1 => ?_)
 ·have h2 : k < st.vars.length := by simpa using h1
  obtain ⟨l, hx⟩ : ∃ x, st.vars[k]? = some x := ⟨_, lG h2⟩
  simp -implicitDefEqProofs only [go_sem, rB, rA, rS, rL, h1, hx, intsV]
  refine br_intro (fun c4 => ?_) (fun c4 => ?_)
  ·simp -implicitDefEqProofs only [go_sem, c4]
   exact nope _ rfl
  simp -implicitDefEqProofs only [go_sem, rB, rA, rS, c4, wrap_succ (show k < 9223372036854775807 by omega)]
  exact hrec (k + 1) (by omega) ⟨by omega, idx_step hx (by simp at c4; omega) hp⟩
 ·have h2 : ¬ k < st.vars.length := by simpa using h1
  simp -implicitDefEqProofs only [go_sem, rB, h1]
  exact post_ret rfl ⟨true, rfl, fun _ => ⟨l1, l2, mem_of_idx k (by omega) hp⟩⟩
structure StFits (vs : List Vr) (bs : List Bk) (st : Sta) : Prop where
 len : st.vars.length = vs.length
 blen : st.blocks.length = bs.length
 now : 0 ≤ st.now ∧ st.now ≤ 1099511627776
 var : ∀ (i : Nat) (v : Vr) (l : List Int), vs[i]? = some v → st.vars[i]? = some l → (l.length : Int) = v.n ∧ ∀ y ∈ l, inF v.t y = true
end TryzT
end Go.Abs
namespace Go.Abs
open Go
theorem NzL.nil : NzL [] [] := ⟨rfl, fun i a b h => by simp at h⟩
theorem NzL.cons {a b : V} {cs ds : List V} (h : Nz a b) (hs : NzL cs ds) : NzL (a :: cs) (b :: ds) := by
 refine ⟨by simp [hs.1], fun i x y h1 h2 => ?_⟩
 cases i with
 | zero => simp at h1 h2; subst h1; subst h2; exact h
 | succ i => exact hs.2 i x y (by simpa using h1) (by simpa using h2)
theorem Nz.same (a : V) : Nz a a := .inl rfl
theorem Nz.nil (sz : Nat) : Nz .nsl (.fsl sz []) := .inr ⟨rfl, sz, rfl⟩
theorem bare_nz (k c : Int) (x : St) (hc : c = x.cost) : NzL [.int .i64 k, .int .i64 c, .int .i64 0, .int .i64 0, .int .i64 x.e.op, .int .i64 x.e.t, .int .i64 x.e.n, .int .i64 x.e.m, .fsl 5 (x.e.l.map Ex.cells), .int .i64 0, .int .i64 0, .int .i64 0, .int .i64 0, .nsl, .nsl, .nsl, .nsl, .nsl, .nsl] (bareK k x).cells := by
 subst hc
 rw [bareK, St.cells_cs]
 exact .cons (.same _) (.cons (.same _) (.cons (.same _) (.cons (.same _) (.cons (.same _) (.cons (.same _) (.cons (.same _) (.cons (.same _) (.cons (.same _) (.cons (.same _) (.cons (.same _) (.cons (.same _) (.cons (.same _) (.cons (.nil _) (.cons (.nil _) (.cons (.nil _) (.cons (.nil _) (.cons (.nil _) (.cons (.nil _) .nil))))))))))))))))))
theorem skip_nz (k c : Int) : NzL [.int .i64 k, .int .i64 c, .int .i64 0, .int .i64 0, .int .i64 0, .int .i64 0, .int .i64 0, .int .i64 0, .nsl, .int .i64 0, .int .i64 0, .int .i64 0, .int .i64 0, .nsl, .nsl, .nsl, .nsl, .nsl, .nsl] (TryzT.zeroS k c).cells := by
 rw [TryzT.zeroS, St.cells_cs]
 exact .cons (.same _) (.cons (.same _) (.cons (.same _) (.cons (.same _) (.cons (.same _) (.cons (.same _) (.cons (.same _) (.cons (.same _) (.cons (.nil _) (.cons (.same _) (.cons (.same _) (.cons (.same _) (.cons (.same _) (.cons (.nil _) (.cons (.nil _) (.cons (.nil _) (.cons (.nil _) (.cons (.nil _) (.cons (.nil _) .nil))))))))))))))))))
theorem Built.store {h : Heap} {idb ida : Nat} {ids : List (Option Nat)} {els : List (List V)} {evs : List Ev} {k : Nat} {y : Ev} {i : Nat} {b : Option Blk} (hs : Bd (h.upd i b) idb ida ids els (evs.set k y)) (ho : Own idb ida ids evs i) : Built h idb (Own idb ida ids evs) (evs.set k y) (h.upd i b) :=
 ⟨ida, ids, els, hs, fun j c hj hn => by rw [upd_other _ _ (fun e => hn (by rw [e]; exact ho))]; exact hj, fun j hj => .inl (by
  rcases hj with h | ⟨h, h2⟩ | h
  ·exact .inl h
  ·exact .inr (.inl ⟨h, by simpa using h2⟩)
  ·exact .inr (.inr h))⟩
theorem Built.pushn {h h2 : Heap} {idb ida ida2 : Nat} {ids : List (Option Nat)} {els : List (List V)} {evs evs2 : List Ev} (q1 : h ida2 = none) (q2 : Bd h2 idb ida2 (ids ++ [none]) els evs2) (q3 : Kept h h2 (Own idb ida ids evs)) : Built h idb (Own idb ida ids evs) evs2 h2 := by
 refine ⟨ida2, _, _, q2, q3, fun j hj2 => ?_⟩
 rcases hj2 with rfl | ⟨rfl, _⟩ | hm
 ·exact .inl (.inl rfl)
 ·exact .inr q1
 ·rcases List.mem_append.1 hm with hm | hm
  ·exact .inl (.inr (.inr hm))
  ·simp at hm
theorem Bd.box2 {h : Heap} {idb ida : Nat} {ids : List (Option Nat)} {els : List (List V)} {evs : List Ev} (hb : Bd h idb ida ids els evs) (hp : 0 < evs.length) : h idb = some (.arr 1 [[.msl ida 0 evs.length]]) := by
 have := hb.box
 rwa [slV, if_neg (by omega)] at this
namespace TryzT
theorem label88 (k : Int) : Ret prog 88 [.int .i64 k] Heap.none fun r _ => r = .bool (lab k) := by
 refine Ret.by_text rfl rfl ?_
 simp -implicitDefEqProofs only [go_sem, rB, rA, rS, a88]
 repeat' first
  | (refine br_intro (fun hb => ?_) (fun hb => ?_) <;> simp -implicitDefEqProofs only [go_sem, rB, rA, rS, hb])
  | (refine fun (g : Nat) => ?_; simp -implicitDefEqProofs only [go_sem, rB, rA, rS, rM, rL, rE, jL, jN])
  | refine fun (g : Nat) => ?_
  | (refine post_ret (v := _) (by simp -implicitDefEqProofs only [go_sem, rB, rA, rS, resultOf, mapM?, ARes.val]; exact rfl) ?_; simp_all [lab] <;> omega)
end TryzT
end Go.Abs
namespace Go.Abs
open Go
namespace TryzT
theorem one_12 (d : Nat) (x : St) (hk : x.kind = 12) (e n : Int) : OneOk (gOne (d + 1) e n) e n x := by
 intro b h idb ida ids els evs hb hl R hR
 have hcx := x.cnt_eq
 simp only [gOne, hk, if_true] at hR
 have f12 : (x.kind == 12) = true := by simpa using hk
 refine Ret.by_text rfl rfl ?_
 simp -implicitDefEqProofs only [go_sem, rB, rA, rS, rL, a48, St.cellsOf_v, St.cs, placeV]
 intro g1 g2 g3 g4
 simp -implicitDefEqProofs only [go_sem, rB, rA, rS, rM, rL, f12]
 intro idn hidn
 refine .inl (add19 (hb.alloc hidn _) _ ⟨zeroS 0 x.cost, [e]⟩ (some idn) (skip_nz 0 x.cost) (fun h => by cases h) (fun j hj => by
  injection hj with hj; subst hj
  exact ⟨by rw [upd_self]; rfl, hb.fresh hidn⟩) (by omega) _ fun ida2 h2 q1 q2 q3 => ?_)
 simp -implicitDefEqProofs only [go_sem, rB, rA, rS]
 refine post1 ?_
 simp -implicitDefEqProofs only [go_sem, rB, rA, rS]
 exact hR h2 (Built.push hidn q1 q2 q3)
theorem one_13 (d : Nat) (x : St) (hk : x.kind = 13) (e n : Int) : OneOk (gOne (d + 1) e n) e n x := by
 intro b h idb ida ids els evs hb hl R hR
 have hcx := x.cnt_eq
 have k12 : ¬ x.kind = 12 := by omega
 simp only [gOne, hk, if_true] at hR
 have f12 : (x.kind == 12) = false := by simpa using k12
 have f13 : (x.kind == 13) = true := by simpa using hk
 refine Ret.by_text rfl rfl ?_
 simp -implicitDefEqProofs only [go_sem, rB, rA, rS, rL, a48, St.cellsOf_v, St.cs, placeV]
 intro g1 g2 g3 g4
 simp -implicitDefEqProofs only [go_sem, rB, rA, rS, rM, rL, f12, f13]
 intro idn hidn
 refine .inl (add19 (hb.alloc hidn _) _ ⟨zeroS 0 x.cost, [n]⟩ (some idn) (skip_nz 0 x.cost) (fun h => by cases h) (fun j hj => by
  injection hj with hj; subst hj
  exact ⟨by rw [upd_self]; rfl, hb.fresh hidn⟩) (by omega) _ fun ida2 h2 q1 q2 q3 => ?_)
 simp -implicitDefEqProofs only [go_sem, rB, rA, rS]
 refine post1 ?_
 simp -implicitDefEqProofs only [go_sem, rB, rA, rS]
 exact hR h2 (Built.push hidn q1 q2 q3)
theorem one_14 (d : Nat) (x : St) (hk : x.kind = 14) (e n : Int) : OneOk (gOne (d + 1) e n) e n x := by
 intro b h idb ida ids els evs hb hl R hR
 have hcx := x.cnt_eq
 have k12 : ¬ x.kind = 12 := by omega
 have k13 : ¬ x.kind = 13 := by omega
 simp only [gOne, k12, k13, if_false] at hR
 rw [if_pos hk] at hR
 have f12 : (x.kind == 12) = false := by simpa using k12
 have f13 : (x.kind == 13) = false := by simpa using k13
 have f14 : (x.kind == 14) = true := by simpa using hk
 refine Ret.by_text rfl rfl ?_
 simp -implicitDefEqProofs only [go_sem, rB, rA, rS, rL, a48, St.cellsOf_v, St.cs, placeV]
 intro g1 g2 g3 g4
 simp -implicitDefEqProofs only [go_sem, rB, rA, rS, rL, f12, f13, f14]
 refine .inl (add19 hb _ ⟨bareK x.kind x, []⟩ none (bare_nz x.kind x.cost x rfl) (fun h => rfl) (fun j hj => by cases hj) (by omega) _ fun ida2 h2 q1 q2 q3 => ?_)
 simp -implicitDefEqProofs only [go_sem, rB, rA, rS]
 refine post1 ?_
 simp -implicitDefEqProofs only [go_sem, rB, rA, rS]
 exact hR h2 (Built.pushn q1 q2 q3)
theorem one_7 (d : Nat) (x : St) (hk : x.kind = 7) (e n : Int) (ihB : ∀ y ∈ x.body, OneOk (gOne d e n) e n y) (ihE : ∀ y ∈ x.els, OneOk (gOne d e n) e n y) : OneOk (gOne (d + 1) e n) e n x := by
 intro b h idb ida ids els evs hb hl R hR
 have hcx := x.cnt_eq
 have k12 : ¬ x.kind = 12 := by omega
 have k13 : ¬ x.kind = 13 := by omega
 have k14 : ¬ x.kind = 14 := by omega
 simp only [gOne, k12, k13, k14, if_false] at hR
 rw [if_pos hk] at hR
 simp only [] at hR
 have f12 : (x.kind == 12) = false := by simpa using k12
 have f13 : (x.kind == 13) = false := by simpa using k13
 have f14 : (x.kind == 14) = false := by simpa using k14
 have f7 : (x.kind == 7) = true := by simpa using hk
 have l1 := gFold_len (gOne_len d e n) x.body evs b
 have l2 := gFold_len (gOne_len d e n) x.els (gFold (gOne d e n) x.body evs b).1 b
 refine Ret.by_text rfl rfl ?_
 simp -implicitDefEqProofs only [go_sem, rB, rA, rS, rL, a48, St.cellsOf_v, St.cs, placeV]
 intro g1 g2 g3 g4
 simp -implicitDefEqProofs only [go_sem, rB, rA, rS, rL, f12, f13, f14, f7]
 refine .inl (list20 (gOne d e n) (gOne_len d e n) e n x.body ihB b h idb ida ids els evs hb (by omega) _ fun h1 hb1 => ?_)
 obtain ⟨ida1, ids1, els1, p1, p2, p3⟩ := hb1
 simp -implicitDefEqProofs only [go_sem, rB, rA, rS, rL]
 refine .inl (list20 (gOne d e n) (gOne_len d e n) e n x.els ihE b h1 idb ida1 ids1 els1 _ p1 (by omega) _ fun h2 hb2 => ?_)
 have hb3 := Built.trans p2 p3 hb2
 obtain ⟨ida2, ids2, els2, s1, s2, s3⟩ := hb3
 simp -implicitDefEqProofs only [go_sem, rB, rA, rS, rM, rL]
 intro idn hidn
 refine .inl (add19 (s1.alloc hidn _) _ ⟨bareK x.kind x, [(gFold (gOne d e n) x.body evs b).2, (gFold (gOne d e n) x.els (gFold (gOne d e n) x.body evs b).1 b).2]⟩ (some idn) (bare_nz x.kind x.cost x rfl) (fun h => by cases h) (fun j hj => by
  injection hj with hj; subst hj
  exact ⟨by rw [upd_self]; rfl, s1.fresh hidn⟩) (by omega) _ fun ida3 h3 q1 q2 q3 => ?_)
 simp -implicitDefEqProofs only [go_sem, rB, rA, rS]
 refine post1 ?_
 simp -implicitDefEqProofs only [go_sem, rB, rA, rS]
 exact hR h3 (Built.trans s2 s3 (Built.push hidn q1 q2 q3))
end TryzT
end Go.Abs
