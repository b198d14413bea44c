/-
  A part of the proof. Conditions: none.
-/
import Derived.Test.YtfgkfjmbjopfgaaGreatP11
set_option linter.unusedVariables false
set_option linter.unusedSimpArgs false
set_option maxRecDepth 100000
set_option maxHeartbeats 16000000
open Nat renaming reduceBEq → rB, reduceAdd → rA, reduceSub → rS, reduceLeDiff → rL, reduceMul → rM
open Int renaming reduceLE → jL, reduceToNat → jN, reduceBEq → jB
open List renaming getElem?_eq_getElem → lG, getElem?_eq_some_iff → lS, mem_of_getElem? → lM, mem_cons_self → lC
namespace Go.Abs
open Go
namespace TryzT
theorem loop67 (src : Src) (f : Fn) (hsrc : src.funcs = [f]) (hf : f.Short) (n : Nat) (ih : ∀ m, m < n → LOk src f m) : WOk src f n := by
 intro r sl x q h idr ids bv R hx hkk hfit hq hr hR
 have hcw := hx.1
 obtain ⟨lp, hw⟩ := id hcw
 have hcost := hw.1.facts.1
 have gx : x.kind = 8 ∨ x.kind = 10 → Good (scF src f) x.e := by
  intro hh
  cases hw.1 with
  | mk _ _ hc hk hB h13 h2 h4 h5 h6 hg h8 h9 h11 body els arms => exact hg (by omega)
 refine Ret.by_text rfl rfl ?_
 simp -implicitDefEqProofs only [go_sem, rB, rA, rS, a67, St.cellsOf_v, St.cs]
 intro g
 refine Loop.rec (α := Nat × Heap × RS × List Int) (fun k => k.1) (fun k => ⟨E 91 [(0, .ep idr 0 0), (1, .int .i64 0), (2, intsV k.2.2.2), (7, .lp 7 g 0)], B 91 [(7, some (g, x.cs))], k.2.1⟩)
  (fun k => k.1 ≤ n ∧ RunH k.2.1 idr src ids bv k.2.2.1 ∧ Fit (scF src f) k.2.2.1 k.2.2.2 ∧ exW (scF src f) k.1 k.2.2.1 k.2.2.2 x = some q) ?_ (n, h, r, sl) ⟨Nat.le_refl _, hr, hfit, hq⟩ rfl
 rintro ⟨m, h1, r1, sl1⟩ ⟨hm, hr1, hfit1, hq1⟩ hrec
 simp only [] at hm hr1 hfit1 hq1
 cases m with
 | zero => simp [exW] at hq1
 | succ m =>
 have fin : ∀ (h2 : Heap) (r2 : RS) (sl2 : List Int) (e : Int), RunH h2 idr src ids bv r2 → some (r2, sl2, e) = some q → R (.tup [intsV sl2, .int .i64 e]) h2 := fun h2 r2 sl2 e hr2 he => by
  injection he with he
  have := hR h2 (by rw [← he]; exact hr2)
  rw [← he] at this
  exact this
 have hb := hr1.box'
 rw [exW] at hq1
 simp -implicitDefEqProofs only [go_sem, rB, rA, rS, rL, hb]
 refine br_intro2 (fun c1 => ?_) (fun c1 => ?_)
 ·have e1 : r1.fault ≠ 0 := by simpa using c1
  rw [if_pos e1] at hq1
  simp -implicitDefEqProofs only [go_sem, rB, rA, rS, c1]
  refine post2 ?_
  simp -implicitDefEqProofs only [go_sem, rB, rA, rS]
  exact fin _ _ _ _ hr1 hq1
 have e1 : ¬ r1.fault ≠ 0 := by simpa using c1
 rw [if_neg e1] at hq1
 simp -implicitDefEqProofs only [go_sem, rB, rA, rS, rL, c1, hb, St.cs]
 have bodyPart : ∀ (r2 : RS) (h2 : Heap), Fit (scF src f) r2 sl1 → RunH h2 idr src ids bv r2 → exB (scF src f) m r1.left r2 sl1 x = some q → ∃ (m' : Nat) (q2 : RS × List Int × Int), m = m' + 1 ∧ exL (scF src f) m' r2 sl1 x.body = some q2 ∧ Fit (scF src f) q2.1 q2.2.1 := by
  intro r2 h2 hf2 _ hB
  cases m with
  | zero => simp [exB] at hB
  | succ m' =>
   rw [exB] at hB
   split at hB
   ·cases hB
   ·rename_i r3 sl3 e he
    exact ⟨m', _, rfl, he, ((ex_keep (scF src f) _).1 _ _ _ _ hx.body.1 hf2 he).1⟩
 refine br_intro (fun c2 => ?_) (fun c2 => ?_)
 case' refine_1 =>
  have k8 : x.kind = 8 := by simpa using c2
  rw [if_pos k8] at hq1
  simp -implicitDefEqProofs only [go_sem, rB, rA, rS, rL, c2]
  refine .inl (take68 hr1 x.cost ⟨hfit1.l0, hfit1.l1⟩ hcost _ fun h2 hr2 => ?_)
  simp -implicitDefEqProofs only [go_sem, rB, rA, rS]
  refine br_intro2 (fun c3 => ?_) (fun c3 => ?_)
  ·have e3 : (takeF r1 x.cost).fault ≠ 0 := by simpa using c3
   rw [if_pos e3] at hq1
   simp -implicitDefEqProofs only [go_sem, rB, rA, rS, c3]
   refine post2 ?_
   simp -implicitDefEqProofs only [go_sem, rB, rA, rS]
   exact fin _ _ _ _ hr2 hq1
  have e3 : ¬ (takeF r1 x.cost).fault ≠ 0 := by simpa using c3
  rw [if_neg e3] at hq1
  simp -implicitDefEqProofs only [go_sem, rB, rA, rS, rL, c3, Ex.fold]
  refine .inl (of69 src f hsrc hf hr2 sl1 (hfit1.take hcost) x.e (gx (.inl k8)) _ fun h3 hr3 => ?_)
  have hfit3 := (hfit1.take hcost).of x.e
  generalize hp : ofF (scF src f) (takeF r1 x.cost) sl1 x.e = p at hr3 hfit3 hq1 ⊢
  obtain ⟨r3, w⟩ := p
  simp only [] at hr3 hfit3 hq1
  simp -implicitDefEqProofs only [go_sem, rB, rA, rS]
  refine br_intro (fun c4 => ?_) (fun c4 => ?_)
  ·have e4 : w = 0 := by simpa using c4
   rw [if_pos e4] at hq1
   simp -implicitDefEqProofs only [go_sem, rB, rA, rS, c4]
   refine post2 ?_
   simp -implicitDefEqProofs only [go_sem, rB, rA, rS]
   exact fin _ _ _ _ hr3 hq1
  have e4 : ¬ w = 0 := by simpa using c4
  rw [if_neg e4] at hq1
  clear hr1 hfit1 hb
  obtain ⟨m', q2, hm', hq2, hfit4⟩ := bodyPart r3 h3 hfit3 hr3 hq1
  have n10 : ¬ x.kind = 10 := by omega
  simp -implicitDefEqProofs only [go_sem, rB, rA, rS, rL, c4]
 case' refine_2 =>
  have k8 : ¬ x.kind = 8 := by simpa using c2
  rw [if_neg k8] at hq1
  obtain ⟨m', q2, hm', hq2, hfit4⟩ := bodyPart r1 h1 hfit1 hr1 hq1
  have hr3 := hr1
  have hfit3 := hfit1
  simp -implicitDefEqProofs only [go_sem, rB, rA, rS, rL, c2]
 all_goals
  refine .inl (ih m' (by omega) _ sl1 x.body q2 _ idr ids bv _ hx.body hfit3 hq2 hr3 fun h4 hr4 => ?_)
  subst hm'
  rw [exB, hq2] at hq1
  obtain ⟨r4, sl4, e⟩ := q2
  simp only [] at hr4 hfit4 hq1
  simp -implicitDefEqProofs only [go_sem, rB, rA, rS]
  refine br_intro (fun c5 => ?_) (fun c5 => ?_)
  ·have e5 : e = 3 := by simpa using c5
   rw [if_pos (.inl e5), if_pos e5] at hq1
   simp -implicitDefEqProofs only [go_sem, rB, rA, rS, e5, three_ne, show IntKind.i64.wrap ((3 : Int).tdiv 3) = 1 from rfl, show IntKind.i64.wrap ((1 : Int) * 3) = 3 from rfl, jB]
   refine post2 ?_
   simp -implicitDefEqProofs only [go_sem, rB, rA, rS]
   exact fin _ _ _ _ hr4 hq1
  have n3 : ¬ e = 3 := by simpa using c5
  simp -implicitDefEqProofs only [go_sem, rB, rA, rS, c5]
  refine br_intro (fun c6 => ?_) (fun c6 => ?_)
  ·have e6 : e = 1 := by simpa using c6
   rw [if_pos (.inr e6), if_neg n3] at hq1
   simp -implicitDefEqProofs only [go_sem, rB, rA, rS, e6, three_ne, show IntKind.i64.wrap ((1 : Int).tdiv 3) = 0 from rfl, show IntKind.i64.wrap ((0 : Int) * 3) = 0 from rfl, jB]
   refine post2 ?_
   simp -implicitDefEqProofs only [go_sem, rB, rA, rS]
   exact fin _ _ _ _ hr4 hq1
  have n1 : ¬ e = 1 := by simpa using c6
  rw [if_neg (by simp [n3, n1])] at hq1
  simp -implicitDefEqProofs only [go_sem, rB, rA, rS, rL, c6]
  refine br_intro (fun c7 => ?_) (fun c7 => ?_)
  ·have k10 : x.kind = 10 := by simpa using c7
   rw [if_pos k10] at hq1
   simp -implicitDefEqProofs only [go_sem, rB, rA, rS, rL, c7]
   refine .inl (take68 hr4 x.cost ⟨hfit4.l0, hfit4.l1⟩ hcost _ fun h5 hr5 => ?_)
   simp -implicitDefEqProofs only [go_sem, rB, rA, rS]
   refine br_intro2 (fun c8 => ?_) (fun c8 => ?_)
   ·have e8 : (takeF r4 x.cost).fault ≠ 0 := by simpa using c8
    rw [if_pos e8] at hq1
    simp -implicitDefEqProofs only [go_sem, rB, rA, rS, c8]
    refine post2 ?_
    simp -implicitDefEqProofs only [go_sem, rB, rA, rS]
    exact fin _ _ _ _ hr5 hq1
   have e8 : ¬ (takeF r4 x.cost).fault ≠ 0 := by simpa using c8
   rw [if_neg e8] at hq1
   simp -implicitDefEqProofs only [go_sem, rB, rA, rS, rL, c8, Ex.fold]
   refine .inl (of69 src f hsrc hf hr5 sl4 (hfit4.take hcost) x.e (gx (.inr k10)) _ fun h6 hr6 => ?_)
   have hfit6 := (hfit4.take hcost).of x.e
   generalize hp : ofF (scF src f) (takeF r4 x.cost) sl4 x.e = p at hr6 hfit6 hq1 ⊢
   obtain ⟨r6, w6⟩ := p
   simp only [] at hr6 hfit6 hq1
   simp -implicitDefEqProofs only [go_sem, rB, rA, rS]
   refine br_intro (fun c9 => ?_) (fun c9 => ?_)
   ·have e9 : w6 = 1 := by simpa using c9
    rw [if_pos e9] at hq1
    simp -implicitDefEqProofs only [go_sem, rB, rA, rS, c9]
    refine post2 ?_
    simp -implicitDefEqProofs only [go_sem, rB, rA, rS]
    exact fin _ _ _ _ hr6 hq1
   have e9 : ¬ w6 = 1 := by simpa using c9
   rw [if_neg e9] at hq1
   have hb6 := hr6.box'
   simp -implicitDefEqProofs only [go_sem, rB, rA, rS, rL, c9, hb6]
   refine br_intro (fun c10 => ?_) (fun c10 => ?_)
   ·have e10 : r6.left = r1.left := by simpa using c10
    rw [if_pos e10] at hq1
    simp -implicitDefEqProofs only [go_sem, rB, rA, rS, c10]
    refine .inl (take68 hr6 1 ⟨hfit6.l0, hfit6.l1⟩ (by decide) _ fun h7 hr7 => ?_)
    simp -implicitDefEqProofs only [go_sem, rB]
    exact hrec (m', h7, takeF r6 1, sl4) (by simp only []; omega) ⟨by simp only []; omega, hr7, hfit6.one, hq1⟩
   ·have e10 : ¬ r6.left = r1.left := by simpa using c10
    rw [if_neg e10] at hq1
    simp -implicitDefEqProofs only [go_sem, rB, c10]
    exact hrec (m', h6, r6, sl4) (by simp only []; omega) ⟨by simp only []; omega, hr6, hfit6, hq1⟩
  ·have k10 : ¬ x.kind = 10 := by simpa using c7
   rw [if_neg k10] at hq1
   have hb4 := hr4.box'
   simp -implicitDefEqProofs only [go_sem, rB, rA, rS, rL, c7, hb4]
   refine br_intro (fun c10 => ?_) (fun c10 => ?_)
   ·have e10 : r4.left = r1.left := by simpa using c10
    rw [if_pos e10] at hq1
    simp -implicitDefEqProofs only [go_sem, rB, rA, rS, c10]
    refine .inl (take68 hr4 1 ⟨hfit4.l0, hfit4.l1⟩ (by decide) _ fun h7 hr7 => ?_)
    simp -implicitDefEqProofs only [go_sem, rB]
    exact hrec (m', h7, takeF r4 1, sl4) (by simp only []; omega) ⟨by simp only []; omega, hr7, hfit4.one, hq1⟩
   ·have e10 : ¬ r4.left = r1.left := by simpa using c10
    rw [if_neg e10] at hq1
    simp -implicitDefEqProofs only [go_sem, rB, c10]
    exact hrec (m', h4, r4, sl4) (by simp only []; omega) ⟨by simp only []; omega, hr4, hfit4, hq1⟩
end TryzT
end Go.Abs
namespace Go.Abs
open Go
namespace TryzT
def pickL (v : Int) (a : Am) (ks : List Int) (b : List St) : List St := ks.foldl (fun b k => if k = v then a.body else b) b
def pickAs (v : Int) (l : List Am) (b : List St) : List St := l.foldl (fun b a => pickL v a a.labels b) b
theorem pickF_eq (x : St) (v : Int) : pickF x v = pickAs v x.arms (if x.kind = 7 ∧ v = 1 then x.body else x.els) := rfl
theorem pickAs_at {v : Int} {l : List Am} {i : Nat} {a : Am} (h : l[i]? = some a) (b : List St) : pickAs v (l.drop i) b = pickAs v (l.drop (i + 1)) (pickL v a a.labels b) := by
 obtain ⟨h1, e⟩ := lS.1 h
 rw [List.drop_eq_getElem_cons h1, e]; rfl
theorem pickL_at {v : Int} {a : Am} {l : List Int} {i : Nat} {k : Int} (h : l[i]? = some k) (b : List St) : pickL v a (l.drop i) b = pickL v a (l.drop (i + 1)) (if k = v then a.body else b) := by
 obtain ⟨h1, e⟩ := lS.1 h
 rw [List.drop_eq_getElem_cons h1, e]; rfl
theorem one51_a (src : Src) (f : Fn) (hsrc : src.funcs = [f]) (hf : f.Short) (hsl0 : (scF src f).slots.length ≤ 100000) (n : Nat) (ihL : ∀ m, m < n → LOk src f m) (ihW : ∀ m, m < n → WOk src f m) : ∀ (r : RS) (sl : List Int) (x : St) (q : RS × List Int × Int) (h : Heap) (idr : Nat) (ids : List Nat) (bv : V) (R : V → Heap → Prop), ¬ x.kind ≥ 8 → Okx (scF src f) x → Fit (scF src f) r sl → exO (scF src f) n r sl x = some q → RunH h idr src ids bv r → (∀ h2, RunH h2 idr src ids bv q.1 → R (.tup [intsV q.2.1, .int .i64 q.2.2]) h2) → Ret prog 51 [.ep idr 0 0, .int .i64 0, intsV sl, x.v] h R := by
 intro r sl x q h idr ids bv R hka hx hfit hq hr hR
 have hcw := hx.1
 obtain ⟨lp, hw⟩ := id hcw
 have hcost := hw.1.facts.1
 obtain ⟨d, hflat, _, _, hsa⟩ := hx.2.1
 have hslen : sl.length ≤ 100000 := by rw [hfit.sl.len]; exact hsl0
 cases n with
 | zero => simp [exO] at hq
 | succ n =>
 have fin : ∀ (h2 : Heap) (r2 : RS) (sl2 : List Int) (e : Int), RunH h2 idr src ids bv r2 → some (r2, sl2, e) = some q → R (.tup [intsV sl2, .int .i64 e]) h2 := fun h2 r2 sl2 e hr2 he => by
  injection he with he
  have := hR h2 (by rw [← he]; exact hr2)
  rw [← he] at this
  exact this
 rw [exO] at hq
 have rest : ¬ (x.kind ≥ 8 ∧ x.kind ≤ 10) → (if (takeF r x.cost).fault ≠ 0 then some (takeF r x.cost, sl, 0) else if x.kind ≥ 12 then some (takeF r x.cost, sl, x.kind - 11) else if x.kind = 7 ∨ x.kind = 11 then exL (scF src f) n (ofF (scF src f) (takeF r x.cost) sl x.e).1 sl (pickF x (ofF (scF src f) (takeF r x.cost) sl x.e).2) else some ((plF (scF src f) (takeF r x.cost) sl x).1, (plF (scF src f) (takeF r x.cost) sl x).2, 0)) = some q := fun hk => by rw [if_neg hk] at hq; exact hq
 have rest := rest (fun hk => hka hk.1)
 have ka : decide (x.kind ≥ 8) = false := by simpa using hka
 refine Ret.by_text rfl rfl ?_
 simp -implicitDefEqProofs only [go_sem, rB, rA, rS, rL, a51, St.cellsOf_v, St.cs, ka]
 intro g
 refine .inl (take68 hr x.cost ⟨hfit.l0, hfit.l1⟩ hcost _ fun h2 hr2 => ?_)
 simp -implicitDefEqProofs only [go_sem, rB, rA, rS]
 refine br_intro2 (fun c3 => ?_) (fun c3 => ?_)
 ·have e3 : (takeF r x.cost).fault ≠ 0 := by simpa using c3
  rw [if_pos e3] at rest
  simp -implicitDefEqProofs only [go_sem, rB, rA, rS, c3]
  refine post2 ?_
  simp -implicitDefEqProofs only [go_sem, rB, rA, rS]
  exact fin _ _ _ _ hr2 rest
 have e3 : (takeF r x.cost).fault = 0 := by simpa using c3
 rw [if_neg (by simpa using e3)] at rest
 simp -implicitDefEqProofs only [go_sem, rB, rA, rS, rL, c3]
 refine br_intro (fun c4 => ?_) (fun c4 => ?_)
 ·have e4 : x.kind ≥ 12 := by simpa using c4
  have hk14 := hw.1.facts.2.1
  rw [if_pos e4] at rest
  simp -implicitDefEqProofs only [go_sem, rB, rA, rS, rL, c4, wrap_in (n := x.kind - 11) (by omega)]
  refine post2 ?_
  simp -implicitDefEqProofs only [go_sem, rB, rA, rS]
  exact fin _ _ _ _ hr2 rest
 have e4 : ¬ x.kind ≥ 12 := by simpa using c4
 rw [if_neg e4] at rest
 have hfit2 := hfit.take hcost
 have choose : x.kind = 7 ∨ x.kind = 11 → Good (scF src f) x.e ∧ exL (scF src f) n (ofF (scF src f) (takeF r x.cost) sl x.e).1 sl (pickF x (ofF (scF src f) (takeF r x.cost) sl x.e).2) = some q := fun hh => by
  rw [if_pos hh] at rest
  refine ⟨?_, rest⟩
  cases hw.1 with
  | mk _ _ hc hk hB h13 h2 h4 h5 h6 hg h8 h9 h11 body els arms => exact hg (by omega)
 simp -implicitDefEqProofs only [go_sem, rB, rA, rS, rL, c4]
 refine br_intro (fun c5 => ?seven) (fun c5 => ?other)
 case' seven =>
  have e5 : x.kind = 7 := by simpa using c5
  obtain ⟨gx, hq⟩ := choose (.inl e5)
  have hk7 : (x.kind == 7) = true := c5
  have hbar : x.arms = [] := hw.1.facts.2.2.1.2.2 (by omega)
  simp -implicitDefEqProofs only [go_sem, rB, rA, rS, rL, c5, Ex.fold]
  refine .inl (of69 src f hsrc hf hr2 sl hfit2 x.e gx _ fun h3 hr3 => ?_)
  have hfit3 := hfit2.of x.e
  generalize hp : ofF (scF src f) (takeF r x.cost) sl x.e = p at hr3 hfit3 hq ⊢
  obtain ⟨r3, v⟩ := p
  simp only [] at hr3 hfit3 hq
  simp -implicitDefEqProofs only [go_sem, rB, rA, rS, rL, c5]
  rw [pickF_eq] at hq
  refine br_intro (fun c6 => ?yes) (fun c6 => ?no)
  case' yes =>
   have e6 : v = 1 := by simpa using c6
   rw [if_pos ⟨e5, e6⟩] at hq
   have hOk : Okl (scF src f) (pickAs v x.arms x.body) := by have := hx.pick v; rw [pickF_eq, if_pos ⟨e5, e6⟩] at this; exact this
   obtain ⟨b0, hb0⟩ : ∃ b0, b0 = x.body := ⟨_, rfl⟩
   simp -implicitDefEqProofs only [go_sem, rB, rA, rS, rL, c6]
  case' no =>
   have e6 : ¬ v = 1 := by simpa using c6
   rw [if_neg (fun hh => e6 hh.2)] at hq
   have hOk : Okl (scF src f) (pickAs v x.arms x.els) := by have := hx.pick v; rw [pickF_eq, if_neg (fun hh => e6 hh.2)] at this; exact this
   obtain ⟨b0, hb0⟩ : ∃ b0, b0 = x.els := ⟨_, rfl⟩
   simp -implicitDefEqProofs only [go_sem, rB, c6]
 case' other =>
  have e5 : ¬ x.kind = 7 := by simpa using c5
  simp -implicitDefEqProofs only [go_sem, rB, rA, rS, rL, c5]
  refine br_intro (fun c6 => ?kase) (fun c6 => ?plain)
  case' plain =>
   have e6 : ¬ x.kind = 11 := by simpa using c6
   rw [if_neg (by simp [e5, e6])] at rest
   simp -implicitDefEqProofs only [go_sem, rB, rA, rS, rL, c6, St.fold]
   refine .inl (plain70 src f hsrc hf hr2 e3 sl hfit2 hslen x hflat.al hw.1 (by omega) _ fun h3 hr3 => ?_)
   simp -implicitDefEqProofs only [go_sem, rB, rA, rS]
   refine post2 ?_
   simp -implicitDefEqProofs only [go_sem, rB, rA, rS]
   exact fin _ _ _ _ hr3 rest
  case' kase =>
   have e6 : x.kind = 11 := by simpa using c6
   obtain ⟨gx, hq⟩ := choose (.inr e6)
   simp -implicitDefEqProofs only [go_sem, rB, rA, rS, rL, c6, Ex.fold]
   refine .inl (of69 src f hsrc hf hr2 sl hfit2 x.e gx _ fun h3 hr3 => ?_)
   have hfit3 := hfit2.of x.e
   generalize hp : ofF (scF src f) (takeF r x.cost) sl x.e = p at hr3 hfit3 hq ⊢
   obtain ⟨r3, v⟩ := p
   simp only [] at hr3 hfit3 hq
   rw [pickF_eq, if_neg (fun hh => e5 hh.1)] at hq
   have hOk : Okl (scF src f) (pickAs v x.arms x.els) := by have := hx.pick v; rw [pickF_eq, if_neg (fun hh => e5 hh.1)] at this; exact this
   obtain ⟨b0, hb0⟩ : ∃ b0, b0 = x.els := ⟨_, rfl⟩
   simp -implicitDefEqProofs only [go_sem, rB, rA, rS, rL, c5]
 all_goals
  rw [← hb0] at hq hOk
  refine Loop.rec (α := Nat × List St) (fun k => x.arms.length - k.1) (fun k => ⟨E 114 [(0, .ep idr 0 0), (1, .int .i64 0), (2, intsV sl), (7, .lp 7 g 0), (10, .int .i64 v), (11, stsV k.2), (12, .int .i64 k.1)], B 114 [(7, some (g, x.cs))], h3⟩)
   (fun k => k.1 ≤ x.arms.length ∧ pickAs v (x.arms.drop k.1) k.2 = pickAs v x.arms b0) ?_ (0, b0) ⟨Nat.zero_le _, rfl⟩ (by rw [hb0]; rfl)
  rintro ⟨k, b⟩ ⟨hk, hpk⟩ hrec
  simp only [] at hk hpk
  simp -implicitDefEqProofs only [go_sem, rB, rA, rS, rL, St.cs]
  refine br_intro (fun d1 => ?_) (fun d1 => ?_)
  ·have d2 : k < x.arms.length := by simpa using d1
   have hrl := hflat.rl
   obtain ⟨a, ha⟩ : ∃ a, x.arms[k]? = some a := ⟨_, lG d2⟩
   have hla := (hsa a (lM ha)).1
   rw [pickAs_at ha] at hpk
   simp -implicitDefEqProofs only [go_sem, rB, d1]
   refine Loop.rec (α := Nat × List St) (fun j => a.labels.length - j.1) (fun j => ⟨E 114 [(0, .ep idr 0 0), (1, .int .i64 0), (2, intsV sl), (7, .lp 7 g 0), (10, .int .i64 v), (11, stsV j.2), (12, .int .i64 k), (13, .int .i64 j.1)], B 114 [(7, some (g, x.cs))], h3⟩)
    (fun j => j.1 ≤ a.labels.length ∧ pickAs v (x.arms.drop (k + 1)) (pickL v a (a.labels.drop j.1) j.2) = pickAs v x.arms b0) ?_ (0, b) ⟨Nat.zero_le _, hpk⟩ rfl
   rintro ⟨j, b⟩ ⟨hj, hpj⟩ hrec2
   simp only [] at hj hpj
   simp -implicitDefEqProofs only [go_sem, rB, rA, rS, rL, St.cs, ha, Am.cells_eq]
   refine br_intro (fun d3 => ?_) (fun d3 => ?_)
   ·have d4 : j < a.labels.length := by simpa using d3
    obtain ⟨y, hy⟩ : ∃ y, a.labels[j]? = some y := ⟨_, lG d4⟩
    rw [pickL_at hy] at hpj
    simp -implicitDefEqProofs only [go_sem, rB, rA, rS, rL, d3, ha, Am.cells_eq, hy, intC]
    refine br_intro (fun d5 => ?_) (fun d5 => ?_)
    ·rw [if_pos (by simpa using d5)] at hpj
     simp -implicitDefEqProofs only [go_sem, rB, rA, rS, rL, d5, ha, Am.cells_eq, wrap_succ (show j < 9223372036854775807 by omega)]
     exact hrec2 (j + 1, a.body) (by simp only []; omega) ⟨by simp only []; omega, hpj⟩
    ·rw [if_neg (by simpa using d5)] at hpj
     simp -implicitDefEqProofs only [go_sem, rB, rA, rS, d5, wrap_succ (show j < 9223372036854775807 by omega)]
     exact hrec2 (j + 1, b) (by simp only []; omega) ⟨by simp only []; omega, hpj⟩
   ·have e7 : a.labels.drop j = [] := List.drop_eq_nil_of_le (by simp at d3; omega)
    rw [e7] at hpj
    simp -implicitDefEqProofs only [go_sem, rB, rA, rS, d3, wrap_succ (show k < 9223372036854775807 by omega)]
    exact hrec (k + 1, b) (by simp only []; omega) ⟨by simp only []; omega, hpj⟩
  ·have e7 : x.arms.drop k = [] := List.drop_eq_nil_of_le (by simp at d1; omega)
   rw [e7] at hpk
   have hpk : b = pickAs v x.arms b0 := hpk
   rw [← hpk] at hq hOk
   simp -implicitDefEqProofs only [go_sem, rB, rA, rS, d1]
   refine .inl (ihL n (by omega) r3 sl b q h3 idr ids bv _ hOk hfit3 hq hr3 fun h4 hr4 => ?_)
   simp -implicitDefEqProofs only [go_sem, rB, rA, rS]
   refine post2 ?_
   simp -implicitDefEqProofs only [go_sem, rB, rA, rS]
   exact hR h4 hr4
theorem one51_b (src : Src) (f : Fn) (hsrc : src.funcs = [f]) (hf : f.Short) (hsl0 : (scF src f).slots.length ≤ 100000) (n : Nat) (ihL : ∀ m, m < n → LOk src f m) (ihW : ∀ m, m < n → WOk src f m) : ∀ (r : RS) (sl : List Int) (x : St) (q : RS × List Int × Int) (h : Heap) (idr : Nat) (ids : List Nat) (bv : V) (R : V → Heap → Prop), x.kind ≥ 8 → ¬ x.kind ≤ 10 → Okx (scF src f) x → Fit (scF src f) r sl → exO (scF src f) n r sl x = some q → RunH h idr src ids bv r → (∀ h2, RunH h2 idr src ids bv q.1 → R (.tup [intsV q.2.1, .int .i64 q.2.2]) h2) → Ret prog 51 [.ep idr 0 0, .int .i64 0, intsV sl, x.v] h R := by
 intro r sl x q h idr ids bv R hka hkb hx hfit hq hr hR
 have hcw := hx.1
 obtain ⟨lp, hw⟩ := id hcw
 have hcost := hw.1.facts.1
 obtain ⟨d, hflat, _, _, hsa⟩ := hx.2.1
 have hslen : sl.length ≤ 100000 := by rw [hfit.sl.len]; exact hsl0
 cases n with
 | zero => simp [exO] at hq
 | succ n =>
 have fin : ∀ (h2 : Heap) (r2 : RS) (sl2 : List Int) (e : Int), RunH h2 idr src ids bv r2 → some (r2, sl2, e) = some q → R (.tup [intsV sl2, .int .i64 e]) h2 := fun h2 r2 sl2 e hr2 he => by
  injection he with he
  have := hR h2 (by rw [← he]; exact hr2)
  rw [← he] at this
  exact this
 rw [exO] at hq
 have rest : ¬ (x.kind ≥ 8 ∧ x.kind ≤ 10) → (if (takeF r x.cost).fault ≠ 0 then some (takeF r x.cost, sl, 0) else if x.kind ≥ 12 then some (takeF r x.cost, sl, x.kind - 11) else if x.kind = 7 ∨ x.kind = 11 then exL (scF src f) n (ofF (scF src f) (takeF r x.cost) sl x.e).1 sl (pickF x (ofF (scF src f) (takeF r x.cost) sl x.e).2) else some ((plF (scF src f) (takeF r x.cost) sl x).1, (plF (scF src f) (takeF r x.cost) sl x).2, 0)) = some q := fun hk => by rw [if_neg hk] at hq; exact hq
 have rest := rest (fun hk => hkb hk.2)
 have ka : decide (x.kind ≥ 8) = true := by simpa using hka
 have kb : decide (x.kind ≤ 10) = false := by simpa using hkb
 refine Ret.by_text rfl rfl ?_
 simp -implicitDefEqProofs only [go_sem, rB, rA, rS, rL, a51, St.cellsOf_v, St.cs, ka, kb]
 intro g
 refine .inl (take68 hr x.cost ⟨hfit.l0, hfit.l1⟩ hcost _ fun h2 hr2 => ?_)
 simp -implicitDefEqProofs only [go_sem, rB, rA, rS]
 refine br_intro2 (fun c3 => ?_) (fun c3 => ?_)
 ·have e3 : (takeF r x.cost).fault ≠ 0 := by simpa using c3
  rw [if_pos e3] at rest
  simp -implicitDefEqProofs only [go_sem, rB, rA, rS, c3]
  refine post2 ?_
  simp -implicitDefEqProofs only [go_sem, rB, rA, rS]
  exact fin _ _ _ _ hr2 rest
 have e3 : (takeF r x.cost).fault = 0 := by simpa using c3
 rw [if_neg (by simpa using e3)] at rest
 simp -implicitDefEqProofs only [go_sem, rB, rA, rS, rL, c3]
 refine br_intro (fun c4 => ?_) (fun c4 => ?_)
 ·have e4 : x.kind ≥ 12 := by simpa using c4
  have hk14 := hw.1.facts.2.1
  rw [if_pos e4] at rest
  simp -implicitDefEqProofs only [go_sem, rB, rA, rS, rL, c4, wrap_in (n := x.kind - 11) (by omega)]
  refine post2 ?_
  simp -implicitDefEqProofs only [go_sem, rB, rA, rS]
  exact fin _ _ _ _ hr2 rest
 have e4 : ¬ x.kind ≥ 12 := by simpa using c4
 rw [if_neg e4] at rest
 have hfit2 := hfit.take hcost
 have choose : x.kind = 7 ∨ x.kind = 11 → Good (scF src f) x.e ∧ exL (scF src f) n (ofF (scF src f) (takeF r x.cost) sl x.e).1 sl (pickF x (ofF (scF src f) (takeF r x.cost) sl x.e).2) = some q := fun hh => by
  rw [if_pos hh] at rest
  refine ⟨?_, rest⟩
  cases hw.1 with
  | mk _ _ hc hk hB h13 h2 h4 h5 h6 hg h8 h9 h11 body els arms => exact hg (by omega)
 simp -implicitDefEqProofs only [go_sem, rB, rA, rS, rL, c4]
 refine br_intro (fun c5 => ?seven) (fun c5 => ?other)
 case' seven =>
  have e5 : x.kind = 7 := by simpa using c5
  obtain ⟨gx, hq⟩ := choose (.inl e5)
  have hk7 : (x.kind == 7) = true := c5
  have hbar : x.arms = [] := hw.1.facts.2.2.1.2.2 (by omega)
  simp -implicitDefEqProofs only [go_sem, rB, rA, rS, rL, c5, Ex.fold]
  refine .inl (of69 src f hsrc hf hr2 sl hfit2 x.e gx _ fun h3 hr3 => ?_)
  have hfit3 := hfit2.of x.e
  generalize hp : ofF (scF src f) (takeF r x.cost) sl x.e = p at hr3 hfit3 hq ⊢
  obtain ⟨r3, v⟩ := p
  simp only [] at hr3 hfit3 hq
  simp -implicitDefEqProofs only [go_sem, rB, rA, rS, rL, c5]
  rw [pickF_eq] at hq
  refine br_intro (fun c6 => ?yes) (fun c6 => ?no)
  case' yes =>
   have e6 : v = 1 := by simpa using c6
   rw [if_pos ⟨e5, e6⟩] at hq
   have hOk : Okl (scF src f) (pickAs v x.arms x.body) := by have := hx.pick v; rw [pickF_eq, if_pos ⟨e5, e6⟩] at this; exact this
   obtain ⟨b0, hb0⟩ : ∃ b0, b0 = x.body := ⟨_, rfl⟩
   simp -implicitDefEqProofs only [go_sem, rB, rA, rS, rL, c6]
  case' no =>
   have e6 : ¬ v = 1 := by simpa using c6
   rw [if_neg (fun hh => e6 hh.2)] at hq
   have hOk : Okl (scF src f) (pickAs v x.arms x.els) := by have := hx.pick v; rw [pickF_eq, if_neg (fun hh => e6 hh.2)] at this; exact this
   obtain ⟨b0, hb0⟩ : ∃ b0, b0 = x.els := ⟨_, rfl⟩
   simp -implicitDefEqProofs only [go_sem, rB, c6]
 case' other =>
  have e5 : ¬ x.kind = 7 := by simpa using c5
  simp -implicitDefEqProofs only [go_sem, rB, rA, rS, rL, c5]
  refine br_intro (fun c6 => ?kase) (fun c6 => ?plain)
  case' plain =>
   have e6 : ¬ x.kind = 11 := by simpa using c6
   rw [if_neg (by simp [e5, e6])] at rest
   simp -implicitDefEqProofs only [go_sem, rB, rA, rS, rL, c6, St.fold]
   refine .inl (plain70 src f hsrc hf hr2 e3 sl hfit2 hslen x hflat.al hw.1 (by omega) _ fun h3 hr3 => ?_)
   simp -implicitDefEqProofs only [go_sem, rB, rA, rS]
   refine post2 ?_
   simp -implicitDefEqProofs only [go_sem, rB, rA, rS]
   exact fin _ _ _ _ hr3 rest
  case' kase =>
   have e6 : x.kind = 11 := by simpa using c6
   obtain ⟨gx, hq⟩ := choose (.inr e6)
   simp -implicitDefEqProofs only [go_sem, rB, rA, rS, rL, c6, Ex.fold]
   refine .inl (of69 src f hsrc hf hr2 sl hfit2 x.e gx _ fun h3 hr3 => ?_)
   have hfit3 := hfit2.of x.e
   generalize hp : ofF (scF src f) (takeF r x.cost) sl x.e = p at hr3 hfit3 hq ⊢
   obtain ⟨r3, v⟩ := p
   simp only [] at hr3 hfit3 hq
   rw [pickF_eq, if_neg (fun hh => e5 hh.1)] at hq
   have hOk : Okl (scF src f) (pickAs v x.arms x.els) := by have := hx.pick v; rw [pickF_eq, if_neg (fun hh => e5 hh.1)] at this; exact this
   obtain ⟨b0, hb0⟩ : ∃ b0, b0 = x.els := ⟨_, rfl⟩
   simp -implicitDefEqProofs only [go_sem, rB, rA, rS, rL, c5]
 all_goals
  rw [← hb0] at hq hOk
  refine Loop.rec (α := Nat × List St) (fun k => x.arms.length - k.1) (fun k => ⟨E 114 [(0, .ep idr 0 0), (1, .int .i64 0), (2, intsV sl), (7, .lp 7 g 0), (10, .int .i64 v), (11, stsV k.2), (12, .int .i64 k.1)], B 114 [(7, some (g, x.cs))], h3⟩)
   (fun k => k.1 ≤ x.arms.length ∧ pickAs v (x.arms.drop k.1) k.2 = pickAs v x.arms b0) ?_ (0, b0) ⟨Nat.zero_le _, rfl⟩ (by rw [hb0]; rfl)
  rintro ⟨k, b⟩ ⟨hk, hpk⟩ hrec
  simp only [] at hk hpk
  simp -implicitDefEqProofs only [go_sem, rB, rA, rS, rL, St.cs]
  refine br_intro (fun d1 => ?_) (fun d1 => ?_)
  ·have d2 : k < x.arms.length := by simpa using d1
   have hrl := hflat.rl
   obtain ⟨a, ha⟩ : ∃ a, x.arms[k]? = some a := ⟨_, lG d2⟩
   have hla := (hsa a (lM ha)).1
   rw [pickAs_at ha] at hpk
   simp -implicitDefEqProofs only [go_sem, rB, d1]
   refine Loop.rec (α := Nat × List St) (fun j => a.labels.length - j.1) (fun j => ⟨E 114 [(0, .ep idr 0 0), (1, .int .i64 0), (2, intsV sl), (7, .lp 7 g 0), (10, .int .i64 v), (11, stsV j.2), (12, .int .i64 k), (13, .int .i64 j.1)], B 114 [(7, some (g, x.cs))], h3⟩)
    (fun j => j.1 ≤ a.labels.length ∧ pickAs v (x.arms.drop (k + 1)) (pickL v a (a.labels.drop j.1) j.2) = pickAs v x.arms b0) ?_ (0, b) ⟨Nat.zero_le _, hpk⟩ rfl
   rintro ⟨j, b⟩ ⟨hj, hpj⟩ hrec2
   simp only [] at hj hpj
   simp -implicitDefEqProofs only [go_sem, rB, rA, rS, rL, St.cs, ha, Am.cells_eq]
   refine br_intro (fun d3 => ?_) (fun d3 => ?_)
   ·have d4 : j < a.labels.length := by simpa using d3
    obtain ⟨y, hy⟩ : ∃ y, a.labels[j]? = some y := ⟨_, lG d4⟩
    rw [pickL_at hy] at hpj
    simp -implicitDefEqProofs only [go_sem, rB, rA, rS, rL, d3, ha, Am.cells_eq, hy, intC]
    refine br_intro (fun d5 => ?_) (fun d5 => ?_)
    ·rw [if_pos (by simpa using d5)] at hpj
     simp -implicitDefEqProofs only [go_sem, rB, rA, rS, rL, d5, ha, Am.cells_eq, wrap_succ (show j < 9223372036854775807 by omega)]
     exact hrec2 (j + 1, a.body) (by simp only []; omega) ⟨by simp only []; omega, hpj⟩
    ·rw [if_neg (by simpa using d5)] at hpj
     simp -implicitDefEqProofs only [go_sem, rB, rA, rS, d5, wrap_succ (show j < 9223372036854775807 by omega)]
     exact hrec2 (j + 1, b) (by simp only []; omega) ⟨by simp only []; omega, hpj⟩
   ·have e7 : a.labels.drop j = [] := List.drop_eq_nil_of_le (by simp at d3; omega)
    rw [e7] at hpj
    simp -implicitDefEqProofs only [go_sem, rB, rA, rS, d3, wrap_succ (show k < 9223372036854775807 by omega)]
    exact hrec (k + 1, b) (by simp only []; omega) ⟨by simp only []; omega, hpj⟩
  ·have e7 : x.arms.drop k = [] := List.drop_eq_nil_of_le (by simp at d1; omega)
   rw [e7] at hpk
   have hpk : b = pickAs v x.arms b0 := hpk
   rw [← hpk] at hq hOk
   simp -implicitDefEqProofs only [go_sem, rB, rA, rS, d1]
   refine .inl (ihL n (by omega) r3 sl b q h3 idr ids bv _ hOk hfit3 hq hr3 fun h4 hr4 => ?_)
   simp -implicitDefEqProofs only [go_sem, rB, rA, rS]
   refine post2 ?_
   simp -implicitDefEqProofs only [go_sem, rB, rA, rS]
   exact hR h4 hr4
theorem one51 (src : Src) (f : Fn) (hsrc : src.funcs = [f]) (hf : f.Short) (hsl0 : (scF src f).slots.length ≤ 100000) (n : Nat) (ihL : ∀ m, m < n → LOk src f m) (ihW : ∀ m, m < n → WOk src f m) : OOk src f n := by
 intro r sl x q h idr ids bv R hx hfit hq hr hR
 by_cases h8 : x.kind ≥ 8
 ·by_cases h10 : x.kind ≤ 10
  ·cases n with
   | zero => simp [exO] at hq
   | succ n =>
   rw [exO, if_pos ⟨h8, h10⟩] at hq
   refine Ret.by_text rfl rfl ?_
   simp -implicitDefEqProofs only [go_sem, rB, rA, rS, rL, a51, St.cellsOf_v, St.cs, show decide (x.kind ≥ 8) = true by simpa using h8, show decide (x.kind ≤ 10) = true by simpa using h10, St.fold]
   intro g
   refine .inl (ihW n (by omega) r sl x q h idr ids bv _ hx ⟨h8, h10⟩ hfit hq hr fun h2 hr2 => ?_)
   simp -implicitDefEqProofs only [go_sem, rB, rA, rS]
   refine post2 ?_
   simp -implicitDefEqProofs only [go_sem, rB, rA, rS]
   exact hR h2 hr2
  ·exact one51_b src f hsrc hf hsl0 n ihL ihW r sl x q h idr ids bv R h8 h10 hx hfit hq hr hR
 ·exact one51_a src f hsrc hf hsl0 n ihL ihW r sl x q h idr ids bv R h8 hx hfit hq hr hR
theorem run_ok (src : Src) (f : Fn) (hsrc : src.funcs = [f]) (hf : f.Short) (hsl0 : (scF src f).slots.length ≤ 100000) (n : Nat) : LOk src f n ∧ OOk src f n ∧ WOk src f n := by
 induction n using Nat.strongRecOn with
 | ind n ih => exact ⟨list28 src f n fun m hm => (ih m hm).2.1, one51 src f hsrc hf hsl0 n (fun m hm => (ih m hm).1) (fun m hm => (ih m hm).2.2), loop67 src f hsrc hf n fun m hm => (ih m hm).1⟩
end TryzT
end Go.Abs
namespace Go.Abs
open Go
namespace TryzT
def GPn (s : Sc) (g : List Ev) : Nat → Int → RS → List Int → RS → List Int → Prop
 | 0, _, _, _, _, _ => False
 | n + 1, i, r, sl, rf, slf => (r.fault ≠ 0 ∧ rf = r ∧ slf = sl) ∨ (r.fault = 0 ∧ ∃ (k : Nat) (x : Ev), i = k ∧ g[k]? = some x ∧ (
   (x.s.kind ≤ 6 ∧ ∃ j r2 sl2 e N, x.next = [j] ∧ exL s N r sl [x.s] = some (r2, sl2, e) ∧ (x.s.cost ≠ 0 ∨ i ≠ j) ∧ GPn s g n j r2 sl2 rf slf)
   ∨ (6 < x.s.kind ∧ x.s.cost > r.left ∧ rf = { r with fault := 1 } ∧ slf = sl)
   ∨ (x.s.kind = 14 ∧ ¬ x.s.cost > r.left ∧ rf = { r with left := r.left - x.s.cost } ∧ slf = sl)
   ∨ ((x.s.kind = 7 ∨ x.s.kind = 11) ∧ ¬ x.s.cost > r.left ∧ Good s x.s.e ∧ ∃ j, selF x.s.kind (evalF s r.x sl x.s.e).1 x.next = some j ∧ GPn s g n j { r with left := r.left - x.s.cost, fault := (evalF s r.x sl x.s.e).2 } sl rf slf)))
theorem GP.steps {s : Sc} {g : List Ev} {i : Int} {r rf : RS} {sl slf : List Int} (h : GP s g i r sl rf slf) : ∃ n, GPn s g n i r sl rf slf := by
 induction h with
 | stop i r sl h0 => exact ⟨1, .inl ⟨h0, rfl, rfl⟩⟩
 | plain i x j r r2 rf sl sl2 slf e n hx hk hn h0 hq hself h ih =>
  obtain ⟨m, hm⟩ := ih
  exact ⟨m + 1, .inr ⟨h0, i, x, rfl, hx, .inl ⟨hk, j, r2, sl2, e, n, hn, hq, hself, hm⟩⟩⟩
 | low i x r sl hx hk h0 hc => exact ⟨1, .inr ⟨h0, i, x, rfl, hx, .inr (.inl ⟨hk, hc, rfl, rfl⟩)⟩⟩
 | ret i x r sl hx hk h0 hc => exact ⟨1, .inr ⟨h0, i, x, rfl, hx, .inr (.inr (.inl ⟨hk, hc, rfl, rfl⟩))⟩⟩
 | test i x j r rf sl slf hx hk h0 hc hg hj h ih =>
  obtain ⟨m, hm⟩ := ih
  exact ⟨m + 1, .inr ⟨h0, i, x, rfl, hx, .inr (.inr (.inr ⟨hk, hc, hg, j, hj, hm⟩))⟩⟩
theorem exL_same {s : Sc} {n m : Nat} {r : RS} {sl : List Int} {l : List St} {p q : RS × List Int × Int} (h1 : exL s n r sl l = some p) (h2 : exL s m r sl l = some q) : p = q := by
 have h3 := exL_le s (Nat.le_max_left n m) h1
 have h4 := exL_le s (Nat.le_max_right n m) h2
 rw [h3] at h4
 injection h4
theorem skip_one (src : Src) (f : Fn) (hsrc : src.funcs = [f]) (hf : f.Short) {h : Heap} {idr : Nat} {ids : List Nat} {bv : V} {r : RS} (hr : RunH h idr src ids bv r) (sl : List Int) (hfit : Fit (scF src f) r sl) (c : Int) (hc : 0 ≤ c) (R : V → Heap → Prop)
  (hR : ∀ h2, RunH h2 idr src ids bv (takeF r c) → R (.tup [intsV sl, .int .i64 0]) h2) : Ret prog 51 [.ep idr 0 0, .int .i64 0, intsV sl, (zeroS 0 c).v] h R := by
 refine Ret.by_text rfl rfl ?_
 have k0 : (zeroS 0 c).kind = 0 := rfl
 have kc : (zeroS 0 c).cost = c := rfl
 simp -implicitDefEqProofs only [go_sem, rB, rA, rS, rL, jL, a51, St.cellsOf_v, St.cs, k0, kc, ge_iff_le, jL, decide_false]
 intro g
 refine .inl (take68 hr c ⟨hfit.l0, hfit.l1⟩ hc _ fun h2 hr2 => ?_)
 simp -implicitDefEqProofs only [go_sem, rB, rA, rS]
 refine br_intro2 (fun c3 => ?_) (fun c3 => ?_)
 ·simp -implicitDefEqProofs only [go_sem, rB, rA, rS, c3]
  refine post2 ?_
  simp -implicitDefEqProofs only [go_sem, rB, rA, rS]
  exact hR h2 hr2
 have e3 : (takeF r c).fault = 0 := by simpa using c3
 simp -implicitDefEqProofs only [go_sem, rB, rA, rS, rL, jL, c3, ge_iff_le, jL, decide_false, jB]
 refine .inl (pl_0 src f hr2 e3 sl (zeroS 0 c) rfl _ fun h3 hr3 => ?_)
 rw [plF_zero] at hr3
 simp -implicitDefEqProofs only [go_sem, rB, rA, rS, plF_zero]
 refine post2 ?_
 simp -implicitDefEqProofs only [go_sem, rB, rA, rS]
 exact hR h3 hr3
theorem skip_list (src : Src) (f : Fn) (hsrc : src.funcs = [f]) (hf : f.Short) {h : Heap} {idr : Nat} {ids : List Nat} {bv : V} {r : RS} (hr : RunH h idr src ids bv r) (h0 : r.fault = 0) (sl : List Int) (hfit : Fit (scF src f) r sl) (c : Int) (hc : 0 ≤ c) (R : V → Heap → Prop)
  (hR : ∀ h2, RunH h2 idr src ids bv (takeF r c) → R (.tup [intsV sl, .int .i64 0]) h2) : Ret prog 28 [.ep idr 0 0, .int .i64 0, intsV sl, stsV [zeroS 0 c]] h R := by
 have hb := hr.box'
 refine Ret.by_text rfl rfl ?_
 simp -implicitDefEqProofs only [go_sem, rB, rA, a28]
 refine Loop.step ?_
 simp -implicitDefEqProofs only [go_sem, rB, rA, rS, rL, jL, jN, stsV, lt01, hb, h0, St.cells_cs, St.cs, jB, St.fold]
 refine .inl (skip_one src f hsrc hf hr sl hfit c hc _ fun h2 hr2 => ?_)
 have hb2 := hr2.box'
 simp -implicitDefEqProofs only [go_sem, rB, rA, rS, bne_self_eq_false, show IntKind.i64.wrap (0 + 1) = 1 from rfl]
 refine Loop.step ?_
 simp -implicitDefEqProofs only [go_sem, rB, rA, rS, lt11]
 refine post2 ?_
 simp -implicitDefEqProofs only [go_sem, rB, rA, rS]
 exact hR h2 hr2
theorem grun30 (src : Src) (f : Fn) (hsrc : src.funcs = [f]) (hf : f.Short) (hsl0 : (scF src f).slots.length ≤ 100000) (g : List Ev) (hg : InvE (scF src f) g.length g) (hgl : g.length ≤ 1000000) {h : Heap} {idr : Nat} {ids : List Nat} {bv : V} {r rf : RS} {sl slf : List Int} (hr : RunH h idr src ids bv r) (hfit : Fit (scF src f) r sl) (hgp : GP (scF src f) g 0 r sl rf slf) (R : V → Heap → Prop) (hR : ∀ h2, RunH h2 idr src ids bv rf → R (intsV slf) h2) : Ret prog 30 [.ep idr 0 0, (scF src f).v, evsV g, intsV sl] h R := by
 obtain ⟨n, hn⟩ := hgp.steps
 refine Ret.by_text rfl rfl ?_
 simp -implicitDefEqProofs only [go_sem, rB, rA, rS, a30, Sc.cellsOf_v, Sc.cs]
 intro g5
 refine Loop.rec (α := Nat × Nat × Heap × RS × List Int) (fun k => k.1) (fun k => ⟨E 132 [(0, .ep idr 0 0), (2, evsV g), (3, intsV k.2.2.2.2), (5, .lp 5 g5 0), (9, .int .i64 k.2.1)], B 132 [(5, some (g5, (scF src f).cs))], k.2.2.1⟩)
  (fun k => GPn (scF src f) g k.1 k.2.1 k.2.2.2.1 k.2.2.2.2 rf slf ∧ RunH k.2.2.1 idr src ids bv k.2.2.2.1 ∧ Fit (scF src f) k.2.2.2.1 k.2.2.2.2) ?_ (n, 0, h, r, sl) ⟨hn, hr, hfit⟩ rfl
 rintro ⟨m, i, h1, r1, sl1⟩ ⟨hm, hr1, hfit1⟩ hrec
 simp only [] at hm hr1 hfit1
 have hb := hr1.box'
 cases m with
 | zero => exact hm.elim
 | succ m =>
 have fin : ∀ (h2 : Heap) (r2 : RS) (sl2 : List Int), RunH h2 idr src ids bv r2 → rf = r2 → slf = sl2 → R (intsV sl2) h2 := fun h2 r2 sl2 hr2 e1 e2 => by
  have := hR h2 (by rw [e1]; exact hr2)
  rw [e2] at this
  exact this
 simp -implicitDefEqProofs only [go_sem, rB, rA, rS, rL, hb]
 refine br_intro (fun c1 => ?_) (fun c1 => ?_)
 case' refine_2 =>
  have e1 : r1.fault ≠ 0 := by simpa using c1
  have hm2 : rf = r1 ∧ slf = sl1 := by
   rcases hm with ⟨_, e2, e3⟩ | ⟨h0, _⟩
   ·exact ⟨e2, e3⟩
   ·exact absurd h0 e1
  simp -implicitDefEqProofs only [go_sem, rB, rA, rS, c1]
  refine post1 ?_
  simp -implicitDefEqProofs only [go_sem, rB, rA, rS]
  exact fin h1 r1 sl1 hr1 hm2.1 hm2.2
 have h0 : r1.fault = 0 := by simpa using c1
 obtain ⟨k, x, hik, hx, hcase⟩ : ∃ (k : Nat) (x : Ev), (i : Int) = k ∧ g[k]? = some x ∧ (
   (x.s.kind ≤ 6 ∧ ∃ j r2 sl2 e N, x.next = [j] ∧ exL (scF src f) N r1 sl1 [x.s] = some (r2, sl2, e) ∧ (x.s.cost ≠ 0 ∨ (i : Int) ≠ j) ∧ GPn (scF src f) g m j r2 sl2 rf slf)
   ∨ (6 < x.s.kind ∧ x.s.cost > r1.left ∧ rf = { r1 with fault := 1 } ∧ slf = sl1)
   ∨ (x.s.kind = 14 ∧ ¬ x.s.cost > r1.left ∧ rf = { r1 with left := r1.left - x.s.cost } ∧ slf = sl1)
   ∨ ((x.s.kind = 7 ∨ x.s.kind = 11) ∧ ¬ x.s.cost > r1.left ∧ Good (scF src f) x.s.e ∧ ∃ j, selF x.s.kind (evalF (scF src f) r1.x sl1 x.s.e).1 x.next = some j ∧ GPn (scF src f) g m j { r1 with left := r1.left - x.s.cost, fault := (evalF (scF src f) r1.x sl1 x.s.e).2 } sl1 rf slf)) := by
  rcases hm with ⟨e1, _⟩ | ⟨_, hh⟩
  ·exact absurd h0 e1
  ·exact hh
 have hik : k = i := by omega
 rw [hik] at hx
 have hev := hg x (lM hx)
 have hl0 := hfit1.l0
 have hl1 := hfit1.l1
 have hcost := hev.cost
 simp -implicitDefEqProofs only [go_sem, rB, rA, rS, rL, c1, evsV, hx, Ev.cells_cs, Ev.cs]
 intro gx
 rcases hcase with ⟨k6, j, r2, sl2, e, N, hnx, hq, hself, hgo⟩ | hcase
 ·-- a plain one
  have c2 : decide (x.s.kind ≤ 6) = true := by simpa using k6
  obtain ⟨jn, hjn⟩ : ∃ jn : Nat, j = jn := ⟨j.toNat, by have := (hev.next j (by rw [hnx]; exact lC)).1; omega⟩
  have hx0 : x.next[0]? = some (jn : Int) := by rw [hnx, ← hjn]; rfl
  have hL : Fit (scF src f) r2 sl2 ∧ ∀ R', (∀ h2, RunH h2 idr src ids bv r2 → R' (.tup [intsV sl2, .int .i64 e]) h2) → Ret prog 28 [.ep idr 0 0, .int .i64 0, intsV sl1, stsV [x.s]] h1 R' := by
   rcases hev.ok k6 with hz | hok
   ·rw [hz] at hq ⊢
    have := exL_same hq (exL_skip (scF src f) r1 sl1 x.s.cost h0)
    injection this with e1 e2
    injection e2 with e2 e3
    rw [e1, e2, e3]
    exact ⟨hfit1.take hcost, fun R' hR' => skip_list src f hsrc hf hr1 h0 sl1 hfit1 x.s.cost hcost R' hR'⟩
   ·have hOk : Okl (scF src f) [x.s] := by
     obtain ⟨q1, ⟨d, q2⟩, q3⟩ := hok
     exact ⟨fun y hy => by rw [List.mem_singleton.1 hy]; exact q1, ⟨d + 1, fun y hy => by rw [List.mem_singleton.1 hy]; exact q2⟩, by simp [cntL]; omega⟩
    exact ⟨((ex_keep (scF src f) N).1 _ _ _ _ hOk.1 hfit1 hq).1, fun R' hR' => (run_ok src f hsrc hf hsl0 N).1 r1 sl1 [x.s] (r2, sl2, e) h1 idr ids bv R' hOk hfit1 hq hr1 hR'⟩
  obtain ⟨hfit2, hL⟩ := hL
  have hfl : (x.s.cost == 0) = false ∨ (x.s.cost == 0) = true ∧ ((i : Int) == jn) = false := by
   rcases hself with h | h
   ·exact .inl (by simpa using h)
   ·by_cases hz : x.s.cost = 0
    ·exact .inr ⟨by simpa using hz, by rw [hjn] at h; simpa using h⟩
    ·exact .inl (by simpa using hz)
  simp -implicitDefEqProofs only [go_sem, rB, rA, rS, rM, rL, c2]
  intro idb hidb
  refine callOk_froze (P := fun _ => True) (us := [.ep idr 0 0, .int .i64 0, intsV sl1, stsV [x.s]]) (fun j => j = idb) h1 (.cons (.same _) (.cons (.same _) (.cons (.same _) (.cons (Frz.whole rfl ((upd_self _ _ _).trans (by rw [List.map_cons, List.map_nil, St.cells_cs]; rfl)) rfl) .nil)))) (fun a b ha => by rw [upd_other _ _ (ne_of_some ha hidb)]; exact ha) (fun a ha => by rw [ha]; exact hidb) (hL _ fun h2 hr2 => ?_)
  have hb2 := hr2.box'
  simp -implicitDefEqProofs only [go_sem, rB, rA, rS, rL]
  have back := hrec (m, jn, h2, r2, sl2) (by simp only []; omega) ⟨by rw [← hjn]; exact hgo, hr2, hfit2⟩
  rcases hfl with c3 | ⟨c3, c5⟩
  ·simp -implicitDefEqProofs only [go_sem, rB, rA, rS, rL, jL, jN, c3, hx0, intC]
   exact back
  ·simp -implicitDefEqProofs only [go_sem, rB, rA, rS, rL, c3, hb2]
   refine br_intro (fun c4 => ?_) (fun c4 => ?_)
   all_goals
    simp -implicitDefEqProofs only [go_sem, rB, rA, rS, rL, jL, jN, c4, c5, hx0, intC]
    exact back
 have k6 : ¬ x.s.kind ≤ 6 := by
  rcases hcase with h | h | h
  ·omega
  ·omega
  ·omega
 have c2 : decide (x.s.kind ≤ 6) = false := by simpa using k6
 simp -implicitDefEqProofs only [go_sem, rB, rA, rS, rL, c2, hb]
 refine br_intro (fun c3 => ?_) (fun c3 => ?_)
 case' refine_1 =>
  have e3 : x.s.cost > r1.left := by simpa using c3
  have hm2 : rf = { r1 with fault := 1 } ∧ slf = sl1 := by
   rcases hcase with ⟨_, _, e2, e4⟩ | ⟨_, h, _⟩ | ⟨_, h, _⟩
   ·exact ⟨e2, e4⟩
   ·exact absurd e3 h
   ·exact absurd e3 h
  simp -implicitDefEqProofs only [go_sem, rB, rA, rS, rL, c3, hb]
  refine post1 ?_
  simp -implicitDefEqProofs only [go_sem, rB, rA, rS]
  exact fin _ { r1 with fault := 1 } sl1 (hr1.set (r2 := { r1 with fault := 1 }) rfl rfl) hm2.1 hm2.2
 have e3 : ¬ x.s.cost > r1.left := by simpa using c3
 have hr2 : ∀ {c : List (List V)}, c = [runC src ids bv { r1 with left := r1.left - x.s.cost }] → RunH (h1.upd idr (some (.arr 9 c))) idr src ids bv { r1 with left := r1.left - x.s.cost } := fun hc => hr1.set (r2 := { r1 with left := r1.left - x.s.cost }) rfl hc
 simp -implicitDefEqProofs only [go_sem, rB, rA, rS, rL, c3, hb, wrap_in (n := r1.left - x.s.cost) (by omega)]
 refine br_intro (fun c4 => ?_) (fun c4 => ?_)
 case' refine_1 =>
  have e4 : x.s.kind = 14 := by simpa using c4
  have hm2 : rf = { r1 with left := r1.left - x.s.cost } ∧ slf = sl1 := by
   rcases hcase with ⟨_, h, _⟩ | ⟨_, _, e2, e5⟩ | ⟨h, _⟩
   ·exact absurd h e3
   ·exact ⟨e2, e5⟩
   ·omega
  simp -implicitDefEqProofs only [go_sem, rB, rA, rS, c4]
  refine post1 ?_
  simp -implicitDefEqProofs only [go_sem, rB, rA, rS]
  exact fin _ _ sl1 (hr2 rfl) hm2.1 hm2.2
 have e4 : ¬ x.s.kind = 14 := by simpa using c4
 obtain ⟨hk, hgd, j, hj, hgo⟩ : (x.s.kind = 7 ∨ x.s.kind = 11) ∧ Good (scF src f) x.s.e ∧ ∃ j, selF x.s.kind (evalF (scF src f) r1.x sl1 x.s.e).1 x.next = some j ∧ GPn (scF src f) g m j { r1 with left := r1.left - x.s.cost, fault := (evalF (scF src f) r1.x sl1 x.s.e).2 } sl1 rf slf := by
  rcases hcase with ⟨_, h, _⟩ | ⟨h, _⟩ | ⟨h1, _, h2, h3⟩
  ·exact absurd h e3
  ·exact absurd h e4
  ·exact ⟨h1, h2, h3⟩
 clear hcase
 have hev1 := (evalF_spec (scF src f) r1.x sl1 hfit1.st hfit1.sl x.s.e hgd).1
 obtain ⟨v, fl, hvf⟩ : ∃ v fl, evalF (scF src f) r1.x sl1 x.s.e = (v, fl) := ⟨_, _, rfl⟩
 rw [hvf] at hj hgo hev1
 simp only [] at hj hgo hev1
 have hrf : Frz _ (StOwn ids bv) (.agg (stC ids bv r1.x)) r1.x.v := (hr2 rfl).st.frz
 simp -implicitDefEqProofs only [go_sem, rB, rA, rS, rL, c4, upd_self, Ex.fold, Sc.cs]
 refine callPure_frz (us := [(scF src f).v, r1.x.v, intsV sl1, x.s.e.v]) (StOwn ids bv) (.cons (.same _) (.cons hrf (.cons (.same _) (.cons (.same _) .nil)))) hev1 ?_
 rintro u rfl
 refine ⟨flat_ints _ _, ?_⟩
 obtain ⟨jn, hjn⟩ : ∃ jn : Nat, j = jn := ⟨j.toNat, by have := (hev.next j (lM hj)).1; omega⟩
 rw [hjn] at hj hgo
 obtain ⟨v1, hv1⟩ : ∃ v1, v1 = (if x.s.kind = 7 then IntKind.i64.wrap (1 - v) else v) := ⟨_, rfl⟩
 unfold selF at hj
 simp only [] at hj
 rw [← hv1] at hj
 have hpos : 0 < x.next.length := by
  rcases Nat.eq_zero_or_pos x.next.length with h | h
  ·rw [List.eq_nil_of_length_eq_zero h] at hj
   simp at hj
  ·exact h
 have hfew := hev.few
 have hwl : IntKind.i64.wrap ((x.next.length : Int) - 1) = ((x.next.length - 1 : Nat) : Int) := by rw [wrap_in (by omega)]; omega
 have hr3 : ∀ {c : List (List V)}, c = [runC src ids bv { r1 with left := r1.left - x.s.cost, fault := fl }] → RunH (h1.upd idr (some (.arr 9 c))) idr src ids bv { r1 with left := r1.left - x.s.cost, fault := fl } := fun hc => hr1.set (r2 := { r1 with left := r1.left - x.s.cost, fault := fl }) rfl hc
 have hfit3 : Fit (scF src f) { r1 with left := r1.left - x.s.cost, fault := fl } sl1 := ⟨hfit1.st, hfit1.sl, by show 0 ≤ r1.left - x.s.cost; omega, by show r1.left - x.s.cost ≤ 1048576; omega, hfit1.sh⟩
 have back := hrec (m, jn, h1.upd idr (some (.arr 9 [runC src ids bv { r1 with left := r1.left - x.s.cost, fault := fl }])), { r1 with left := r1.left - x.s.cost, fault := fl }, sl1) (by simp only []; omega) ⟨hgo, hr3 rfl, hfit3⟩
 simp -implicitDefEqProofs only [go_sem, rB, rA, rS, rL, upd_self, upd_upd]
 refine br_intro (fun c5 => ?_) (fun c5 => ?_)
 case' refine_1 =>
  have e5 : IntKind.i64.wrap (1 - v) = v1 := by rw [hv1, if_pos (by simpa using c5)]
  simp -implicitDefEqProofs only [go_sem, rB, rA, rS, c5, e5]
 case' refine_2 =>
  have e5 : v = v1 := by rw [hv1, if_neg (by simpa using c5)]
  simp -implicitDefEqProofs only [go_sem, rB, rA, rS, c5, e5]
 all_goals
  refine br_intro (fun c6 => ?_) (fun c6 => ?_)
  ·have e6 : v1 < 0 := by simpa using c6
   rw [if_pos (.inl e6)] at hj
   simp -implicitDefEqProofs only [go_sem, rB, rA, rS, rL, c6, hwl, hj, intC]
   exact back
  simp -implicitDefEqProofs only [go_sem, rB, rA, rS, rL, c6]
  refine br_intro (fun c7 => ?_) (fun c7 => ?_)
  ·have e7 : v1 ≥ (x.next.length : Int) := by simpa using c7
   rw [if_pos (.inr e7)] at hj
   simp -implicitDefEqProofs only [go_sem, rB, rA, rS, rL, c7, hwl, hj, intC]
   exact back
  ·have e6 : ¬ v1 < 0 := by simpa using c6
   have e7 : ¬ v1 ≥ (x.next.length : Int) := by simpa using c7
   rw [if_neg (by omega)] at hj
   have f0 : (0 ≤ v1) = True := eq_true (by omega)
   simp -implicitDefEqProofs only [go_sem, rB, rA, rS, rL, c7, f0, hj, intC]
   exact back
end TryzT
end Go.Abs
namespace Go.Abs
open Go
namespace TryzT
theorem beginV_get {vs : List Vr} {xs : List (List Int)} (hl : xs.length = vs.length) : ∀ (ins : List Int) (i : Nat) (l2 : List Int), (beginV vs xs ins)[i]? = some l2 → ∃ v l ins2, vs[i]? = some v ∧ xs[i]? = some l ∧ l2 = (if v.area = 1 then fillIn v.t l ins2 else l) := by
 induction vs generalizing xs with
 | nil =>
  intro ins i l2 h
  have : xs = [] := List.eq_nil_of_length_eq_zero (by simpa using hl)
  subst this
  simp [beginV] at h
 | cons v vs ih =>
  intro ins i l2 h
  cases xs with
  | nil => simp at hl
  | cons l xs =>
   have hl : xs.length = vs.length := by simpa using hl
   rw [beginV] at h
   cases i with
   | zero =>
    refine ⟨v, l, ins, rfl, rfl, ?_⟩
    split at h
    ·rename_i ha
     simp at h
     rw [← h, if_pos ha]
    ·rename_i ha
     simp at h
     rw [← h, if_neg ha]
   | succ i =>
    split at h <;> rw [List.getElem?_cons_succ] at h
    ·exact ih hl _ i l2 h
    ·exact ih hl _ i l2 h
theorem beginV_len {vs : List Vr} {xs : List (List Int)} (hl : xs.length = vs.length) : ∀ (ins : List Int), (beginV vs xs ins).length = xs.length := by
 induction vs generalizing xs with
 | nil => intro ins; cases xs <;> rfl
 | cons v vs ih =>
  intro ins
  cases xs with
  | nil => simp at hl
  | cons l xs =>
   have hl : xs.length = vs.length := by simpa using hl
   rw [beginV]
   split <;> simp [ih hl]
theorem fillIn_bit {t : Int} (ht : t = 1) : ∀ (l ins : List Int), ∀ y ∈ fillIn t l ins, y = 0 ∨ y = 1
 | [], _, y, h => by cases h
 | _ :: l, ins, y, h => by
  rw [fillIn] at h
  rcases List.mem_cons.1 h with h | h
  ·rw [h]
   cases ins with
   | nil => exact .inl rfl
   | cons i ins => exact (wrapF_spec t i).2 ht
  ·exact fillIn_bit ht l _ y h
theorem inF_bit {y : Int} (h : inF 1 y = true) : y = 0 ∨ y = 1 := by
 simp [inF, lowF, highF, rightF] at h
 omega
theorem begin_fits (vs : List Vr) (bs : List Bk) (f : Fn) (st : Sta) (ins : List Int) (hS : StShort st) (hF : StFits vs bs st) (hb : ∀ b ∈ st.blocks, b.length = 10) (hn : ∀ v ∈ vs, 1 ≤ v.n) : FitsS (scF ⟨vs, bs, [f]⟩ f) (beginF vs st ins) ∧ StShort (beginF vs st ins) := by
 have hl := beginV_len hF.len ins
 have len : ∀ (i : Nat) (l2 : List Int), (beginV vs st.vars ins)[i]? = some l2 → ∃ v l ins2, vs[i]? = some v ∧ st.vars[i]? = some l ∧ l2 = (if v.area = 1 then fillIn v.t l ins2 else l) ∧ l2.length = l.length := by
  intro i l2 h
  obtain ⟨v, l, ins2, h1, h2, h3⟩ := beginV_get hF.len ins i l2 h
  refine ⟨v, l, ins2, h1, h2, h3, ?_⟩
  rw [h3]
  split
  ·exact fillIn_len _ _ _
  ·rfl
 refine ⟨⟨hl.trans hF.len, fun i l2 h => ?_, fun i v l2 h1 h2 ht y hy => ?_, hF.blen, hb⟩, by show (beginV vs st.vars ins).length ≤ 100; rw [hl]; exact hS.1, hS.2.1, fun l2 h => ?_⟩
 ·obtain ⟨v, l, ins2, h1, h2, h3, h4⟩ := len i l2 h
  have := (hF.var i v l h1 h2).1
  have := hn v (lM h1)
  omega
 ·obtain ⟨v2, l, ins2, h3, h4, h5, h6⟩ := len i l2 h2
  have h1 : vs[i]? = some v := h1
  rw [h1] at h3
  injection h3 with h3
  subst h3
  rw [h5] at hy
  split at hy
  ·exact fillIn_bit ht _ _ y hy
  ·have := (hF.var i v l h1 h4).2 y hy
   rw [ht] at this
   exact inF_bit this
 ·obtain ⟨i, hi, e⟩ := List.getElem_of_mem h
  obtain ⟨v, l, ins2, h1, h2, h3, h4⟩ := len i l2 (by rw [← e]; exact lG hi)
  rw [h4]
  exact hS.2.2 l (lM h2)
theorem zeros_fit (s : Sc) : FitsL s (List.replicate s.slots.length 0) :=
 ⟨by simp, fun i y _ h => by
  rw [List.getElem?_replicate] at h
  split at h
  ·injection h with h; exact .inl h.symm
  ·cases h⟩
theorem fit0 (vs : List Vr) (bs : List Bk) (f : Fn) (st : Sta) (ins : List Int) (hS : StShort st) (hF : StFits vs bs st) (hb : ∀ b ∈ st.blocks, b.length = 10) (hn : ∀ v ∈ vs, 1 ≤ v.n) (fuel : Int) (h0 : 0 ≤ fuel) (h1 : fuel ≤ 1048576) : Fit (scF ⟨vs, bs, [f]⟩ f) ⟨beginF vs st ins, fuel, 0⟩ (List.replicate (slotsF f).length 0) := by
 obtain ⟨q1, q2⟩ := begin_fits vs bs f st ins hS hF hb hn
 exact ⟨q1, zeros_fit (scF ⟨vs, bs, [f]⟩ f), h0, h1, q2⟩
end TryzT
end Go.Abs
namespace Go.Abs
open Go
namespace TryzT
structure FitsAll (vs : List Vr) (bs : List Bk) (st : Sta) : Prop where
 fits : StFits vs bs st
 fault : 0 ≤ st.fault ∧ st.fault ≤ 3
 right : ∀ (i : Nat) (v : Vr) (l : List Int), vs[i]? = some v → st.vars[i]? = some l → ∀ y ∈ l, rightF v.t = true
def FitsP (vs : List Vr) (bs : List Bk) (st : Sta) (r : V) : Prop := ∃ b : Bool, r = .bool b ∧ (b = true ↔ FitsAll vs bs st)
theorem fitsAll6 (vs : List Vr) (bs : List Bk) (st : Sta) (hs : StShort st) : Ret prog 6 [.fsl 5 (vs.map Vr.cells), .fsl 2 (bs.map Bk.cells), st.v] Heap.none fun r _ => FitsP vs bs st r := by
 obtain ⟨s1, s2, s3⟩ := hs
 have nope : ∀ s2 : S, resultOf [ARes.tmp 6] s2 = some (.bool false) → ¬ FitsAll vs bs st → post [ARes.tmp 6] (fun r _ => FitsP vs bs st r) .ret s2 := fun s2 h hn => post_ret h ⟨false, rfl, fun h => (by cases h), fun h => absurd h hn⟩
 refine Ret.by_text rfl rfl ?_
 simp -implicitDefEqProofs only [go_sem, rB, rA, rS, rL, a6, Sta.cellsOf_v, Sta.cs]
 intro g
 refine br_intro (fun c1 => ?_) (fun c1 => ?_)
 ·simp -implicitDefEqProofs only [go_sem, rB, rA, rS, c1]
  exact nope _ rfl fun h => by have := h.fits.len; simp at c1; omega
 simp -implicitDefEqProofs only [go_sem, rB, rA, rS, rL, c1]
 refine br_intro (fun c2 => ?_) (fun c2 => ?_)
 ·simp -implicitDefEqProofs only [go_sem, rB, rA, rS, c2]
  exact nope _ rfl fun h => by have := h.fits.blen; simp at c2; omega
 simp -implicitDefEqProofs only [go_sem, rB, rA, rS, rL, c2]
 refine br_intro (fun c3 => ?_) (fun c3 => ?_)
 ·simp -implicitDefEqProofs only [go_sem, rB, rA, rS, c3]
  exact nope _ rfl fun h => by have := h.fits.now; simp at c3; omega
 simp -implicitDefEqProofs only [go_sem, rB, rA, rS, rL, c3]
 refine br_intro (fun c4 => ?_) (fun c4 => ?_)
 ·simp -implicitDefEqProofs only [go_sem, rB, rA, rS, c4]
  exact nope _ rfl fun h => by have := h.fits.now; simp at c4; omega
 simp -implicitDefEqProofs only [go_sem, rB, rA, rS, rL, c4]
 refine br_intro (fun c5 => ?_) (fun c5 => ?_)
 ·simp -implicitDefEqProofs only [go_sem, rB, rA, rS, c5]
  exact nope _ rfl fun h => by have := h.fault; simp at c5; omega
 simp -implicitDefEqProofs only [go_sem, rB, rA, rS, rL, c5]
 refine br_intro (fun c6 => ?_) (fun c6 => ?_)
 ·simp -implicitDefEqProofs only [go_sem, c6]
  exact nope _ rfl fun h => by have := h.fault; simp at c6; omega
 have e1 : st.vars.length = vs.length := by simp at c1; omega
 have e2 : st.blocks.length = bs.length := by simp at c2; omega
 have e3 : 0 ≤ st.now ∧ st.now ≤ 1099511627776 := by simp at c3 c4; omega
 have e5 : 0 ≤ st.fault ∧ st.fault ≤ 3 := by simp at c5 c6; omega
 simp -implicitDefEqProofs only [go_sem, rB, c6]
 refine Loop.rec (fun k : Nat => vs.length - k) (fun k => ⟨E 95 [(0, .fsl 5 (vs.map Vr.cells)), (5, .lp 5 g 0), (7, .int .i64 k)], B 95 [(5, some (g, st.cs))], Heap.none⟩) (fun k => k ≤ vs.length ∧ ∀ (i : Nat) (v : Vr) (l : List Int), i < k → vs[i]? = some v → st.vars[i]? = some l → (l.length : Int) = v.n ∧ ∀ y ∈ l, rightF v.t = true ∧ inF v.t y = true) ?_ 0 ⟨Nat.zero_le _, fun i v l h => by omega⟩ rfl
 rintro k ⟨hk, hp⟩ hrec
 simp -implicitDefEqProofs only [go_sem, rB, rA, rS, Sta.cs]
 refine br_intro (fun h1 => ?_) (fun h1 => ?_)
 ·have h2 : k < vs.length := by simpa using h1
  obtain ⟨v, hv⟩ : ∃ x, vs[k]? = some x := ⟨_, lG h2⟩
  obtain ⟨l, hx⟩ : ∃ x, st.vars[k]? = some x := ⟨_, lG (by omega)⟩
  have hl100 := s3 l (lM hx)
  simp -implicitDefEqProofs only [go_sem, rB, rA, rS, rL, h1, hx, hv, intsV, Vr.cells]
  refine br_intro (fun c7 => ?_) (fun c7 => ?_)
  ·simp -implicitDefEqProofs only [go_sem, c7]
   exact nope _ rfl fun h => by have := (h.fits.var k v l hv hx).1; simp at c7; exact c7 this
  have e4 : (l.length : Int) = v.n := by simpa using c7
  simp -implicitDefEqProofs only [go_sem, rB, c7]
  refine Loop.rec (fun j : Nat => l.length - j) (fun j => ⟨E 95 [(0, .fsl 5 (vs.map Vr.cells)), (5, .lp 5 g 0), (7, .int .i64 k), (8, .int .i64 j)], B 95 [(5, some (g, st.cs))], Heap.none⟩) (fun j => j ≤ l.length ∧ ∀ (i : Nat) (y : Int), i < j → l[i]? = some y → rightF v.t = true ∧ inF v.t y = true) ?_ 0 ⟨Nat.zero_le _, fun i v h => by omega⟩ rfl
  rintro j ⟨hj, hq⟩ hrec2
  simp -implicitDefEqProofs only [go_sem, rB, rA, rS, rL, Sta.cs, hx, intsV]
  refine br_intro (fun h3 => ?_) (fun h3 => ?_)
  ·have h4 : j < l.length := by simpa using h3
   obtain ⟨y, hy⟩ : ∃ x, l[j]? = some x := ⟨_, lG h4⟩
   have hym := lM hy
   simp -implicitDefEqProofs only [go_sem, rB, rA, rS, rL, h3, hv, Vr.cells]
   refine callOk_det (d_right _) ?_
   rintro u rfl
   simp -implicitDefEqProofs only [go_sem, rB, rA, rS]
   refine br_intro2 (fun c8 => ?_) (fun c8 => ?_)
   ·simp -implicitDefEqProofs only [go_sem, rB, rA, rS, c8]
    exact nope _ rfl fun h => by have := h.right k v l hv hx y hym; rw [c8] at this; cases this
   simp -implicitDefEqProofs only [go_sem, rB, rA, rS, rL, c8, hx, hv, Vr.cells, hy, intC]
   refine callOk_det (d_in _ _) ?_
   rintro u rfl
   simp -implicitDefEqProofs only [go_sem, rB, rA, rS]
   refine br_intro2 (fun c9 => ?_) (fun c9 => ?_)
   ·simp -implicitDefEqProofs only [go_sem, c9]
    exact nope _ rfl fun h => by have := (h.fits.var k v l hv hx).2 y hym; rw [c9] at this; cases this
   simp -implicitDefEqProofs only [go_sem, rB, rA, rS, c9, wrap_succ (show j < 9223372036854775807 by omega)]
   exact hrec2 (j + 1) (by omega) ⟨by omega, idx_step hy ⟨c8, c9⟩ hq⟩
  ·have h4 : ¬ j < l.length := by simpa using h3
   simp -implicitDefEqProofs only [go_sem, rB, rA, rS, h3, wrap_succ (show k < 9223372036854775807 by omega)]
   refine hrec (k + 1) (by omega) ⟨by omega, fun i v' l' hi hv' hl' => ?_⟩
   by_cases e : i = k
   ·subst e; rw [hv] at hv'; injection hv' with hv'; subst hv'; rw [hx] at hl'; injection hl' with hl'; subst hl'
    exact ⟨e4, mem_of_idx j (by omega) hq⟩
   ·exact hp i v' l' (by omega) hv' hl'
 ·have h2 : ¬ k < vs.length := by simpa using h1
  have hp2 : ∀ (i : Nat) (v : Vr) (l : List Int), vs[i]? = some v → st.vars[i]? = some l → (l.length : Int) = v.n ∧ ∀ y ∈ l, rightF v.t = true ∧ inF v.t y = true := fun i v l hv hl => hp i v l (by have := (lS.1 hv).1; omega) hv hl
  simp -implicitDefEqProofs only [go_sem, rB, h1]
  exact post_ret rfl ⟨true, rfl, fun _ => ⟨⟨e1, e2, e3, fun i v l hv hl => ⟨(hp2 i v l hv hl).1, fun y hy => ((hp2 i v l hv hl).2 y hy).2⟩⟩, e5, fun i v l hv hl y hy => ((hp2 i v l hv hl).2 y hy).1⟩, fun _ => rfl⟩
theorem fits_yes {vs : List Vr} {bs : List Bk} {st : Sta} (hs : StShort st) (hf : FitsAll vs bs st) : Ret prog 6 [.fsl 5 (vs.map Vr.cells), .fsl 2 (bs.map Bk.cells), st.v] Heap.none fun r _ => r = .bool true :=
 Ret.mono _ _ _ _ _ (fun v _ ⟨b, h1, h2⟩ => by rw [h1, h2.2 hf]) (fitsAll6 vs bs st hs)
theorem end29h (vs : List Vr) (hvs : vs.length ≤ 100) (was now : Sta) (hw : StShort was) (hn : StShort now) (f : Int) (h : Heap) (R : V → Heap → Prop) (hR : R (.tup [(endSt was now f).v, intsV (endOut vs was now f)]) h) : Ret prog 29 [.fsl 5 (vs.map Vr.cells), was.v, now.v, .int .i64 f] h R := by
 refine Ret.by_text rfl rfl ?_
 simp -implicitDefEqProofs only [go_sem, rB, rA, rS, a29, Sta.cellsOf_v, Sta.cs]
 intro g5 g6 g8
 refine br_intro (fun c1 => ?_) (fun c1 => ?_)
 ·have e1 : f = 0 := by simpa using c1
  simp -implicitDefEqProofs only [go_sem, rB, rA, rS, rL, c1, Sta.fold]
  refine callOk_of (area49 vs hvs now hn 2) ?_
  rintro u rfl
  simp -implicitDefEqProofs only [go_sem, rB, rA, rS, rL, Sta.cellsOf_v, Sta.cs, intsV]
  refine post_ret (v := .tup [now.v, intsV (areaF 2 vs now.vars)]) (by simp -implicitDefEqProofs only [go_sem, rB, rA, rS, rL, resultOf, mapM?, ARes.val]; rfl) ?_
  simp only [endSt, endOut, e1, if_true] at hR
  exact hR
 ·have e1 : f ≠ 0 := by simpa using c1
  simp -implicitDefEqProofs only [go_sem, rB, rA, rS, rL, c1]
  refine callOk_of (off26 vs hvs { was with fault := f } hw) ?_
  rintro u rfl
  simp -implicitDefEqProofs only [go_sem, rB, rA, rS, rL, intsV]
  refine post_ret (v := .tup [({ was with fault := f } : Sta).v, intsV (List.replicate (areaF 2 vs was.vars).length 0)]) (by simp -implicitDefEqProofs only [go_sem, rB, rA, rS, rL, resultOf, mapM?, ARes.val]; rfl) ?_
  simp only [endSt, endOut, e1, if_false] at hR
  exact hR
end TryzT
end Go.Abs
namespace Go.Abs
open Go
namespace TryzT
theorem right8 (l : List Ev) (hl : l.length < 1000000) (hn : ∀ x ∈ l, x.next.length < 1000000 ∧ x.s.body.length < 1000000 ∧ x.s.els.length < 1000000 ∧ x.s.arms.length < 1000000) : Ret prog 11 [evsV l] Heap.none fun r _ => r = .bool (right l) := by
 refine Ret.by_text rfl rfl ?_
 simp -implicitDefEqProofs only [go_sem, rB, a11, evsV]
 refine Loop.rec (fun k : Nat => l.length - k) (fun k => ⟨E 105 [(0, evsV l), (3, .int .i64 k)], B 105 [], Heap.none⟩)
  (fun k => k ≤ l.length ∧ l.all (Ev.right l.length) = (l.drop k).all (Ev.right l.length)) ?_ 0 ⟨Nat.zero_le _, rfl⟩ rfl
 intro k ⟨hk, hall⟩ hi
 simp -implicitDefEqProofs only [go_sem, rB, rA, rS, evsV]
 refine br_intro (fun h6 => ?_) (fun h6 => ?_)
 ·have h7 : k < l.length := by simpa using h6
  obtain ⟨x, hx⟩ : ∃ x, l[k]? = some x := ⟨_, lG h7⟩
  obtain ⟨hnx, hb, he, ha⟩ := hn x (lM hx)
  simp -implicitDefEqProofs only [go_sem, rB, rA, rS, rL, h6, hx, x.cells_cs, Ev.cs]
  intro g
  refine W_meet (fun s2 => ∃ q, s2 = ⟨E 105 q, B 105 [(4, some (g, x.cs))], Heap.none⟩ ∧ look q 0 = evsV l ∧ look q 3 = .int .i64 k ∧ look q 4 = .lp 4 g 0 ∧ look q 5 = .int .i64 x.next.length ∧ look q 7 = .bool (kindOk x.s.kind x.next.length)) ?_ ?_
  ·have hc : (0 ≤ x.s.kind ∧ x.s.kind ≤ 6) ∨ x.s.kind = 7 ∨ x.s.kind = 11 ∨ x.s.kind = 14 ∨ (¬ (0 ≤ x.s.kind ∧ x.s.kind ≤ 6) ∧ x.s.kind ≠ 7 ∧ x.s.kind ≠ 11 ∧ x.s.kind ≠ 14) := by omega
   rcases hc with ⟨p1, p2⟩ | p1 | p1 | p1 | ⟨p1, p2, p3, p4⟩
   ·have n7 : (x.s.kind == 7) = false := by simp; omega
    have n11 : (x.s.kind == 11) = false := by simp; omega
    have n14 : (x.s.kind == 14) = false := by simp; omega
    have m0 : decide (x.s.kind ≥ 0) = true := by simpa using p1
    have m6 : decide (x.s.kind ≤ 6) = true := by simpa using p2
    simp -implicitDefEqProofs only [go_sem, rB, rA, rS, a11_r7, m0, m6]
    refine br_intro (fun e => ?_) (fun e => ?_)
    all_goals (simp -implicitDefEqProofs only [go_sem, rB, rA, rS, e, n7, n11, n14]; refine ⟨_, rfl, rfl, rfl, rfl, rfl, ?_⟩; simp -implicitDefEqProofs only [go_sem, rB, kindOk, m6, n7, n11, n14]; simp [cast_beq1] at e; simp [p1, e])
   ·have m0 : decide (x.s.kind ≥ 0) = true := by simp [p1]
    have m6 : decide (x.s.kind ≤ 6) = false := by simp [p1]
    have n7 : (x.s.kind == 7) = true := by simp [p1]
    have n11 : (x.s.kind == 11) = false := by simp [p1]
    have n14 : (x.s.kind == 14) = false := by simp [p1]
    simp -implicitDefEqProofs only [go_sem, rB, rA, rS, a11_r7, m0, m6, n7]
    refine br_intro (fun e => ?_) (fun e => ?_)
    all_goals (simp -implicitDefEqProofs only [go_sem, rB, rA, rS, e, n11, n14]; refine ⟨_, rfl, rfl, rfl, rfl, rfl, ?_⟩; simp [cast_beq2] at e; simp [look, kindOk, p1, e])
   ·have m0 : decide (x.s.kind ≥ 0) = true := by simp [p1]
    have m6 : decide (x.s.kind ≤ 6) = false := by simp [p1]
    have n7 : (x.s.kind == 7) = false := by simp [p1]
    have n11 : (x.s.kind == 11) = true := by simp [p1]
    have n14 : (x.s.kind == 14) = false := by simp [p1]
    simp -implicitDefEqProofs only [go_sem, rB, rA, rS, a11_r7, m0, m6, n7, n11]
    refine br_intro (fun e => ?_) (fun e => ?_)
    all_goals (simp -implicitDefEqProofs only [go_sem, rB, rA, rS, e, n14]; refine ⟨_, rfl, rfl, rfl, rfl, rfl, ?_⟩; simp at e; simp [look, kindOk, p1, e])
   ·have m0 : decide (x.s.kind ≥ 0) = true := by simp [p1]
    have m6 : decide (x.s.kind ≤ 6) = false := by simp [p1]
    have n7 : (x.s.kind == 7) = false := by simp [p1]
    have n11 : (x.s.kind == 11) = false := by simp [p1]
    have n14 : (x.s.kind == 14) = true := by simp [p1]
    simp -implicitDefEqProofs only [go_sem, rB, rA, rS, a11_r7, m0, m6, n7, n11, n14]
    refine ⟨_, rfl, rfl, rfl, rfl, rfl, ?_⟩
    simp [look, kindOk, p1, cast_beq0]
   ·have n7 : (x.s.kind == 7) = false := by simpa using p2
    have n11 : (x.s.kind == 11) = false := by simpa using p3
    have n14 : (x.s.kind == 14) = false := by simpa using p4
    simp -implicitDefEqProofs only [go_sem, rB, rA, rS, a11_r7]
    refine br_intro (fun e => ?_) (fun e => ?_)
    ·have m6 : decide (x.s.kind ≤ 6) = false := by simp at e ⊢; omega
     simp -implicitDefEqProofs only [go_sem, rB, rA, rS, e, m6, n7, n11, n14]
     refine ⟨_, rfl, rfl, rfl, rfl, rfl, ?_⟩
     simp [look, kindOk, p2, p3, p4]
     simp at m6
     omega
    ·simp -implicitDefEqProofs only [go_sem, rB, rA, rS, e, n7, n11, n14]
     refine ⟨_, rfl, rfl, rfl, rfl, rfl, ?_⟩
     simp at e
     simp [look, kindOk, p2, p3, p4]
     omega
  ·rintro s2 ⟨q, rfl, q0, q3, q4, q5, q7⟩
   simp -implicitDefEqProofs only [go_sem, rB, q0, q3, q4, q5, q7, Ev.cs, evsV]
   refine Loop.rec (α := Bool × Nat) (fun j => x.next.length - j.2) (fun j => ⟨E 105 [(0, evsV l), (3, .int .i64 k), (4, .lp 4 g 0), (5, .int .i64 x.next.length), (7, .bool j.1), (8, .int .i64 j.2)], B 105 [(4, some (g, x.cs))], Heap.none⟩)
    (fun j => j.2 ≤ x.next.length ∧ (kindOk x.s.kind x.next.length && x.next.all fun k => decide (0 ≤ k) && decide (k < l.length)) = (j.1 && (x.next.drop j.2).all fun k => decide (0 ≤ k) && decide (k < l.length))) ?_ (kindOk x.s.kind x.next.length, 0) ⟨Nat.zero_le _, rfl⟩ rfl
   intro ⟨o, j⟩ ⟨hj, ho⟩ hi2
   simp only [] at hj ho
   simp -implicitDefEqProofs only [go_sem, rB, rA, rS, Ev.cs, evsV]
   refine br_intro (fun h8 => ?_) (fun h8 => ?_)
   ·have h9 : j < x.next.length := by simpa using h8
    obtain ⟨y, hy⟩ : ∃ y, x.next[j]? = some y := ⟨_, lG h9⟩
    rw [all_drop hy] at ho
    simp -implicitDefEqProofs only [go_sem, h8]
    refine W_meet (fun s2 => ∃ q, s2 = ⟨E 105 q, B 105 [(4, some (g, x.cs))], Heap.none⟩ ∧ look q 0 = evsV l ∧ look q 3 = .int .i64 k ∧ look q 4 = .lp 4 g 0 ∧ look q 5 = .int .i64 x.next.length ∧ look q 8 = .int .i64 j ∧ look q 7 = .bool (o && (decide (0 ≤ y) && decide (y < l.length)))) ?_ ?_
    ·simp -implicitDefEqProofs only [go_sem, rB, rA, rS, a11_r11]
     refine br_intro (fun d1 => ?_) (fun d1 => ?_)
     ·simp -implicitDefEqProofs only [go_sem, rB, rA, rS, rL, d1, hy, intC]
      refine br_intro (fun d2 => ?_) (fun d2 => ?_)
      ·simp -implicitDefEqProofs only [go_sem, rB, rA, rS, rL, d2, hy, intC]
       refine ⟨_, rfl, rfl, rfl, rfl, rfl, rfl, ?_⟩
       simp -implicitDefEqProofs only [go_sem, rB]
       simp only [ge_iff_le] at d2
       simp []
      ·simp -implicitDefEqProofs only [go_sem, rB, rA, rS, d2]
       refine ⟨_, rfl, rfl, rfl, rfl, rfl, rfl, ?_⟩
       simp -implicitDefEqProofs only [go_sem, rB]
       simp only [ge_iff_le] at d2
       simp []
     ·simp -implicitDefEqProofs only [go_sem, rB, rA, rS, d1]
      refine ⟨_, rfl, rfl, rfl, rfl, rfl, rfl, ?_⟩
      simp -implicitDefEqProofs only [go_sem, rB]
      simp
    ·rintro s2 ⟨q, rfl, q0, q3, q4, q5, q8, q7⟩
     simp -implicitDefEqProofs only [go_sem, rB, rA, rS, q0, q3, q4, q5, q7, q8, Ev.cs, wrap_succ (show j < 9223372036854775807 by omega)]
     exact hi2 (_, j + 1) (by simp only []; omega) ⟨by simp only []; omega, by rw [ho]; cases o <;> simp [Bool.and_assoc]⟩
   ·have h9 : ¬ j < x.next.length := by simpa using h8
    rw [List.drop_eq_nil_of_le (by omega)] at ho
    have hr : Ev.right l.length x = (x.s.body.isEmpty && x.s.els.isEmpty && x.s.arms.isEmpty && o) := by
     rw [Ev.right, Bool.and_assoc, ho]; simp
    have hw1 : IntKind.i64.wrap ((x.s.body.length : Int) + x.s.els.length) = ((x.s.body.length + x.s.els.length : Nat) : Int) := by rw [wrap_in ⟨by omega, by omega⟩]; omega
    have hw2 : IntKind.i64.wrap (((x.s.body.length + x.s.els.length : Nat) : Int) + x.s.arms.length) = ((x.s.body.length + x.s.els.length + x.s.arms.length : Nat) : Int) := by rw [wrap_in ⟨by omega, by omega⟩]; omega
    simp -implicitDefEqProofs only [go_sem, rB, rA, rS, h8]
    refine br_intro2 (fun d1 => ?_) (fun d1 => ?_)
    ·simp -implicitDefEqProofs only [go_sem, rB, rA, rS, d1]
     refine post1 ?_
     simp -implicitDefEqProofs only [go_sem, rB, rA, rS]
     rw [right_false hall hx (by rw [hr, d1]; simp)]
    ·simp -implicitDefEqProofs only [go_sem, rB, rA, rS, rL, d1, hw1, hw2]
     refine br_intro (fun d2 => ?_) (fun d2 => ?_)
     ·simp -implicitDefEqProofs only [go_sem, d2]
      refine post1 ?_
      simp -implicitDefEqProofs only [go_sem, rB, rA, rS]
      rw [right_false hall hx (by
       rw [hr]
       cases hh : (x.s.body.isEmpty && x.s.els.isEmpty && x.s.arms.isEmpty)
       ·rfl
       ·simp at hh d2; simp [hh] at d2)]
     ·simp -implicitDefEqProofs only [go_sem, rB, rA, rS, d2, wrap_succ (show k < 9223372036854775807 by omega)]
      refine hi (k + 1) (by omega) ⟨by omega, ?_⟩
      rw [hall, all_drop hx, hr, d1]
      have d3 : ¬ (0 < x.s.body.length + x.s.els.length + x.s.arms.length) := by simp at d2; omega
      rw [List.isEmpty_iff.2 (List.eq_nil_of_length_eq_zero (by omega)), List.isEmpty_iff.2 (List.eq_nil_of_length_eq_zero (by omega)), List.isEmpty_iff.2 (List.eq_nil_of_length_eq_zero (by omega))]
      rfl
 ·simp -implicitDefEqProofs only [go_sem, rB, rA, rS, h6]
  refine post1 ?_
  simp -implicitDefEqProofs only [go_sem, rB, rA, rS]
  have h7 : ¬ k < l.length := by simpa using h6
  rw [right, hall, List.drop_eq_nil_of_le (by omega)]
  simp
end TryzT
end Go.Abs
namespace Go.Abs
open Go
def wordC (n : Int) : List V := [.int .u64 n]
def setV (room : Int) (w : List Int) : V := .agg [.int .i64 room, .fsl 1 (w.map wordC)]
def bitOf (x : Int) (j : Nat) : Bool := IntKind.u64.wrap ((BitVec.ofInt 64 (x.fdiv (2 ^ j)) &&& BitVec.ofInt 64 1).toNat : Int) == 1
def setOf (x : Int) (j : Nat) : Int := IntKind.u64.wrap ((BitVec.ofInt 64 x ||| BitVec.ofInt 64 (IntKind.u64.wrap (1 * 2 ^ j))).toNat : Int)
theorem ofInt_nat (n : Nat) : BitVec.ofInt 64 (n : Int) = BitVec.ofNat 64 n := BitVec.ofInt_natCast 64 n
theorem wrapu (n : Nat) (h : n < 18446744073709551616) : IntKind.u64.wrap (n : Int) = n := IntWalk.u64_in _ ⟨by omega, by omega⟩
theorem bitOf_nat (x : Nat) (hx : x < 2 ^ 64) (j : Nat) : bitOf (x : Int) j = x.testBit j := by
 have h1 : ((x : Int).fdiv (2 ^ j)) = ((x / 2 ^ j : Nat) : Int) := by
  rw [Int.fdiv_eq_ediv_of_nonneg _ (Int.le_of_lt (Int.pow_pos (by decide)))]; simp
 have h2 : x / 2 ^ j < 2 ^ 64 := Nat.lt_of_le_of_lt (Nat.div_le_self _ _) hx
 rw [bitOf, h1, ofInt_nat, show BitVec.ofInt 64 1 = BitVec.ofNat 64 1 from rfl, BitVec.toNat_and, BitVec.toNat_ofNat, BitVec.toNat_ofNat, Nat.mod_eq_of_lt h2, show 1 % 2 ^ 64 = 1 from rfl, Nat.and_one_is_mod, wrapu _ (by omega), Nat.testBit_eq_decide_div_mod_eq]
 generalize x / 2 ^ j % 2 = y
 rw [Bool.eq_iff_iff]; simp only [beq_iff_eq, decide_eq_true_eq]; omega
theorem setOf_nat (x : Nat) (hx : x < 2 ^ 64) (j : Nat) (hj : j < 64) : setOf (x : Int) j = ((x ||| 2 ^ j : Nat) : Int) ∧ x ||| 2 ^ j < 2 ^ 64 := by
 have hp : 2 ^ j < 2 ^ 64 := Nat.pow_lt_pow_right (by decide) hj
 have h3 : x ||| 2 ^ j < 2 ^ 64 := Nat.or_lt_two_pow hx hp
 have h1 : (1 * 2 ^ j : Int) = ((2 ^ j : Nat) : Int) := by simp
 refine ⟨?_, h3⟩
 rw [setOf, h1, wrapu (2 ^ j) (by simpa using hp), ofInt_nat, ofInt_nat, BitVec.toNat_or, BitVec.toNat_ofNat, BitVec.toNat_ofNat, Nat.mod_eq_of_lt hx, Nat.mod_eq_of_lt hp, wrapu _ (by simpa using h3)]
theorem shr_u64 (x : Int) (j : Nat) (hj : j < 64) : shiftOf BinOp.shr IntKind.u64 x (j : Int) = some (.int .u64 (x.fdiv (2 ^ j))) := by
 have h1 : ¬ (j : Int) < 0 := by omega
 have h2 : min ((j : Int).toNat) (IntKind.u64.bits) = j := by
  have : IntKind.u64.bits = 64 := rfl
  rw [this]; simp; omega
 simp only [shiftOf, h1, if_false, h2]
theorem shl_u64 (x : Int) (j : Nat) (hj : j < 64) : shiftOf BinOp.shl IntKind.u64 x (j : Int) = some (.int .u64 (IntKind.u64.wrap (x * 2 ^ j))) := by
 have h1 : ¬ (j : Int) < 0 := by omega
 have h2 : min ((j : Int).toNat) (IntKind.u64.bits) = j := by
  have : IntKind.u64.bits = 64 := rfl
  rw [this]; simp; omega
 simp only [shiftOf, h1, if_false, h2]
def SetIs (n : Nat) (S : Nat → Bool) (v : V) : Prop := ∃ w : List Nat, v = setV n (w.map fun (x : Nat) => (x : Int)) ∧ w.length = (n + 63) / 64 ∧ (∀ x ∈ w, x < 2 ^ 64) ∧ ∀ i, i < n → ((w[i / 64]?).getD 0).testBit (i % 64) = S i
namespace TryzT
theorem new21 (n : Nat) (h : Heap) (hn : n ≤ 65536) (R : V → Heap → Prop) (hR : ∀ id, h id = none → R (.agg [.int .i64 n, .msl id 0 ((n + 63) / 64)]) (h.upd id (some (.arr 1 (List.replicate ((n + 63) / 64) (wordC 0)))))) : Ret prog 53 [.int .i64 n] h R := by
 refine Ret.by_text rfl rfl ?_
 simp -implicitDefEqProofs only [go_sem, rB, rA, rS, a53]
 intro g
 have f1 : (if (65536 : Int) < (n : Int) then 65536 else (n : Int)) = n := if_neg (by omega)
 have f2 : (if (n : Int) > 0 then (n : Int) else 0) = n := by split <;> omega
 have f3 : IntKind.i64.wrap ((n : Int) + 63) = ((n + 63 : Nat) : Int) := by rw [wrap_in ⟨by omega, by omega⟩]; omega
 have f4 : IntKind.i64.wrap (((n + 63 : Nat) : Int).tdiv 64) = (((n + 63) / 64 : Nat) : Int) := by
  rw [Int.tdiv_eq_ediv_of_nonneg (by omega), wrap_in ⟨by omega, by omega⟩]; omega
 simp -implicitDefEqProofs only [go_sem, rB, rA, rS, rL, f1, f2, f3, f4, show ((64 : Int) = 0) = False by simp]
 refine ⟨by omega, by omega, by omega, fun id hid => ?_⟩
 refine postC (v := .agg [.int .i64 n, .msl id 0 ((n + 63) / 64)]) (by simp -implicitDefEqProofs only [go_sem, rB, rA, rS, rL]) (hR id hid)

theorem copied32 (n : Nat) (w : List Int) (h : Heap) (hn : n ≤ 65536) (hw : w.length = (n + 63) / 64) (R : V → Heap → Prop) (hR : ∀ id, h id = none → R (.agg [.int .i64 n, .msl id 0 ((n + 63) / 64)]) (h.upd id (some (.arr 1 (w.map wordC))))) :
  Ret prog 76 [setV n w, .int .i64 n] h R := by
 refine Ret.by_text rfl rfl ?_
 simp -implicitDefEqProofs only [go_sem, rB, rA, rS, a76, setV]
 intro g1 g2
 refine .inl (new21 n h hn _ fun id hid => ?_)
 simp -implicitDefEqProofs only [go_sem, rB, rA, rS, rL]
 intro g3
 refine cpyK_msl (upd_self _ _ _) (new := w.map wordC) rfl ?_ ?_ ?_
 ·intro z hz
  obtain ⟨a, _, rfl⟩ := List.mem_map.1 hz
  rfl
 ·simp
 simp -implicitDefEqProofs only [go_sem, rB, rA, rS, rL]
 refine postC (v := .agg [.int .i64 n, .msl id 0 ((n + 63) / 64)]) (by simp -implicitDefEqProofs only [go_sem, rB, rA, rS, rL]) ?_
 have e1 : List.take ((n + 63) / 64) (List.map wordC w) ++ List.drop (0 + min w.length ((n + 63) / 64)) (List.replicate ((n + 63) / 64) (wordC 0)) = w.map wordC := by
  rw [List.take_of_length_le (by simp [hw]), List.drop_eq_nil_of_le (by simp [hw]), List.append_nil]
 have e2 : ∀ (a b : Option Blk), (h.upd id a).upd id b = h.upd id b := fun a b => by funext i; simp only [Heap.upd]; split <;> rfl
 simp only [e1, e2]
 exact hR id hid

theorem has22 {n : Nat} {S : Nat → Bool} {v : V} (hs : SetIs n S v) (hn : n ≤ 65536) (i : Nat) (hi : i < 1000000) : Ret prog 54 [v, .int .i64 i] Heap.none fun r _ => r = .bool (decide (i < n) && S i) := by
 obtain ⟨w, rfl, hw, hb, hS⟩ := hs
 refine Ret.by_text rfl rfl ?_
 simp -implicitDefEqProofs only [go_sem, rB, rA, rS, rL, a54, setV]
 intro g
 refine br_intro (fun h1 => ?_) (fun h1 => ?_)
 ·have h2 : i < n := by simpa using h1
  have f1 : IntKind.i64.wrap ((i : Int).tdiv 64) = ((i / 64 : Nat) : Int) := by
   rw [Int.tdiv_eq_ediv_of_nonneg (by omega), wrap_in ⟨by omega, by omega⟩]; omega
  have f2 : (i : Int).tmod 64 = ((i % 64 : Nat) : Int) := by rw [Int.tmod_eq_emod_of_nonneg (by omega)]; omega
  obtain ⟨x, hx⟩ : ∃ x, w[i / 64]? = some x := ⟨_, lG (by rw [hw]; omega)⟩
  have hxb : x < 2 ^ 64 := hb x (lM hx)
  have f3 := bitOf_nat x hxb (i % 64)
  have f4 := hS i h2
  rw [hx] at f4
  simp only [Option.getD_some] at f4
  rw [bitOf] at f3
  simp -implicitDefEqProofs only [go_sem, rB, rA, rS, rL, h1, f1, f2, hx, wordC, show ((64 : Int) = 0) = False by simp, shr_u64 (x : Int) (i % 64) (by omega), bitsOf, show IntKind.u64.bits = 64 from rfl]
  refine post1 ?_
  simp -implicitDefEqProofs only [go_sem, rB, rA, rS]
  refine congrArg V.bool (Eq.trans f3 ?_)
  rw [f4, show decide (i < n) = true by simpa using h2, Bool.true_and]
 ·simp -implicitDefEqProofs only [go_sem, rB, rA, rS, h1]
  refine post1 ?_
  simp -implicitDefEqProofs only [go_sem, rB, rA, rS]
  have h2 : ¬ i < n := by simpa using h1
  simp [h2]
theorem with23 {n : Nat} {S : Nat → Bool} {v : V} (hs : SetIs n S v) (hn : n ≤ 65536) (i : Nat) (hi : i < n) : Ret prog 55 [v, .int .i64 i] Heap.none fun r _ => SetIs n (fun k => S k || k == i) r := by
 obtain ⟨w, rfl, hw, hb, hS⟩ := hs
 refine Ret.by_text rfl rfl ?_
 simp -implicitDefEqProofs only [go_sem, rB, rA, rS, a55, setV]
 intro g1 g2
 have h1 : decide ((i : Int) ≥ n) = false := by simp; omega
 have f1 : IntKind.i64.wrap ((i : Int).tdiv 64) = ((i / 64 : Nat) : Int) := by
  rw [Int.tdiv_eq_ediv_of_nonneg (by omega), wrap_in ⟨by omega, by omega⟩]; omega
 have f2 : (i : Int).tmod 64 = ((i % 64 : Nat) : Int) := by rw [Int.tmod_eq_emod_of_nonneg (by omega)]; omega
 have f0 : decide ((i : Int) < 0) = false := by simp
 simp -implicitDefEqProofs only [go_sem, rB, rA, rS, rL, f0, h1]
 refine .inl (copied32 n (w.map fun (x : Nat) => (x : Int)) _ hn (by simpa using hw) _ fun id hid => ?_)
 simp -implicitDefEqProofs only [go_sem, rB, rA, rS, rL]
 intro g3
 obtain ⟨x, hx⟩ : ∃ x, w[i / 64]? = some x := ⟨_, lG (by rw [hw]; omega)⟩
 have hlt : i / 64 < (n + 63) / 64 := by omega
 have hxb : x < 2 ^ 64 := hb x (lM hx)
 have f3 := setOf_nat x hxb (i % 64) (by omega)
 rw [setOf] at f3
 have f4 : (((i / 64 : Nat) : Int) < (((n + 63) / 64 : Nat) : Int)) = True := by simp; omega
 simp -implicitDefEqProofs only [go_sem, rB, rA, rS, rL, f1, f2, upd_self, hx, show ((64 : Int) = 0) = False by simp, f4, Nat.zero_add, wordC, bitsOf, shl_u64 1 (i % 64) (by omega), show IntKind.u64.bits = 64 from rfl]
 refine postCF (v := .agg [.int .i64 n, .msl id 0 ((n + 63) / 64)]) (u := setV n ((w.set (i / 64) (x ||| 2 ^ (i % 64))).map fun (x : Nat) => (x : Int))) (h2 := Heap.none) (fun k => k = id) (by simp -implicitDefEqProofs only [go_sem, rB, rA, rS, rL]) ?_ (fun k b h => by cases h) (fun k _ => rfl) ?_
 ·refine Frz.aggL (.cons (.same _) (.cons (Frz.whole rfl (Eq.trans (upd_self _ _ _) ?_) (by simp [hw])) .nil))
  rw [List.map_set, List.map_set]
  refine congrArg (fun z => some (Blk.arr 1 z)) (congrArg (List.set _ _) ?_)
  rw [wordC, ← f3.1]; rfl
 ·refine ⟨_, rfl, by simpa using hw, fun y hy => ?_, fun k hk => ?_⟩
  ·rcases List.mem_or_eq_of_mem_set hy with h | h
   ·exact hb y h
   ·rw [h]; exact f3.2
  ·have hk2 := hS k hk
   by_cases e : i / 64 = k / 64
   ·rw [← e, hx] at hk2
    simp only [Option.getD_some] at hk2
    rw [← e, List.getElem?_set_self (by omega)]
    simp only [Option.getD_some, Nat.testBit_or, hk2, Nat.testBit_two_pow]
    congr 1
    by_cases e2 : k = i
    ·subst e2; simp
    ·have : i % 64 ≠ k % 64 := by omega
     simp [this, e2]
   ·rw [List.getElem?_set_ne e, hk2]
    have : k ≠ i := by intro h; subst h; exact e rfl
    simp [this]
end TryzT
end Go.Abs
namespace Go.Abs
open Go

def Ev.nx (x : Ev) (c : Nat) : Nat := (x.next.getD (min c (x.next.length - 1)) 0).toNat
def chase (l : List Ev) : Nat → Nat → Option (Nat × Int)
 | 0, _ => none
 | f + 1, i => match l[i]? with
  | none => none
  | some x => bif x.s.kind == 0 then (chase l f (x.nx 0)).map fun r => (r.1, x.s.cost + r.2) else some (i, x.s.cost)
def Beh (l : List Ev) (i : Nat) (r : Option (Nat × Int)) : Prop :=
 match r with
 | some r => ∃ f, chase l f i = some r
 | none => ∀ f, chase l f i = none

theorem chase_mono {l : List Ev} : ∀ {f g i : Nat} {r : Nat × Int}, chase l f i = some r → f ≤ g → chase l g i = some r := by
 intro f
 induction f with
 | zero => intro g i r h; simp [chase] at h
 | succ f ih =>
  intro g i r h hg
  obtain ⟨g, rfl⟩ : ∃ k, g = k + 1 := ⟨g - 1, by omega⟩
  simp only [chase] at h ⊢
  split at h
  ·cases h
  ·rename_i x hx
   cases hk : x.s.kind == 0
   ·simp only [hk, cond_false] at h ⊢; exact h
   ·simp only [hk, cond_true, Option.map_eq_some_iff] at h ⊢
    obtain ⟨q, h1, h2⟩ := h
    exact ⟨q, ih h1 (by omega), h2⟩
theorem Beh.unique {l : List Ev} {i : Nat} {r q : Option (Nat × Int)} (h1 : Beh l i r) (h2 : Beh l i q) : r = q := by
 cases r with
 | none => cases q with
  | none => rfl
  | some q => obtain ⟨f, h⟩ := h2; rw [h1 f] at h; cases h
 | some r => cases q with
  | none => obtain ⟨f, h⟩ := h1; rw [h2 f] at h; cases h
  | some q =>
   obtain ⟨f, h⟩ := h1; obtain ⟨g, h'⟩ := h2
   have a := chase_mono h (Nat.le_max_left f g)
   have b := chase_mono h' (Nat.le_max_right f g)
   rw [a] at b; exact b
theorem Beh.stop {l : List Ev} {i : Nat} {x : Ev} (hx : l[i]? = some x) (hk : (x.s.kind == 0) = false) : Beh l i (some (i, x.s.cost)) := ⟨1, by simp [chase, hx, hk]⟩
theorem Beh.skip {l : List Ev} {i : Nat} {x : Ev} {r : Option (Nat × Int)} (hx : l[i]? = some x) (hk : (x.s.kind == 0) = true) (h : Beh l (x.nx 0) r) : Beh l i (r.map fun q => (q.1, x.s.cost + q.2)) := by
 cases r with
 | none =>
  intro f
  cases f with
  | zero => rfl
  | succ f => simp [chase, hx, hk, h f]
 | some r =>
  obtain ⟨f, h⟩ := h
  exact ⟨f + 1, by simp [chase, hx, hk, h]⟩
theorem chase_end {l : List Ev} : ∀ {f i : Nat} {r : Nat × Int}, chase l f i = some r → ∃ x, l[r.1]? = some x ∧ (x.s.kind == 0) = false := by
 intro f
 induction f with
 | zero => intro i r h; simp [chase] at h
 | succ f ih =>
  intro i r h
  simp only [chase] at h
  split at h
  ·cases h
  ·rename_i x hx
   cases hk : x.s.kind == 0
   ·simp only [hk, cond_false, Option.some.injEq] at h
    subst h
    exact ⟨x, hx, hk⟩
   ·simp only [hk, cond_true, Option.map_eq_some_iff] at h
    obtain ⟨q, h1, h2⟩ := h
    subst h2
    have h3 := ih h1
    exact h3
theorem Beh.at_end {l : List Ev} {i : Nat} {r : Nat × Int} (h : Beh l i (some r)) : ∃ x, l[r.1]? = some x ∧ (x.s.kind == 0) = false := by
 obtain ⟨f, h⟩ := h; exact chase_end h

/-! ### Of a way over StSkip -/

inductive Way (l : List Ev) : Nat → List Nat → Int → Nat → Prop
 | nil (i : Nat) : Way l i [] 0 i
 | snoc {i j : Nat} {vs : List Nat} {c : Int} {x : Ev} (h : Way l i vs c j) (hx : l[j]? = some x) (hk : (x.s.kind == 0) = true) : Way l i (vs ++ [j]) (c + x.s.cost) (x.nx 0)
theorem Way.beh {l : List Ev} {i j : Nat} {vs : List Nat} {c : Int} (h : Way l i vs c j) {r : Option (Nat × Int)} (hr : Beh l j r) : Beh l i (r.map fun q => (q.1, c + q.2)) := by
 induction h generalizing r with
 | nil => cases r <;> simpa using hr
 | snoc h hx hk ih =>
  have := ih (Beh.skip hx hk hr)
  cases r with
  | none => exact this
  | some r => simpa [Int.add_assoc] using this
theorem Way.split {l : List Ev} {i j : Nat} {vs : List Nat} {c : Int} (h : Way l i vs c j) {k : Nat} (hk : k ∈ vs) : ∃ us d, us ≠ [] ∧ Way l k us d j := by
 induction h with
 | nil => cases hk
 | @snoc j vs c x h hx hk2 ih =>
  rcases List.mem_append.1 hk with h1 | h1
  ·obtain ⟨us, d, hu, hw⟩ := ih h1
   exact ⟨us ++ [j], d + x.s.cost, by simp, .snoc hw hx hk2⟩
  ·have : k = j := by simpa using h1
   subst this
   exact ⟨[] ++ [k], 0 + x.s.cost, by simp, .snoc (.nil k) hx hk2⟩
theorem Way.chase {l : List Ev} {i j : Nat} {vs : List Nat} {c : Int} (h : Way l i vs c j) : ∀ {f : Nat} {r : Nat × Int}, chase l f i = some r → ∃ g q, g + vs.length = f ∧ chase l g j = some q := by
 induction h with
 | nil => intro f r h; exact ⟨f, r, by simp, h⟩
 | @snoc j vs c x h hx hk ih =>
  intro f r hf
  obtain ⟨g, q, hg, hq⟩ := ih hf
  cases g with
  | zero => simp [Go.Abs.chase] at hq
  | succ g =>
   simp only [Go.Abs.chase, hx, hk, cond_true, Option.map_eq_some_iff] at hq
   obtain ⟨p, h1, h2⟩ := hq
   exact ⟨g, p, by simp; omega, h1⟩
theorem Way.spin {l : List Ev} {k : Nat} {us : List Nat} {d : Int} (h : Way l k us d k) (hu : us ≠ []) : Beh l k none := by
 intro f
 induction f using Nat.strongRecOn with
 | ind f ih =>
  cases e : Go.Abs.chase l f k with
  | none => rfl
  | some r =>
   obtain ⟨g, q, hg, hq⟩ := h.chase e
   have : 0 < us.length := List.length_pos_iff.2 hu
   rw [ih g (by omega)] at hq; cases hq
theorem Way.again {l : List Ev} {i j : Nat} {vs : List Nat} {c : Int} (h : Way l i vs c j) (hj : j ∈ vs) : Beh l i none := by
 obtain ⟨us, d, hu, hw⟩ := h.split hj
 exact h.beh (hw.spin hu)
theorem Way.mem {l : List Ev} {i j : Nat} {vs : List Nat} {c : Int} (h : Way l i vs c j) : ∀ k ∈ vs, k < l.length := by
 induction h with
 | nil => intro k hk; cases hk
 | @snoc j vs c x h hx hk2 ih =>
  intro k hk
  rcases List.mem_append.1 hk with h1 | h1
  ·exact ih k h1
  ·have : k = j := by simpa using h1
   subst this
   exact (lS.1 hx).1

theorem nodup_len : ∀ (n : Nat) (l : List Nat), l.Nodup → (∀ x ∈ l, x < n) → l.length ≤ n := by
 intro n
 induction n with
 | zero => intro l _ h; cases l with
  | nil => simp
  | cons x l => exact absurd (h x (by simp)) (by omega)
 | succ n ih =>
  intro l hd h
  by_cases hm : n ∈ l
  ·have := ih (l.erase n) (hd.erase n) (fun x hx => by
    have h1 := h x (List.mem_of_mem_erase hx)
    have h2 : x ≠ n := by intro e; subst e; exact (List.Nodup.not_mem_erase hd) hx
    omega)
   rw [List.length_erase_of_mem hm] at this
   omega
  ·have := ih l hd (fun x hx => by
    have h1 := h x hx
    have h2 : x ≠ n := by intro e; subst e; exact hm hx
    omega)
   omega
def Ar.same (a b : Ar) : Bool := a.field == b.field && a.e.same b.e
def St.one (x y : St) : Bool := x.kind == y.kind && x.n == y.n && x.m == y.m && x.e.same y.e && x.i.same y.i && all2 Ex.same x.l y.l && all2 Ar.same x.args y.args

inductive Meets (a b : List Ev) : Nat → Nat → Prop
 | first : Meets a b 0 0
 | next {i k j m : Nat} {n o : Int} {x y : Ev} {c : Nat} (h : Meets a b i k) (ha : Beh a i (some (j, n))) (hb : Beh b k (some (m, o))) (hx : a[j]? = some x) (hy : b[m]? = some y) (hc : c < max x.next.length y.next.length) : Meets a b (x.nx c) (y.nx c)
def Fits (a b : List Ev) (i k : Nat) : Prop := (Beh a i none ∧ Beh b k none) ∨ ∃ j m n x y, Beh a i (some (j, n)) ∧ Beh b k (some (m, n)) ∧ a[j]? = some x ∧ b[m]? = some y ∧ x.s.one y.s = true
def Goes (a b : List Ev) : Prop := right a = true ∧ right b = true ∧ ∀ i k, Meets a b i k → Fits a b i k

theorem right_at {l : List Ev} (h : right l = true) {i : Nat} {x : Ev} (hx : l[i]? = some x) : Ev.right l.length x = true := by
 rw [right, Bool.and_eq_true, List.all_eq_true] at h
 exact h.1 x (lM hx)
theorem right_pos {l : List Ev} (h : right l = true) : 0 < l.length := by
 rw [right, Bool.and_eq_true, decide_eq_true_eq] at h
 exact h.2
theorem Ev.right_next {m : Nat} {x : Ev} (h : Ev.right m x = true) : ∀ k ∈ x.next, 0 ≤ k ∧ k < m := by
 simp only [Ev.right, Bool.and_eq_true, List.all_eq_true, decide_eq_true_eq] at h
 exact h.2
theorem Ev.right_kind {m : Nat} {x : Ev} (h : Ev.right m x = true) : kindOk x.s.kind x.next.length = true := by
 simp only [Ev.right, Bool.and_eq_true] at h
 exact h.1.2
theorem Ev.right_bare {m : Nat} {x : Ev} (h : Ev.right m x = true) : x.s.body = [] ∧ x.s.els = [] ∧ x.s.arms = [] := by
 simp only [Ev.right, Bool.and_eq_true, List.isEmpty_iff] at h
 exact ⟨h.1.1.1.1, h.1.1.1.2, h.1.1.2⟩
theorem Ev.nx_at {m : Nat} {x : Ev} (h : Ev.right m x = true) {c : Nat} (hc : 0 < x.next.length) : ∃ k : Nat, x.next[min c (x.next.length - 1)]? = some (k : Int) ∧ x.nx c = k ∧ k < m := by
 have hl : min c (x.next.length - 1) < x.next.length := by omega
 obtain ⟨y, hy⟩ : ∃ y, x.next[min c (x.next.length - 1)]? = some y := ⟨_, lG hl⟩
 have := Ev.right_next h y (lM hy)
 refine ⟨y.toNat, ?_, ?_, by omega⟩
 ·rw [hy]; congr 1; omega
 ·rw [Ev.nx, List.getD_eq_getElem?_getD, hy]; rfl
theorem Ev.one_next {m : Nat} {x : Ev} (h : Ev.right m x = true) (hk : (x.s.kind == 0) = true) : x.next.length = 1 := by
 have := Ev.right_kind h
 simp only [beq_iff_eq] at hk
 simp [kindOk, hk] at this
 exact this
theorem Ev.both_next {m n : Nat} {x y : Ev} (h : Ev.right m x = true) (h2 : Ev.right n y = true) (ho : x.s.one y.s = true) : (0 < x.next.length ∧ 0 < y.next.length) ∨ (x.next.length = 0 ∧ y.next.length = 0) := by
 have a := Ev.right_kind h
 have b := Ev.right_kind h2
 have e : x.s.kind = y.s.kind := by simp [St.one] at ho; exact ho.1.1.1.1.1.1
 rw [e] at a
 simp only [kindOk, Bool.or_eq_true, Bool.and_eq_true, beq_iff_eq, decide_eq_true_eq] at a b
 omega
end Go.Abs
namespace Go.Abs
open Go
def behV : Option (Nat × Int) → V
 | some r => .tup [.int .i64 r.1, .int .i64 r.2]
 | none => .tup [.int .i64 (-1), .int .i64 0]
def Cheap (l : List Ev) : Prop := l.length ≤ 65536 ∧ ∀ x ∈ l, 0 ≤ x.s.cost ∧ x.s.cost ≤ 1048576
namespace TryzT
theorem new21f (n : Nat) (hn : n ≤ 65536) : Ret prog 53 [.int .i64 n] Heap.none fun r _ => SetIs n (fun _ => false) r := by
 refine Ret.by_text rfl rfl ?_
 simp -implicitDefEqProofs only [go_sem, rB, rA, rS, a53]
 intro g
 have f1 : (if (65536 : Int) < (n : Int) then 65536 else (n : Int)) = n := if_neg (by omega)
 have f2 : (if (n : Int) > 0 then (n : Int) else 0) = n := by split <;> omega
 have f3 : IntKind.i64.wrap ((n : Int) + 63) = ((n + 63 : Nat) : Int) := by rw [wrap_in ⟨by omega, by omega⟩]; omega
 have f4 : IntKind.i64.wrap (((n + 63 : Nat) : Int).tdiv 64) = (((n + 63) / 64 : Nat) : Int) := by
  rw [Int.tdiv_eq_ediv_of_nonneg (by omega), wrap_in ⟨by omega, by omega⟩]; omega
 simp -implicitDefEqProofs only [go_sem, rB, rA, rS, rL, f1, f2, f3, f4, show ((64 : Int) = 0) = False by simp]
 refine ⟨by omega, by omega, by omega, fun id hid => ?_⟩
 refine postCF (v := .agg [.int .i64 n, .msl id 0 ((n + 63) / 64)]) (u := setV n ((List.replicate ((n + 63) / 64) 0).map fun (x : Nat) => (x : Int))) (h2 := Heap.none) (fun k => k = id) (by simp -implicitDefEqProofs only [go_sem, rB, rA, rS, rL]) ?_ (fun k b h => by cases h) (fun k _ => rfl) ?_
 ·refine Frz.aggL (.cons (.same _) (.cons (Frz.whole rfl (Eq.trans (upd_self _ _ _) ?_) (by simp)) .nil))
  simp [wordC]
 ·refine ⟨_, rfl, by simp, fun y hy => ?_, fun k hk => ?_⟩
  ·rw [(List.mem_replicate.1 hy).2]; decide
  ·rw [List.getElem?_replicate, if_pos (by omega)]; simp

theorem behind12 (l : List Ev) (i : Nat) (hr : right l = true) (hc : Cheap l) (hi : i < l.length) : Ret prog 34 [evsV l, .int .i64 i] Heap.none fun r _ => ∃ b, Beh l i b ∧ r = behV b := by
 obtain ⟨hl, hco⟩ := hc
 refine Ret.by_text rfl rfl ?_
 simp -implicitDefEqProofs only [go_sem, rB, rA, rS, a34, evsV]
 refine callOk_of (new21f l.length hl) ?_
 rintro u ⟨w0, rfl, hw0, hb0, hS0⟩
 simp -implicitDefEqProofs only [go_sem, rB, rA, rS, rL, setV]
 intro g
 refine Loop.rec (α := Nat × List Nat × Int × List Nat) (fun k => l.length - k.2.1.length) (fun k => ⟨E 48 [(0, evsV l), (1, .int .i64 k.1), (6, .int .i64 k.2.2.1), (7, .lp 7 g 0)], B 48 [(7, some (g, [.int .i64 l.length, .fsl 1 ((k.2.2.2.map fun (x : Nat) => (x : Int)).map wordC)]))], Heap.none⟩)
  (fun k => Way l i k.2.1 k.2.2.1 k.1 ∧ k.2.1.Nodup ∧ SetIs l.length (fun j => k.2.1.contains j) (setV l.length (k.2.2.2.map fun (x : Nat) => (x : Int))) ∧ 0 ≤ k.2.2.1 ∧ k.2.2.1 ≤ k.2.1.length * 1048576 ∧ k.1 < l.length) ?_
  (i, [], 0, w0) ⟨.nil i, by simp, ⟨w0, rfl, hw0, hb0, hS0⟩, by simp, by simp, hi⟩ rfl
 rintro ⟨j, vs, c, w⟩ ⟨hw, hd, hs, hc0, hc1, hj⟩ hrec
 simp only [] at hw hd hs hc0 hc1 hj
 have hvl : vs.length ≤ l.length := nodup_len _ _ hd hw.mem
 obtain ⟨x, hx⟩ : ∃ x, l[j]? = some x := ⟨_, lG hj⟩
 obtain ⟨q0, q1⟩ := hco x (lM hx)
 have hrx := right_at hr hx
 simp -implicitDefEqProofs only [go_sem, rB, rA, rS, rL, evsV, hx, x.cells_cs, Ev.cs]
 refine br_intro (fun h1 => ?_) (fun h1 => ?_)
 ·obtain ⟨k, hk1, hk2, hk3⟩ := Ev.nx_at hrx (c := 0) (by rw [Ev.one_next hrx h1]; omega)
  rw [Nat.zero_min] at hk1
  simp -implicitDefEqProofs only [go_sem, rB, rA, rS, rL, h1]
  refine callOk_pure (has22 hs hl j (by omega)) ?_
  simp -implicitDefEqProofs only [go_sem, rB, rA, rS, show decide (j < l.length) = true by simpa using hj]
  refine br_intro (fun h2 => ?_) (fun h2 => ?_)
  ·simp -implicitDefEqProofs only [go_sem, h2]
   refine post2 ?_
   simp -implicitDefEqProofs only [go_sem, rB, rA, rS]
   exact ⟨none, hw.again (by simpa using h2), rfl⟩
  ·have hjv : j ∉ vs := by simpa using h2
   simp -implicitDefEqProofs only [go_sem, rB, rA, rS, rL, h2]
   refine callOk_of (with23 hs hl j hj) ?_
   rintro u ⟨w2, rfl, hw2, hb2, hS2⟩
   simp -implicitDefEqProofs only [go_sem, rB, rA, rS, rL, jL, jN, setV, hx, x.cells_cs, Ev.cs, hk1, intC, wrap_in (show -9223372036854775808 ≤ c + x.s.cost ∧ c + x.s.cost ≤ 9223372036854775807 by omega)]
   have hv2 : (vs ++ [j]).Nodup := by
    rw [List.nodup_append]
    exact ⟨hd, by simp, fun a ha b hb e => by simp at hb; subst hb; subst e; exact hjv ha⟩
   have hw3 : Way l i (vs ++ [j]) (c + x.s.cost) (x.nx 0) := .snoc hw hx h1
   have hvl2 := nodup_len _ _ hv2 hw3.mem
   rw [hk2] at hw3
   simp only [List.length_append, List.length_cons, List.length_nil] at hvl2
   refine hrec (k, vs ++ [j], c + x.s.cost, w2) (by simp; omega) ⟨hw3, hv2, ⟨w2, rfl, hw2, hb2, fun m hm => by rw [hS2 m hm]; exact Bool.eq_iff_iff.2 (by simp)⟩, by simp only []; omega, by simp; omega, hk3⟩
 ·simp -implicitDefEqProofs only [go_sem, rB, rA, rS, rL, h1, hx, x.cells_cs, Ev.cs, wrap_in (show -9223372036854775808 ≤ c + x.s.cost ∧ c + x.s.cost ≤ 9223372036854775807 by omega)]
  refine post2 ?_
  simp -implicitDefEqProofs only [go_sem, rB, rA, rS]
  exact ⟨_, hw.beh (Beh.stop hx h1), rfl⟩

theorem next14 (x : Ev) (m c : Nat) (hr : Ev.right m x = true) (hp : 0 < x.next.length) (hn : x.next.length < 1000000) : Ret prog 36 [x.v, .int .i64 c] Heap.none fun r _ => r = .int .i64 (x.nx c) := by
 obtain ⟨k, hk1, hk2, hk3⟩ := Ev.nx_at hr (c := c) hp
 refine Ret.by_text rfl rfl ?_
 have f1 : IntKind.i64.wrap ((x.next.length : Int) - 1) = ((x.next.length - 1 : Nat) : Int) := by rw [wrap_in ⟨by omega, by omega⟩]; omega
 have f2 : (if (((x.next.length - 1 : Nat) : Int)) < (c : Int) then (((x.next.length - 1 : Nat) : Int)) else (c : Int)) = ((min c (x.next.length - 1) : Nat) : Int) := by split <;> omega
 simp -implicitDefEqProofs only [go_sem, rB, rA, rS, rL, a36, Ev.cellsOf_v, Ev.cs]
 intro g
 simp -implicitDefEqProofs only [go_sem, rB, rA, rS, rL, f1, f2, hk1, intC]
 refine post1 ?_
 simp -implicitDefEqProofs only [go_sem, rB, rA, rS, hk2]

end TryzT
end Go.Abs
namespace Go.Abs
open Go
theorem partAll {cs : List V} {n : Nat} (h : cs.length = n) : partOf cs 0 n true = some (.agg cs) := by
 subst h; simp [partOf]
namespace TryzT
theorem like24 {α : Type} (cells : α → List V) (hl : ∀ x, (cells x).length = 19) (spec : α → α → Bool) (a b : List α) (fk : Nat) (caps : List V) (ha : a.length < 1000000)
  (hf : ∀ x ∈ a, ∀ y ∈ b, Ret prog fk (.agg (cells x) :: .agg (cells y) :: caps) Heap.none fun r _ => r = .bool (spec x y)) :
  Ret prog 56 [.fsl 19 (a.map cells), .fsl 19 (b.map cells), .fn fk caps] Heap.none fun r _ => r = .bool (all2 spec a b) := by
 refine Ret.by_text rfl rfl ?_
 simp -implicitDefEqProofs only [go_sem, rB, rA, rS, a56]
 refine br_intro (fun h5 => ?_) (fun h5 => ?_)
 ·simp -implicitDefEqProofs only [go_sem, h5]
  refine post1 ?_
  simp -implicitDefEqProofs only [go_sem, rB, rA, rS]
  rw [all2_len (by simpa [Int.natCast_inj] using h5)]
 simp -implicitDefEqProofs only [go_sem, rB, rA, rS, h5]
 simp only [bne_eq_false_iff_eq, Int.natCast_inj] at h5
 refine Loop.rec (fun k : Nat => a.length - k) (fun k => ⟨E 30 [(0, .fsl 19 (a.map cells)), (1, .fsl 19 (b.map cells)), (2, .fn fk caps), (14, .int .i64 a.length), (15, .int .i64 k)], B 30 [], Heap.none⟩)
  (fun k => k ≤ a.length ∧ all2 spec a b = all2 spec (a.drop k) (b.drop k)) ?_ 0 ⟨Nat.zero_le _, rfl⟩ rfl
 intro k hk hi
 simp -implicitDefEqProofs only [go_sem, rB, rA, rS]
 refine br_intro (fun h6 => ?_) (fun h6 => ?_)
 ·have h7 : k < a.length := by simpa using h6
  obtain ⟨x, hx⟩ : ∃ x, a[k]? = some x := ⟨_, lG h7⟩
  obtain ⟨y, hy⟩ : ∃ y, b[k]? = some y := ⟨_, lG (h5 ▸ h7)⟩
  simp -implicitDefEqProofs only [W_skip, W_region, W_seq, W_block, Thn_normal, wOps_nil, wOps_cons, val_0, valK_eq, onPut_some, onFn_fn, callv_0, callvK_eq, ev_E, set_E, look_cons, look_nil, cond_true, cond_false, rB, rA, rS, if_true, and_self, List.map_cons, List.map_nil, List.nil_append, List.cons_append, AVal.eval, nat_le, Int.toNat_natCast, List.getElem?_map, Option.map_some, loadOf, cellsAt, h6, hx, hy, partAll (hl x), partAll (hl y)]
  refine callOk_pure (hf x (lM hx) y (lM hy)) ?_
  simp -implicitDefEqProofs only [go_sem, rB, rA, rS]
  refine br_intro (fun h8 => ?_) (fun h8 => ?_)
  ·simp -implicitDefEqProofs only [go_sem, rB, rA, rS, wrap_succ (show k < 9223372036854775807 by omega)]
   exact hi (k + 1) (by omega) ⟨by omega, by rw [hk.2, all2_drop hx hy, h8, Bool.true_and]⟩
  ·simp -implicitDefEqProofs only [go_sem]
   refine post1 ?_
   simp -implicitDefEqProofs only [go_sem, rB, rA, rS]
   rw [hk.2, all2_drop hx hy, h8, Bool.false_and]
 ·simp -implicitDefEqProofs only [go_sem, rB, h6]
  refine post1 ?_
  simp -implicitDefEqProofs only [go_sem, rB, rA, rS]
  have h7 : ¬ k < a.length := by simpa using h6
  rw [hk.2, all2_end (by omega) h5]

theorem like38 {α : Type} (cells : α → List V) (hl : ∀ x, (cells x).length = 5) (spec : α → α → Bool) (a b : List α) (fk : Nat) (caps : List V) (ha : a.length < 1000000)
  (hf : ∀ x ∈ a, ∀ y ∈ b, Ret prog fk (.agg (cells x) :: .agg (cells y) :: caps) Heap.none fun r _ => r = .bool (spec x y)) :
  Ret prog 82 [.fsl 5 (a.map cells), .fsl 5 (b.map cells), .fn fk caps] Heap.none fun r _ => r = .bool (all2 spec a b) := by
 refine Ret.by_text rfl rfl ?_
 simp -implicitDefEqProofs only [go_sem, rB, rA, rS, a82]
 refine br_intro (fun h5 => ?_) (fun h5 => ?_)
 ·simp -implicitDefEqProofs only [go_sem, h5]
  refine post1 ?_
  simp -implicitDefEqProofs only [go_sem, rB, rA, rS]
  rw [all2_len (by simpa [Int.natCast_inj] using h5)]
 simp -implicitDefEqProofs only [go_sem, rB, rA, rS, h5]
 simp only [bne_eq_false_iff_eq, Int.natCast_inj] at h5
 refine Loop.rec (fun k : Nat => a.length - k) (fun k => ⟨E 30 [(0, .fsl 5 (a.map cells)), (1, .fsl 5 (b.map cells)), (2, .fn fk caps), (14, .int .i64 a.length), (15, .int .i64 k)], B 30 [], Heap.none⟩)
  (fun k => k ≤ a.length ∧ all2 spec a b = all2 spec (a.drop k) (b.drop k)) ?_ 0 ⟨Nat.zero_le _, rfl⟩ rfl
 intro k hk hi
 simp -implicitDefEqProofs only [go_sem, rB, rA, rS]
 refine br_intro (fun h6 => ?_) (fun h6 => ?_)
 ·have h7 : k < a.length := by simpa using h6
  obtain ⟨x, hx⟩ : ∃ x, a[k]? = some x := ⟨_, lG h7⟩
  obtain ⟨y, hy⟩ : ∃ y, b[k]? = some y := ⟨_, lG (h5 ▸ h7)⟩
  simp -implicitDefEqProofs only [W_skip, W_region, W_seq, W_block, Thn_normal, wOps_nil, wOps_cons, val_0, valK_eq, onPut_some, onFn_fn, callv_0, callvK_eq, ev_E, set_E, look_cons, look_nil, cond_true, cond_false, rB, rA, rS, if_true, and_self, List.map_cons, List.map_nil, List.nil_append, List.cons_append, AVal.eval, nat_le, Int.toNat_natCast, List.getElem?_map, Option.map_some, loadOf, cellsAt, h6, hx, hy, partAll (hl x), partAll (hl y)]
  refine callOk_pure (hf x (lM hx) y (lM hy)) ?_
  simp -implicitDefEqProofs only [go_sem, rB, rA, rS]
  refine br_intro (fun h8 => ?_) (fun h8 => ?_)
  ·simp -implicitDefEqProofs only [go_sem, rB, rA, rS, wrap_succ (show k < 9223372036854775807 by omega)]
   exact hi (k + 1) (by omega) ⟨by omega, by rw [hk.2, all2_drop hx hy, h8, Bool.true_and]⟩
  ·simp -implicitDefEqProofs only [go_sem]
   refine post1 ?_
   simp -implicitDefEqProofs only [go_sem, rB, rA, rS]
   rw [hk.2, all2_drop hx hy, h8, Bool.false_and]
 ·simp -implicitDefEqProofs only [go_sem, rB, h6]
  refine post1 ?_
  simp -implicitDefEqProofs only [go_sem, rB, rA, rS]
  have h7 : ¬ k < a.length := by simpa using h6
  rw [hk.2, all2_end (by omega) h5]

theorem like39 {α : Type} (cells : α → List V) (hl : ∀ x, (cells x).length = 6) (spec : α → α → Bool) (a b : List α) (fk : Nat) (caps : List V) (ha : a.length < 1000000)
  (hf : ∀ x ∈ a, ∀ y ∈ b, Ret prog fk (.agg (cells x) :: .agg (cells y) :: caps) Heap.none fun r _ => r = .bool (spec x y)) :
  Ret prog 83 [.fsl 6 (a.map cells), .fsl 6 (b.map cells), .fn fk caps] Heap.none fun r _ => r = .bool (all2 spec a b) := by
 refine Ret.by_text rfl rfl ?_
 simp -implicitDefEqProofs only [go_sem, rB, rA, rS, a83]
 refine br_intro (fun h5 => ?_) (fun h5 => ?_)
 ·simp -implicitDefEqProofs only [go_sem, h5]
  refine post1 ?_
  simp -implicitDefEqProofs only [go_sem, rB, rA, rS]
  rw [all2_len (by simpa [Int.natCast_inj] using h5)]
 simp -implicitDefEqProofs only [go_sem, rB, rA, rS, h5]
 simp only [bne_eq_false_iff_eq, Int.natCast_inj] at h5
 refine Loop.rec (fun k : Nat => a.length - k) (fun k => ⟨E 30 [(0, .fsl 6 (a.map cells)), (1, .fsl 6 (b.map cells)), (2, .fn fk caps), (14, .int .i64 a.length), (15, .int .i64 k)], B 30 [], Heap.none⟩)
  (fun k => k ≤ a.length ∧ all2 spec a b = all2 spec (a.drop k) (b.drop k)) ?_ 0 ⟨Nat.zero_le _, rfl⟩ rfl
 intro k hk hi
 simp -implicitDefEqProofs only [go_sem, rB, rA, rS]
 refine br_intro (fun h6 => ?_) (fun h6 => ?_)
 ·have h7 : k < a.length := by simpa using h6
  obtain ⟨x, hx⟩ : ∃ x, a[k]? = some x := ⟨_, lG h7⟩
  obtain ⟨y, hy⟩ : ∃ y, b[k]? = some y := ⟨_, lG (h5 ▸ h7)⟩
  simp -implicitDefEqProofs only [W_skip, W_region, W_seq, W_block, Thn_normal, wOps_nil, wOps_cons, val_0, valK_eq, onPut_some, onFn_fn, callv_0, callvK_eq, ev_E, set_E, look_cons, look_nil, cond_true, cond_false, rB, rA, rS, if_true, and_self, List.map_cons, List.map_nil, List.nil_append, List.cons_append, AVal.eval, nat_le, Int.toNat_natCast, List.getElem?_map, Option.map_some, loadOf, cellsAt, h6, hx, hy, partAll (hl x), partAll (hl y)]
  refine callOk_pure (hf x (lM hx) y (lM hy)) ?_
  simp -implicitDefEqProofs only [go_sem, rB, rA, rS]
  refine br_intro (fun h8 => ?_) (fun h8 => ?_)
  ·simp -implicitDefEqProofs only [go_sem, rB, rA, rS, wrap_succ (show k < 9223372036854775807 by omega)]
   exact hi (k + 1) (by omega) ⟨by omega, by rw [hk.2, all2_drop hx hy, h8, Bool.true_and]⟩
  ·simp -implicitDefEqProofs only [go_sem]
   refine post1 ?_
   simp -implicitDefEqProofs only [go_sem, rB, rA, rS]
   rw [hk.2, all2_drop hx hy, h8, Bool.false_and]
 ·simp -implicitDefEqProofs only [go_sem, rB, h6]
  refine post1 ?_
  simp -implicitDefEqProofs only [go_sem, rB, rA, rS]
  have h7 : ¬ k < a.length := by simpa using h6
  rw [hk.2, all2_end (by omega) h5]

theorem like40 {α : Type} (cells : α → List V) (hl : ∀ x, (cells x).length = 2) (spec : α → α → Bool) (a b : List α) (fk : Nat) (caps : List V) (ha : a.length < 1000000)
  (hf : ∀ x ∈ a, ∀ y ∈ b, Ret prog fk (.agg (cells x) :: .agg (cells y) :: caps) Heap.none fun r _ => r = .bool (spec x y)) :
  Ret prog 84 [.fsl 2 (a.map cells), .fsl 2 (b.map cells), .fn fk caps] Heap.none fun r _ => r = .bool (all2 spec a b) := by
 refine Ret.by_text rfl rfl ?_
 simp -implicitDefEqProofs only [go_sem, rB, rA, rS, a84]
 refine br_intro (fun h5 => ?_) (fun h5 => ?_)
 ·simp -implicitDefEqProofs only [go_sem, h5]
  refine post1 ?_
  simp -implicitDefEqProofs only [go_sem, rB, rA, rS]
  rw [all2_len (by simpa [Int.natCast_inj] using h5)]
 simp -implicitDefEqProofs only [go_sem, rB, rA, rS, h5]
 simp only [bne_eq_false_iff_eq, Int.natCast_inj] at h5
 refine Loop.rec (fun k : Nat => a.length - k) (fun k => ⟨E 30 [(0, .fsl 2 (a.map cells)), (1, .fsl 2 (b.map cells)), (2, .fn fk caps), (14, .int .i64 a.length), (15, .int .i64 k)], B 30 [], Heap.none⟩)
  (fun k => k ≤ a.length ∧ all2 spec a b = all2 spec (a.drop k) (b.drop k)) ?_ 0 ⟨Nat.zero_le _, rfl⟩ rfl
 intro k hk hi
 simp -implicitDefEqProofs only [go_sem, rB, rA, rS]
 refine br_intro (fun h6 => ?_) (fun h6 => ?_)
 ·have h7 : k < a.length := by simpa using h6
  obtain ⟨x, hx⟩ : ∃ x, a[k]? = some x := ⟨_, lG h7⟩
  obtain ⟨y, hy⟩ : ∃ y, b[k]? = some y := ⟨_, lG (h5 ▸ h7)⟩
  simp -implicitDefEqProofs only [W_skip, W_region, W_seq, W_block, Thn_normal, wOps_nil, wOps_cons, val_0, valK_eq, onPut_some, onFn_fn, callv_0, callvK_eq, ev_E, set_E, look_cons, look_nil, cond_true, cond_false, rB, rA, rS, if_true, and_self, List.map_cons, List.map_nil, List.nil_append, List.cons_append, AVal.eval, nat_le, Int.toNat_natCast, List.getElem?_map, Option.map_some, loadOf, cellsAt, h6, hx, hy, partAll (hl x), partAll (hl y)]
  refine callOk_pure (hf x (lM hx) y (lM hy)) ?_
  simp -implicitDefEqProofs only [go_sem, rB, rA, rS]
  refine br_intro (fun h8 => ?_) (fun h8 => ?_)
  ·simp -implicitDefEqProofs only [go_sem, rB, rA, rS, wrap_succ (show k < 9223372036854775807 by omega)]
   exact hi (k + 1) (by omega) ⟨by omega, by rw [hk.2, all2_drop hx hy, h8, Bool.true_and]⟩
  ·simp -implicitDefEqProofs only [go_sem]
   refine post1 ?_
   simp -implicitDefEqProofs only [go_sem, rB, rA, rS]
   rw [hk.2, all2_drop hx hy, h8, Bool.false_and]
 ·simp -implicitDefEqProofs only [go_sem, rB, h6]
  refine post1 ?_
  simp -implicitDefEqProofs only [go_sem, rB, rA, rS]
  have h7 : ¬ k < a.length := by simpa using h6
  rw [hk.2, all2_end (by omega) h5]

theorem arg34 (a b : Ar) (ha : a.e.size < 4611686018427387904) : Ret prog 78 [a.v, b.v] Heap.none fun r _ => r = .bool (a.same b) := by
 refine Ret.by_text rfl rfl ?_
 simp -implicitDefEqProofs only [go_sem, rB, rA, rS, rL, a78, Ar.cellsOf_v]
 intro g1 g2
 refine br_intro (fun h1 => ?_) (fun h1 => ?_)
 ·simp -implicitDefEqProofs only [go_sem, rB, rA, rS, rL, h1, Ex.fold]
  refine callOk_pure (same33 a.e b.e ha) ?_
  simp -implicitDefEqProofs only [go_sem, rB, rA, rS]
  refine post1 ?_
  simp -implicitDefEqProofs only [go_sem, rB, rA, rS, Ar.same, h1, Bool.true_and]
 ·simp -implicitDefEqProofs only [go_sem, rB, rA, rS, h1]
  refine post1 ?_
  simp -implicitDefEqProofs only [go_sem, rB, rA, rS, Ar.same, h1]
  rfl
def _root_.Go.Abs.St.Bare (x : St) : Prop := x.body = [] ∧ x.els = [] ∧ x.arms = []
structure _root_.Go.Abs.St.Short (x : St) : Prop where
 e : x.e.size < 1000000
 i : x.i.size < 1000000
 l : sizeL x.l < 1000000
 a : x.args.length < 1000000
 ae : ∀ y ∈ x.args, y.e.size < 1000000
theorem _root_.Go.Abs.sizeL_mem {l : List Ex} {e : Ex} (h : e ∈ l) : e.size ≤ sizeL l := by
 obtain ⟨k, hk, rfl⟩ := List.getElem_of_mem h
 exact size_mem (lG hk)
theorem same13nil : Ret prog 35 [.fsl 19 [], .fsl 19 []] Heap.none fun r _ => r = .bool true := by
 refine Ret.by_text rfl rfl ?_
 simp -implicitDefEqProofs only [go_sem, rB, rA, rS, a35]
 refine callOk_pure (like24 (α := St) St.cells (fun x => by rw [St.cells_cs]; rfl) (fun _ _ => true) [] [] 57 [] (by decide) (fun x h => by cases h)) ?_
 simp -implicitDefEqProofs only [go_sem, rB, rA, rS]
 refine post1 ?_
 simp -implicitDefEqProofs only [go_sem, rB, rA, rS]
 rfl
theorem same25 (x y : St) (hx : x.Bare) (hy : y.Bare) (hs : x.Short) : Ret prog 57 [x.v, y.v] Heap.none fun r _ => r = .bool (x.cost == y.cost && x.one y) := by
 obtain ⟨x1, x2, x3⟩ := hx
 obtain ⟨y1, y2, y3⟩ := hy
 have hse := hs.e
 have hsi := hs.i
 have hsl := hs.l
 refine Ret.by_text rfl rfl ?_
 simp -implicitDefEqProofs only [go_sem, rB, rA, rS, rL, a57, St.cellsOf_v, St.cs, x1, x2, x3, y1, y2, y3]
 intro g1 g2
 refine br_intro (fun h1 => ?_) (fun h1 => ?_)
 ·simp -implicitDefEqProofs only [go_sem, rB, rA, rS, h1]
  refine post1 ?_
  simp -implicitDefEqProofs only [go_sem, rB, rA, rS, St.one]
  simp_all [bne]
 simp -implicitDefEqProofs only [go_sem, rB, rA, rS, rL, h1]
 refine br_intro (fun h2 => ?_) (fun h2 => ?_)
 ·simp -implicitDefEqProofs only [go_sem, rB, rA, rS, h2]
  refine post1 ?_
  simp -implicitDefEqProofs only [go_sem, rB, rA, rS, St.one]
  simp_all [bne]
 simp -implicitDefEqProofs only [go_sem, rB, rA, rS, rL, h2]
 refine br_intro (fun h3 => ?_) (fun h3 => ?_)
 ·simp -implicitDefEqProofs only [go_sem, rB, rA, rS, h3]
  refine post1 ?_
  simp -implicitDefEqProofs only [go_sem, rB, rA, rS, St.one]
  simp_all [bne]
 simp -implicitDefEqProofs only [go_sem, rB, rA, rS, rL, h3]
 refine br_intro (fun h4 => ?_) (fun h4 => ?_)
 ·simp -implicitDefEqProofs only [go_sem, rB, rA, rS, h4]
  refine post1 ?_
  simp -implicitDefEqProofs only [go_sem, rB, rA, rS, St.one]
  simp_all [bne]
 simp -implicitDefEqProofs only [go_sem, rB, rA, rS, rL, h4]
 simp -implicitDefEqProofs only [go_sem, Ex.fold]
 refine callOk_pure (same33 x.e y.e (by omega)) ?_
 simp -implicitDefEqProofs only [go_sem, rB, rA, rS]
 refine br_intro2 (fun h5 => ?_) (fun h5 => ?_)
 ·simp -implicitDefEqProofs only [go_sem, rB, rA, rS, h5]
  refine post1 ?_
  simp -implicitDefEqProofs only [go_sem, rB, rA, rS, St.one, h5]
  simp
 simp -implicitDefEqProofs only [go_sem, rB, rA, rS, rL, h5, Ex.fold]
 refine callOk_pure (same33 x.i y.i (by omega)) ?_
 simp -implicitDefEqProofs only [go_sem, rB, rA, rS]
 refine br_intro2 (fun h6 => ?_) (fun h6 => ?_)
 ·simp -implicitDefEqProofs only [go_sem, h6]
  refine post1 ?_
  simp -implicitDefEqProofs only [go_sem, rB, rA, rS, St.one, h6]
  simp
 simp -implicitDefEqProofs only [go_sem, rB, rA, rS, rL, h6]
 intro g3
 simp only [bne_eq_false_iff_eq] at h1 h2 h3 h4
 have hone : (x.cost == y.cost && x.one y) = (all2 Ex.same x.l y.l && all2 Ar.same x.args y.args) := by simp [St.one, h1, h2, h3, h4, h5, h6]
 rw [hone]
 refine callOk_pure (like38 Ex.cells (fun x => by rw [Ex.cells_cs]; rfl) Ex.same x.l y.l 77 [] (by have := size_len x.l; omega) (fun a ha b hb => same33 a b (by have := sizeL_mem ha; omega))) ?_
 simp -implicitDefEqProofs only [go_sem, rB, rA, rS]
 refine br_intro (fun h7 => ?_) (fun h7 => ?_)
 ·simp -implicitDefEqProofs only [go_sem, rB, rA, rS, rL, h7]
  refine callOk_pure (like39 Ar.cells (fun x => by rw [Ar.cells_eq]; rfl) Ar.same x.args y.args 78 [] hs.a (fun a ha b hb => arg34 a b (by have := hs.ae a ha; omega))) ?_
  simp -implicitDefEqProofs only [go_sem, rB, rA, rS]
  refine br_intro (fun h8 => ?_) (fun h8 => ?_)
  ·simp -implicitDefEqProofs only [go_sem, rB, rA, rS, rL, h8]
   refine callOk_pure same13nil ?_
   simp -implicitDefEqProofs only [go_sem, rB, rA, rS, rL]
   refine callOk_pure same13nil ?_
   simp -implicitDefEqProofs only [go_sem, rB, rA, rS, rL]
   refine callOk_pure (like40 (α := Am) Am.cells (fun x => by rw [Am.cells_eq]; rfl) (fun _ _ => true) [] [] 80 [.lp 6 g3 0] (by decide) (fun x h => by cases h)) ?_
   simp -implicitDefEqProofs only [go_sem, rB, rA, rS]
   refine post1 ?_
   simp -implicitDefEqProofs only [go_sem, rB, rA, rS, Bool.true_and]
   rfl
  ·simp -implicitDefEqProofs only [go_sem, rB, rA, rS, h8]
   refine post1 ?_
   simp -implicitDefEqProofs only [go_sem, rB, rA, rS, Bool.true_and]
 ·simp -implicitDefEqProofs only [go_sem, rB, rA, rS, h7]
  refine post1 ?_
  simp -implicitDefEqProofs only [go_sem, rB, rA, rS, Bool.false_and]

theorem same13 (x y : St) (hx : x.Bare) (hy : y.Bare) (hs : x.Short) : Ret prog 35 [stsV [x], stsV [y]] Heap.none fun r _ => r = .bool (x.cost == y.cost && x.one y) := by
 refine Ret.by_text rfl rfl ?_
 simp -implicitDefEqProofs only [go_sem, rB, rA, rS, a35]
 refine callOk_pure (like24 St.cells (fun x => by rw [St.cells_cs]; rfl) (fun x y => x.cost == y.cost && x.one y) [x] [y] 57 [] (by simp) (fun a ha b hb => by
  simp at ha hb; subst ha; subst hb
  exact same25 a b hx hy hs)) ?_
 simp -implicitDefEqProofs only [go_sem, rB, rA, rS]
 refine post1 ?_
 simp -implicitDefEqProofs only [go_sem, rB, rA, rS]
 simp [all2]

end TryzT
end Go.Abs
