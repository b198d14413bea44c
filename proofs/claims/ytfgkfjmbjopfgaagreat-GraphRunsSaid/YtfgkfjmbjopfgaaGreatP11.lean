/-
  A part of the proof. Conditions: none.
-/
import Derived.Test.YtfgkfjmbjopfgaaGreatP10
set_option linter.unusedVariables false
set_option linter.unusedSimpArgs false
set_option maxRecDepth 100000
set_option maxHeartbeats 16000000
open Nat renaming reduceBEq → rB, reduceAdd → rA, reduceSub → rS, reduceLeDiff → rL
open Int renaming reduceLE → jL, reduceToNat → jN, reduceBEq → jB
open List renaming getElem?_eq_getElem → lG, getElem?_eq_some_iff → lS, mem_of_getElem? → lM, mem_cons_self → lC, mem_cons_of_mem → lK
namespace Go.Abs
open Go
namespace TryzT
theorem fixW {r : RS} {was : Int} (h : r.fault ≠ 0 ∨ r.left < was) : (if r.left = was then takeF r 1 else r) = r := by
 split
 ·rename_i e
  rcases h with h | h
  ·exact takeF_bad h 1
  ·omega
 ·rfl
theorem exL_bad {s : Sc} {n : Nat} {r : RS} {sl : List Int} {l : List St} {q : RS × List Int × Int} (hf : r.fault ≠ 0) (h : exL s n r sl l = some q) : q = (r, sl, 0) := by
 cases n with
 | zero => simp [exL] at h
 | succ n =>
  cases l with
  | nil => simp only [exL, Option.some.injEq] at h; exact h.symm
  | cons x l => rw [exL, if_pos hf] at h; injection h with h; exact h.symm
theorem exW_bad {s : Sc} {r : RS} (sl : List Int) (x : St) (hf : r.fault ≠ 0) : exW s 1 r sl x = some (r, sl, 0) := by rw [exW, if_pos hf]
theorem plF_zero (s : Sc) (r : RS) (sl : List Int) (c : Int) : plF s r sl (zeroS 0 c) = (r, sl) := by
 unfold plF
 simp only []
 rw [if_neg (by simp [zeroS, St.kind]), if_neg (by simp [zeroS, St.kind]), if_neg (by simp [zeroS, St.kind]), if_neg (by simp [zeroS, St.kind]), if_neg (by simp [zeroS, St.kind])]
theorem falls {s : Sc} {n : Nat} {r : RS} {sl : List Int} {l : List St} {q : RS × List Int × Int} (hl : ∀ x ∈ l, CW' s x) (hf : Fit s r sl) (h0 : r.fault = 0) (h : exL s n r sl (zeroS 0 1 :: l) = some q) : q.1.fault ≠ 0 ∨ q.1.left < r.left := by
 cases n with
 | zero => simp [exL] at h
 | succ n =>
  rw [exL, if_neg (by simpa using h0)] at h
  split at h
  ·cases h
  ·rename_i r2 sl2 e he
   cases n with
   | zero => simp [exO] at he
   | succ n =>
    rw [exO, if_neg (by simp [zeroS, St.kind])] at he
    have hc : (zeroS 0 1).cost = 1 := rfl
    rw [hc] at he
    split at he
    ·rename_i hb
     injection he with he
     injection he with e1 e2
     injection e2 with e2 e3
     subst e1; subst e2; subst e3
     rw [if_neg (by simp)] at h
     have := exL_bad hb h
     subst this
     exact .inl hb
    ·rename_i hb
     rw [if_neg (by simp [zeroS, St.kind]), if_neg (by simp [zeroS, St.kind]), plF_zero] at he
     injection he with he
     injection he with e1 e2
     injection e2 with e2 e3
     simp only [] at e1 e2
     subst e1; subst e2; subst e3
     rw [if_neg (by simp)] at h
     have ht := (takeF_fault (by simpa using hb)).2.2
     obtain ⟨_, h2⟩ := (ex_keep s _).1 _ _ _ _ hl hf.one h
     refine .inr (Int.lt_of_le_of_lt h2 ?_)
     rw [ht]
     simp only []
     omega
theorem ex_total (s : Sc) : ∀ (d : Nat) (x : St), St.Small d x → CW' s x → ∀ (r : RS) (sl : List Int), Fit s r sl → ∃ n q, exO s n r sl x = some q := by
 intro d
 induction d with
 | zero => exact fun x h => h.elim
 | succ d ih =>
  have tL : ∀ (l : List St), (∀ x ∈ l, St.Small d x) → (∀ x ∈ l, CW' s x) → ∀ (r : RS) (sl : List Int), Fit s r sl → ∃ n q, exL s n r sl l = some q := by
   intro l
   induction l with
   | nil => exact fun _ _ r sl _ => ⟨1, _, rfl⟩
   | cons x l ihl =>
    intro hs hc r sl hf
    by_cases h0 : r.fault ≠ 0
    ·exact ⟨1, (r, sl, 0), by rw [exL, if_pos h0]⟩
    ·obtain ⟨n1, ⟨r2, sl2, e⟩, hq⟩ := ih x (hs x lC) (hc x lC) r sl hf
     obtain ⟨hf2, _⟩ := (ex_keep s _).2.1 _ _ _ _ (hc x lC) hf hq
     by_cases he : e ≠ 0
     ·exact ⟨n1 + 1, (r2, sl2, e), by rw [exL, if_neg h0, hq]; simp only [if_pos he]⟩
     ·obtain ⟨n2, q2, hq2⟩ := ihl (fun y hy => hs y (lK _ hy)) (fun y hy => hc y (lK _ hy)) r2 sl2 hf2
      exact ⟨max n1 n2 + 1, q2, by rw [exL, if_neg h0, exO_le s (Nat.le_max_left _ _) hq]; simp only [if_neg he]; exact exL_le s (Nat.le_max_right _ _) hq2⟩
  rintro x ⟨hfl, sb, se, sa⟩ hc r sl hf
  obtain ⟨lp, hw⟩ := id hc
  have hcost := hw.1.facts.1
  obtain ⟨_, hu8, hu9, _, _, _⟩ := hw.2.facts
  by_cases hk : x.kind ≥ 8 ∧ x.kind ≤ 10
  ·-- a loop
   have tW : ∀ (m : Nat) (r : RS) (sl : List Int), Fit s r sl → r.left.toNat ≤ m → ∃ n q, exW s n r sl x = some q := by
    intro m
    induction m using Nat.strongRecOn with
    | ind m ihm =>
    intro r sl hf hm
    by_cases h0 : r.fault ≠ 0
    ·exact ⟨1, _, exW_bad sl x h0⟩
    have h0' : r.fault = 0 := by simpa using h0
    have again : ∀ (r3 : RS) (sl3 : List Int), Fit s r3 sl3 → (r3.fault ≠ 0 ∨ r3.left < r.left) → ∃ n q, exW s n (if r3.left = r.left then takeF r3 1 else r3) sl3 x = some q := by
     intro r3 sl3 hf3 h3
     rw [fixW h3]
     rcases h3 with h3 | h3
     ·exact ⟨1, _, exW_bad sl3 x h3⟩
     ·have := hf3.l0
      exact ihm r3.left.toNat (by omega) r3 sl3 hf3 (Nat.le_refl _)
    have tB : ∀ (r1 : RS), Fit s r1 sl → r1.left ≤ r.left → (x.kind = 8 → r1.left < r.left) → (x.kind ≠ 8 → r1 = r) → ∃ n q, exB s n r.left r1 sl x = some q := by
     intro r1 hf1 hle hlt heq
     obtain ⟨n1, ⟨r2, sl2, e⟩, hq⟩ := tL x.body sb (fun y hy => ⟨_, hw.body y hy⟩) r1 sl hf1
     obtain ⟨hf2, hl2⟩ := (ex_keep s _).1 _ _ _ _ (fun y hy => ⟨_, hw.body y hy⟩) hf1 hq
     simp only [] at hf2 hl2
     by_cases he : e = 3 ∨ e = 1
     ·exact ⟨n1 + 1, _, by rw [exB, hq]; simp only [if_pos he]; rfl⟩
     have hfall : r2.fault ≠ 0 ∨ r2.left < r.left := by
      by_cases k8 : x.kind = 8
      ·have := hlt k8; exact .inr (by omega)
      ·obtain ⟨rest, hb⟩ := hu9 (by omega)
       have e1 := heq k8
       subst e1
       rw [hb] at hq
       exact falls (fun y hy => ⟨_, hw.body y (by rw [hb]; exact lK _ hy)⟩) hf1 h0' hq
     by_cases k10 : x.kind = 10
     ·have ht := hf2.take hcost
      have htl := (takeF_left r2 x.cost hcost).1
      obtain ⟨hox, hol⟩ := ofF_x s (takeF r2 x.cost) sl2 x.e
      by_cases hb : (takeF r2 x.cost).fault ≠ 0
      ·exact ⟨n1 + 1, _, by rw [exB, hq]; simp only [if_neg he, if_pos k10, if_pos hb]; rfl⟩
      by_cases hv : (ofF s (takeF r2 x.cost) sl2 x.e).2 = 1
      ·exact ⟨n1 + 1, _, by rw [exB, hq]; simp only [if_neg he, if_pos k10, if_neg hb, if_pos hv]; rfl⟩
      have hf0 := takeF_fault (by simpa using hb)
      have h3 : (ofF s (takeF r2 x.cost) sl2 x.e).1.fault ≠ 0 ∨ (ofF s (takeF r2 x.cost) sl2 x.e).1.left < r.left := by
       rcases hfall with h | h
       ·exact absurd hf0.1 h
       ·exact .inr (by omega)
      obtain ⟨n2, q2, hq2⟩ := again _ sl2 (ht.of x.e) h3
      exact ⟨max n1 n2 + 1, q2, by rw [exB, exL_le s (Nat.le_max_left _ _) hq]; simp only [if_neg he, if_pos k10, if_neg hb, if_neg hv]; exact exW_le s (Nat.le_max_right _ _) hq2⟩
     ·obtain ⟨n2, q2, hq2⟩ := again r2 sl2 hf2 hfall
      exact ⟨max n1 n2 + 1, q2, by rw [exB, exL_le s (Nat.le_max_left _ _) hq]; simp only [if_neg he, if_neg k10]; exact exW_le s (Nat.le_max_right _ _) hq2⟩
    by_cases k8 : x.kind = 8
    ·have ht := hf.take hcost
     have htl := (takeF_left r x.cost hcost).1
     obtain ⟨hox, hol⟩ := ofF_x s (takeF r x.cost) sl x.e
     by_cases hb : (takeF r x.cost).fault ≠ 0
     ·exact ⟨1, _, by rw [exW, if_neg h0, if_pos k8, if_pos hb]⟩
     by_cases hv : (ofF s (takeF r x.cost) sl x.e).2 = 0
     ·exact ⟨1, _, by rw [exW, if_neg h0, if_pos k8, if_neg hb, if_pos hv]⟩
     have hf0 := takeF_fault (by simpa using hb)
     have hc1 := hu8 k8
     obtain ⟨n, q, hq⟩ := tB _ (ht.of x.e) (by omega) (fun _ => by rw [hol, hf0.2.2]; simp only []; omega) (fun h => absurd k8 h)
     exact ⟨n + 1, q, by rw [exW, if_neg h0, if_pos k8, if_neg hb, if_neg hv]; exact hq⟩
    ·obtain ⟨n, q, hq⟩ := tB r hf (Int.le_refl _) (fun h => absurd h k8) (fun _ => rfl)
     exact ⟨n + 1, q, by rw [exW, if_neg h0, if_neg k8]; exact hq⟩
   obtain ⟨n, q, hq⟩ := tW _ r sl hf (Nat.le_refl _)
   exact ⟨n + 1, q, by rw [exO, if_pos hk]; exact hq⟩
  ·by_cases hb : (takeF r x.cost).fault ≠ 0
   ·exact ⟨1, _, by rw [exO, if_neg hk, if_pos hb]⟩
   by_cases h12 : x.kind ≥ 12
   ·exact ⟨1, _, by rw [exO, if_neg hk, if_neg hb, if_pos h12]⟩
   by_cases h7 : x.kind = 7 ∨ x.kind = 11
   ·have hp := pick_mem (lp := lp) (v := (ofF s (takeF r x.cost) sl x.e).2) sb se (fun a ha => (sa a ha).2)
    obtain ⟨n, q, hq⟩ := tL _ hp (hc.pick _) _ sl ((hf.take hcost).of x.e)
    exact ⟨n + 1, q, by rw [exO, if_neg hk, if_neg hb, if_neg h12, if_pos h7]; exact hq⟩
   ·exact ⟨1, _, by rw [exO, if_neg hk, if_neg hb, if_neg h12, if_neg h7]⟩
theorem exL_total (s : Sc) (d : Nat) : ∀ (l : List St), (∀ x ∈ l, St.Small d x) → (∀ x ∈ l, CW' s x) → ∀ (r : RS) (sl : List Int), Fit s r sl → ∃ n q, exL s n r sl l = some q := by
 intro l
 induction l with
 | nil => exact fun _ _ r sl _ => ⟨1, _, rfl⟩
 | cons x l ihl =>
  intro hs hc r sl hf
  by_cases h0 : r.fault ≠ 0
  ·exact ⟨1, (r, sl, 0), by rw [exL, if_pos h0]⟩
  ·obtain ⟨n1, ⟨r2, sl2, e⟩, hq⟩ := ex_total s d x (hs x lC) (hc x lC) r sl hf
   obtain ⟨hf2, _⟩ := (ex_keep s _).2.1 _ _ _ _ (hc x lC) hf hq
   by_cases he : e ≠ 0
   ·exact ⟨n1 + 1, (r2, sl2, e), by rw [exL, if_neg h0, hq]; simp only [if_pos he]⟩
   ·obtain ⟨n2, q2, hq2⟩ := ihl (fun y hy => hs y (lK _ hy)) (fun y hy => hc y (lK _ hy)) r2 sl2 hf2
    exact ⟨max n1 n2 + 1, q2, by rw [exL, if_neg h0, exO_le s (Nat.le_max_left _ _) hq]; simp only [if_neg he]; exact exL_le s (Nat.le_max_right _ _) hq2⟩
end TryzT
end Go.Abs
namespace Go.Abs
open Go
theorem callPure_frz {A : Prog} {f : Nat} {vs us : List V} {P : V → Prop} {h : Heap} {R : V → Heap → Prop} (ids : Nat → Prop) (hf : FrzL h ids vs us) (hc : Ret A f us Heap.none fun u _ => P u) (hR : ∀ u, P u → Flat u ∧ R u h) : callPure (Ret A) f vs h R :=
 ⟨ids, us, hf.spec.1, hf.spec.2, Ret.mono _ _ _ _ _ (fun v _ e => ⟨.inr (hR v e).1, (hR v e).2⟩) hc⟩
def runC (src : Src) (ids : List Nat) (bv : V) (r : RS) : List V := [.fsl 5 (src.vars.map Vr.cells), .fsl 2 (src.blocks.map Bk.cells), .fsl 5 (src.funcs.map Fn.cells), .fsl 1 (varsC ids r.x.vars), bv, .int .i64 r.x.now, .int .i64 r.x.fault, .int .i64 r.left, .int .i64 r.fault]
structure RunH (h : Heap) (idr : Nat) (src : Src) (ids : List Nat) (bv : V) (r : RS) : Prop where
 box : h idr = some (.arr 9 [runC src ids bv r])
 st : StH h ids bv r.x
 sep : ¬ StOwn ids bv idr
theorem RunH.box' {h : Heap} {idr : Nat} {src : Src} {ids : List Nat} {bv : V} {r : RS} (hr : RunH h idr src ids bv r) : h idr = some (.arr 9 [[.fsl 5 (src.vars.map Vr.cells), .fsl 2 (src.blocks.map Bk.cells), .fsl 5 (src.funcs.map Fn.cells), .fsl 1 (varsC ids r.x.vars), bv, .int .i64 r.x.now, .int .i64 r.x.fault, .int .i64 r.left, .int .i64 r.fault]]) := hr.box
theorem RunH.set {h : Heap} {idr : Nat} {src : Src} {ids : List Nat} {bv : V} {r r2 : RS} (hr : RunH h idr src ids bv r) (hx : r2.x = r.x) {c : List (List V)} (hc : c = [runC src ids bv r2]) : RunH (h.upd idr (some (.arr 9 c))) idr src ids bv r2 := by
 subst hc
 exact ⟨upd_self _ _ _, by rw [hx]; exact hr.st.mono fun i b h1 h2 => by rw [upd_other _ _ (fun e => hr.sep (by rw [← e]; exact h2))]; exact h1, hr.sep⟩
theorem flat_ints (a b : Int) : Flat (.tup [.int .i64 a, .int .i64 b]) := .tup _ fun v hv => by
 simp at hv
 rcases hv with rfl | rfl <;> exact .int _ _
namespace TryzT
theorem take68 {h : Heap} {idr : Nat} {src : Src} {ids : List Nat} {bv : V} {r : RS} (hr : RunH h idr src ids bv r) (n : Int) (hl : 0 ≤ r.left ∧ r.left ≤ 1048576) (hn : 0 ≤ n) (R : V → Heap → Prop) (hR : ∀ h2, RunH h2 idr src ids bv (takeF r n) → R (.bool ((takeF r n).fault == 0)) h2) : Ret prog 68 [.ep idr 0 0, .int .i64 n] h R := by
 have hb := hr.box'
 refine Ret.by_text rfl rfl ?_
 simp -implicitDefEqProofs only [go_sem, rB, rA, rS, rL, a68, hb]
 refine br_intro (fun c1 => ?_) (fun c1 => ?_)
 ·have e1 : r.fault = 0 := by simpa using c1
  simp -implicitDefEqProofs only [go_sem, rB, rA, rS, rL, c1, hb]
  refine br_intro (fun c2 => ?_) (fun c2 => ?_)
  ·have e2 : n > r.left := by simpa using c2
   have et : takeF r n = { r with fault := 1 } := by rw [takeF, if_pos e1, if_pos e2]
   simp -implicitDefEqProofs only [go_sem, rB, rA, rS, rL, c2, hb, upd_self, jB]
   refine post1 ?_
   simp -implicitDefEqProofs only [go_sem, rB, rA, rS]
   have := hR (h.upd idr (some (.arr 9 [runC src ids bv { r with fault := 1 }]))) (by rw [et]; exact hr.set (r2 := { r with fault := 1 }) rfl rfl)
   rw [et] at this
   exact this
  ·have e2 : ¬ n > r.left := by simpa using c2
   have et : takeF r n = { r with left := r.left - n } := by rw [takeF, if_pos e1, if_neg e2]
   simp -implicitDefEqProofs only [go_sem, rB, rA, rS, rL, c2, hb, c1, upd_self, wrap_in (n := r.left - n) (by omega)]
   refine post1 ?_
   simp -implicitDefEqProofs only [go_sem, rB, rA, rS]
   have := hR (h.upd idr (some (.arr 9 [runC src ids bv { r with left := r.left - n }]))) (by rw [et]; exact hr.set (r2 := { r with left := r.left - n }) rfl rfl)
   rw [et] at this
   simp only [c1] at this
   exact this
 ·have e1 : r.fault ≠ 0 := by simpa using c1
  have et : takeF r n = r := by rw [takeF, if_neg e1]
  simp -implicitDefEqProofs only [go_sem, rB, rA, rS, rL, c1, hb]
  refine post1 ?_
  simp -implicitDefEqProofs only [go_sem, rB, rA, rS]
  have := hR h (by rw [et]; exact hr)
  rw [et] at this
  simp only [c1] at this
  exact this
theorem of69 (src : Src) (f : Fn) (hsrc : src.funcs = [f]) (hf : f.Short) {h : Heap} {idr : Nat} {ids : List Nat} {bv : V} {r : RS} (hr : RunH h idr src ids bv r) (sl : List Int) (hfit : Fit (scF src f) r sl) (e : Ex) (hg : Good (scF src f) e) (R : V → Heap → Prop)
  (hR : ∀ h2, RunH h2 idr src ids bv (ofF (scF src f) r sl e).1 → R (.int .i64 (ofF (scF src f) r sl e).2) h2) : Ret prog 69 [.ep idr 0 0, .int .i64 0, intsV sl, e.v] h R := by
 obtain ⟨vs, bs, fs⟩ := src
 simp only [] at hsrc
 subst hsrc
 have hb := hr.box'
 refine Ret.by_text rfl rfl ?_
 simp -implicitDefEqProofs only [go_sem, rB, rA, rS, a69, Ex.cellsOf_v]
 intro g
 simp -implicitDefEqProofs only [go_sem, rB, rA, rS, rL, hb]
 refine br_intro (fun c1 => ?_) (fun c1 => ?_)
 ·have e1 : r.fault ≠ 0 := by simpa using c1
  have et : ofF (scF ⟨vs, bs, [f]⟩ f) r sl e = (r, 0) := by rw [ofF, if_pos e1]
  simp -implicitDefEqProofs only [go_sem, c1]
  refine post1 ?_
  simp -implicitDefEqProofs only [go_sem, rB, rA, rS]
  have := hR h (by rw [et]; exact hr)
  rw [et] at this
  exact this
 ·have e1 : ¬ r.fault ≠ 0 := by simpa using c1
  have et : ofF (scF ⟨vs, bs, [f]⟩ f) r sl e = ({ r with fault := (evalF (scF ⟨vs, bs, [f]⟩ f) r.x sl e).2 }, (evalF (scF ⟨vs, bs, [f]⟩ f) r.x sl e).1) := by rw [ofF, if_neg e1]
  obtain ⟨q1, q2⟩ := evalF_spec (scF ⟨vs, bs, [f]⟩ f) r.x sl hfit.st hfit.sl e hg
  simp -implicitDefEqProofs only [go_sem, rB, rA, rS, rL, c1, hb]
  refine callPure_of (scope22 vs bs f hf) ?_
  rintro u rfl
  simp -implicitDefEqProofs only [go_sem, rB, rA, rS, rL, hb, Ex.fold]
  refine callPure_frz (us := [(scF ⟨vs, bs, [f]⟩ f).v, r.x.v, intsV sl, e.v]) (StOwn ids bv) (.cons (.same _) (.cons hr.st.frz (.cons (.same _) (.cons (.same _) .nil)))) q1 ?_
  rintro u rfl
  refine ⟨flat_ints _ _, ?_⟩
  simp -implicitDefEqProofs only [go_sem, rB, rA, rS, rL, hb]
  refine post1 ?_
  simp -implicitDefEqProofs only [go_sem, rB, rA, rS]
  have := hR (h.upd idr (some (.arr 9 [runC ⟨vs, bs, [f]⟩ ids bv { r with fault := (evalF (scF ⟨vs, bs, [f]⟩ f) r.x sl e).2 }]))) (by rw [et]; exact hr.set (r2 := { r with fault := (evalF (scF ⟨vs, bs, [f]⟩ f) r.x sl e).2 }) rfl rfl)
  rw [et] at this
  exact this
theorem put89 (sl : List Int) (k : Nat) (hk : k < sl.length) (hl : sl.length ≤ 100000) (v : Int) : Ret prog 89 [intsV sl, .int .i64 k, .int .i64 v] Heap.none fun r _ => r = intsV (sl.set k v) := by
 refine Ret.by_text rfl rfl ?_
 simp -implicitDefEqProofs only [go_sem, rB, rA, rS, a89, intsV, show List.range 0 = ([] : List Nat) from rfl]
 intro id0 hid0
 simp -implicitDefEqProofs only [go_sem, elemsOf]
 refine appK_msl (els := []) (upd_self _ _ _) (fun z hz => by obtain ⟨n, _, rfl⟩ := List.mem_map.1 hz; rfl) (by simp) (by simp; omega) fun id1 hid1 hne => ?_
 have f1 : ((k : Int) < (sl.length : Int)) = True := eq_true (by omega)
 have hget : (sl.map intC)[k]? = some (intC sl[k]) := by rw [List.getElem?_map, lG hk]; rfl
 simp -implicitDefEqProofs only [W_region, W_seq, W_ret, Thn_normal, wOps_nil, wOps_cons, val_0, valK_eq, onPut_some, st_0, stK_eq, onS_some, ev_E, set_E, look_cons, look_nil, cond_true, cond_false, rB, rA, rS, rL, if_true, storeOf, storeCells, over, List.append_nil, and_self, List.length_cons, List.length_nil, List.drop_succ_cons, List.take_zero, List.take_nil, List.drop_nil, List.nil_append, AVal.eval, cellsOf_int, nat_le, Int.toNat_natCast, List.length_map, f1, upd_self, Nat.zero_add, hget, intC, upd_upd]
 refine post_frz (h2 := Heap.none) (u := intsV (sl.set k v)) (fun _ => True) rfl ?_ (fun _ _ e => by cases e) (fun _ _ => rfl) rfl
 refine Frz.whole trivial (upd_self _ _ _ |>.trans (by rw [List.map_set]; rfl)) (by simp)
end TryzT
end Go.Abs
namespace Go.Abs
open Go
theorem RunH.putV {h : Heap} {idr : Nat} {src : Src} {ids : List Nat} {bv : V} {r : RS} (hr : RunH h idr src ids bv r) {i id k : Nat} {l : List Int} {v : Int} (h1 : ids[i]? = some id) (h2 : r.x.vars[i]? = some l) {c : List (List V)} (hc : c = (l.map intC).set k [.int .i64 v]) : RunH (h.upd id (some (.arr 1 c))) idr src ids bv (TryzT.putV r i k v) := by
 have hne : idr ≠ id := fun e => hr.sep (.inl (by rw [e]; exact lM h1))
 have hst := hr.st.setV h1 h2 (l2 := l.set k v) (c := c) (by rw [hc, List.map_set]; rfl)
 refine ⟨?_, by simpa [TryzT.putV, h2] using hst, hr.sep⟩
 rw [upd_other _ _ hne, hr.box]
 simp only [runC, TryzT.putV, h2, Option.getD_some]
 rw [varsC_set h2 (by simp)]
theorem RunH.putB {h : Heap} {idr : Nat} {src : Src} {ids : List Nat} {bv : V} {r : RS} (hr : RunH h idr src ids bv r) {i idb n : Nat} (hbv : bv = .msl idb 0 n) {y : List Int} (hy : y.length = 10) {c : List (List V)} (hc : c = (r.x.blocks.map TryzT.instC).set i (TryzT.instC y)) : RunH (h.upd idb (some (.arr 10 c))) idr src ids bv (TryzT.putB r i y) := by
 have hne : idr ≠ idb := fun e => hr.sep (.inr (by rw [e, hbv]; exact ⟨n, rfl⟩))
 exact ⟨by rw [upd_other _ _ hne, hr.box]; rfl, hr.st.setB hbv hy hc, hr.sep⟩
namespace TryzT
theorem pl_0 (src : Src) (f : Fn) {h : Heap} {idr : Nat} {ids : List Nat} {bv : V} {r : RS} (hr : RunH h idr src ids bv r) (h0 : r.fault = 0) (sl : List Int) (x : St) (hk : x.kind = 0) (R : V → Heap → Prop)
  (hR : ∀ h2, RunH h2 idr src ids bv (plF (scF src f) r sl x).1 → R (intsV (plF (scF src f) r sl x).2) h2) : Ret prog 70 [.ep idr 0 0, .int .i64 0, intsV sl, x.v] h R := by
 have et : plF (scF src f) r sl x = (r, sl) := by
  unfold plF
  simp only []
  rw [if_neg (by omega), if_neg (by omega), if_neg (by omega), if_neg (by omega), if_neg (by omega)]
 rw [et] at hR
 have hb := hr.box'
 have ff : (r.fault == 0) = true := by simpa using h0
 have fn : (r.fault != 0) = false := by simp [h0]
 have k1 : decide (x.kind ≥ 1) = false := by rw [hk]; rfl
 have f1 : (x.kind == 1) = false := by rw [hk]; rfl
 have f2 : (x.kind == 2) = false := by rw [hk]; rfl
 have f3 : (x.kind == 3) = false := by rw [hk]; rfl
 have f4 : (x.kind == 4) = false := by rw [hk]; rfl
 have f5 : (x.kind == 5) = false := by rw [hk]; rfl
 have f6 : (x.kind == 6) = false := by rw [hk]; rfl
 refine Ret.by_text rfl rfl ?_
 simp -implicitDefEqProofs only [go_sem, rB, rA, rS, rL, a70, St.cellsOf_v, St.cs, f3, k1]
 intro g
 simp -implicitDefEqProofs only [go_sem, rB, rA, rS, rL, hb, ff, fn, f1, f2, f3, f4, f5, f6]
 refine post1 ?_
 simp -implicitDefEqProofs only [go_sem, rB, rA, rS]
 exact hR h hr
theorem pl_1 (src : Src) (f : Fn) (hsrc : src.funcs = [f]) (hf : f.Short) {h : Heap} {idr : Nat} {ids : List Nat} {bv : V} {r : RS} (hr : RunH h idr src ids bv r) (h0 : r.fault = 0) (sl : List Int) (hfit : Fit (scF src f) r sl) (x : St) (hk : x.kind = 1) (hv : VarOk (scF src f) x) (R : V → Heap → Prop)
  (hR : ∀ h2, RunH h2 idr src ids bv (plF (scF src f) r sl x).1 → R (intsV (plF (scF src f) r sl x).2) h2) : Ret prog 70 [.ep idr 0 0, .int .i64 0, intsV sl, x.v] h R := by
 obtain ⟨k, v, hn, hvk, gx, _, _⟩ := hv
 have f1 : (x.kind == 1) = true := by rw [hk]; rfl
 have f3 : (x.kind == 3) = false := by rw [hk]; rfl
 have k1 : decide (x.kind ≥ 1) = true := by rw [hk]; rfl
 have k4 : decide (x.kind ≤ 4) = true := by rw [hk]; rfl
 have hlt : k < r.x.vars.length := by have := hfit.st.len; have := (lS.1 hvk).1; omega
 obtain ⟨l, hl⟩ : ∃ l, r.x.vars[k]? = some l := ⟨_, lG hlt⟩
 obtain ⟨id, hid⟩ : ∃ id, ids[k]? = some id := ⟨_, lG (by have := hr.st.len; omega)⟩
 have hpos := hfit.st.pos k l hl
 refine Ret.by_text rfl rfl ?_
 simp -implicitDefEqProofs only [go_sem, rB, rA, rS, rL, a70, St.cellsOf_v, St.cs, f3, k1, k4, Ex.fold]
 intro g
 refine .inl (of69 src f hsrc hf hr sl hfit x.e gx _ fun h2 hr2 => ?_)
 obtain ⟨hox, hol⟩ := ofF_x (scF src f) r sl x.e
 generalize hp : ofF (scF src f) r sl x.e = p at hr2 hox hol ⊢
 obtain ⟨r1, w⟩ := p
 simp only [] at hr2 hox hol
 have hb := hr2.box'
 rw [hox] at hb
 simp -implicitDefEqProofs only [go_sem, rB, rA, rS, rL, hb]
 refine br_intro (fun c1 => ?_) (fun c1 => ?_)
 ·have e1 : r1.fault = 0 := by simpa using c1
  have fn : (r1.fault != 0) = false := by simp [e1]
  have et : plF (scF src f) r sl x = (putV r1 k 0 w, sl) := by
   unfold plF
   simp only []
   rw [if_pos hk, hp, if_neg (by simpa using e1), hn]; rfl
  rw [et] at hR
  have hvat := varsC_at hid hl
  have hidh := hr2.st.var k id l hid (by rw [hox]; exact hl)
  have i0 : ((0 : Int) < (l.length : Int)) = True := eq_true (by omega)
  have hget : (l.map intC)[0]? = some (intC l[0]) := by rw [List.getElem?_map, lG hpos]; rfl
  simp -implicitDefEqProofs only [W_skip, W_region, W_seq, W_cond, W_block, W_ret, Thn_normal, Bl_normal, wOps_nil, wOps_cons, val_0, val_g, valK_eq, onPut_some, onGuard_bool, onGuard_skip, onBool_bool, br_true, br_false, beq_true', skipK_some, st_0, stK_eq, onS_some, ev_E, ev_c, set_E, getD_B, look_cons, lookB_cons, look_nil, lookB_nil, cond_true, cond_false, rB, rA, rS, rL, if_true, if_false, storeOf, storeCells, over, List.append_nil, Bool.false_eq_true, and_self, List.getElem?_cons_zero, List.getElem?_cons_succ, List.length_cons, List.length_nil, List.drop_succ_cons, List.drop_zero, List.take_succ_cons, List.take_zero, List.take_nil, List.drop_nil, List.nil_append, AVal.eval, cellsOf_int, nat_le, Int.toNat_natCast, jL, jN, Option.map_some, loadOf, cellsAt, boxOf, partOf, binOf, intOf, c1, hb, f3, fn, f1, hn, hvat, hidh, i0, Nat.zero_add, hget, intC]
  refine post1 ?_
  simp -implicitDefEqProofs only [go_sem, rB, rA, rS]
  exact hR _ (hr2.putV hid (by rw [hox]; exact hl) rfl)
 ·have e1 : r1.fault ≠ 0 := by simpa using c1
  have fn : (r1.fault != 0) = true := by simpa using e1
  have et : plF (scF src f) r sl x = (r1, sl) := by
   unfold plF
   simp only []
   rw [if_pos hk, hp, if_pos e1]
  rw [et] at hR
  simp -implicitDefEqProofs only [go_sem, rB, rA, rS, rL, c1, hb, fn]
  refine post1 ?_
  simp -implicitDefEqProofs only [go_sem, rB, rA, rS]
  exact hR _ hr2
theorem pl_2 (src : Src) (f : Fn) (hsrc : src.funcs = [f]) (hf : f.Short) {h : Heap} {idr : Nat} {ids : List Nat} {bv : V} {r : RS} (hr : RunH h idr src ids bv r) (h0 : r.fault = 0) (sl : List Int) (hfit : Fit (scF src f) r sl) (hsl : sl.length ≤ 100000) (x : St) (hk : x.kind = 2) (hv : SlotOk (scF src f) x) (R : V → Heap → Prop)
  (hR : ∀ h2, RunH h2 idr src ids bv (plF (scF src f) r sl x).1 → R (intsV (plF (scF src f) r sl x).2) h2) : Ret prog 70 [.ep idr 0 0, .int .i64 0, intsV sl, x.v] h R := by
 obtain ⟨k, t, hn, hvk, gx, _⟩ := hv
 have f1 : (x.kind == 1) = false := by rw [hk]; rfl
 have f2 : (x.kind == 2) = true := by rw [hk]; rfl
 have f3 : (x.kind == 3) = false := by rw [hk]; rfl
 have k1 : decide (x.kind ≥ 1) = true := by rw [hk]; rfl
 have k4 : decide (x.kind ≤ 4) = true := by rw [hk]; rfl
 have hlt : k < sl.length := by have := hfit.sl.len; have := (lS.1 hvk).1; omega
 refine Ret.by_text rfl rfl ?_
 simp -implicitDefEqProofs only [go_sem, rB, rA, rS, rL, a70, St.cellsOf_v, St.cs, f3, k1, k4, Ex.fold]
 intro g
 refine .inl (of69 src f hsrc hf hr sl hfit x.e gx _ fun h2 hr2 => ?_)
 generalize hp : ofF (scF src f) r sl x.e = p at hr2 ⊢
 obtain ⟨r1, w⟩ := p
 simp only [] at hr2
 have hb := hr2.box'
 simp -implicitDefEqProofs only [go_sem, rB, rA, rS, rL, hb]
 refine br_intro (fun c1 => ?_) (fun c1 => ?_)
 ·have e1 : r1.fault = 0 := by simpa using c1
  have fn : (r1.fault != 0) = false := by simp [e1]
  have et : plF (scF src f) r sl x = (r1, sl.set k w) := by
   unfold plF
   simp only []
   rw [if_neg (by omega), if_neg (by omega), if_pos hk, hp, if_neg (by simpa using e1), hn]; rfl
  rw [et] at hR
  simp -implicitDefEqProofs only [go_sem, rB, rA, rS, rL, c1, hb, f3, fn, f1, f2, hn]
  refine callOk_of (put89 sl k hlt hsl w) ?_
  rintro u rfl
  simp -implicitDefEqProofs only [go_sem, rB, rA, rS]
  refine post1 ?_
  simp -implicitDefEqProofs only [go_sem, rB, rA, rS]
  exact hR _ hr2
 ·have e1 : r1.fault ≠ 0 := by simpa using c1
  have fn : (r1.fault != 0) = true := by simpa using e1
  have et : plF (scF src f) r sl x = (r1, sl) := by
   unfold plF
   simp only []
   rw [if_neg (by omega), if_neg (by omega), if_pos hk, hp, if_pos e1]
  rw [et] at hR
  simp -implicitDefEqProofs only [go_sem, rB, rA, rS, rL, c1, hb, fn]
  refine post1 ?_
  simp -implicitDefEqProofs only [go_sem, rB, rA, rS]
  exact hR _ hr2
theorem pl_3 (src : Src) (f : Fn) (hsrc : src.funcs = [f]) (hf : f.Short) {h : Heap} {idr : Nat} {ids : List Nat} {bv : V} {r : RS} (hr : RunH h idr src ids bv r) (h0 : r.fault = 0) (sl : List Int) (hfit : Fit (scF src f) r sl) (x : St) (hk : x.kind = 3) (hv : VarOk (scF src f) x) (R : V → Heap → Prop)
  (hR : ∀ h2, RunH h2 idr src ids bv (plF (scF src f) r sl x).1 → R (intsV (plF (scF src f) r sl x).2) h2) : Ret prog 70 [.ep idr 0 0, .int .i64 0, intsV sl, x.v] h R := by
 obtain ⟨k, v, hn, hvk, gx, _, gi⟩ := hv
 have gi := gi hk
 have f1 : (x.kind == 1) = false := by rw [hk]; rfl
 have f3 : (x.kind == 3) = true := by rw [hk]; rfl
 have k1 : decide (x.kind ≥ 1) = true := by rw [hk]; rfl
 have k4 : decide (x.kind ≤ 4) = true := by rw [hk]; rfl
 have hlt : k < r.x.vars.length := by have := hfit.st.len; have := (lS.1 hvk).1; omega
 obtain ⟨l, hl⟩ : ∃ l, r.x.vars[k]? = some l := ⟨_, lG hlt⟩
 obtain ⟨id, hid⟩ : ∃ id, ids[k]? = some id := ⟨_, lG (by have := hr.st.len; omega)⟩
 have hvat := varsC_at hid hl
 refine Ret.by_text rfl rfl ?_
 simp -implicitDefEqProofs only [go_sem, rB, rA, rS, rL, a70, St.cellsOf_v, St.cs, f3, Ex.fold]
 intro g
 refine .inl (of69 src f hsrc hf hr sl hfit x.i gi _ fun h2 hr2 => ?_)
 have hfit2 := hfit.of x.i
 obtain ⟨hox, hol⟩ := ofF_x (scF src f) r sl x.i
 generalize hq : ofF (scF src f) r sl x.i = q at hr2 hox hol hfit2 ⊢
 obtain ⟨r1, i⟩ := q
 simp only [] at hr2 hox hol hfit2
 simp -implicitDefEqProofs only [go_sem, rB, rA, rS, rL, k1, k4, Ex.fold]
 refine .inl (of69 src f hsrc hf hr2 sl hfit2 x.e gx _ fun h3 hr3 => ?_)
 obtain ⟨hox2, hol2⟩ := ofF_x (scF src f) r1 sl x.e
 generalize hp : ofF (scF src f) r1 sl x.e = p at hr3 hox2 hol2 ⊢
 obtain ⟨r2, w⟩ := p
 simp only [] at hr3 hox2 hol2
 have hxx : r2.x = r.x := by rw [hox2, hox]
 have hb := hr3.box'
 rw [hxx] at hb
 have hidh := hr3.st.var k id l hid (by rw [hxx]; exact hl)
 have pl : plF (scF src f) r sl x = if r2.fault ≠ 0 then (r2, sl) else if i < 0 ∨ i ≥ (l.length : Int) then ({ r2 with fault := 3 }, sl) else (putV r2 k i.toNat w, sl) := by
  unfold plF
  simp only []
  rw [if_neg (by omega), if_pos hk, hq]
  simp only []
  rw [hp, hn, Int.toNat_natCast, hl]; rfl
 simp -implicitDefEqProofs only [go_sem, rB, rA, rS, rL, hb]
 refine br_intro (fun c1 => ?_) (fun c1 => ?_)
 ·have e1 : r2.fault = 0 := by simpa using c1
  have fn : (r2.fault != 0) = false := by simp [e1]
  rw [if_neg (by simpa using e1)] at pl
  have bad : i < 0 ∨ i ≥ (l.length : Int) → RunH (h3.upd idr (some (.arr 9 [runC src ids bv { r2 with fault := 3 }]))) idr src ids bv (plF (scF src f) r sl x).1 ∧ (plF (scF src f) r sl x).2 = sl := fun hb => by
   rw [if_pos hb] at pl
   rw [pl]
   exact ⟨hr3.set (r2 := { r2 with fault := 3 }) rfl rfl, rfl⟩
  simp -implicitDefEqProofs only [go_sem, rB, rA, rS, rL, c1, f3]
  refine br_intro (fun c2 => ?_) (fun c2 => ?_)
  ·have e2 : i < 0 := by simpa using c2
   obtain ⟨b1, b2⟩ := bad (.inl e2)
   have := hR _ b1
   rw [b2] at this
   simp -implicitDefEqProofs only [go_sem, rB, rA, rS, rL, c2, hb, upd_self, show ((3 : Int) != 0) = true from rfl]
   refine post1 ?_
   simp -implicitDefEqProofs only [go_sem, rB, rA, rS]
   simp only [runC, hxx] at this
   exact this
  simp -implicitDefEqProofs only [go_sem, rB, rA, rS, rL, c2, hb, hn, hvat]
  refine br_intro (fun c3 => ?_) (fun c3 => ?_)
  ·have e3 : i ≥ (l.length : Int) := by simpa using c3
   obtain ⟨b1, b2⟩ := bad (.inr e3)
   have := hR _ b1
   rw [b2] at this
   simp -implicitDefEqProofs only [go_sem, rB, rA, rS, rL, c3, hb, upd_self, show ((3 : Int) != 0) = true from rfl]
   refine post1 ?_
   simp -implicitDefEqProofs only [go_sem, rB, rA, rS]
   simp only [runC, hxx] at this
   exact this
  have e2 : ¬ i < 0 := by simpa using c2
  have e3 : ¬ i ≥ (l.length : Int) := by simpa using c3
  rw [if_neg (by omega)] at pl
  rw [pl] at hR
  obtain ⟨j, rfl⟩ := Int.eq_ofNat_of_zero_le (show 0 ≤ i by omega)
  have hj : j < l.length := by omega
  have i0 : ((j : Int) < (l.length : Int)) = True := eq_true (by omega)
  have hget : (l.map intC)[j]? = some (intC l[j]) := by rw [List.getElem?_map, lG hj]; rfl
  simp -implicitDefEqProofs only [W_skip, W_region, W_seq, W_cond, W_block, W_ret, Thn_normal, Bl_normal, wOps_nil, wOps_cons, val_0, valK_eq, onPut_some, onBool_bool, br_true, br_false, st_0, stK_eq, onS_some, ev_E, ev_c, set_E, getD_B, look_cons, lookB_cons, look_nil, lookB_nil, cond_true, cond_false, rB, rA, rS, rL, if_true, if_false, storeOf, storeCells, over, List.append_nil, Bool.false_eq_true, and_self, List.getElem?_cons_zero, List.getElem?_cons_succ, List.length_cons, List.length_nil, List.drop_succ_cons, List.drop_zero, List.take_succ_cons, List.take_zero, List.take_nil, List.drop_nil, List.nil_append, AVal.eval, cellsOf_int, nat_le, Int.toNat_natCast, Option.map_some, loadOf, cellsAt, boxOf, partOf, binOf, intOf, c3, hb, fn, f1, f3, hvat, hidh, i0, Nat.zero_add, hget, intC]
  refine post1 ?_
  simp -implicitDefEqProofs only [go_sem, rB, rA, rS]
  exact hR _ (hr3.putV hid (by rw [hxx]; exact hl) rfl)
 ·have e1 : r2.fault ≠ 0 := by simpa using c1
  have fn : (r2.fault != 0) = true := by simpa using e1
  rw [if_pos e1] at pl
  rw [pl] at hR
  simp -implicitDefEqProofs only [go_sem, rB, rA, rS, rL, c1, hb, fn]
  refine post1 ?_
  simp -implicitDefEqProofs only [go_sem, rB, rA, rS]
  exact hR _ hr3
end TryzT
end Go.Abs
namespace Go.Abs
open Go
theorem over_all {cs ds : List V} (hd : ds.length = 10) (hc : cs.length = 10) : over cs 0 ds = ds := by
 simp [over, hd, hc]
namespace TryzT
theorem blk_facts {src : Src} {f : Fn} {h : Heap} {idr : Nat} {ids : List Nat} {bv : V} {r : RS} {sl : List Int} (hr : RunH h idr src ids bv r) (hfit : Fit (scF src f) r sl) {k : Nat} {b : Bk} (hb : (scF src f).blocks[k]? = some b) :
  ∃ (idb : Nat) (y : List Int), bv = .msl idb 0 r.x.blocks.length ∧ h idb = some (.arr 10 (r.x.blocks.map instC)) ∧ r.x.blocks[k]? = some y ∧ y.length = 10 ∧ src.blocks[k]? = some b ∧ kindB (scF src f) k = b.kind ∧ getB r k = y := by
 have hlt : k < r.x.blocks.length := by have := hfit.st.blen; have := (lS.1 hb).1; omega
 have hy : r.x.blocks[k]? = some r.x.blocks[k] := lG hlt
 rcases hr.st.blk with ⟨e, _⟩ | ⟨idb, e, hid⟩
 ·have : r.x.blocks.length = 0 := by simpa using congrArg List.length e
  omega
 ·exact ⟨idb, _, by rw [e, List.length_map], hid, hy, hfit.st.b10 _ (lM hy), hb, by simp [kindB, hb], by simp [getB, hy]⟩
theorem pl_4 (src : Src) (f : Fn) (hsrc : src.funcs = [f]) (hf : f.Short) {h : Heap} {idr : Nat} {ids : List Nat} {bv : V} {r : RS} (hr : RunH h idr src ids bv r) (h0 : r.fault = 0) (sl : List Int) (hfit : Fit (scF src f) r sl) (x : St) (hk : x.kind = 4) (hv : InOk (scF src f) x.n x.e) (R : V → Heap → Prop)
  (hR : ∀ h2, RunH h2 idr src ids bv (plF (scF src f) r sl x).1 → R (intsV (plF (scF src f) r sl x).2) h2) : Ret prog 70 [.ep idr 0 0, .int .i64 0, intsV sl, x.v] h R := by
 obtain ⟨k, b, hn, hbk, gx⟩ := hv
 have f1 : (x.kind == 1) = false := by rw [hk]; rfl
 have f2 : (x.kind == 2) = false := by rw [hk]; rfl
 have f3 : (x.kind == 3) = false := by rw [hk]; rfl
 have f4 : (x.kind == 4) = true := by rw [hk]; rfl
 have k1 : decide (x.kind ≥ 1) = true := by rw [hk]; rfl
 have k4 : decide (x.kind ≤ 4) = true := by rw [hk]; rfl
 refine Ret.by_text rfl rfl ?_
 simp -implicitDefEqProofs only [go_sem, rB, rA, rS, rL, a70, St.cellsOf_v, St.cs, f3, k1, k4, Ex.fold]
 intro g
 refine .inl (of69 src f hsrc hf hr sl hfit x.e gx _ fun h2 hr2 => ?_)
 have hfit2 := hfit.of x.e
 obtain ⟨hox, hol⟩ := ofF_x (scF src f) r sl x.e
 generalize hp : ofF (scF src f) r sl x.e = p at hr2 hox hol hfit2 ⊢
 obtain ⟨r1, w⟩ := p
 simp only [] at hr2 hox hol hfit2
 have hb := hr2.box'
 have pl : plF (scF src f) r sl x = if r1.fault ≠ 0 then (r1, sl) else (putB r1 k (setF (kindB (scF src f) k) (getB r1 k) x.m w), sl) := by
  unfold plF
  simp only []
  rw [if_neg (by omega), if_neg (by omega), if_neg (by omega), if_pos hk, hp, hn]; rfl
 simp -implicitDefEqProofs only [go_sem, rB, rA, rS, rL, hb]
 refine br_intro (fun c1 => ?_) (fun c1 => ?_)
 ·have e1 : r1.fault = 0 := by simpa using c1
  have fn : (r1.fault != 0) = false := by simp [e1]
  rw [if_neg (by simpa using e1)] at pl
  obtain ⟨idb, y, hbv, hidb, hy, h10, hsb, hkb, hgb⟩ := blk_facts hr2 hfit2 hbk
  rw [hkb, hgb] at pl
  rw [pl] at hR
  obtain ⟨w10, hset⟩ := setF_spec b.kind y h10 x.m w
  have hlt := (lS.1 hy).1
  have i0 : ((k : Int) < (r1.x.blocks.length : Int)) = True := eq_true (by omega)
  have hil := inst_len h10
  have hit := inst_take h10
  have hil2 := inst_len w10
  simp -implicitDefEqProofs only [go_sem, rB, rA, rS, rL, c1, hb, fn, f1, f2, f3, f4, hn, hbv, hidb, i0, Nat.zero_add, hy, hil, hit, hsb, Bk.cells]
  refine callPure_of hset ?_
  rintro u rfl
  simp -implicitDefEqProofs only [W_region, W_seq, W_ret, Thn_normal, Bl_normal, wOps_nil, wOps_cons, val_0, valK_eq, onPut_some, st_0, stK_eq, onS_some, retK_some, ev_E, set_E, look_cons, look_nil, cond_true, cond_false, rB, rA, rS, rL, if_true, storeOf, storeCells, and_self, AVal.eval, cellsOf_agg, nat_le, Int.toNat_natCast, List.getElem?_map, Option.map_some, hidb, i0, Nat.zero_add, hy, hil, hil2, over_all hil2 hil]
  refine post1 ?_
  simp -implicitDefEqProofs only [go_sem, rB, rA, rS]
  exact hR _ (hr2.putB hbv w10 rfl)
 ·have e1 : r1.fault ≠ 0 := by simpa using c1
  have fn : (r1.fault != 0) = true := by simpa using e1
  rw [if_pos e1] at pl
  rw [pl] at hR
  simp -implicitDefEqProofs only [go_sem, rB, rA, rS, rL, c1, hb, fn]
  refine post1 ?_
  simp -implicitDefEqProofs only [go_sem, rB, rA, rS]
  exact hR _ hr2
theorem argsF_at {s : Sc} {n : Nat} {sl : List Int} {l : List Ar} {i : Nat} {a : Ar} (h : l[i]? = some a) (r : RS) : argsF s n sl (l.drop i) r = if (ofF s r sl a.e).1.fault ≠ 0 then (ofF s r sl a.e).1 else argsF s n sl (l.drop (i + 1)) (putB (ofF s r sl a.e).1 n (setF (kindB s n) (getB (ofF s r sl a.e).1 n) a.field (ofF s r sl a.e).2)) := by
 obtain ⟨h1, e⟩ := lS.1 h
 rw [List.drop_eq_getElem_cons h1, e]; rfl
theorem pl_5 (src : Src) (f : Fn) (hsrc : src.funcs = [f]) (hf : f.Short) {h : Heap} {idr : Nat} {ids : List Nat} {bv : V} {r : RS} (hr : RunH h idr src ids bv r) (h0 : r.fault = 0) (sl : List Int) (hfit : Fit (scF src f) r sl) (x : St) (hal : x.args.length ≤ 20) (hk : x.kind = 5) (hv : BlockOk (scF src f) x) (R : V → Heap → Prop)
  (hR : ∀ h2, RunH h2 idr src ids bv (plF (scF src f) r sl x).1 → R (intsV (plF (scF src f) r sl x).2) h2) : Ret prog 70 [.ep idr 0 0, .int .i64 0, intsV sl, x.v] h R := by
 obtain ⟨⟨k, b, hn, hbk⟩, gx⟩ := hv
 have f1 : (x.kind == 1) = false := by rw [hk]; rfl
 have f2 : (x.kind == 2) = false := by rw [hk]; rfl
 have f3 : (x.kind == 3) = false := by rw [hk]; rfl
 have f4 : (x.kind == 4) = false := by rw [hk]; rfl
 have f5 : (x.kind == 5) = true := by rw [hk]; rfl
 have k1 : decide (x.kind ≥ 1) = true := by rw [hk]; rfl
 have k4 : decide (x.kind ≤ 4) = false := by rw [hk]; rfl
 have ff : (r.fault == 0) = true := by simpa using h0
 have fn : (r.fault != 0) = false := by simp [h0]
 have hb := hr.box'
 have pl : plF (scF src f) r sl x = if (argsF (scF src f) k sl x.args r).fault ≠ 0 then (argsF (scF src f) k sl x.args r, sl) else (putB (argsF (scF src f) k sl x.args r) k (runF (kindB (scF src f) k) (getB (argsF (scF src f) k sl x.args r) k) (argsF (scF src f) k sl x.args r).x.now), sl) := by
  unfold plF
  simp only []
  rw [if_neg (by omega), if_neg (by omega), if_neg (by omega), if_neg (by omega), if_pos hk, hn]; rfl
 refine Ret.by_text rfl rfl ?_
 simp -implicitDefEqProofs only [go_sem, rB, rA, rS, rL, a70, St.cellsOf_v, St.cs, f3, k1, k4]
 intro g
 simp -implicitDefEqProofs only [go_sem, rB, rA, rS, rL, hb, ff, fn, f1, f2, f3, f4, f5]
 refine Loop.rec (α := Nat × Heap × RS) (fun i => x.args.length - i.1) (fun i => ⟨E 231 [(0, .ep idr 0 0), (1, .int .i64 0), (2, intsV sl), (7, .lp 7 g 0), (11, .int .i64 i.1)], B 231 [(7, some (g, x.cs))], i.2.1⟩)
  (fun i => i.1 ≤ x.args.length ∧ RunH i.2.1 idr src ids bv i.2.2 ∧ Fit (scF src f) i.2.2 sl ∧ i.2.2.fault = 0 ∧ argsF (scF src f) k sl (x.args.drop i.1) i.2.2 = argsF (scF src f) k sl x.args r) ?_ (0, h, r) ⟨Nat.zero_le _, hr, hfit, h0, rfl⟩ rfl
 rintro ⟨i, h1, r1⟩ ⟨hi, hr1, hfit1, h01, hargs⟩ hrec
 simp only [] at hi hr1 hfit1 h01 hargs
 simp -implicitDefEqProofs only [go_sem, rB, rA, rS, rL, St.cs]
 refine br_intro (fun c1 => ?_) (fun c1 => ?_)
 ·have c2 : i < x.args.length := by simpa using c1
  obtain ⟨a, ha⟩ : ∃ a, x.args[i]? = some a := ⟨_, lG c2⟩
  rw [argsF_at ha] at hargs
  simp -implicitDefEqProofs only [go_sem, rB, rA, rS, rL, c1, ha, Ar.cells_eq, Ex.fold]
  refine .inl (of69 src f hsrc hf hr1 sl hfit1 a.e (gx a (lM ha)) _ fun h2 hr2 => ?_)
  have hfit2 := hfit1.of a.e
  generalize hp : ofF (scF src f) r1 sl a.e = p at hr2 hfit2 hargs ⊢
  obtain ⟨r2, w⟩ := p
  simp only [] at hr2 hfit2 hargs
  have hb2 := hr2.box'
  simp -implicitDefEqProofs only [go_sem, rB, rA, rS, rL, hb2]
  refine br_intro (fun c3 => ?_) (fun c3 => ?_)
  ·have e1 : r2.fault ≠ 0 := by simpa using c3
   rw [if_pos e1] at hargs
   rw [← hargs, if_pos e1] at pl
   rw [pl] at hR
   simp -implicitDefEqProofs only [go_sem, rB, rA, rS, c3]
   refine post1 ?_
   simp -implicitDefEqProofs only [go_sem, rB, rA, rS]
   exact hR _ hr2
  have e1 : ¬ r2.fault ≠ 0 := by simpa using c3
  rw [if_neg e1] at hargs
  obtain ⟨idb, y, hbv, hidb, hy, h10, hsb, hkb, hgb⟩ := blk_facts hr2 hfit2 hbk
  rw [hkb, hgb] at hargs
  obtain ⟨w10, hset⟩ := setF_spec b.kind y h10 a.field w
  have hlt := (lS.1 hy).1
  have i0 : ((k : Int) < (r2.x.blocks.length : Int)) = True := eq_true (by omega)
  have hil := inst_len h10
  have hit := inst_take h10
  have hil2 := inst_len w10
  simp -implicitDefEqProofs only [go_sem, rB, rA, rS, rL, c3, hb2, hn, hbv, hidb, i0, Nat.zero_add, hy, hil, hit, hsb, Bk.cells, ha, Ar.cells_eq]
  refine callPure_of hset ?_
  rintro u rfl
  simp -implicitDefEqProofs only [W_region, Again_normal, keep_eq, Thn_normal, Bl_normal, wOps_nil, wOps_cons, val_0, valK_eq, onPut_some, st_0, stK_eq, onS_some, retK_some, ev_E, ev_c, set_E, look_cons, lookB_cons, look_nil, lookB_nil, cond_true, cond_false, rB, rA, rS, rL, if_true, storeOf, storeCells, and_self, List.map_cons, List.map_nil, AVal.eval, cellsOf_agg, nat_le, Int.toNat_natCast, List.getElem?_map, Option.map_some, binOf, intOf, hidb, i0, Nat.zero_add, hy, hil, hil2, over_all hil2 hil, wrap_succ (show i < 9223372036854775807 by omega)]
  rw [← hn]
  refine hrec (i + 1, _, putB r2 k (setF b.kind y a.field w)) (by simp only []; omega) ⟨by simp only []; omega, hr2.putB hbv w10 rfl, hfit2.putB _ _ fun _ => w10, by simpa [putB] using e1, hargs⟩
 ·have c2 : ¬ i < x.args.length := by simpa using c1
  rw [List.drop_eq_nil_of_le (by omega)] at hargs
  have hargs : r1 = argsF (scF src f) k sl x.args r := hargs
  rw [← hargs, if_neg (by simpa using h01)] at pl
  have hb1 := hr1.box'
  obtain ⟨idb, y, hbv, hidb, hy, h10, hsb, hkb, hgb⟩ := blk_facts hr1 hfit1 hbk
  rw [hkb, hgb] at pl
  rw [pl] at hR
  obtain ⟨w10, hset⟩ := runF_spec b.kind y h10 r1.x.now
  have hlt := (lS.1 hy).1
  have i0 : ((k : Int) < (r1.x.blocks.length : Int)) = True := eq_true (by omega)
  have hil := inst_len h10
  have hit := inst_take h10
  have hil2 := inst_len w10
  simp -implicitDefEqProofs only [go_sem, rB, rA, rS, rL, c1, hb1, hn, hbv, hidb, i0, Nat.zero_add, hy, hil, hit, hsb, Bk.cells]
  refine callPure_of hset ?_
  rintro u rfl
  simp -implicitDefEqProofs only [W_region, W_seq, W_ret, Thn_normal, Bl_normal, wOps_nil, wOps_cons, val_0, valK_eq, onPut_some, st_0, stK_eq, onS_some, retK_some, ev_E, set_E, look_cons, look_nil, cond_true, cond_false, rB, rA, rS, rL, if_true, storeOf, storeCells, and_self, AVal.eval, cellsOf_agg, nat_le, Int.toNat_natCast, List.getElem?_map, Option.map_some, hidb, i0, Nat.zero_add, hy, hil, hil2, over_all hil2 hil]
  refine post1 ?_
  simp -implicitDefEqProofs only [go_sem, rB, rA, rS]
  exact hR _ (hr1.putB hbv w10 rfl)
theorem plain70 (src : Src) (f : Fn) (hsrc : src.funcs = [f]) (hf : f.Short) {h : Heap} {idr : Nat} {ids : List Nat} {bv : V} {r : RS} (hr : RunH h idr src ids bv r) (h0 : r.fault = 0) (sl : List Int) (hfit : Fit (scF src f) r sl) (hsl : sl.length ≤ 100000) (x : St) (hal : x.args.length ≤ 20) {lp : Int} (hw : WF (scF src f) lp x) (hk : x.kind < 7) (R : V → Heap → Prop)
  (hR : ∀ h2, RunH h2 idr src ids bv (plF (scF src f) r sl x).1 → R (intsV (plF (scF src f) r sl x).2) h2) : Ret prog 70 [.ep idr 0 0, .int .i64 0, intsV sl, x.v] h R := by
 cases hw with
 | mk _ _ hc hk0 hB h13 h2 h4 h5 h6 hg h8 h9 h11 body els arms =>
 by_cases k0 : x.kind = 0
 ·exact pl_0 src f hr h0 sl x k0 R hR
 by_cases k1 : x.kind = 1
 ·exact pl_1 src f hsrc hf hr h0 sl hfit x k1 (h13 (.inl k1)) R hR
 by_cases k2 : x.kind = 2
 ·exact pl_2 src f hsrc hf hr h0 sl hfit hsl x k2 (h2 k2) R hR
 by_cases k3 : x.kind = 3
 ·exact pl_3 src f hsrc hf hr h0 sl hfit x k3 (h13 (.inr k3)) R hR
 by_cases k4 : x.kind = 4
 ·exact pl_4 src f hsrc hf hr h0 sl hfit x k4 (h4 k4) R hR
 by_cases k5 : x.kind = 5
 ·exact pl_5 src f hsrc hf hr h0 sl hfit x hal k5 (h5 k5) R hR
 exact absurd (show x.kind = 6 by omega) h6
end TryzT
end Go.Abs
namespace Go.Abs
open Go
theorem three_ne : ((3 : Int) = 0) = False := by simp
namespace TryzT
def Okl (s : Sc) (l : List St) : Prop := (∀ x ∈ l, CW' s x) ∧ (∃ d, ∀ x ∈ l, St.Small d x) ∧ cntL l ≤ 1000000
def Okx (s : Sc) (x : St) : Prop := CW' s x ∧ (∃ d, St.Small (d + 1) x) ∧ x.cnt ≤ 1000000
theorem Okl.mem {s : Sc} {l : List St} (h : Okl s l) {x : St} (hx : x ∈ l) : Okx s x := by
 obtain ⟨h1, ⟨d, h2⟩, h3⟩ := h
 refine ⟨h1 x hx, ?_, by have := cnt_mem hx; omega⟩
 cases d with
 | zero => exact (h2 x hx).elim
 | succ d => exact ⟨d, h2 x hx⟩
theorem pick_cases (x : St) (v : Int) : pickF x v = x.body ∨ pickF x v = x.els ∨ ∃ a ∈ x.arms, pickF x v = a.body := by
 unfold pickF
 have key2 : ∀ (a : Am) (ks : List Int) (b : List St), ks.foldl (fun b k => if k = v then a.body else b) b = b ∨ ks.foldl (fun b k => if k = v then a.body else b) b = a.body := by
  intro a ks
  induction ks with
  | nil => exact fun b => .inl rfl
  | cons k ks ih =>
   intro b
   simp only [List.foldl_cons]
   split
   ·rcases ih a.body with h | h <;> exact .inr h
   ·exact ih b
 have key : ∀ (l : List Am) (b : List St), l.foldl (fun b a => a.labels.foldl (fun b k => if k = v then a.body else b) b) b = b ∨ ∃ a ∈ l, l.foldl (fun b a => a.labels.foldl (fun b k => if k = v then a.body else b) b) b = a.body := by
  intro l
  induction l with
  | nil => exact fun b => .inl rfl
  | cons a l ih =>
   intro b
   simp only [List.foldl_cons]
   rcases ih (a.labels.foldl (fun b k => if k = v then a.body else b) b) with h | ⟨c, hc, h⟩
   ·rcases key2 a a.labels b with h2 | h2
    ·exact .inl (by rw [h, h2])
    ·exact .inr ⟨a, lC, by rw [h, h2]⟩
   ·exact .inr ⟨c, lK _ hc, h⟩
 rcases key x.arms (if x.kind = 7 ∧ v = 1 then x.body else x.els) with h | h
 ·rw [h]
  split
  ·exact .inl rfl
  ·exact .inr (.inl rfl)
 ·exact .inr (.inr h)
theorem Okx.body {s : Sc} {x : St} (h : Okx s x) : Okl s x.body := by
 obtain ⟨⟨lp, h1⟩, ⟨d, h2⟩, h3⟩ := h
 exact ⟨fun y hy => ⟨_, h1.body y hy⟩, ⟨d, h2.2.1⟩, by have := x.cnt_eq; omega⟩
theorem Okx.pick {s : Sc} {x : St} (h : Okx s x) (v : Int) : Okl s (pickF x v) := by
 obtain ⟨h1, ⟨d, h2⟩, h3⟩ := h
 have hce := x.cnt_eq
 refine ⟨h1.pick v, ⟨d, pick_mem (lp := 0) h2.2.1 h2.2.2.1 (fun a ha => (h2.2.2.2 a ha).2)⟩, ?_⟩
 rcases pick_cases x v with e | e | ⟨a, ha, e⟩
 ·rw [e]; omega
 ·rw [e]; omega
 ·rw [e]; have := cntA_mem ha; omega
section
variable (src : Src) (f : Fn)
def LOk (n : Nat) : Prop := ∀ (r : RS) (sl : List Int) (l : List St) (q : RS × List Int × Int) (h : Heap) (idr : Nat) (ids : List Nat) (bv : V) (R : V → Heap → Prop), Okl (scF src f) l → Fit (scF src f) r sl → exL (scF src f) n r sl l = some q → RunH h idr src ids bv r → (∀ h2, RunH h2 idr src ids bv q.1 → R (.tup [intsV q.2.1, .int .i64 q.2.2]) h2) → Ret prog 28 [.ep idr 0 0, .int .i64 0, intsV sl, stsV l] h R
def OOk (n : Nat) : Prop := ∀ (r : RS) (sl : List Int) (x : St) (q : RS × List Int × Int) (h : Heap) (idr : Nat) (ids : List Nat) (bv : V) (R : V → Heap → Prop), Okx (scF src f) x → Fit (scF src f) r sl → exO (scF src f) n r sl x = some q → RunH h idr src ids bv r → (∀ h2, RunH h2 idr src ids bv q.1 → R (.tup [intsV q.2.1, .int .i64 q.2.2]) h2) → Ret prog 51 [.ep idr 0 0, .int .i64 0, intsV sl, x.v] h R
def WOk (n : Nat) : Prop := ∀ (r : RS) (sl : List Int) (x : St) (q : RS × List Int × Int) (h : Heap) (idr : Nat) (ids : List Nat) (bv : V) (R : V → Heap → Prop), Okx (scF src f) x → x.kind ≥ 8 ∧ x.kind ≤ 10 → Fit (scF src f) r sl → exW (scF src f) n r sl x = some q → RunH h idr src ids bv r → (∀ h2, RunH h2 idr src ids bv q.1 → R (.tup [intsV q.2.1, .int .i64 q.2.2]) h2) → Ret prog 67 [.ep idr 0 0, .int .i64 0, intsV sl, x.v] h R
end
theorem list28 (src : Src) (f : Fn) (n : Nat) (ih : ∀ m, m < n → OOk src f m) : LOk src f n := by
 intro r sl l q h idr ids bv R hl hfit hq hr hR
 have hll : l.length ≤ 1000000 := by have := cntL_len l; have := hl.2.2; omega
 refine Ret.by_text rfl rfl ?_
 simp -implicitDefEqProofs only [go_sem, rB, rA, a28]
 refine Loop.rec (α := Nat × Nat × Heap × RS × List Int) (fun k => l.length - k.2.1) (fun k => ⟨E 43 [(0, .ep idr 0 0), (1, .int .i64 0), (2, intsV k.2.2.2.2), (3, stsV l), (10, .int .i64 k.2.1)], B 43 [], k.2.2.1⟩)
  (fun k => k.1 ≤ n ∧ k.2.1 ≤ l.length ∧ RunH k.2.2.1 idr src ids bv k.2.2.2.1 ∧ Fit (scF src f) k.2.2.2.1 k.2.2.2.2 ∧ exL (scF src f) k.1 k.2.2.2.1 k.2.2.2.2 (l.drop k.2.1) = some q) ?_ (n, 0, h, r, sl) ⟨Nat.le_refl _, Nat.zero_le _, hr, hfit, hq⟩ rfl
 rintro ⟨m, k, h1, r1, sl1⟩ ⟨hm, hk, hr1, hfit1, hq1⟩ hrec
 simp only [] at hm hk hr1 hfit1 hq1
 cases m with
 | zero => simp [exL] at hq1
 | succ m =>
 have hb := hr1.box'
 simp -implicitDefEqProofs only [go_sem, rB, rA, rS, stsV]
 refine br_intro2 (fun c1 => ?_) (fun c1 => ?_)
 ·have e0 : l.drop k = [] := List.drop_eq_nil_of_le (by simp at c1; omega)
  rw [e0, exL] at hq1
  injection hq1 with hq1
  simp -implicitDefEqProofs only [go_sem, rB, rA, rS, c1]
  refine post2 ?_
  simp -implicitDefEqProofs only [go_sem, rB, rA, rS]
  have := hR h1 (by rw [← hq1]; exact hr1)
  rw [← hq1] at this
  exact this
 have hk2 : k < l.length := by simpa using c1
 obtain ⟨x, hx⟩ : ∃ x, l[k]? = some x := ⟨_, lG hk2⟩
 have hdrop : l.drop k = x :: l.drop (k + 1) := by
  obtain ⟨p, e⟩ := lS.1 hx
  rw [List.drop_eq_getElem_cons p, e]
 rw [hdrop, exL] at hq1
 simp -implicitDefEqProofs only [go_sem, rB, rA, rS, rL, c1, hb]
 refine br_intro2 (fun c2 => ?_) (fun c2 => ?_)
 ·have e1 : r1.fault ≠ 0 := by simpa using c2
  rw [if_pos e1] at hq1
  injection hq1 with hq1
  simp -implicitDefEqProofs only [go_sem, rB, rA, rS, c2]
  refine post2 ?_
  simp -implicitDefEqProofs only [go_sem, rB, rA, rS]
  have := hR h1 (by rw [← hq1]; exact hr1)
  rw [← hq1] at this
  exact this
 have e1 : ¬ r1.fault ≠ 0 := by simpa using c2
 rw [if_neg e1] at hq1
 split at hq1
 ·cases hq1
 rename_i r2 sl2 e he
 obtain ⟨hfit2, _⟩ := (ex_keep (scF src f) _).2.1 _ _ _ _ (hl.mem (lM hx)).1 hfit1 he
 simp -implicitDefEqProofs only [go_sem, rB, rA, rS, rL, c2, hx, x.cells_cs, St.cs, St.fold]
 refine .inl (ih m (by omega) r1 sl1 x _ h1 idr ids bv _ (hl.mem (lM hx)) hfit1 he hr1 fun h2 hr2 => ?_)
 simp only [] at hr2 hfit2
 simp -implicitDefEqProofs only [go_sem, rB, rA, rS]
 refine br_intro (fun c3 => ?_) (fun c3 => ?_)
 ·have e2 : e ≠ 0 := by simpa using c3
  rw [if_pos e2] at hq1
  injection hq1 with hq1
  simp -implicitDefEqProofs only [go_sem, rB, rA, rS, c3]
  refine post2 ?_
  simp -implicitDefEqProofs only [go_sem, rB, rA, rS]
  have := hR h2 (by rw [← hq1]; exact hr2)
  rw [← hq1] at this
  exact this
 ·have e2 : ¬ e ≠ 0 := by simpa using c3
  rw [if_neg e2] at hq1
  simp -implicitDefEqProofs only [go_sem, rB, rA, rS, c3, wrap_succ (show k < 9223372036854775807 by omega)]
  exact hrec (m, k + 1, h2, r2, sl2) (by simp only []; omega) ⟨by simp only []; omega, by simp only []; omega, hr2, hfit2, hq1⟩
end TryzT
end Go.Abs
namespace Go.Abs
open Go
def selF (k : Int) (v : Int) (nx : List Int) : Option Int :=
 let v1 := if k = 7 then IntKind.i64.wrap (1 - v) else v
 nx[(if v1 < 0 ∨ v1 ≥ (nx.length : Int) then nx.length - 1 else v1.toNat)]?
namespace TryzT
inductive GP (s : Sc) (g : List Ev) : Int → RS → List Int → RS → List Int → Prop
 | stop (i : Int) (r : RS) (sl : List Int) (h0 : r.fault ≠ 0) : GP s g i r sl r sl
 | plain (i : Nat) (x : Ev) (j : Int) (r r2 rf : RS) (sl sl2 slf : List Int) (e : Int) (n : Nat) (hx : g[i]? = some x) (hk : x.s.kind ≤ 6) (hn : x.next = [j]) (h0 : r.fault = 0) (hq : exL s n r sl [x.s] = some (r2, sl2, e)) (hself : x.s.cost ≠ 0 ∨ (i : Int) ≠ j) (h : GP s g j r2 sl2 rf slf) : GP s g i r sl rf slf
 | low (i : Nat) (x : Ev) (r : RS) (sl : List Int) (hx : g[i]? = some x) (hk : 6 < x.s.kind) (h0 : r.fault = 0) (hc : x.s.cost > r.left) : GP s g i r sl { r with fault := 1 } sl
 | ret (i : Nat) (x : Ev) (r : RS) (sl : List Int) (hx : g[i]? = some x) (hk : x.s.kind = 14) (h0 : r.fault = 0) (hc : ¬ x.s.cost > r.left) : GP s g i r sl { r with left := r.left - x.s.cost } sl
 | test (i : Nat) (x : Ev) (j : Int) (r rf : RS) (sl slf : List Int) (hx : g[i]? = some x) (hk : x.s.kind = 7 ∨ x.s.kind = 11) (h0 : r.fault = 0) (hc : ¬ x.s.cost > r.left) (hg : Good s x.s.e)
   (hj : selF x.s.kind (evalF s r.x sl x.s.e).1 x.next = some j) (h : GP s g j { r with left := r.left - x.s.cost, fault := (evalF s r.x sl x.s.e).2 } sl rf slf) : GP s g i r sl rf slf
mutual
inductive CL (g : List Ev) : List St → Int → Int → Int → Int → Prop
 | nil (b e n : Int) : CL g [] b e n b
 | cons (x : St) (l : List St) (b e n j i : Int) (hl : CL g l b e n j) (hx : C1 g x j e n i) : CL g (x :: l) b e n i
inductive C1 (g : List Ev) : St → Int → Int → Int → Int → Prop
 | ext (x : St) (b e n : Int) (i : Nat) (hk : x.kind = 12) (hg : g[i]? = some ⟨zeroS 0 x.cost, [e]⟩) : C1 g x b e n i
 | nxt (x : St) (b e n : Int) (i : Nat) (hk : x.kind = 13) (hg : g[i]? = some ⟨zeroS 0 x.cost, [n]⟩) : C1 g x b e n i
 | ret (x : St) (b e n : Int) (i : Nat) (hk : x.kind = 14) (hg : g[i]? = some ⟨bareK x.kind x, []⟩) : C1 g x b e n i
 | iff (x : St) (b e n j1 j2 : Int) (i : Nat) (hk : x.kind = 7) (hg : g[i]? = some ⟨bareK x.kind x, [j1, j2]⟩) (h1 : CL g x.body b e n j1) (h2 : CL g x.els b e n j2) : C1 g x b e n i
 | cas (x : St) (b e n : Int) (nx : List Int) (i : Nat) (hk : x.kind = 11) (hg : g[i]? = some ⟨bareK x.kind x, nx⟩) (sel : Int → Int) (h1 : ∀ v, selF 11 v nx = some (sel v)) (h2 : ∀ v, CL g (pickF x v) b e n (sel v)) : C1 g x b e n i
 | whl (x : St) (b e n j : Int) (i : Nat) (hk : x.kind = 8) (hg : g[i]? = some ⟨bareK 7 x, [j, b]⟩) (h1 : CL g x.body i b i j) : C1 g x b e n i
 | lop (x : St) (b e n j : Int) (i : Nat) (hk : x.kind = 9) (hg : g[i]? = some ⟨zeroS 0 0, [j]⟩) (hne : (i : Int) ≠ j) (h1 : CL g x.body i b i j) : C1 g x b e n i
 | rep (x : St) (b e n i : Int) (k : Nat) (hk : x.kind = 10) (hg : g[k]? = some ⟨bareK 7 x, [b, i]⟩) (h1 : CL g x.body k b k i) : C1 g x b e n i
 | pln (x : St) (b e n : Int) (i : Nat) (hk : x.kind < 7) (hg : g[i]? = some ⟨x, [b]⟩) : C1 g x b e n i
end
structure Beh' (s : Sc) (g : List Ev) (b e n : Int) (q : RS × List Int × Int) (rf : RS) (slf : List Int) : Prop where
 done : q.1.fault ≠ 0 ∨ q.2.2 = 3 → rf = q.1 ∧ slf = q.2.1
 on : q.1.fault = 0 → q.2.2 = 0 → GP s g b q.1 q.2.1 rf slf
 ext : q.1.fault = 0 → q.2.2 = 1 → GP s g e q.1 q.2.1 rf slf
 nxt : q.1.fault = 0 → q.2.2 = 2 → GP s g n q.1 q.2.1 rf slf
theorem Beh'.stop {s : Sc} {g : List Ev} {b e n : Int} {q : RS × List Int × Int} {rf : RS} {slf : List Int} (h : Beh' s g b e n q rf slf) (i : Int) (hf : q.1.fault ≠ 0) : GP s g i q.1 q.2.1 rf slf := by
 obtain ⟨h1, h2⟩ := h.done (.inl hf)
 rw [h1, h2]
 exact .stop i _ _ hf
theorem Beh'.goes {s : Sc} {g : List Ev} {b e n : Int} {q : RS × List Int × Int} {rf : RS} {slf : List Int} (h : Beh' s g b e n q rf slf) (h0 : q.2.2 = 0) : GP s g b q.1 q.2.1 rf slf := by
 by_cases hf : q.1.fault = 0
 ·exact h.on hf h0
 ·exact h.stop b hf
theorem kind_zero (c : Int) : (zeroS 0 c).kind = 0 := rfl
theorem cost_zero (c : Int) : (zeroS 0 c).cost = c := rfl
theorem kind_bare (k : Int) (x : St) : (bareK k x).kind = k := rfl
theorem cost_bare (k : Int) (x : St) : (bareK k x).cost = x.cost := rfl
theorem exL_skip (s : Sc) (r : RS) (sl : List Int) (c : Int) (h0 : r.fault = 0) : exL s 3 r sl [zeroS 0 c] = some (takeF r c, sl, 0) := by
 rw [exL, if_neg (by simpa using h0), exO, if_neg (by rw [kind_zero]; omega), cost_zero]
 by_cases hb : (takeF r c).fault ≠ 0
 ·rw [if_pos hb]
  simp only [if_neg (show ¬ (0 : Int) ≠ 0 by simp)]
  rw [exL]
 ·rw [if_neg hb, if_neg (by rw [kind_zero]; omega), if_neg (by rw [kind_zero]; omega), plF_zero]
  simp only [if_neg (show ¬ (0 : Int) ≠ 0 by simp)]
  rw [exL]
theorem exL_one {s : Sc} {n : Nat} {r r2 : RS} {sl sl2 : List Int} {x : St} (h0 : r.fault = 0) (h : exO s n r sl x = some (r2, sl2, 0)) : exL s (n + 1) r sl [x] = some (r2, sl2, 0) := by
 cases n with
 | zero => simp [exO] at h
 | succ n =>
  rw [exL, if_neg (by simpa using h0), h]
  simp only [if_neg (show ¬ (0 : Int) ≠ 0 by simp)]
  rw [exL]
theorem takeF_low {r : RS} {c : Int} (h0 : r.fault = 0) (h : (takeF r c).fault ≠ 0) : c > r.left ∧ takeF r c = { r with fault := 1 } := by
 by_cases hc : c > r.left
 ·exact ⟨hc, by rw [takeF, if_pos h0, if_pos hc]⟩
 ·rw [takeF, if_pos h0, if_neg hc] at h
  exact absurd h0 h
theorem sel_if (v : Int) (hv : v = 0 ∨ v = 1) (j1 j2 : Int) : selF 7 v [j1, j2] = some (if v = 1 then j1 else j2) := by
 rcases hv with rfl | rfl <;> rfl
theorem GP.of_test {s : Sc} {g : List Ev} {i : Nat} {x : St} {k : Int} {nx : List Int} {r rf : RS} {sl slf : List Int} {j : Int} (hx : g[i]? = some ⟨bareK k x, nx⟩) (hk : k = 7 ∨ k = 11) (h0 : r.fault = 0) (hb : ¬ (takeF r x.cost).fault ≠ 0) (hg : Good s x.e)
  (hj : selF k (ofF s (takeF r x.cost) sl x.e).2 nx = some j) (h : GP s g j (ofF s (takeF r x.cost) sl x.e).1 sl rf slf) : GP s g i r sl rf slf := by
 obtain ⟨h1, h2, h3⟩ := takeF_fault (by simpa using hb)
 have ho : ofF s (takeF r x.cost) sl x.e = ({ r with left := r.left - x.cost, fault := (evalF s r.x sl x.e).2 }, (evalF s r.x sl x.e).1) := by
  rw [h3, ofF, if_neg (by simpa using h0)]
 rw [ho] at hj h
 exact .test i _ j r rf sl slf hx hk h0 (by rw [cost_bare]; omega) hg hj h
theorem GP.of_low {s : Sc} {g : List Ev} {i : Nat} {x : St} {k : Int} {nx : List Int} {r : RS} {sl : List Int} (hx : g[i]? = some ⟨bareK k x, nx⟩) (hk : 6 < k) (h0 : r.fault = 0) (hb : (takeF r x.cost).fault ≠ 0) : GP s g i r sl (takeF r x.cost) sl := by
 obtain ⟨h1, h2⟩ := takeF_low h0 hb
 rw [h2]
 exact .low i _ r sl hx hk h0 h1
end TryzT
end Go.Abs
namespace Go.Abs
open Go
namespace TryzT
def LL (s : Sc) (g : List Ev) (N : Nat) : Prop := ∀ (r : RS) (sl : List Int) (l : List St) (q : RS × List Int × Int) (b e n i : Int) (rf : RS) (slf : List Int), (∀ x ∈ l, CW' s x) → Fit s r sl → exL s N r sl l = some q → CL g l b e n i → Beh' s g b e n q rf slf → GP s g i r sl rf slf
def OO (s : Sc) (g : List Ev) (N : Nat) : Prop := ∀ (r : RS) (sl : List Int) (x : St) (q : RS × List Int × Int) (b e n i : Int) (rf : RS) (slf : List Int), CW' s x → Fit s r sl → r.fault = 0 → exO s N r sl x = some q → C1 g x b e n i → Beh' s g b e n q rf slf → GP s g i r sl rf slf
def WW (s : Sc) (g : List Ev) (N : Nat) : Prop := ∀ (r : RS) (sl : List Int) (x : St) (q : RS × List Int × Int) (b e n i : Int) (rf : RS) (slf : List Int), CW' s x → Fit s r sl → x.kind ≥ 8 ∧ x.kind ≤ 10 → exW s N r sl x = some q → C1 g x b e n i → Beh' s g b e n q rf slf → GP s g i r sl rf slf
theorem law_L (s : Sc) (g : List Ev) (N : Nat) (iL : ∀ m, m < N → LL s g m) (iO : ∀ m, m < N → OO s g m) : LL s g N := by
 intro r sl l q b e n i rf slf hc hf hq hcl hk
 cases N with
 | zero => simp [exL] at hq
 | succ N =>
  cases hcl with
  | nil =>
   rw [exL] at hq
   injection hq with hq
   subst hq
   exact hk.goes rfl
  | cons x l _ _ _ j _ hl hx =>
   rw [exL] at hq
   split at hq
   ·rename_i h0
    injection hq with hq
    subst hq
    exact hk.stop i h0
   ·rename_i h0
    have h0' : r.fault = 0 := by simpa using h0
    split at hq
    ·cases hq
    ·rename_i r2 sl2 e2 he
     obtain ⟨hf2, _⟩ := (ex_keep s _).2.1 _ _ _ _ (hc x lC) hf he
     refine iO N (by omega) r sl x _ j e n i rf slf (hc x lC) hf h0' he hx ?_
     split at hq
     ·rename_i hne
      injection hq with hq
      subst hq
      exact ⟨hk.done, fun _ h => absurd h hne, hk.ext, hk.nxt⟩
     ·rename_i hne
      have e0 : e2 = 0 := by simpa using hne
      subst e0
      refine ⟨fun h => ?_, fun h _ => ?_, fun _ h => by simp at h, fun _ h => by simp at h⟩
      ·rcases h with h | h
       ·have := exL_bad h hq
        subst this
        exact hk.done (.inl h)
       ·simp at h
      ·exact iL N (by omega) r2 sl2 l q b e n j rf slf (fun y hy => hc y (lK _ hy)) hf2 hq hl hk
theorem good_of {s : Sc} {x : St} (h : CW' s x) (hk : x.kind = 7 ∨ x.kind = 8 ∨ x.kind = 10 ∨ x.kind = 11) : Good s x.e := by
 obtain ⟨lp, h⟩ := h
 cases h.1 with
 | mk _ _ hc hk0 hB h13 h2 h4 h5 h6 hg h8 h9 h11 body els arms => exact hg hk
theorem b1_of {s : Sc} {x : St} (h : CW' s x) (hk : x.kind = 7 ∨ x.kind = 8 ∨ x.kind = 10) : B1 s x.e := by
 obtain ⟨lp, h⟩ := h
 cases h.1 with
 | mk _ _ hc hk0 hB h13 h2 h4 h5 h6 hg h8 h9 h11 body els arms => exact h8 hk
theorem law_O (s : Sc) (g : List Ev) (N : Nat) (iL : ∀ m, m < N → LL s g m) (iW : ∀ m, m < N → WW s g m) : OO s g N := by
 intro r sl x q b e n i rf slf hc hf h0 hq hc1 hk
 obtain ⟨lp, hw⟩ := id hc
 have hcost := hw.1.facts.1
 have hK := hw.1.facts.2.1
 obtain ⟨hu1, _, _, _, _, _⟩ := hw.2.facts
 have hft := hf.take hcost
 cases N with
 | zero => simp [exO] at hq
 | succ N =>
 rw [exO] at hq
 by_cases hkk : x.kind ≥ 8 ∧ x.kind ≤ 10
 ·rw [if_pos hkk] at hq
  exact iW N (by omega) r sl x q b e n i rf slf hc hf hkk hq hc1 hk
 rw [if_neg hkk] at hq
 cases hc1 with
 | whl => omega
 | lop => omega
 | rep => omega
 | ext _ _ _ _ i hk12 hg =>
  refine .plain i _ e r (takeF r x.cost) rf sl sl slf 0 3 hg (by rw [kind_zero]; omega) rfl h0 (exL_skip s r sl x.cost h0) (.inl (by rw [cost_zero]; have := hu1 (by omega); omega)) ?_
  split at hq
  ·rename_i hb; injection hq with hq; subst hq; exact hk.stop e hb
  ·rename_i hb
   rw [if_pos (by omega)] at hq
   injection hq with hq
   subst hq
   exact hk.ext (by simpa using hb) (by simp only []; omega)
 | nxt _ _ _ _ i hk12 hg =>
  refine .plain i _ n r (takeF r x.cost) rf sl sl slf 0 3 hg (by rw [kind_zero]; omega) rfl h0 (exL_skip s r sl x.cost h0) (.inl (by rw [cost_zero]; have := hu1 (by omega); omega)) ?_
  split at hq
  ·rename_i hb; injection hq with hq; subst hq; exact hk.stop n hb
  ·rename_i hb
   rw [if_pos (by omega)] at hq
   injection hq with hq
   subst hq
   exact hk.nxt (by simpa using hb) (by simp only []; omega)
 | ret _ _ _ _ i hk14 hg =>
  split at hq
  ·rename_i hb
   injection hq with hq
   subst hq
   obtain ⟨h1, h2⟩ := hk.done (.inl hb)
   rw [h1, h2]
   exact GP.of_low hg (by omega) h0 hb
  ·rename_i hb
   rw [if_pos (by omega)] at hq
   injection hq with hq
   subst hq
   obtain ⟨h1, h2⟩ := hk.done (.inr (by simp only []; omega))
   rw [h1, h2]
   obtain ⟨_, hle, ht⟩ := takeF_fault (by simpa using hb)
   simp only []
   rw [ht]
   exact .ret i _ r sl hg (by rw [kind_bare]; exact hk14) h0 (by rw [cost_bare]; omega)
 | iff _ _ _ _ j1 j2 i hk7 hg h1 h2 =>
  split at hq
  ·rename_i hb
   injection hq with hq
   subst hq
   obtain ⟨e1, e2⟩ := hk.done (.inl hb)
   rw [e1, e2]
   exact GP.of_low hg (by omega) h0 hb
  ·rename_i hb
   rw [if_neg (by omega), if_pos (.inl hk7)] at hq
   have hgx := good_of hc (.inl hk7)
   have hbit := hft.bit hgx (b1_of hc (.inl hk7))
   have harms : x.arms = [] := hw.1.facts.2.2.1.2.2 (by omega)
   refine GP.of_test hg (.inl hk7) h0 hb hgx (by rw [hk7]; exact sel_if _ hbit j1 j2) ?_
   have hpk : CL g (pickF x (ofF s (takeF r x.cost) sl x.e).2) b e n (if (ofF s (takeF r x.cost) sl x.e).2 = 1 then j1 else j2) := by
    unfold pickF
    rw [harms, List.foldl_nil]
    split
    ·rename_i hh; rw [if_pos hh.2]; exact h1
    ·rename_i hh; rw [if_neg (fun e => hh ⟨hk7, e⟩)]; exact h2
   exact iL N (by omega) _ sl _ q b e n _ rf slf (hc.pick _) (hft.of x.e) hq hpk hk
 | cas _ _ _ _ nx i hk11 hg sel h1 h2 =>
  split at hq
  ·rename_i hb
   injection hq with hq
   subst hq
   obtain ⟨e1, e2⟩ := hk.done (.inl hb)
   rw [e1, e2]
   exact GP.of_low hg (by omega) h0 hb
  ·rename_i hb
   rw [if_neg (by omega), if_pos (.inr hk11)] at hq
   have hgx := good_of hc (.inr (.inr (.inr hk11)))
   refine GP.of_test hg (.inr hk11) h0 hb hgx (by rw [hk11]; exact h1 _) ?_
   exact iL N (by omega) _ sl _ q b e n _ rf slf (hc.pick _) (hft.of x.e) hq (h2 _) hk
 | pln _ _ _ _ i hk7 hg =>
  have hq1 : ∃ r2 sl2, q = (r2, sl2, 0) := by
   split at hq
   ·injection hq with hq; exact ⟨_, _, hq.symm⟩
   ·rw [if_neg (by omega), if_neg (by omega)] at hq
    injection hq with hq; exact ⟨_, _, hq.symm⟩
  obtain ⟨r2, sl2, rfl⟩ := hq1
  have hqq : exO s (N + 1) r sl x = some (r2, sl2, 0) := by rw [exO, if_neg hkk]; exact hq
  have hx6 : x.kind ≠ 6 := hw.1.sub.1
  exact .plain i _ b r r2 rf sl sl2 slf 0 _ hg (by simp only []; omega) rfl h0 (exL_one h0 hqq) (.inl (by have := hu1 (by omega); simp only []; omega)) (hk.goes rfl)
theorem law_B (s : Sc) (g : List Ev) (N : Nat) (iL : ∀ m, m < N → LL s g m) (r r1 : RS) (sl : List Int) (x : St) (q : RS × List Int × Int) (b e n h0i j : Int) (rf : RS) (slf : List Int) (hc : CW' s x) (hf1 : Fit s r1 sl) (hkk : x.kind ≥ 8 ∧ x.kind ≤ 10) (hq : exB s N r.left r1 sl x = some q) (h00 : r1.fault = 0 → r.fault = 0)
  (hlt : x.kind = 8 → r1.fault ≠ 0 ∨ r1.left < r.left) (heq : x.kind ≠ 8 → r1 = r ∧ r.fault = 0) (hcl : CL g x.body h0i b h0i j) (hk : Beh' s g b e n q rf slf)
  (again : ∀ m r2 sl2, m < N → Fit s r2 sl2 → r2.fault = 0 → r2.left < r.left → (if x.kind = 10 then ((takeF r2 x.cost).fault ≠ 0 ∧ q = (takeF r2 x.cost, sl2, 0)) ∨ (¬ (takeF r2 x.cost).fault ≠ 0 ∧ (((ofF s (takeF r2 x.cost) sl2 x.e).2 = 1 ∧ q = ((ofF s (takeF r2 x.cost) sl2 x.e).1, sl2, 0)) ∨ (¬ (ofF s (takeF r2 x.cost) sl2 x.e).2 = 1 ∧ exW s m (ofF s (takeF r2 x.cost) sl2 x.e).1 sl2 x = some q))) else exW s m r2 sl2 x = some q) → GP s g h0i r2 sl2 rf slf) : GP s g j r1 sl rf slf := by
 obtain ⟨lp, hw⟩ := id hc
 have hcost := hw.1.facts.1
 obtain ⟨_, hu8, hu9, _, _, _⟩ := hw.2.facts
 cases N with
 | zero => simp [exB] at hq
 | succ N =>
 rw [exB] at hq
 split at hq
 ·cases hq
 rename_i r2 sl2 e2 he
 have hbody : ∀ y ∈ x.body, CW' s y := fun y hy => ⟨_, hw.body y hy⟩
 obtain ⟨hf2, hl2⟩ := (ex_keep s _).1 _ _ _ _ hbody hf1 he
 simp only [] at hf2 hl2
 have hfall : r2.fault ≠ 0 ∨ r2.left < r.left := by
  by_cases k8 : x.kind = 8
  ·rcases hlt k8 with h | h
   ·have := exL_bad h he
    injection this with h1 h2
    subst h1
    exact .inl h
   ·exact .inr (by omega)
  ·obtain ⟨rest, hb⟩ := hu9 (by omega)
   obtain ⟨e1, e2⟩ := heq k8
   subst e1
   rw [hb] at he
   exact falls (fun y hy => hbody y (by rw [hb]; exact lK _ hy)) hf1 e2 he
 refine iL N (by omega) r1 sl x.body _ h0i b h0i j rf slf hbody hf1 he hcl ?_
 have bad : r2.fault ≠ 0 → q.1 = r2 ∧ q.2.1 = sl2 := by
  intro hb
  split at hq
  ·injection hq with hq; subst hq; exact ⟨rfl, rfl⟩
  ·split at hq
   ·rw [takeF_bad hb, if_pos hb] at hq
    injection hq with hq; subst hq; exact ⟨rfl, rfl⟩
   ·rw [fixW (.inl hb)] at hq
    cases N with
    | zero => simp [exW] at hq
    | succ N =>
     rw [exW, if_pos hb] at hq
     injection hq with hq; subst hq; exact ⟨rfl, rfl⟩
 have turn : r2.fault = 0 → ¬ (e2 = 3 ∨ e2 = 1) → GP s g h0i r2 sl2 rf slf := by
  intro h0 hne
  rw [if_neg hne] at hq
  have hlt2 : r2.left < r.left := by
   rcases hfall with h | h
   ·exact absurd h0 h
   ·exact h
  refine again N r2 sl2 (by omega) hf2 h0 hlt2 ?_
  split at hq
  ·rename_i k10
   rw [if_pos k10]
   split at hq
   ·rename_i hb; injection hq with hq; exact .inl ⟨hb, hq.symm⟩
   ·rename_i hb
    refine .inr ⟨hb, ?_⟩
    split at hq
    ·rename_i hv; injection hq with hq; exact .inl ⟨hv, hq.symm⟩
    ·rename_i hv
     have htl := (takeF_left r2 x.cost hcost).1
     have hol := (ofF_x s (takeF r2 x.cost) sl2 x.e).2
     rw [fixW (.inr (by omega))] at hq
     exact .inr ⟨hv, hq⟩
  ·rename_i k10
   rw [if_neg k10]
   rw [fixW (.inr hlt2)] at hq
   exact hq
 refine ⟨fun h => ?_, fun h0 h => turn h0 (by simp only [] at h; omega), fun h0 h => ?_, fun h0 h => turn h0 (by simp only [] at h; omega)⟩
 ·by_cases hb : r2.fault ≠ 0
  ·obtain ⟨e3, e4⟩ := bad hb
   obtain ⟨e5, e6⟩ := hk.done (.inl (by rw [e3]; exact hb))
   exact ⟨by rw [e5, e3], by rw [e6, e4]⟩
  ·have e3 : e2 = 3 := by rcases h with h | h; exact absurd h hb; exact h
   rw [if_pos (.inl e3), if_pos e3] at hq
   injection hq with hq
   subst hq
   exact hk.done (.inr rfl)
 ·have e1 : e2 = 1 := h
  rw [if_pos (.inr e1), if_neg (by omega)] at hq
  injection hq with hq
  subst hq
  exact hk.on h0 rfl
theorem law_W (s : Sc) (g : List Ev) (N : Nat) (iL : ∀ m, m < N → LL s g m) (iW : ∀ m, m < N → WW s g m) : WW s g N := by
 intro r sl x q b e n i rf slf hc hf hkk hq hc1 hk
 obtain ⟨lp, hw⟩ := id hc
 have hcost := hw.1.facts.1
 obtain ⟨_, hu8, hu9, _, _, _⟩ := hw.2.facts
 cases N with
 | zero => simp [exW] at hq
 | succ N =>
 have hc1' := hc1
 rw [exW] at hq
 by_cases h0 : r.fault ≠ 0
 ·rw [if_pos h0] at hq
  injection hq with hq
  subst hq
  exact hk.stop i h0
 have h0' : r.fault = 0 := by simpa using h0
 rw [if_neg h0] at hq
 cases hc1 with
 | ext => omega
 | nxt => omega
 | ret => omega
 | iff => omega
 | cas => omega
 | pln => omega
 | whl _ _ _ _ j i k8 hg h1 =>
  rw [if_pos k8] at hq
  by_cases hb : (takeF r x.cost).fault ≠ 0
  ·rw [if_pos hb] at hq
   injection hq with hq
   subst hq
   obtain ⟨e1, e2⟩ := hk.done (.inl hb)
   rw [e1, e2]
   exact GP.of_low hg (by decide) h0' hb
  rw [if_neg hb] at hq
  obtain ⟨_, _, ht⟩ := takeF_fault (by simpa using hb)
  have hft := hf.take hcost
  have hgx := good_of hc (.inr (.inl k8))
  have hbit := hft.bit hgx (b1_of hc (.inr (.inl k8)))
  have hol := (ofF_x s (takeF r x.cost) sl x.e).2
  refine GP.of_test hg (.inl rfl) h0' hb hgx (sel_if _ hbit j b) ?_
  by_cases hv : (ofF s (takeF r x.cost) sl x.e).2 = 0
  ·rw [if_pos hv] at hq
   injection hq with hq
   subst hq
   rw [if_neg (by omega)]
   exact hk.goes rfl
  ·rw [if_neg hv] at hq
   rw [if_pos (by omega)]
   refine law_B s g N (fun m hm => iL m (by omega)) r _ sl x q b e n i j rf slf hc (hft.of x.e) hkk hq (fun _ => h0') (fun _ => .inr (by rw [hol, ht]; have := hu8 k8; simp only []; omega)) (fun h => absurd k8 h) h1 hk ?_
   intro m r2 sl2 hm hf2 h02 _ hh
   rw [if_neg (by omega)] at hh
   exact iW m (by omega) r2 sl2 x q b e n i rf slf hc hf2 hkk hh hc1' hk
 | lop _ _ _ _ j i k9 hg hne h1 =>
  rw [if_neg (by omega)] at hq
  have ht0 : takeF r 0 = r := by
   rw [takeF, if_pos h0', if_neg (by have := hf.l0; omega)]
   simp
  refine .plain i _ j r r rf sl sl slf 0 3 hg (by rw [kind_zero]; omega) rfl h0' (by rw [exL_skip s r sl 0 h0', ht0]) (.inr hne) ?_
  refine law_B s g N (fun m hm => iL m (by omega)) r r sl x q b e n i j rf slf hc hf hkk hq (fun _ => h0') (fun h => by omega) (fun _ => ⟨rfl, h0'⟩) h1 hk ?_
  intro m r2 sl2 hm hf2 h02 _ hh
  rw [if_neg (by omega)] at hh
  exact iW m (by omega) r2 sl2 x q b e n i rf slf hc hf2 hkk hh hc1' hk
 | rep _ _ _ _ _ k k10 hg h1 =>
  rw [if_neg (by omega)] at hq
  have hgx := good_of hc (.inr (.inr (.inl k10)))
  refine law_B s g N (fun m hm => iL m (by omega)) r r sl x q b e n k i rf slf hc hf hkk hq (fun _ => h0') (fun h => by omega) (fun _ => ⟨rfl, h0'⟩) h1 hk ?_
  intro m r2 sl2 hm hf2 h02 _ hh
  rw [if_pos k10] at hh
  have hft := hf2.take hcost
  rcases hh with ⟨hb, hh⟩ | ⟨hb, hh⟩
  ·subst hh
   obtain ⟨e1, e2⟩ := hk.done (.inl hb)
   rw [e1, e2]
   exact GP.of_low hg (by decide) h02 hb
  ·have hbit := hft.bit hgx (b1_of hc (.inr (.inr k10)))
   refine GP.of_test hg (.inl rfl) h02 hb hgx (sel_if _ hbit b i) ?_
   rcases hh with ⟨hv, hh⟩ | ⟨hv, hh⟩
   ·subst hh
    rw [if_pos hv]
    exact hk.goes rfl
   ·rw [if_neg hv]
    exact iW m (by omega) _ sl2 x q b e n i rf slf hc (hft.of x.e) hkk hh hc1' hk
theorem law (s : Sc) (g : List Ev) (N : Nat) : LL s g N ∧ OO s g N ∧ WW s g N := by
 induction N using Nat.strongRecOn with
 | ind N ih => exact ⟨law_L s g N (fun m hm => (ih m hm).1) fun m hm => (ih m hm).2.1, law_O s g N (fun m hm => (ih m hm).1) fun m hm => (ih m hm).2.2, law_W s g N (fun m hm => (ih m hm).1) fun m hm => (ih m hm).2.2⟩
end TryzT
end Go.Abs
namespace Go.Abs
open Go
def Agr (g h : List Ev) (lo : Nat) : Prop := ∀ k, lo ≤ k → k < h.length → g[k]? = h[k]?
theorem Agr.pre {g h h1 : List Ev} {lo : Nat} (ha : Agr g h lo) (hp : PreE h1 h) : Agr g h1 lo := by
 intro k h2 h3
 obtain ⟨t, rfl⟩ := hp
 rw [ha k h2 (by rw [List.length_append]; omega), List.getElem?_append_left h3]
theorem Agr.up {g h : List Ev} {lo hi : Nat} (ha : Agr g h lo) (hh : lo ≤ hi) : Agr g h hi := fun k h1 h2 => ha k (by omega) h2
theorem Agr.last {g h : List Ev} {lo : Nat} {x : Ev} (ha : Agr g (h ++ [x]) lo) (hl : lo ≤ h.length) : g[h.length]? = some x := by
 rw [ha h.length hl (by simp)]; simp
namespace TryzT
theorem gFold_CL {s : Sc} {g : List Ev} {d : Nat} {e n : Int} (h1 : ∀ (x : St) (evs : List Ev) (b : Int), St.Small d x → CW' s x → Agr g (gOne d e n x evs b).1 evs.length → C1 g x b e n (gOne d e n x evs b).2) :
  ∀ (l : List St) (evs : List Ev) (b : Int), (∀ x ∈ l, St.Small d x ∧ CW' s x) → Agr g (gFold (gOne d e n) l evs b).1 evs.length → CL g l b e n (gFold (gOne d e n) l evs b).2 := by
 intro l
 induction l with
 | nil => exact fun evs b _ _ => .nil b e n
 | cons x l ih =>
  intro evs b hl ha
  have hx := gOne_ext d e n x (gFold (gOne d e n) l evs b).1 (gFold (gOne d e n) l evs b).2
  have hi := gFold_ext (gOne_ext d e n) l evs b
  refine .cons x l b e n _ _ (ih evs b (fun y hy => hl y (lK _ hy)) (ha.pre hx)) ?_
  exact h1 x _ _ (hl x lC).1 (hl x lC).2 (ha.up hi.len)
theorem setL_at2 {v : Int} {l : List Int} (hl : ∀ k ∈ l, 0 ≤ k ∧ k ≤ 255) : ∀ (nx : List Int) (t : Nat), t < nx.length → (setL l v nx)[t]? = if (t : Int) ∈ l then some v else nx[t]? := by
 induction l with
 | nil => intro nx t ht; simp [setL]
 | cons k l ih =>
  intro nx t ht
  have hk := hl k lC
  have hb : lab k = true := by simp [lab]; omega
  have ih := ih fun y hy => hl y (lK _ hy)
  simp only [setL, List.foldl_cons, hb, if_true] at ih ⊢
  rw [ih _ t (by simpa using ht)]
  by_cases hm : (t : Int) ∈ l
  ·rw [if_pos hm, if_pos (lK _ hm)]
  ·rw [if_neg hm]
   by_cases e : k = (t : Int)
   ·rw [if_pos (by rw [e]; exact lC), e, Int.toNat_natCast, List.getElem?_set_self ht]
   ·rw [if_neg (by simp only [List.mem_cons]; rintro (h | h); exact e h.symm; exact hm h), List.getElem?_set_ne (by omega)]
theorem pickK_eq (v : Int) (a : Am) : ∀ (l : List Int) (b : List St), l.foldl (fun b k => if k = v then a.body else b) b = if v ∈ l then a.body else b := by
 intro l
 induction l with
 | nil => intro b; simp
 | cons k l ih =>
  intro b
  simp only [List.foldl_cons]
  rw [ih]
  by_cases e : k = v
  ·subst e; simp
  ·simp only [if_neg e, List.mem_cons]
   by_cases hm : v ∈ l
   ·simp [hm]
   ·rw [if_neg hm, if_neg (by rintro (h | h); exact e h.symm; exact hm h)]
theorem gArms_CL {s : Sc} {g : List Ev} {d : Nat} {e n : Int} (h1 : ∀ (x : St) (evs : List Ev) (b : Int), St.Small d x → CW' s x → Agr g (gOne d e n x evs b).1 evs.length → C1 g x b e n (gOne d e n x evs b).2) (b : Int) :
  ∀ (l : List Am) (evs : List Ev) (nx : List Int) (bs : Nat → List St), (∀ a ∈ l, LabOk a ∧ ∀ x ∈ a.body, St.Small d x ∧ CW' s x) → Agr g (gArms (gOne d e n) b l evs nx).1 evs.length → (∀ t, t < nx.length → ∃ j, nx[t]? = some j ∧ CL g (bs t) b e n j) →
   (gArms (gOne d e n) b l evs nx).2.length = nx.length ∧ ∀ t, t < nx.length → ∃ j, (gArms (gOne d e n) b l evs nx).2[t]? = some j ∧ CL g (l.foldl (fun b a => a.labels.foldl (fun b k => if k = (t : Int) then a.body else b) b) (bs t)) b e n j := by
 intro l
 induction l with
 | nil => exact fun evs nx bs _ _ h => ⟨rfl, h⟩
 | cons a l ih =>
  intro evs nx bs hl ha hnx
  obtain ⟨hlab, hbody⟩ := hl a lC
  have hx := gArms_ext (gOne_ext d e n) b l (gFold (gOne d e n) a.body evs b).1 (setL a.labels (gFold (gOne d e n) a.body evs b).2 nx)
  have hf := gFold_ext (gOne_ext d e n) a.body evs b
  have hcl := gFold_CL h1 a.body evs b hbody (ha.pre hx)
  have hlen := setL_len a.labels (gFold (gOne d e n) a.body evs b).2 nx
  have hnx2 : ∀ t, t < (setL a.labels (gFold (gOne d e n) a.body evs b).2 nx).length → ∃ j, (setL a.labels (gFold (gOne d e n) a.body evs b).2 nx)[t]? = some j ∧ CL g ((fun t : Nat => a.labels.foldl (fun b k => if k = (t : Int) then a.body else b) (bs t)) t) b e n j := by
   intro t ht
   rw [hlen] at ht
   rw [setL_at2 hlab nx t ht]
   simp only [pickK_eq]
   by_cases hm : (t : Int) ∈ a.labels
   ·rw [if_pos hm, if_pos hm]
    exact ⟨_, rfl, hcl⟩
   ·rw [if_neg hm, if_neg hm]
    exact hnx t ht
  obtain ⟨q1, q2⟩ := ih (gFold (gOne d e n) a.body evs b).1 (setL a.labels (gFold (gOne d e n) a.body evs b).2 nx) (fun t => a.labels.foldl (fun b k => if k = (t : Int) then a.body else b) (bs t)) (fun a' h => hl a' (lK _ h)) (ha.up hf.len) hnx2
  refine ⟨by rw [gArms, q1, hlen], fun t ht => ?_⟩
  exact q2 t (by rw [hlen]; exact ht)
theorem pickF_no {x : St} (hk : x.kind ≠ 7) {v : Int} (hv : ∀ a ∈ x.arms, v ∉ a.labels) : pickF x v = x.els := by
 unfold pickF
 rw [if_neg (fun h => hk h.1)]
 have : ∀ (l : List Am) (b : List St), (∀ a ∈ l, v ∉ a.labels) → l.foldl (fun b a => a.labels.foldl (fun b k => if k = v then a.body else b) b) b = b := by
  intro l
  induction l with
  | nil => exact fun b _ => rfl
  | cons a l ih =>
   intro b hb
   rw [List.foldl_cons, pickK_eq, if_neg (hb a lC)]
   exact ih b fun c hc => hb c (lK _ hc)
 exact this _ _ hv
theorem gOne_C1 (s : Sc) (g : List Ev) : ∀ (d : Nat) (e n : Int) (x : St) (evs : List Ev) (b : Int), St.Small d x → CW' s x → Agr g (gOne d e n x evs b).1 evs.length → C1 g x b e n (gOne d e n x evs b).2 := by
 intro d
 induction d with
 | zero => exact fun e n x evs b h => h.elim
 | succ d ih =>
  rintro e n x evs b ⟨hf, sb, se, sa⟩ hc ha
  obtain ⟨lp, hw⟩ := id hc
  have hK := hw.1.facts.2.1
  have hB : ∀ y ∈ x.body, St.Small d y ∧ CW' s y := fun y hy => ⟨sb y hy, _, hw.body y hy⟩
  have hE : ∀ y ∈ x.els, St.Small d y ∧ CW' s y := fun y hy => ⟨se y hy, _, hw.els y hy⟩
  have hA : ∀ a ∈ x.arms, ∀ y ∈ a.body, St.Small d y ∧ CW' s y := fun a h y hy => ⟨(sa a h).2 y hy, _, hw.arms a h y hy⟩
  unfold gOne at ha ⊢
  by_cases k12 : x.kind = 12
  ·rw [if_pos k12] at ha ⊢
   exact .ext x b e n _ k12 (ha.last (Nat.le_refl _))
  rw [if_neg k12] at ha ⊢
  by_cases k13 : x.kind = 13
  ·rw [if_pos k13] at ha ⊢
   exact .nxt x b e n _ k13 (ha.last (Nat.le_refl _))
  rw [if_neg k13] at ha ⊢
  by_cases k14 : x.kind = 14
  ·rw [if_pos k14] at ha ⊢
   exact .ret x b e n _ k14 (ha.last (Nat.le_refl _))
  rw [if_neg k14] at ha ⊢
  by_cases k7 : x.kind = 7
  ·rw [if_pos k7] at ha ⊢
   simp only [] at ha ⊢
   have x1 := gFold_ext (gOne_ext d e n) x.body evs b
   have x2 := gFold_ext (gOne_ext d e n) x.els (gFold (gOne d e n) x.body evs b).1 b
   have a2 := ha.pre (PreE.one _ _)
   exact .iff x b e n _ _ _ k7 (ha.last (x1.trans x2).len) (gFold_CL (ih e n) x.body evs b hB (a2.pre x2)) (gFold_CL (ih e n) x.els _ b hE (a2.up x1.len))
  rw [if_neg k7] at ha ⊢
  by_cases k11 : x.kind = 11
  ·rw [if_pos k11] at ha ⊢
   simp only [] at ha ⊢
   have hlabs := hw.1.facts.2.2.2.2 k11
   have x1 := gFold_ext (gOne_ext d e n) x.els evs b
   have x2 := gArms_ext (gOne_ext d e n) b x.arms (gFold (gOne d e n) x.els evs b).1 (List.replicate (topA x.arms 0 + 1).toNat (gFold (gOne d e n) x.els evs b).2)
   have a2 := ha.pre (PreE.one _ _)
   have hels := gFold_CL (ih e n) x.els evs b hE (a2.pre x2)
   have htop := topA_ge x.arms 0
   obtain ⟨mm, hmm⟩ : ∃ mm : Nat, topA x.arms 0 = mm := ⟨(topA x.arms 0).toNat, by omega⟩
   have hm1 : (topA x.arms 0 + 1).toNat = mm + 1 := by omega
   rw [hm1] at ha x2 a2 ⊢
   obtain ⟨q1, q2⟩ := gArms_CL (ih e n) b x.arms (gFold (gOne d e n) x.els evs b).1 (List.replicate (mm + 1) (gFold (gOne d e n) x.els evs b).2) (fun _ => x.els) (fun a h => ⟨hlabs a h, hA a h⟩) (a2.up x1.len) (fun t ht => ⟨_, by rw [List.getElem?_replicate, if_pos (by simpa using ht)], hels⟩)
   rw [List.length_replicate] at q1 q2
   generalize hr : gArms (gOne d e n) b x.arms (gFold (gOne d e n) x.els evs b).1 (List.replicate (mm + 1) (gFold (gOne d e n) x.els evs b).2) = r at ha q1 q2 x2 a2 ⊢
   have key : ∀ v : Int, ∃ j, selF 11 v r.2 = some j ∧ CL g (pickF x v) b e n j := by
    intro v
    unfold selF
    simp only [if_neg (show ¬ (11 : Int) = 7 by decide), q1]
    by_cases hv : v < 0 ∨ v ≥ ((mm + 1 : Nat) : Int)
    ·rw [if_pos hv]
     obtain ⟨j, h1, h2⟩ := q2 mm (by omega)
     refine ⟨j, by simpa using h1, ?_⟩
     rw [pickF_no k7]
     ·have := pickF_no (x := x) k7 (v := (mm : Int)) fun a h hm => by
       have h5 := hlabs a h _ hm
       have := topA_mem h hm (by simp [lab]; omega) 0
       omega
      unfold pickF at this
      rw [if_neg (fun h => k7 h.1)] at this
      rw [this] at h2
      exact h2
     ·intro a h hm
      have h5 := hlabs a h _ hm
      have := topA_mem h hm (by simp [lab]; omega) 0
      omega
    ·rw [if_neg hv]
     obtain ⟨t, rfl⟩ := Int.eq_ofNat_of_zero_le (show 0 ≤ v by omega)
     obtain ⟨j, h1, h2⟩ := q2 t (by omega)
     refine ⟨j, by simpa using h1, ?_⟩
     unfold pickF
     rw [if_neg (fun h => k7 h.1)]
     exact h2
   refine .cas x b e n r.2 _ k11 (ha.last (x1.trans x2).len) (fun v => Classical.choose (key v)) (fun v => (Classical.choose_spec (key v)).1) (fun v => (Classical.choose_spec (key v)).2)
  rw [if_neg k11] at ha ⊢
  have lp2 : ∀ (ev0 ev1 : Ev) (b' : Int), Agr g ((gFold (gOne d b evs.length) x.body (evs ++ [ev0]) b').1.set evs.length ev1) evs.length → g[evs.length]? = some ev1 ∧ CL g x.body b' b evs.length (gFold (gOne d b evs.length) x.body (evs ++ [ev0]) b').2 := by
   intro ev0 ev1 b' hag
   have x1 := gFold_ext (gOne_ext d b evs.length) x.body (evs ++ [ev0]) b'
   have hl1 := x1.len
   rw [List.length_append, List.length_cons, List.length_nil] at hl1
   refine ⟨?_, gFold_CL (ih b evs.length) x.body (evs ++ [ev0]) b' hB fun k h1 h2 => ?_⟩
   ·rw [hag evs.length (Nat.le_refl _) (by rw [List.length_set]; omega), List.getElem?_set_self (by omega)]
   ·rw [List.length_append, List.length_cons, List.length_nil] at h1
    rw [hag k (by omega) (by rw [List.length_set]; exact h2), List.getElem?_set_ne (by omega)]
  by_cases k8 : x.kind = 8
  ·rw [if_pos k8] at ha ⊢
   simp only [] at ha ⊢
   obtain ⟨h1, h2⟩ := lp2 _ _ _ ha
   exact .whl x b e n _ _ k8 h1 h2
  rw [if_neg k8] at ha ⊢
  by_cases k9 : x.kind = 9
  ·rw [if_pos k9] at ha ⊢
   simp only [] at ha ⊢
   obtain ⟨h1, h2⟩ := lp2 _ _ _ ha
   refine .lop x b e n _ _ k9 h1 ?_ h2
   obtain ⟨rest, hb⟩ := hw.2.facts.2.2.1 (.inl k9)
   rw [hb]
   have hd : ∃ d', d = d' + 1 := by
    cases d with
    | zero => exact (sb (zeroS 0 1) (by rw [hb]; exact lC)).elim
    | succ d' => exact ⟨d', rfl⟩
   obtain ⟨d', rfl⟩ := hd
   have x1 := gFold_ext (gOne_ext (d' + 1) b evs.length) rest (evs ++ [⟨zeroS 0 0, [0]⟩]) evs.length
   have hl1 := x1.len
   rw [List.length_append, List.length_cons, List.length_nil] at hl1
   show (evs.length : Int) ≠ (gOne (d' + 1) b evs.length (zeroS 0 1) (gFold (gOne (d' + 1) b evs.length) rest (evs ++ [⟨zeroS 0 0, [0]⟩]) evs.length).1 (gFold (gOne (d' + 1) b evs.length) rest (evs ++ [⟨zeroS 0 0, [0]⟩]) evs.length).2).2
   have hz : ∀ evs' b', (gOne (d' + 1) b evs.length (zeroS 0 1) evs' b').2 = evs'.length := fun evs' b' => by
    simp [gOne, kind_zero]
   rw [hz]
   omega
  rw [if_neg k9] at ha ⊢
  by_cases k10 : x.kind = 10
  ·rw [if_pos k10] at ha ⊢
   simp only [] at ha ⊢
   obtain ⟨h1, h2⟩ := lp2 _ _ _ ha
   exact .rep x b e n _ _ k10 h1 h2
  rw [if_neg k10] at ha ⊢
  exact .pln x b e n _ (by omega) (ha.last (Nat.le_refl _))
end TryzT
end Go.Abs
namespace Go.Abs
open Go

def kindOk (k : Int) (n : Nat) : Bool := (decide (0 ≤ k) && decide (k ≤ 6) && n == 1) || (k == 7 && n == 2) || (k == 11 && decide (0 < n)) || (k == 14 && n == 0)
def Ev.right (m : Nat) (x : Ev) : Bool := x.s.body.isEmpty && x.s.els.isEmpty && x.s.arms.isEmpty && kindOk x.s.kind x.next.length && x.next.all fun k => decide (0 ≤ k) && decide (k < m)
def right (l : List Ev) : Bool := l.all (Ev.right l.length) && decide (0 < l.length)

theorem all_drop {α : Type} {f : α → Bool} {l : List α} {k : Nat} {x : α} (hx : l[k]? = some x) : (l.drop k).all f = (f x && (l.drop (k + 1)).all f) := by
 obtain ⟨a, e⟩ := lS.1 hx
 rw [List.drop_eq_getElem_cons a, e, List.all_cons]
theorem right_false {l : List Ev} {k : Nat} {x : Ev} (hall : l.all (Ev.right l.length) = (l.drop k).all (Ev.right l.length)) (hx : l[k]? = some x) (hf : Ev.right l.length x = false) : right l = false := by
 rw [right, hall, all_drop hx, hf]; rfl
theorem cast_beq0 (n : Nat) : ((n : Int) == 0) = (n == 0) := by rw [Bool.eq_iff_iff]; simp
theorem cast_beq1 (n : Nat) : ((n : Int) == 1) = (n == 1) := by rw [Bool.eq_iff_iff]; simp; omega
theorem cast_beq2 (n : Nat) : ((n : Int) == 2) = (n == 2) := by rw [Bool.eq_iff_iff]; simp; omega
theorem pos_false {α : Type} {l : List α} (h : decide ((l.length : Int) > 0) = true) : l.isEmpty = false := by
 cases l <;> simp_all
theorem zero_true {α : Type} {l : List α} (h : decide ((l.length : Int) > 0) = false) : l.isEmpty = true := by
 cases l <;> simp_all

namespace TryzT
theorem right7 (l : List Ev) (hl : l.length < 1000000) (hn : ∀ x ∈ l, x.next.length < 1000000) : Ret prog 33 [evsV l] Heap.none fun r _ => r = .bool (right l) := by
 refine Ret.by_text rfl rfl ?_
 simp -implicitDefEqProofs only [go_sem, rB, rA, rS, a33, evsV]
 refine Loop.rec (fun k : Nat => l.length - k) (fun k => ⟨E 91 [(0, evsV l), (8, evsV l), (9, .int .i64 l.length), (10, .int .i64 k)], B 91 [], Heap.none⟩)
  (fun k => k ≤ l.length ∧ l.all (Ev.right l.length) = (l.drop k).all (Ev.right l.length)) ?_ 0 ⟨Nat.zero_le _, rfl⟩ rfl
 intro k ⟨hk, hall⟩ hi
 simp -implicitDefEqProofs only [go_sem, rB, rA, rS, evsV]
 refine br_intro (fun h6 => ?_) (fun h6 => ?_)
 ·have h7 : k < l.length := by simpa using h6
  obtain ⟨x, hx⟩ : ∃ x, l[k]? = some x := ⟨_, lG h7⟩
  simp -implicitDefEqProofs only [go_sem, rB, rA, rS, rL, h6, hx, x.cells_cs, Ev.cs]
  intro g
  refine br_intro (fun c1 => ?_) (fun c1 => ?_)
  ·simp -implicitDefEqProofs only [go_sem, rB, rA, rS, c1]
   refine post1 ?_
   simp -implicitDefEqProofs only [go_sem, rB, rA, rS]
   rw [right_false hall hx (by first | simp [Ev.right, pos_false c1] | simp [Ev.right, pos_false c2] | simp [Ev.right, pos_false c3])]
  simp -implicitDefEqProofs only [go_sem, rB, rA, rS, rL, c1]
  refine br_intro (fun c2 => ?_) (fun c2 => ?_)
  ·simp -implicitDefEqProofs only [go_sem, rB, rA, rS, c2]
   refine post1 ?_
   simp -implicitDefEqProofs only [go_sem, rB, rA, rS]
   rw [right_false hall hx (by first | simp [Ev.right, pos_false c1] | simp [Ev.right, pos_false c2] | simp [Ev.right, pos_false c3])]
  simp -implicitDefEqProofs only [go_sem, rB, rA, rS, rL, c2]
  refine br_intro (fun c3 => ?_) (fun c3 => ?_)
  ·simp -implicitDefEqProofs only [go_sem, c3]
   refine post1 ?_
   simp -implicitDefEqProofs only [go_sem, rB, rA, rS]
   rw [right_false hall hx (by first | simp [Ev.right, pos_false c1] | simp [Ev.right, pos_false c2] | simp [Ev.right, pos_false c3])]
  simp -implicitDefEqProofs only [go_sem, rB, rA, rS, rL, c3]
  refine W_meet (fun s2 => ∃ q, s2 = ⟨E 91 q, B 91 [(4, some (g, x.cs))], Heap.none⟩ ∧ look q 0 = evsV l ∧ look q 4 = .lp 4 g 0 ∧ look q 5 = .bool (kindOk x.s.kind x.next.length) ∧ look q 8 = evsV l ∧ look q 9 = .int .i64 l.length ∧ look q 10 = .int .i64 k) ?_ ?_
  ·simp -implicitDefEqProofs only [go_sem, rB, rA, rS, a33_b2, Ev.cs]
   refine br_intro (fun k1 => ?_) (fun k1 => ?_)
   ·simp -implicitDefEqProofs only [go_sem, rB, rA, rS, rL, k1]
    simp only [beq_iff_eq] at k1
    refine ⟨_, rfl, rfl, rfl, ?_, rfl, rfl, rfl⟩
    simp -implicitDefEqProofs only [go_sem, rB, jL, kindOk, k1]
    simp [cast_beq1]
   simp -implicitDefEqProofs only [go_sem, rB, rA, rS, k1]
   refine br_intro (fun k2 => ?_) (fun k2 => ?_)
   ·simp -implicitDefEqProofs only [go_sem, rB, rA, rS, rL, k2]
    simp only [beq_iff_eq] at k2
    refine ⟨_, rfl, rfl, rfl, ?_, rfl, rfl, rfl⟩
    simp -implicitDefEqProofs only [go_sem, rB, jL, kindOk, k2]
    simp [cast_beq1]
   simp -implicitDefEqProofs only [go_sem, rB, rA, rS, k2]
   refine br_intro (fun k3 => ?_) (fun k3 => ?_)
   ·simp -implicitDefEqProofs only [go_sem, rB, rA, rS, rL, k3]
    simp only [beq_iff_eq] at k3
    refine ⟨_, rfl, rfl, rfl, ?_, rfl, rfl, rfl⟩
    simp -implicitDefEqProofs only [go_sem, rB, jL, kindOk, k3]
    simp [cast_beq1]
   simp -implicitDefEqProofs only [go_sem, rB, rA, rS, k3]
   refine br_intro (fun k4 => ?_) (fun k4 => ?_)
   ·simp -implicitDefEqProofs only [go_sem, rB, rA, rS, rL, k4]
    simp only [beq_iff_eq] at k4
    refine ⟨_, rfl, rfl, rfl, ?_, rfl, rfl, rfl⟩
    simp -implicitDefEqProofs only [go_sem, rB, jL, kindOk, k4]
    simp [cast_beq1]
   simp -implicitDefEqProofs only [go_sem, rB, rA, rS, k4]
   refine br_intro (fun k5 => ?_) (fun k5 => ?_)
   ·simp -implicitDefEqProofs only [go_sem, rB, rA, rS, rL, k5]
    simp only [beq_iff_eq] at k5
    refine ⟨_, rfl, rfl, rfl, ?_, rfl, rfl, rfl⟩
    simp -implicitDefEqProofs only [go_sem, rB, jL, kindOk, k5]
    simp [cast_beq1]
   simp -implicitDefEqProofs only [go_sem, rB, rA, rS, k5]
   refine br_intro (fun k6 => ?_) (fun k6 => ?_)
   ·simp -implicitDefEqProofs only [go_sem, rB, rA, rS, rL, k6]
    simp only [beq_iff_eq] at k6
    refine ⟨_, rfl, rfl, rfl, ?_, rfl, rfl, rfl⟩
    simp -implicitDefEqProofs only [go_sem, rB, jL, kindOk, k6]
    simp [cast_beq1]
   simp -implicitDefEqProofs only [go_sem, rB, rA, rS, k6]
   refine br_intro (fun k0 => ?_) (fun k0 => ?_)
   ·simp -implicitDefEqProofs only [go_sem, rB, rA, rS, rL, k0]
    simp only [beq_iff_eq] at k0
    refine ⟨_, rfl, rfl, rfl, ?_, rfl, rfl, rfl⟩
    simp -implicitDefEqProofs only [go_sem, rB, jL, kindOk, k0]
    simp [cast_beq1]
   simp -implicitDefEqProofs only [go_sem, rB, rA, rS, k0]
   refine br_intro (fun k7 => ?_) (fun k7 => ?_)
   ·simp -implicitDefEqProofs only [go_sem, rB, rA, rS, rL, k7]
    simp only [beq_iff_eq] at k7
    refine ⟨_, rfl, rfl, rfl, ?_, rfl, rfl, rfl⟩
    simp -implicitDefEqProofs only [go_sem, rB, jL, kindOk, k7]
    simp [cast_beq2]
   simp -implicitDefEqProofs only [go_sem, rB, rA, rS, k7]
   refine br_intro (fun k11 => ?_) (fun k11 => ?_)
   ·simp -implicitDefEqProofs only [go_sem, rB, rA, rS, rL, k11]
    simp only [beq_iff_eq] at k11
    refine ⟨_, rfl, rfl, rfl, ?_, rfl, rfl, rfl⟩
    simp -implicitDefEqProofs only [go_sem, rB, jL, kindOk, k11]
    simp []
   simp -implicitDefEqProofs only [go_sem, rB, rA, rS, k11]
   refine br_intro (fun k14 => ?_) (fun k14 => ?_)
   ·simp -implicitDefEqProofs only [go_sem, rB, rA, rS, rL, k14]
    simp only [beq_iff_eq] at k14
    refine ⟨_, rfl, rfl, rfl, ?_, rfl, rfl, rfl⟩
    simp -implicitDefEqProofs only [go_sem, rB, jL, kindOk, k14]
    simp [cast_beq0]
   simp -implicitDefEqProofs only [go_sem, k14]
   refine ⟨_, rfl, rfl, rfl, ?_, rfl, rfl, rfl⟩
   simp -implicitDefEqProofs only [go_sem, rB, kindOk]
   simp only [beq_eq_false_iff_ne, ne_eq] at k0 k1 k2 k3 k4 k5 k6 k7 k11 k14
   have : ¬ (0 ≤ x.s.kind ∧ x.s.kind ≤ 6) := by omega
   simp [k7, k11, k14]
   omega
  ·rintro s2 ⟨q, rfl, q0, q4, q5, q8, q9, q10⟩
   simp -implicitDefEqProofs only [go_sem, rB, rA, rS, rL, q0, q4, q5, q8, q9, q10, Ev.cs, evsV]
   have hnx := hn x (lM hx)
   refine Loop.rec (α := Bool × Nat) (fun j => x.next.length - j.2) (fun j => ⟨E 91 [(0, evsV l), (5, .bool j.1), (8, evsV l), (9, .int .i64 l.length), (10, .int .i64 k), (67, intsV x.next), (68, .int .i64 x.next.length), (69, .int .i64 j.2)], B 91 [], Heap.none⟩)
    (fun j => j.2 ≤ x.next.length ∧ (kindOk x.s.kind x.next.length && x.next.all fun k => decide (0 ≤ k) && decide (k < l.length)) = (j.1 && (x.next.drop j.2).all fun k => decide (0 ≤ k) && decide (k < l.length))) ?_ (kindOk x.s.kind x.next.length, 0) ⟨Nat.zero_le _, rfl⟩ rfl
   intro ⟨o, j⟩ ⟨hj, ho⟩ hi2
   simp only [] at hj ho
   simp -implicitDefEqProofs only [go_sem, rB, rA, rS, intsV]
   refine br_intro (fun h8 => ?_) (fun h8 => ?_)
   ·have h9 : j < x.next.length := by simpa using h8
    obtain ⟨y, hy⟩ : ∃ y, x.next[j]? = some y := ⟨_, lG h9⟩
    rw [all_drop hy] at ho
    simp -implicitDefEqProofs only [go_sem, rB, rA, rS, rL, h8, hy, intC, evsV]
    refine br_intro (fun d1 => ?_) (fun d1 => ?_)
    ·simp -implicitDefEqProofs only [go_sem, rB, rA, rS, d1]
     refine br_intro (fun d2 => ?_) (fun d2 => ?_)
     ·simp -implicitDefEqProofs only [go_sem, rB, rA, rS, d2, wrap_succ (show j < 9223372036854775807 by omega)]
      exact hi2 (decide (y < l.length), j + 1) (by simp only []; omega) ⟨by simp only []; omega, by rw [ho, d1]; simp only [ge_iff_le] at d2; rw [d2]; simp⟩
     ·simp -implicitDefEqProofs only [go_sem, rB, rA, rS, d2, wrap_succ (show j < 9223372036854775807 by omega)]
      exact hi2 (false, j + 1) (by simp only []; omega) ⟨by simp only []; omega, by rw [ho, d1]; simp only [ge_iff_le] at d2; rw [d2]; simp⟩
    ·simp -implicitDefEqProofs only [go_sem, rB, rA, rS, d1, wrap_succ (show j < 9223372036854775807 by omega)]
     exact hi2 (false, j + 1) (by simp only []; omega) ⟨by simp only []; omega, by rw [ho, d1]; simp⟩
   ·have h9 : ¬ j < x.next.length := by simpa using h8
    rw [List.drop_eq_nil_of_le (by omega)] at ho
    have hr : Ev.right l.length x = o := by
     rw [Ev.right, zero_true c1, zero_true c2, zero_true c3]
     simpa using ho
    simp -implicitDefEqProofs only [go_sem, rB, rA, rS, h8]
    refine br_intro (fun d1 => ?_) (fun d1 => ?_)
    ·simp -implicitDefEqProofs only [go_sem, rB, rA, rS, d1, wrap_succ (show k < 9223372036854775807 by omega)]
     exact hi (k + 1) (by omega) ⟨by omega, by rw [hall, all_drop hx, hr, d1, Bool.true_and]⟩
    ·simp -implicitDefEqProofs only [go_sem, d1]
     refine post1 ?_
     simp -implicitDefEqProofs only [go_sem, rB, rA, rS]
     rw [right_false hall hx (by rw [hr]; exact d1)]
 ·simp -implicitDefEqProofs only [go_sem, rB, rA, rS, h6]
  refine post1 ?_
  simp -implicitDefEqProofs only [go_sem, rB, rA, rS]
  have h7 : ¬ k < l.length := by simpa using h6
  rw [right, hall, List.drop_eq_nil_of_le (by omega)]
  simp
end TryzT
end Go.Abs
namespace Go.Abs
open Go
namespace TryzT
structure EvI (s : Sc) (M : Nat) (x : Ev) : Prop where
 body : x.s.body = []
 els : x.s.els = []
 arms : x.s.arms = []
 kind : kindOk x.s.kind x.next.length = true
 next : ∀ j ∈ x.next, 0 ≤ j ∧ j < (M : Int)
 ok : x.s.kind ≤ 6 → x.s = zeroS 0 x.s.cost ∨ Okx s x.s
 cost : 0 ≤ x.s.cost
 few : x.next.length ≤ 300
 good : x.s.kind = 7 ∨ x.s.kind = 11 → Good s x.s.e
def InvE (s : Sc) (M : Nat) (evs : List Ev) : Prop := ∀ ev ∈ evs, EvI s M ev
theorem InvE.snoc {s : Sc} {M : Nat} {evs : List Ev} {x : Ev} (h : InvE s M evs) (hx : EvI s M x) : InvE s M (evs ++ [x]) := by
 intro ev he
 rcases List.mem_append.1 he with he | he
 ·exact h ev he
 ·rw [List.mem_singleton.1 he]; exact hx
theorem InvE.set {s : Sc} {M : Nat} {evs : List Ev} {x : Ev} (h : InvE s M evs) (i : Nat) (hx : EvI s M x) : InvE s M (evs.set i x) := by
 intro ev he
 rcases List.mem_or_eq_of_mem_set he with he | he
 ·exact h ev he
 ·rw [he]; exact hx
theorem one_in {M : Nat} {j : Int} (h : 0 ≤ j ∧ j < (M : Int)) : ∀ k ∈ [j], 0 ≤ k ∧ k < (M : Int) := fun k hk => by rw [List.mem_singleton.1 hk]; exact h
theorem two_in {M : Nat} {i j : Int} (h1 : 0 ≤ i ∧ i < (M : Int)) (h : 0 ≤ j ∧ j < (M : Int)) : ∀ k ∈ [i, j], 0 ≤ k ∧ k < (M : Int) := fun k hk => by
 rcases List.mem_cons.1 hk with e | hk
 ·rw [e]; exact h1
 ·exact one_in h k hk
theorem EvI.zero {s : Sc} {M : Nat} {c j : Int} (hc : 0 ≤ c) (hj : 0 ≤ j ∧ j < (M : Int)) : EvI s M ⟨zeroS 0 c, [j]⟩ :=
 ⟨rfl, rfl, rfl, rfl, one_in hj, fun _ => .inl rfl, hc, by simp, fun h => by simp [kind_zero] at h⟩
theorem EvI.bare {s : Sc} {M : Nat} {k : Int} {x : St} {nx : List Int} (hc : 0 ≤ x.cost) (hk : kindOk k nx.length = true) (h6 : ¬ k ≤ 6) (hn : ∀ j ∈ nx, 0 ≤ j ∧ j < (M : Int)) (hf : nx.length ≤ 300) (hg : k = 7 ∨ k = 11 → Good s x.e) : EvI s M ⟨bareK k x, nx⟩ :=
 ⟨rfl, rfl, rfl, hk, hn, fun h => absurd h h6, hc, hf, hg⟩
theorem setL_mem {v : Int} : ∀ (l : List Int) (nx : List Int), ∀ j ∈ setL l v nx, j = v ∨ j ∈ nx := by
 intro l
 induction l with
 | nil => exact fun nx j h => .inr h
 | cons k l ih =>
  intro nx j hj
  simp only [setL, List.foldl_cons] at hj ih
  rcases ih _ j hj with h | h
  ·exact .inl h
  ·split at h
   ·rcases List.mem_or_eq_of_mem_set h with h | h
    ·exact .inr h
    ·exact .inl h
   ·exact .inr h
theorem gFold_I {s : Sc} {d M : Nat} {e n : Int} (h1 : ∀ (x : St) (evs : List Ev) (b : Int), St.Small d x → CW' s x → InvE s M evs → 0 ≤ b ∧ b < (M : Int) → (gOne d e n x evs b).1.length ≤ M → InvE s M (gOne d e n x evs b).1 ∧ 0 ≤ (gOne d e n x evs b).2 ∧ (gOne d e n x evs b).2 < (M : Int)) :
  ∀ (l : List St) (evs : List Ev) (b : Int), (∀ x ∈ l, St.Small d x ∧ CW' s x) → InvE s M evs → 0 ≤ b ∧ b < (M : Int) → (gFold (gOne d e n) l evs b).1.length ≤ M → InvE s M (gFold (gOne d e n) l evs b).1 ∧ 0 ≤ (gFold (gOne d e n) l evs b).2 ∧ (gFold (gOne d e n) l evs b).2 < (M : Int) := by
 intro l
 induction l with
 | nil => exact fun evs b _ hi hb _ => ⟨hi, hb⟩
 | cons x l ih =>
  intro evs b hl hi hb hM
  have hx := (gOne_ext d e n x (gFold (gOne d e n) l evs b).1 (gFold (gOne d e n) l evs b).2).len
  have hM' : (gOne d e n x (gFold (gOne d e n) l evs b).1 (gFold (gOne d e n) l evs b).2).1.length ≤ M := hM
  obtain ⟨q1, q2⟩ := ih evs b (fun y hy => hl y (lK _ hy)) hi hb (by omega)
  exact h1 x _ _ (hl x lC).1 (hl x lC).2 q1 q2 hM'
theorem gArms_I {s : Sc} {d M : Nat} {e n : Int} (h1 : ∀ (x : St) (evs : List Ev) (b : Int), St.Small d x → CW' s x → InvE s M evs → 0 ≤ b ∧ b < (M : Int) → (gOne d e n x evs b).1.length ≤ M → InvE s M (gOne d e n x evs b).1 ∧ 0 ≤ (gOne d e n x evs b).2 ∧ (gOne d e n x evs b).2 < (M : Int)) (b : Int) (hb : 0 ≤ b ∧ b < (M : Int)) :
  ∀ (l : List Am) (evs : List Ev) (nx : List Int), (∀ a ∈ l, ∀ x ∈ a.body, St.Small d x ∧ CW' s x) → InvE s M evs → (∀ j ∈ nx, 0 ≤ j ∧ j < (M : Int)) → (gArms (gOne d e n) b l evs nx).1.length ≤ M → InvE s M (gArms (gOne d e n) b l evs nx).1 ∧ (∀ j ∈ (gArms (gOne d e n) b l evs nx).2, 0 ≤ j ∧ j < (M : Int)) ∧ (gArms (gOne d e n) b l evs nx).2.length = nx.length := by
 intro l
 induction l with
 | nil => exact fun evs nx _ hi hn _ => ⟨hi, hn, rfl⟩
 | cons a l ih =>
  intro evs nx hl hi hn hM
  have hx := (gArms_ext (gOne_ext d e n) b l (gFold (gOne d e n) a.body evs b).1 (setL a.labels (gFold (gOne d e n) a.body evs b).2 nx)).len
  have hM' : (gArms (gOne d e n) b l (gFold (gOne d e n) a.body evs b).1 (setL a.labels (gFold (gOne d e n) a.body evs b).2 nx)).1.length ≤ M := hM
  obtain ⟨q1, q2⟩ := gFold_I h1 a.body evs b (hl a lC) hi hb (by omega)
  obtain ⟨r1, r2, r3⟩ := ih _ (setL a.labels (gFold (gOne d e n) a.body evs b).2 nx) (fun c hc => hl c (lK _ hc)) q1 (fun j hj => by
   rcases setL_mem _ _ j hj with h | h
   ·rw [h]; exact q2
   ·exact hn j h) hM'
  exact ⟨r1, r2, by rw [gArms, r3, setL_len]⟩
theorem gOne_I (s : Sc) (M : Nat) : ∀ (d : Nat) (e n : Int), 0 ≤ e ∧ e < (M : Int) → 0 ≤ n ∧ n < (M : Int) → ∀ (x : St) (evs : List Ev) (b : Int), St.Small d x → CW' s x → InvE s M evs → 0 ≤ b ∧ b < (M : Int) → (gOne d e n x evs b).1.length ≤ M → InvE s M (gOne d e n x evs b).1 ∧ 0 ≤ (gOne d e n x evs b).2 ∧ (gOne d e n x evs b).2 < (M : Int) := by
 intro d
 induction d with
 | zero => exact fun e n _ _ x evs b h => h.elim
 | succ d ih =>
  rintro e n he hn x evs b hsm hc hi hb hM
  obtain ⟨hf, sb, se, sa⟩ := id hsm
  obtain ⟨lp, hw⟩ := id hc
  obtain ⟨hcost, hK, ⟨bar1, bar2, bar3⟩, _, _⟩ := hw.1.facts
  have hB : ∀ y ∈ x.body, St.Small d y ∧ CW' s y := fun y hy => ⟨sb y hy, _, hw.body y hy⟩
  have hE : ∀ y ∈ x.els, St.Small d y ∧ CW' s y := fun y hy => ⟨se y hy, _, hw.els y hy⟩
  have hA : ∀ a ∈ x.arms, ∀ y ∈ a.body, St.Small d y ∧ CW' s y := fun a h y hy => ⟨(sa a h).2 y hy, _, hw.arms a h y hy⟩
  have hext := (gOne_ext (d + 1) e n x evs b).len
  unfold gOne at hM hext ⊢
  by_cases k12 : x.kind = 12
  ·rw [if_pos k12] at hM hext ⊢
   simp only [List.length_append, List.length_cons, List.length_nil] at hM ⊢
   exact ⟨hi.snoc (.zero hcost he), by omega, by omega⟩
  rw [if_neg k12] at hM hext ⊢
  by_cases k13 : x.kind = 13
  ·rw [if_pos k13] at hM hext ⊢
   simp only [List.length_append, List.length_cons, List.length_nil] at hM ⊢
   exact ⟨hi.snoc (.zero hcost hn), by omega, by omega⟩
  rw [if_neg k13] at hM hext ⊢
  by_cases k14 : x.kind = 14
  ·rw [if_pos k14] at hM hext ⊢
   simp only [List.length_append, List.length_cons, List.length_nil] at hM ⊢
   exact ⟨hi.snoc (.bare hcost (by rw [k14]; rfl) (by omega) (fun j hj => by cases hj) (by simp) (fun h => by omega)), by omega, by omega⟩
  rw [if_neg k14] at hM hext ⊢
  by_cases k7 : x.kind = 7
  ·rw [if_pos k7] at hM hext ⊢
   simp only [List.length_append, List.length_cons, List.length_nil] at hM hext ⊢
   have x2 := (gFold_ext (gOne_ext d e n) x.els (gFold (gOne d e n) x.body evs b).1 b).len
   obtain ⟨q1, q2⟩ := gFold_I (ih e n he hn) x.body evs b hB hi hb (by omega)
   obtain ⟨r1, r2⟩ := gFold_I (ih e n he hn) x.els _ b hE q1 hb (by omega)
   exact ⟨r1.snoc (.bare hcost (by rw [k7]; rfl) (by omega) (two_in q2 r2) (by simp) (fun _ => good_of hc (.inl k7))), by omega, by omega⟩
  rw [if_neg k7] at hM hext ⊢
  by_cases k11 : x.kind = 11
  ·rw [if_pos k11] at hM hext ⊢
   simp only [List.length_append, List.length_cons, List.length_nil] at hM hext ⊢
   have htop := topA_ge x.arms 0
   have htop2 := topA_le x.arms 0 (by omega)
   have x2 := (gArms_ext (gOne_ext d e n) b x.arms (gFold (gOne d e n) x.els evs b).1 (List.replicate (topA x.arms 0 + 1).toNat (gFold (gOne d e n) x.els evs b).2)).len
   obtain ⟨q1, q2⟩ := gFold_I (ih e n he hn) x.els evs b hE hi hb (by omega)
   obtain ⟨r1, r2, r3⟩ := gArms_I (ih e n he hn) b hb x.arms _ (List.replicate (topA x.arms 0 + 1).toNat (gFold (gOne d e n) x.els evs b).2) hA q1 (fun j hj => by rw [(List.mem_replicate.1 hj).2]; exact q2) (by omega)
   rw [List.length_replicate] at r3
   refine ⟨r1.snoc (.bare hcost ?_ (by omega) r2 (by rw [r3]; omega) (fun _ => good_of hc (.inr (.inr (.inr k11))))), by omega, by omega⟩
   rw [k11, r3]
   have : 0 < (topA x.arms 0 + 1).toNat := by omega
   simp [kindOk, this]
  rw [if_neg k11] at hM hext ⊢
  by_cases k8 : x.kind = 8
  ·rw [if_pos k8] at hM hext ⊢
   simp only [List.length_set] at hM hext ⊢
   have x1 := (gFold_ext (gOne_ext d b evs.length) x.body (evs ++ [⟨bareK 7 x, [0, b]⟩]) evs.length).len
   rw [List.length_append, List.length_cons, List.length_nil] at x1
   have hgx := good_of hc (.inr (.inl k8))
   obtain ⟨q1, q2⟩ := gFold_I (ih b evs.length hb (by omega)) x.body (evs ++ [⟨bareK 7 x, [0, b]⟩]) evs.length hB (hi.snoc (.bare hcost rfl (by decide) (two_in (by omega) hb) (by simp) (fun _ => hgx))) (by omega) hM
   exact ⟨q1.set _ (.bare hcost rfl (by decide) (two_in q2 hb) (by simp) (fun _ => hgx)), by omega, by omega⟩
  rw [if_neg k8] at hM hext ⊢
  by_cases k9 : x.kind = 9
  ·rw [if_pos k9] at hM hext ⊢
   simp only [List.length_set] at hM hext ⊢
   have x1 := (gFold_ext (gOne_ext d b evs.length) x.body (evs ++ [⟨zeroS 0 0, [0]⟩]) evs.length).len
   rw [List.length_append, List.length_cons, List.length_nil] at x1
   obtain ⟨q1, q2⟩ := gFold_I (ih b evs.length hb (by omega)) x.body (evs ++ [⟨zeroS 0 0, [0]⟩]) evs.length hB (hi.snoc (.zero (by decide) (by omega))) (by omega) hM
   exact ⟨q1.set _ (.zero (by decide) q2), by omega, by omega⟩
  rw [if_neg k9] at hM hext ⊢
  by_cases k10 : x.kind = 10
  ·rw [if_pos k10] at hM hext ⊢
   simp only [List.length_set] at hM hext ⊢
   have x1 := (gFold_ext (gOne_ext d b evs.length) x.body (evs ++ [⟨bareK 7 x, [b, 0]⟩]) evs.length).len
   rw [List.length_append, List.length_cons, List.length_nil] at x1
   have hgx := good_of hc (.inr (.inr (.inl k10)))
   obtain ⟨q1, q2⟩ := gFold_I (ih b evs.length hb (by omega)) x.body (evs ++ [⟨bareK 7 x, [b, 0]⟩]) evs.length hB (hi.snoc (.bare hcost rfl (by decide) (two_in hb (by omega)) (by simp) (fun _ => hgx))) (by omega) hM
   exact ⟨q1.set _ (.bare hcost rfl (by decide) (two_in hb q2) (by simp) (fun _ => hgx)), q2⟩
  rw [if_neg k10] at hM hext ⊢
  simp only [List.length_append, List.length_cons, List.length_nil] at hM ⊢
  have b1 := bar1 (by omega)
  have b2 := bar2 (by omega) (by omega)
  have b3 := bar3 (by omega)
  have hkk : x.kind ≤ 6 := by omega
  refine ⟨hi.snoc ⟨b1, b2, b3, ?_, one_in hb, fun _ => .inr ⟨hc, ⟨d, hsm⟩, ?_⟩, hcost, by simp, fun h => ?_⟩, by omega, by omega⟩
  ·show kindOk x.kind 1 = true
   simp [kindOk, hK.1, hkk]
  ·show x.cnt ≤ 1000000
   have := x.cnt_eq
   rw [b1, b2, b3] at this
   simp [cntL, cntA] at this
   omega
  ·simp only [] at h
   omega
theorem gStmts_I (s : Sc) (d : Nat) (l : List St) (hl : ∀ x ∈ l, St.Small d x ∧ CW' s x) : InvE s (gStmts d l).length (gStmts d l) ∧ 2 ≤ (gStmts d l).length ∧ (gStmts d l).length ≤ 2 + cntL l := by
 have hx := (gFold_ext (gOne_ext d 1 1) l [⟨zeroS 0 0, [0]⟩, ⟨zeroS 14 0, []⟩] 1).len
 have hle := gFold_len (gOne_len d 1 1) l [⟨zeroS 0 0, [0]⟩, ⟨zeroS 14 0, []⟩] 1
 simp only [List.length_cons, List.length_nil] at hx hle
 have hlen : (gStmts d l).length = (gFold (gOne d 1 1) l [⟨zeroS 0 0, [0]⟩, ⟨zeroS 14 0, []⟩] 1).1.length := by simp [gStmts]
 rw [hlen]
 obtain ⟨q1, q2⟩ := gFold_I (gOne_I s (gFold (gOne d 1 1) l [⟨zeroS 0 0, [0]⟩, ⟨zeroS 14 0, []⟩] 1).1.length d 1 1 (by omega) (by omega)) l [⟨zeroS 0 0, [0]⟩, ⟨zeroS 14 0, []⟩] 1 hl (by
  intro ev he
  rcases List.mem_cons.1 he with e | he
  ·rw [e]; exact .zero (by decide) (by omega)
  ·rw [List.mem_singleton.1 he]
   exact ⟨rfl, rfl, rfl, rfl, fun j hj => (by cases hj), fun h => (by simp [zeroS, St.kind] at h), (by decide), (by simp), fun h => (by simp [zeroS, St.kind] at h)⟩) (by omega) (Nat.le_refl _)
 exact ⟨q1.set 0 (.zero (by decide) q2), hx, hle⟩
theorem InvE.right {s : Sc} {g : List Ev} (h : InvE s g.length g) (hg : 0 < g.length) : right g = true := by
 unfold Go.Abs.right
 rw [Bool.and_eq_true, List.all_eq_true]
 refine ⟨fun x hx => ?_, by simpa using hg⟩
 have hi := h x hx
 unfold Ev.right
 rw [hi.body, hi.els, hi.arms, hi.kind]
 simp only [List.isEmpty_nil, Bool.and_self, Bool.true_and, List.all_eq_true, Bool.and_eq_true, decide_eq_true_eq]
 exact fun j hj => hi.next j hj
/-! ### Entries are not 0 -/
theorem gFold_pos {d : Nat} {e n : Int} (h1 : ∀ (x : St) (evs : List Ev) (b : Int), 1 ≤ b → 1 ≤ evs.length → 1 ≤ (gOne d e n x evs b).2) : ∀ (l : List St) (evs : List Ev) (b : Int), 1 ≤ b → 1 ≤ evs.length → 1 ≤ (gFold (gOne d e n) l evs b).2 := by
 intro l
 induction l with
 | nil => exact fun evs b h _ => h
 | cons x l ih =>
  intro evs b hb he
  have hx := (gFold_ext (gOne_ext d e n) l evs b).len
  exact h1 x (gFold (gOne d e n) l evs b).1 (gFold (gOne d e n) l evs b).2 (ih evs b hb he) (by omega)
theorem gOne_pos : ∀ (d : Nat) (e n : Int) (x : St) (evs : List Ev) (b : Int), 1 ≤ b → 1 ≤ evs.length → 1 ≤ (gOne d e n x evs b).2 := by
 intro d
 induction d with
 | zero => exact fun e n x evs b h _ => h
 | succ d ih =>
  intro e n x evs b hb he
  have x1 := (gFold_ext (gOne_ext d e n) x.body evs b).len
  have x2 := (gFold_ext (gOne_ext d e n) x.els (gFold (gOne d e n) x.body evs b).1 b).len
  have x3 := (gFold_ext (gOne_ext d e n) x.els evs b).len
  have x4 := (gArms_ext (gOne_ext d e n) b x.arms (gFold (gOne d e n) x.els evs b).1 (List.replicate (topA x.arms 0 + 1).toNat (gFold (gOne d e n) x.els evs b).2)).len
  unfold gOne
  repeat' split
  ·simp only []; omega
  ·simp only []; omega
  ·simp only []; omega
  ·simp only []; omega
  ·simp only []; omega
  ·simp only []; omega
  ·simp only []; omega
  ·exact gFold_pos (ih b evs.length) x.body _ _ (by omega) (by simp)
  ·simp only []; omega
theorem graph_law (s : Sc) (d : Nat) (l : List St) (hl : ∀ x ∈ l, St.Small d x ∧ CW' s x) (r : RS) (sl : List Int) (hf : Fit s r sl) (h0 : r.fault = 0) (N : Nat) (q : RS × List Int × Int) (hq : exL s N r sl l = some q) : GP s (gStmts d l) 0 r sl q.1 q.2.1 := by
 have hpos := gFold_pos (gOne_pos d 1 1) l [⟨zeroS 0 0, [0]⟩, ⟨zeroS 14 0, []⟩] 1 (by omega) (by simp)
 obtain ⟨R, hR⟩ : ∃ R, R = gFold (gOne d 1 1) l [⟨zeroS 0 0, [0]⟩, ⟨zeroS 14 0, []⟩] 1 := ⟨_, rfl⟩
 have hext : PreE [⟨zeroS 0 0, [0]⟩, ⟨zeroS 14 0, []⟩] R.1 := by rw [hR]; exact gFold_ext (gOne_ext d 1 1) l _ _
 have hlen := hext.len
 simp only [List.length_cons, List.length_nil] at hlen
 rw [← hR] at hpos
 have hgs : gStmts d l = R.1.set 0 ⟨zeroS 0 0, [R.2]⟩ := by rw [hR]; rfl
 have g0 : (gStmts d l)[0]? = some ⟨zeroS 0 0, [R.2]⟩ := by rw [hgs, List.getElem?_set_self (by omega)]
 have g1 : (gStmts d l)[1]? = some ⟨zeroS 14 0, []⟩ := by rw [hgs, List.getElem?_set_ne (by decide)]; exact hext.get rfl
 have hcl : CL (gStmts d l) l 1 1 1 R.2 := by
  rw [hR]
  refine gFold_CL (s := s) (fun x evs b => gOne_C1 s _ d 1 1 x evs b) l _ 1 hl ?_
  rw [← hR]
  intro k h1 h2
  have h1 : 2 ≤ k := h1
  rw [hgs, List.getElem?_set_ne (by omega)]
 have ht0 : takeF r 0 = r := by
  rw [takeF, if_pos h0, if_neg (by have := hf.l0; omega)]
  simp
 obtain ⟨hfit2, _⟩ := (ex_keep s N).1 r sl l q (fun x hx => (hl x hx).2) hf hq
 have fin : q.1.fault = 0 → GP s (gStmts d l) 1 q.1 q.2.1 q.1 q.2.1 := by
  intro hq0
  have := GP.ret (s := s) (g := gStmts d l) 1 ⟨zeroS 14 0, []⟩ q.1 q.2.1 g1 rfl hq0 (by show ¬ (0 : Int) > _; have := hfit2.l0; omega)
  have e : { q.1 with left := q.1.left - (zeroS 14 0).cost } = q.1 := by
   show { q.1 with left := q.1.left - 0 } = q.1
   rw [Int.sub_zero]
  rw [e] at this
  exact this
 refine .plain 0 ⟨zeroS 0 0, [R.2]⟩ R.2 r r q.1 sl sl q.2.1 0 3 g0 (by rw [kind_zero]; omega) rfl h0 (by rw [exL_skip s r sl 0 h0, ht0]) (.inr (by show ((0 : Nat) : Int) ≠ R.2; omega)) ?_
 exact (law s (gStmts d l) N).1 r sl l q 1 1 1 R.2 q.1 q.2.1 (fun x hx => (hl x hx).2) hf hq hcl ⟨fun _ => ⟨rfl, rfl⟩, fun h _ => fin h, fun h _ => fin h, fun h _ => fin h⟩
end TryzT
end Go.Abs
