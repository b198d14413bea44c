/-
  GraphSame is proved: whatever two lists of events come in, the law returns true, and both read behind the call as before it. Conditions: none.
-/
import Derived.Test.YtfgkfjmbjopfgaaGsR1
import Derived.Test.YtfgkfjmbjopfgaaGsG1
import Derived.Test.YtfgkfjmbjopfgaaRows
import Derived.WalkKit
import Derived.ProofKit
import Derived.OpenShut
import Derived.ChangeOld
import Derived.Below
import Derived.SizedLaws
set_option linter.unusedVariables false
set_option linter.unusedSimpArgs false
namespace Go.Abs
open Go
open Go.Proofs
namespace TryT
theorem calls3 (W : World) (v0 v1 : Value) (l0 l1 : List Ev) (h0 : VR (Rd noOwn W) noMaps (evsV l0) v0) (h1 : VR (Rd noOwn W) noMaps (evsV l1) v1) :
    Calls Try.prog 3 #[v0, v1] W fun e w' => e = .returned (.bool true) ∧ RowKit.Below W.heap.size W w' := by
  obtain ⟨_, _, hc⟩ := sound (draw_sound (by kernel_rfl)) texts (root3 l0 l1)
  refine (hc noOwn noMaps W #[v0, v1] ⟨fun id x hx => (by cases hx), fun id id2 x y b r r2 hx => (by cases hx)⟩ ⟨0, fun _ _ => rfl, fun _ _ _ => rfl, fun _ _ _ => rfl⟩ (fun b h => h.elim) rfl (fun i v u hv hu => ?_)).mono ?_
  · match i, hv, hu with
    | 0, hv, hu => simp at hv hu; subst hv; subst hu; exact h0
    | 1, hv, hu => simp at hv hu; subst hv; subst hu; exact h1
    | i + 2, hv, hu => simp at hv
  · intro e w2 he
    cases e with
    | returned u =>
      obtain ⟨own2, m2, r, h2, hR, hvr, hlf⟩ := he
      subst hR
      rw [bool_inv hvr]
      exact ⟨rfl, ⟨hlf.io.os, hlf.io.tape, hlf.io.output, hlf.size, fun k hk => hlf.same k hk (fun ⟨id, x, r, hx, _⟩ => by cases hx)⟩⟩
    | panicked chain => exact he.elim
    | outgrown => exact he.elim
end TryT
end Go.Abs
namespace Go.Proofs.Ytfgkfjmbjopfgaa.GraphSameRow
open Go.ChangeShapes Go.WideShapes Go.ChangeAt Go.RowKit Go.Proofs
theorem own : ownKnob Try.prog.godebug = none := by kernel_rfl
theorem laidOut : laidOutB Try.prog = true := by kernel_rfl
set_option maxRecDepth 100000 in
theorem lifted (os : Os) (started : os.Started) (H : Type) (enc : TypeId × Value → H) :
    ReturnsInHanded {} Try.checked os 3 .any (Rows.graphSameSpec.pre6 enc Try.prog Try.f3 Rows.graphSameRow.domain false) (Rows.graphSameSpec.post enc Try.prog Try.f3 false true false false) := by
  refine returnsInHanded_of_change_sized (C := Try.checked) own started (by kernel_rfl) Try.func3
    (ChangeSpec.witness6 (enc := enc) (C := Try.checked) false ⟨#[], #[.slice none 0 0, .slice none 0 0], []⟩ 8 (by kernel_rfl) (by kernel_rfl) (by kernel_rfl) (by kernel_rfl)) ?_
  intro W base args ds gs before hval0 hW hcnd hsz0 _
  have hval : ∀ (j : Nat) t v, Try.f3.params[j]? = some t → args[j]? = some v → Value.okWide Try.prog W .any base t v := hval0
  have hW' := hW
  obtain ⟨p, q, hA0, hV, rfl, hfz, hnd⟩ := hW
  have hA : DataW.TrodAll enc Try.prog W 0 (fun _ => true) true Try.f3.params.toList args.toList ds p := hA0
  rw [Try.params3] at hA hval
  obtain ⟨v0, vs0, d0, ds0, p0, q0, hargs, rfl, rfl, h0, r0⟩ := trodAll_cons hA
  obtain ⟨v1, vs1, d1, ds1, p1, q1, rfl, rfl, rfl, h1, r1⟩ := trodAll_cons r0
  obtain ⟨rfl, rfl, rfl⟩ := trodAll_nil r1
  obtain rfl : args = #[v0, v1] := by cases args; simp_all
  obtain ⟨rfl, rfl⟩ := trodVars_none hV
  obtain ⟨a0, len0, cap0, rfl⟩ := okWide_slice Try.underlying22 (hval 0 22 v0 rfl rfl)
  obtain ⟨a1, len1, cap1, rfl⟩ := okWide_slice Try.underlying22 (hval 1 22 v1 rfl rfl)
  have k0 := h0
  have k1 := h1
  have lt0 : ∀ x ∈ p0, x.block < W.heap.size := by obtain ⟨m, hm⟩ := k0; exact DataW.trod_lt m _ _ _ hm
  have lt1 : ∀ x ∈ p1, x.block < W.heap.size := by obtain ⟨m, hm⟩ := k1; exact DataW.trod_lt m _ _ _ hm
  obtain ⟨m0, e0⟩ := h0
  obtain ⟨m1, e1⟩ := h1
  obtain ⟨l0, u0, c0, g0, _⟩ := Go.Abs.TryT.evs_read e0
  obtain ⟨l1, u1, c1, g1, _⟩ := Go.Abs.TryT.evs_read e1
  simp [Value.cells] at c0 c1
  subst c0
  subst c1
  clear hA0 hval0 hsz0
  refine (Go.Abs.TryT.calls3 W _ _ l0 l1 g0 g1).mono fun e W' ⟨he, bel⟩ => ?_
  subst he
  exact ⟨_, rfl, _, _, _, [], _, [], hW', trodAll_mk1 (shut_bool Try.underlying4 _), (trodAll_cons_mk (Below.trod laidOut (by kernel_rfl) (of_decide_eq_true (by kernel_rfl)) k0 bel lt0) (trodAll_cons_mk (Below.trod laidOut (by kernel_rfl) (of_decide_eq_true (by kernel_rfl)) k1 bel lt1) trodAll_mk0)), rfl, bel.frame _, fun h => by cases h⟩
theorem over : Rows.graphSameRow.holds Try.pinned (OpenSpec.ofChange Rows.graphSameSpec) :=
  OpenClaim.holds_of_wide 3 Try.f3 rfl rfl rfl rfl rfl rfl rfl ⟨rfl, rfl, rfl, rfl, rfl⟩ rfl rfl rfl rfl rfl (by kernel_rfl) Try.func3 (by kernel_rfl)
    (of_decide_eq_true (by kernel_rfl)) (by unfold Func.isWrapper; first | (rw [if_pos (by decide +kernel)]; kernel_rfl) | (rw [if_neg (by decide +kernel)]; exact ⟨rfl, rfl⟩))
    (fun os started H enc _ => lifted os started H enc)
end Go.Proofs.Ytfgkfjmbjopfgaa.GraphSameRow
namespace Go.Proofs.Ytfgkfjmbjopfgaa
theorem graphSame_holds : Rows.GraphSameSaid := GraphSameRow.over
end Go.Proofs.Ytfgkfjmbjopfgaa
#print axioms Go.Proofs.Ytfgkfjmbjopfgaa.graphSame_holds
