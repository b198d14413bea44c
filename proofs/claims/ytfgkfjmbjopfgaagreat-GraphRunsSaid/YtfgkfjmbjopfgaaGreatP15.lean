/-
  GraphRuns is proved: whatever source, state and inputs come in, the law returns true, and all three read behind the call as before it. Conditions: none.
-/
import Derived.Test.YtfgkfjmbjopfgaaGreatP13
import Derived.Test.YtfgkfjmbjopfgaaGreatP14
import Derived.Test.YtfgkfjmbjopfgaaGreatProg
import Derived.OpenShut
import Derived.WideShapes
import Derived.KernelRfl
import Derived.Test.YtfgkfjmbjopfgaaGreatRows
import Derived.WalkKit
import Derived.ProofKit
import Derived.ChangeOld
import Derived.Below
import Derived.SizedLaws
set_option linter.unusedVariables false
set_option linter.unusedSimpArgs false
set_option maxRecDepth 100000
set_option maxHeartbeats 16000000
open List renaming getElem?_eq_getElem → lG
namespace Go.Abs
open Go
open Go.Proofs
namespace TryzT
theorem c31 : Tryz.prog.cellsOf 31 = 1 := by kernel_rfl
theorem c3 : Tryz.prog.cellsOf 3 = 1 := by kernel_rfl
theorem c9 : Tryz.prog.cellsOf 9 = 1 := by kernel_rfl
theorem c60 : Tryz.prog.cellsOf 60 = 1 := by kernel_rfl
theorem c63 : Tryz.prog.cellsOf 63 = 1 := by kernel_rfl
theorem c64 : Tryz.prog.cellsOf 64 = 1 := by kernel_rfl
theorem c39 : Tryz.prog.cellsOf 39 = 1 := by kernel_rfl
theorem c22 : Tryz.prog.cellsOf 22 = 1 := by kernel_rfl
theorem c23 : Tryz.prog.cellsOf 23 = 1 := by kernel_rfl
theorem c24 : Tryz.prog.cellsOf 24 = 1 := by kernel_rfl
theorem c27 : Tryz.prog.cellsOf 27 = 1 := by kernel_rfl
theorem c28 : Tryz.prog.cellsOf 28 = 1 := by kernel_rfl
theorem c62 : Tryz.prog.cellsOf 62 = 5 := by kernel_rfl
theorem c125 : Tryz.prog.cellsOf 125 = 6 := by kernel_rfl
theorem c116 : Tryz.prog.cellsOf 116 = 2 := by kernel_rfl
theorem c66 : Tryz.prog.cellsOf 66 = 19 := by kernel_rfl
theorem c41 : Tryz.prog.cellsOf 41 = 5 := by kernel_rfl
theorem c55 : Tryz.prog.cellsOf 55 = 5 := by kernel_rfl
theorem c57 : Tryz.prog.cellsOf 57 = 2 := by kernel_rfl
theorem c96 : Tryz.prog.cellsOf 96 = 10 := by kernel_rfl
theorem c94 : Tryz.prog.cellsOf 94 = 10 := by kernel_rfl
theorem c26 : Tryz.prog.cellsOf 26 = 3 := by kernel_rfl
theorem c30 : Tryz.prog.cellsOf 30 = 4 := by kernel_rfl
section
variable {H : Type} {enc : TypeId × Value → H} {w : World} {spare : Nat → Bool} {held : Bool}
theorem str_read {fuel : Nat} {u : Value} {x : DataW H × List MemPlace} (h : DataW.trod enc Tryz.prog w 0 spare held fuel 9 [u] = some x) : ∃ s, u = .string s := by
 obtain ⟨s, e, _, _⟩ := DataW.trod_string Tryz.underlying9 h
 simp at e
 exact ⟨s, e⟩
theorem intC_read (n : Nat) (us : List Value) (y : DataW H × List MemPlace) (h : DataW.trod enc Tryz.prog w 0 spare held n 3 us = some y) : ∃ k, CellsR w (intC k) us := by
 obtain ⟨k, rfl, _, _⟩ := DataW.trod_int Tryz.underlying3 h
 exact ⟨k, .cons (.int _ _) rfl (.nil w)⟩
theorem ints_read {n : Nat} {us : List Value} {y : DataW H × List MemPlace} (h : DataW.trod enc Tryz.prog w 0 spare held n 31 us = some y) : ∃ (l : List Int) (u : Value), us = [u] ∧ VR (Rd noOwn w) noMaps (.fsl 1 (l.map intC)) u ∧ u.oneCell' = true :=
 slice_read Tryz.underlying31 c3 (by decide) (fun _ => rfl) (fun m us y _ hy => intC_read m us y hy) h
theorem ex_read : ∀ (fuel : Nat) (us : List Value) (y : DataW H × List MemPlace), DataW.trod enc Tryz.prog w 0 spare held fuel 62 us = some y → ∃ e : Ex, CellsR w e.cells us := by
 intro fuel
 induction fuel using Nat.strongRecOn with
 | ind fuel ih =>
  intro us y h
  obtain ⟨n, rfl, hl, hf⟩ := struct_read Tryz.underlying62 h
  rw [c62] at hl
  match us, hl with
  | [u0, u1, u2, u3, u4], _ =>
   obtain ⟨y0, h0⟩ := hf 0 ⟨_, 3, 0, _, _, _, _⟩ rfl
   obtain ⟨y1, h1⟩ := hf 1 ⟨_, 3, 1, _, _, _, _⟩ rfl
   obtain ⟨y2, h2⟩ := hf 2 ⟨_, 3, 2, _, _, _, _⟩ rfl
   obtain ⟨y3, h3⟩ := hf 3 ⟨_, 3, 3, _, _, _, _⟩ rfl
   obtain ⟨y4, h4⟩ := hf 4 ⟨_, 60, 4, _, _, _, _⟩ rfl
   simp only [c3, c60, List.drop_succ_cons, List.drop_zero, List.take_succ_cons, List.take_zero] at h0 h1 h2 h3 h4
   obtain ⟨k0, rfl⟩ := int_read Tryz.underlying3 h0
   obtain ⟨k1, rfl⟩ := int_read Tryz.underlying3 h1
   obtain ⟨k2, rfl⟩ := int_read Tryz.underlying3 h2
   obtain ⟨k3, rfl⟩ := int_read Tryz.underlying3 h3
   obtain ⟨l, u, e, hv, ho⟩ := slice_read (cells := Ex.cells) Tryz.underlying60 c62 (by decide) (fun e => by rw [Ex.cells_cs]; rfl) (fun m us y hm hy => ih m (by omega) us y hy) h4
   simp at e; subst e
   exact ⟨.mk k0 k1 k2 k3 l, by rw [Ex.cells_cs]; exact .cons (.int _ _) rfl (.cons (.int _ _) rfl (.cons (.int _ _) rfl (.cons (.int _ _) rfl (.cons hv ho (.nil w)))))⟩
theorem exs_read {n : Nat} {us : List Value} {y : DataW H × List MemPlace} (h : DataW.trod enc Tryz.prog w 0 spare held n 60 us = some y) : ∃ (l : List Ex) (u : Value), us = [u] ∧ VR (Rd noOwn w) noMaps (.fsl 5 (l.map Ex.cells)) u ∧ u.oneCell' = true :=
 slice_read Tryz.underlying60 c62 (by decide) (fun e => by rw [Ex.cells_cs]; rfl) (fun m us y _ hy => ex_read m us y hy) h
theorem ar_read (fuel : Nat) (us : List Value) (y : DataW H × List MemPlace) (h : DataW.trod enc Tryz.prog w 0 spare held fuel 125 us = some y) : ∃ e : Ar, CellsR w e.cells us := by
 obtain ⟨n, rfl, hl, hf⟩ := struct_read Tryz.underlying125 h
 rw [c125] at hl
 match us, hl with
 | [u0, u1, u2, u3, u4, u5], _ =>
  obtain ⟨y0, h0⟩ := hf 0 ⟨_, 3, 0, _, _, _, _⟩ rfl
  obtain ⟨y1, h1⟩ := hf 1 ⟨_, 62, 1, _, _, _, _⟩ rfl
  simp only [c3, c62, List.drop_succ_cons, List.drop_zero, List.take_succ_cons, List.take_zero] at h0 h1
  obtain ⟨k0, rfl⟩ := int_read Tryz.underlying3 h0
  obtain ⟨e, he⟩ := ex_read _ _ _ h1
  exact ⟨⟨k0, e⟩, .cons (.int _ _) rfl he⟩
theorem ars_read {n : Nat} {us : List Value} {y : DataW H × List MemPlace} (h : DataW.trod enc Tryz.prog w 0 spare held n 63 us = some y) : ∃ (l : List Ar) (u : Value), us = [u] ∧ VR (Rd noOwn w) noMaps (.fsl 6 (l.map Ar.cells)) u ∧ u.oneCell' = true :=
 slice_read Tryz.underlying63 c125 (by decide) (fun e => by rw [Ar.cells_eq]; rfl) (fun m us y _ hy => ar_read m us y hy) h
theorem st_read : ∀ (fuel : Nat) (us : List Value) (y : DataW H × List MemPlace), DataW.trod enc Tryz.prog w 0 spare held fuel 66 us = some y → ∃ x : St, CellsR w x.cells us := by
 intro fuel
 induction fuel using Nat.strongRecOn with
 | ind fuel ih =>
  intro us y h
  obtain ⟨n, rfl, hl, hf⟩ := struct_read Tryz.underlying66 h
  rw [c66] at hl
  match us, hl with
  | [u0, u1, u2, u3, u4, u5, u6, u7, u8, u9, u10, u11, u12, u13, u14, u15, u16, u17, u18], _ =>
   obtain ⟨y0, h0⟩ := hf 0 ⟨_, 3, 0, _, _, _, _⟩ rfl
   obtain ⟨y1, h1⟩ := hf 1 ⟨_, 3, 1, _, _, _, _⟩ rfl
   obtain ⟨y2, h2⟩ := hf 2 ⟨_, 3, 2, _, _, _, _⟩ rfl
   obtain ⟨y3, h3⟩ := hf 3 ⟨_, 3, 3, _, _, _, _⟩ rfl
   obtain ⟨y4, h4⟩ := hf 4 ⟨_, 62, 4, _, _, _, _⟩ rfl
   obtain ⟨y5, h5⟩ := hf 5 ⟨_, 62, 9, _, _, _, _⟩ rfl
   obtain ⟨y6, h6⟩ := hf 6 ⟨_, 60, 14, _, _, _, _⟩ rfl
   obtain ⟨y7, h7⟩ := hf 7 ⟨_, 63, 15, _, _, _, _⟩ rfl
   obtain ⟨y8, h8⟩ := hf 8 ⟨_, 39, 16, _, _, _, _⟩ rfl
   obtain ⟨y9, h9⟩ := hf 9 ⟨_, 39, 17, _, _, _, _⟩ rfl
   obtain ⟨y10, h10⟩ := hf 10 ⟨_, 64, 18, _, _, _, _⟩ rfl
   simp only [c3, c60, c62, c63, c39, c64, List.drop_succ_cons, List.drop_zero, List.take_succ_cons, List.take_zero] at h0 h1 h2 h3 h4 h5 h6 h7 h8 h9 h10
   obtain ⟨k0, rfl⟩ := int_read Tryz.underlying3 h0
   obtain ⟨k1, rfl⟩ := int_read Tryz.underlying3 h1
   obtain ⟨k2, rfl⟩ := int_read Tryz.underlying3 h2
   obtain ⟨k3, rfl⟩ := int_read Tryz.underlying3 h3
   obtain ⟨e4, q4⟩ := ex_read _ _ _ h4
   obtain ⟨e5, q5⟩ := ex_read _ _ _ h5
   obtain ⟨l6, v6, e, q6, o6⟩ := exs_read h6
   simp at e; subst e
   obtain ⟨l7, v7, e, q7, o7⟩ := ars_read h7
   simp at e; subst e
   obtain ⟨l8, v8, e, q8, o8⟩ := slice_read (cells := St.cells) Tryz.underlying39 c66 (by decide) (fun e => by rw [St.cells_cs]; rfl) (fun m us y hm hy => ih m (by omega) us y hy) h8
   simp at e; subst e
   obtain ⟨l9, v9, e, q9, o9⟩ := slice_read (cells := St.cells) Tryz.underlying39 c66 (by decide) (fun e => by rw [St.cells_cs]; rfl) (fun m us y hm hy => ih m (by omega) us y hy) h9
   simp at e; subst e
   obtain ⟨l10, v10, e, q10, o10⟩ := slice_read (cells := Am.cells) Tryz.underlying64 c116 (by decide) (fun e => by rw [Am.cells_eq]; rfl) (fun m us y hm hy => by
    obtain ⟨n2, rfl, hl2, hf2⟩ := struct_read Tryz.underlying116 hy
    rw [c116] at hl2
    match us, hl2 with
    | [v0, v1], _ =>
     obtain ⟨z0, g0⟩ := hf2 0 ⟨_, 31, 0, _, _, _, _⟩ rfl
     obtain ⟨z1, g1⟩ := hf2 1 ⟨_, 39, 1, _, _, _, _⟩ rfl
     simp only [c31, c39, List.drop_succ_cons, List.drop_zero, List.take_succ_cons, List.take_zero] at g0 g1
     obtain ⟨l0, w0, e, r0, p0⟩ := ints_read g0
     simp at e; subst e
     obtain ⟨l1, w1, e, r1, p1⟩ := slice_read (cells := St.cells) Tryz.underlying39 c66 (by decide) (fun e => by rw [St.cells_cs]; rfl) (fun m us y hm hy => ih m (by omega) us y hy) g1
     simp at e; subst e
     exact ⟨.mk l0 l1, by rw [Am.cells_eq]; exact .cons r0 p0 (.cons r1 p1 (.nil w))⟩) h10
   simp at e; subst e
   refine ⟨.mk k0 k1 k2 k3 e4 e5 l6 l7 l8 l9 l10, ?_⟩
   rw [St.cells, stL_eq, stL_eq, amL_eq]
   exact CellsR.append (us := [_, _, _, _, u4, u5, u6, u7, u8, u9, u10, u11, u12, u13]) (CellsR.append (us := [_, _, _, _, u4, u5, u6, u7, u8]) (CellsR.append (us := [_, _, _, _]) (.cons (.int _ _) rfl (.cons (.int _ _) rfl (.cons (.int _ _) rfl (.cons (.int _ _) rfl (.nil w))))) q4) q5)
    (.cons q6 o6 (.cons q7 o7 (.cons q8 o8 (.cons q9 o9 (.cons q10 o10 (.nil w))))))
theorem sts_read {n : Nat} {us : List Value} {y : DataW H × List MemPlace} (h : DataW.trod enc Tryz.prog w 0 spare held n 39 us = some y) : ∃ (l : List St) (u : Value), us = [u] ∧ VR (Rd noOwn w) noMaps (stsV l) u ∧ u.oneCell' = true :=
 slice_read Tryz.underlying39 c66 (by decide) (fun e => by rw [St.cells_cs]; rfl) (fun m us y _ hy => st_read m us y hy) h
theorem fn_read (fuel : Nat) (us : List Value) (y : DataW H × List MemPlace) (h : DataW.trod enc Tryz.prog w 0 spare held fuel 41 us = some y) : ∃ f : Fn, CellsR w f.cells us := by
 obtain ⟨n, rfl, hl, hf⟩ := struct_read Tryz.underlying41 h
 rw [c41] at hl
 match us, hl with
 | [u0, u1, u2, u3, u4], _ =>
  obtain ⟨y0, h0⟩ := hf 0 ⟨_, 9, 0, _, _, _, _⟩ rfl
  obtain ⟨y1, h1⟩ := hf 1 ⟨_, 31, 1, _, _, _, _⟩ rfl
  obtain ⟨y2, h2⟩ := hf 2 ⟨_, 3, 2, _, _, _, _⟩ rfl
  obtain ⟨y3, h3⟩ := hf 3 ⟨_, 31, 3, _, _, _, _⟩ rfl
  obtain ⟨y4, h4⟩ := hf 4 ⟨_, 39, 4, _, _, _, _⟩ rfl
  simp only [c3, c9, c31, c39, List.drop_succ_cons, List.drop_zero, List.take_succ_cons, List.take_zero] at h0 h1 h2 h3 h4
  obtain ⟨s0, rfl⟩ := str_read h0
  obtain ⟨l1, v1, e, q1, o1⟩ := ints_read h1
  simp at e; subst e
  obtain ⟨k2, rfl⟩ := int_read Tryz.underlying3 h2
  obtain ⟨l3, v3, e, q3, o3⟩ := ints_read h3
  simp at e; subst e
  obtain ⟨l4, v4, e, q4, o4⟩ := sts_read h4
  simp at e; subst e
  exact ⟨⟨s0, l1, k2, l3, l4⟩, .cons (.str _) rfl (.cons q1 o1 (.cons (.int _ _) rfl (.cons q3 o3 (.cons q4 o4 (.nil w)))))⟩
theorem vr_read (fuel : Nat) (us : List Value) (y : DataW H × List MemPlace) (h : DataW.trod enc Tryz.prog w 0 spare held fuel 55 us = some y) : ∃ f : Vr, CellsR w f.cells us := by
 obtain ⟨n, rfl, hl, hf⟩ := struct_read Tryz.underlying55 h
 rw [c55] at hl
 match us, hl with
 | [u0, u1, u2, u3, u4], _ =>
  obtain ⟨y0, h0⟩ := hf 0 ⟨_, 9, 0, _, _, _, _⟩ rfl
  obtain ⟨y1, h1⟩ := hf 1 ⟨_, 3, 1, _, _, _, _⟩ rfl
  obtain ⟨y2, h2⟩ := hf 2 ⟨_, 3, 2, _, _, _, _⟩ rfl
  obtain ⟨y3, h3⟩ := hf 3 ⟨_, 3, 3, _, _, _, _⟩ rfl
  obtain ⟨y4, h4⟩ := hf 4 ⟨_, 3, 4, _, _, _, _⟩ rfl
  simp only [c3, c9, List.drop_succ_cons, List.drop_zero, List.take_succ_cons, List.take_zero] at h0 h1 h2 h3 h4
  obtain ⟨s0, rfl⟩ := str_read h0
  obtain ⟨k1, rfl⟩ := int_read Tryz.underlying3 h1
  obtain ⟨k2, rfl⟩ := int_read Tryz.underlying3 h2
  obtain ⟨k3, rfl⟩ := int_read Tryz.underlying3 h3
  obtain ⟨k4, rfl⟩ := int_read Tryz.underlying3 h4
  exact ⟨⟨s0, k1, k2, k3, k4⟩, .cons (.str _) rfl (.cons (.int _ _) rfl (.cons (.int _ _) rfl (.cons (.int _ _) rfl (.cons (.int _ _) rfl (.nil w)))))⟩
theorem bk_read (fuel : Nat) (us : List Value) (y : DataW H × List MemPlace) (h : DataW.trod enc Tryz.prog w 0 spare held fuel 57 us = some y) : ∃ f : Bk, CellsR w f.cells us := by
 obtain ⟨n, rfl, hl, hf⟩ := struct_read Tryz.underlying57 h
 rw [c57] at hl
 match us, hl with
 | [u0, u1], _ =>
  obtain ⟨y0, h0⟩ := hf 0 ⟨_, 9, 0, _, _, _, _⟩ rfl
  obtain ⟨y1, h1⟩ := hf 1 ⟨_, 3, 1, _, _, _, _⟩ rfl
  simp only [c3, c9, List.drop_succ_cons, List.drop_zero, List.take_succ_cons, List.take_zero] at h0 h1
  obtain ⟨s0, rfl⟩ := str_read h0
  obtain ⟨k1, rfl⟩ := int_read Tryz.underlying3 h1
  exact ⟨⟨s0, k1⟩, .cons (.str _) rfl (.cons (.int _ _) rfl (.nil w))⟩
theorem src_read {fuel : Nat} {us : List Value} {y : DataW H × List MemPlace} (h : DataW.trod enc Tryz.prog w 0 spare held fuel 26 us = some y) : ∃ s : Src, CellsR w s.cs us := by
 obtain ⟨n, rfl, hl, hf⟩ := struct_read Tryz.underlying26 h
 rw [c26] at hl
 match us, hl with
 | [u0, u1, u2], _ =>
  obtain ⟨y0, h0⟩ := hf 0 ⟨_, 22, 0, _, _, _, _⟩ rfl
  obtain ⟨y1, h1⟩ := hf 1 ⟨_, 23, 1, _, _, _, _⟩ rfl
  obtain ⟨y2, h2⟩ := hf 2 ⟨_, 24, 2, _, _, _, _⟩ rfl
  simp only [c22, c23, c24, List.drop_succ_cons, List.drop_zero, List.take_succ_cons, List.take_zero] at h0 h1 h2
  obtain ⟨l0, v0, e, q0, o0⟩ := slice_read (cells := Vr.cells) Tryz.underlying22 c55 (by decide) (fun e => rfl) (fun m us y hm hy => vr_read m us y hy) h0
  simp at e; subst e
  obtain ⟨l1, v1, e, q1, o1⟩ := slice_read (cells := Bk.cells) Tryz.underlying23 c57 (by decide) (fun e => rfl) (fun m us y hm hy => bk_read m us y hy) h1
  simp at e; subst e
  obtain ⟨l2, v2, e, q2, o2⟩ := slice_read (cells := Fn.cells) Tryz.underlying24 c41 (by decide) (fun e => rfl) (fun m us y hm hy => fn_read m us y hy) h2
  simp at e; subst e
  exact ⟨⟨l0, l1, l2⟩, .cons q0 o0 (.cons q1 o1 (.cons q2 o2 (.nil w)))⟩
theorem inst_read (fuel : Nat) (us : List Value) (y : DataW H × List MemPlace) (h : DataW.trod enc Tryz.prog w 0 spare held fuel 96 us = some y) : ∃ f : { l : List Int // l.length = 10 }, CellsR w (instC f.1) us := by
 obtain ⟨n, rfl, hl, hf⟩ := struct_read Tryz.underlying96 h
 rw [c96] at hl
 obtain ⟨y0, h0⟩ := hf 0 ⟨_, 94, 0, _, _, _, _⟩ rfl
 match us, hl with
 | [u0, u1, u2, u3, u4, u5, u6, u7, u8, u9], _ =>
  simp only [c94, List.drop_zero, List.take_succ_cons, List.take_zero] at h0
  obtain ⟨xs, m, _, _, _, hxl, hel⟩ := DataW.trod_array Tryz.underlying94 h0
  have get : ∀ i, i < 10 → ∃ z, DataW.trod enc Tryz.prog w 0 spare held m 3 (([u0, u1, u2, u3, u4, u5, u6, u7, u8, u9].drop (i * 1)).take 1) = some z := by
   intro i hi
   have := hel i hi
   rw [c3] at this
   exact ⟨_, this.trans (lG (by omega))⟩
  obtain ⟨_, g0⟩ := get 0 (by decide)
  obtain ⟨_, g1⟩ := get 1 (by decide)
  obtain ⟨_, g2⟩ := get 2 (by decide)
  obtain ⟨_, g3⟩ := get 3 (by decide)
  obtain ⟨_, g4⟩ := get 4 (by decide)
  obtain ⟨_, g5⟩ := get 5 (by decide)
  obtain ⟨_, g6⟩ := get 6 (by decide)
  obtain ⟨_, g7⟩ := get 7 (by decide)
  obtain ⟨_, g8⟩ := get 8 (by decide)
  obtain ⟨_, g9⟩ := get 9 (by decide)
  simp only [Nat.mul_one, List.drop_succ_cons, List.drop_zero, List.take_succ_cons, List.take_zero] at g0 g1 g2 g3 g4 g5 g6 g7 g8 g9
  obtain ⟨k0, rfl⟩ := int_read Tryz.underlying3 g0
  obtain ⟨k1, rfl⟩ := int_read Tryz.underlying3 g1
  obtain ⟨k2, rfl⟩ := int_read Tryz.underlying3 g2
  obtain ⟨k3, rfl⟩ := int_read Tryz.underlying3 g3
  obtain ⟨k4, rfl⟩ := int_read Tryz.underlying3 g4
  obtain ⟨k5, rfl⟩ := int_read Tryz.underlying3 g5
  obtain ⟨k6, rfl⟩ := int_read Tryz.underlying3 g6
  obtain ⟨k7, rfl⟩ := int_read Tryz.underlying3 g7
  obtain ⟨k8, rfl⟩ := int_read Tryz.underlying3 g8
  obtain ⟨k9, rfl⟩ := int_read Tryz.underlying3 g9
  exact ⟨⟨[k0, k1, k2, k3, k4, k5, k6, k7, k8, k9], rfl⟩, .cons (.int _ _) rfl (.cons (.int _ _) rfl (.cons (.int _ _) rfl (.cons (.int _ _) rfl (.cons (.int _ _) rfl (.cons (.int _ _) rfl (.cons (.int _ _) rfl (.cons (.int _ _) rfl (.cons (.int _ _) rfl (.cons (.int _ _) rfl (.nil w))))))))))⟩
theorem sta_read {fuel : Nat} {us : List Value} {y : DataW H × List MemPlace} (h : DataW.trod enc Tryz.prog w 0 spare held fuel 30 us = some y) : ∃ s : Sta, CellsR w s.cs us ∧ ∀ b ∈ s.blocks, b.length = 10 := by
 obtain ⟨n, rfl, hl, hf⟩ := struct_read Tryz.underlying30 h
 rw [c30] at hl
 match us, hl with
 | [u0, u1, u2, u3], _ =>
  obtain ⟨y0, h0⟩ := hf 0 ⟨_, 27, 0, _, _, _, _⟩ rfl
  obtain ⟨y1, h1⟩ := hf 1 ⟨_, 28, 1, _, _, _, _⟩ rfl
  obtain ⟨y2, h2⟩ := hf 2 ⟨_, 3, 2, _, _, _, _⟩ rfl
  obtain ⟨y3, h3⟩ := hf 3 ⟨_, 3, 3, _, _, _, _⟩ rfl
  simp only [c27, c28, c3, List.drop_succ_cons, List.drop_zero, List.take_succ_cons, List.take_zero] at h0 h1 h2 h3
  obtain ⟨l0, v0, e, q0, o0⟩ := slice_read (cells := fun l : List Int => [intsV l]) Tryz.underlying27 c31 (by decide) (fun e => rfl) (fun m us y hm hy => by
   obtain ⟨l, u, rfl, q, o⟩ := ints_read hy
   exact ⟨l, .cons q o (.nil w)⟩) h0
  simp at e; subst e
  obtain ⟨l1, v1, e, q1, o1⟩ := slice_read (cells := fun b : { l : List Int // l.length = 10 } => instC b.1) Tryz.underlying28 c96 (by decide) (fun b => by simp [instC, b.2]) (fun m us y hm hy => inst_read m us y hy) h1
  simp at e; subst e
  obtain ⟨k2, rfl⟩ := int_read Tryz.underlying3 h2
  obtain ⟨k3, rfl⟩ := int_read Tryz.underlying3 h3
  refine ⟨⟨l0, l1.map Subtype.val, k2, k3⟩, .cons q0 o0 (.cons ?_ o1 (.cons (.int _ _) rfl (.cons (.int _ _) rfl (.nil w)))), fun b hb => ?_⟩
  ·rw [List.map_map]; exact q1
  ·obtain ⟨c, _, rfl⟩ := List.mem_map.1 hb
   exact c.2
theorem agg_VR {cs : List V} {us : Array Value} (h : CellsR w cs us.toList) : VR (Rd noOwn w) noMaps (.agg cs) (.agg us) := by
 obtain ⟨h1, h2⟩ := h
 have h3 : us.size = cs.length := by simpa using h1
 refine .agg cs us h3 (fun i u hu => ?_) (fun i c u hc hu => ?_)
 ·have hi : i < cs.length := by have := (Array.getElem?_eq_some_iff.1 hu).1; omega
  exact (h2 i cs[i] u (lG hi) (by simpa using hu)).2
 ·exact (h2 i c u hc (by simpa using hu)).1
end
end TryzT
end Go.Abs
namespace Go.Abs
open Go
open Go.Proofs
namespace TryzT
theorem calls3 (W : World) (v0 v1 v2 : Value) (s : Src) (st : Sta) (hb : ∀ b ∈ st.blocks, b.length = 10) (l : List Int) (h0 : VR (Rd noOwn W) noMaps s.v v0) (h1 : VR (Rd noOwn W) noMaps st.v v1) (h2 : VR (Rd noOwn W) noMaps (intsV l) v2) :
  Calls Tryz.prog 3 #[v0, v1, v2] W fun e w' => e = .returned (.bool true) ∧ RowKit.Below W.heap.size W w' := by
 obtain ⟨_, _, hc⟩ := sound (draw_sound (by kernel_rfl)) texts (root3 s st hb l)
 refine (hc noOwn noMaps W #[v0, v1, v2] ⟨fun id x hx => (by cases hx), fun id id2 x y b r r2 hx => (by cases hx)⟩ ⟨0, fun _ _ => rfl, fun _ _ _ => rfl, fun _ _ _ => rfl⟩ (fun b h => h.elim) rfl (fun i v u hv hu => ?_)).mono ?_
 ·match i, hv, hu with
  | 0, hv, hu => simp at hv hu; subst hv; subst hu; exact h0
  | 1, hv, hu => simp at hv hu; subst hv; subst hu; exact h1
  | 2, hv, hu => simp at hv hu; subst hv; subst hu; exact h2
  | i + 3, hv, hu => simp at hv
 ·intro e w2 he
  cases e with
  | returned u =>
   obtain ⟨own2, m2, r, h2, hR, hvr, hlf⟩ := he
   subst hR
   rw [bool_inv hvr]
   exact ⟨rfl, ⟨hlf.io.os, hlf.io.tape, hlf.io.output, hlf.size, fun k hk => hlf.same k hk (fun ⟨id, x, r, hx, _⟩ => by cases hx)⟩⟩
  | panicked chain => exact he.elim
  | outgrown => exact he.elim
end TryzT
end Go.Abs
namespace Go.Proofs.YtfgkfjmbjopfgaaGreat.GraphRunsRow
open Go.ChangeShapes Go.WideShapes Go.ChangeAt Go.RowKit Go.Proofs
theorem own : ownKnob Tryz.prog.godebug = none := by kernel_rfl
theorem laidOut : laidOutB Tryz.prog = true := by kernel_rfl
set_option maxRecDepth 100000 in
theorem lifted (os : Os) (started : os.Started) (H : Type) (enc : TypeId × Value → H) :
  ReturnsInHanded {} Tryz.checked os 3 .any (Rows.graphRunsSpec.pre6 enc Tryz.prog Tryz.f3 Rows.graphRunsRow.domain false) (Rows.graphRunsSpec.post enc Tryz.prog Tryz.f3 false true false false) := by
 refine returnsInHanded_of_change_sized (C := Tryz.checked) own started (by kernel_rfl) Tryz.func3
  (ChangeSpec.witness6 (enc := enc) (C := Tryz.checked) false ⟨#[], #[.agg #[.slice none 0 0, .slice none 0 0, .slice none 0 0], .agg #[.slice none 0 0, .slice none 0 0, .int .i64 0, .int .i64 0], .slice none 0 0], []⟩ 8 (by kernel_rfl) (by kernel_rfl) (by kernel_rfl) (by kernel_rfl)) ?_
 intro W base args ds gs before hval0 hW hcnd hsz0 _
 have hval : ∀ (j : Nat) t v, Tryz.f3.params[j]? = some t → args[j]? = some v → Value.okWide Tryz.prog W .any base t v := hval0
 have hW' := hW
 obtain ⟨p, q, hA0, hV, rfl, hfz, hnd⟩ := hW
 have hA : DataW.TrodAll enc Tryz.prog W 0 (fun _ => true) true Tryz.f3.params.toList args.toList ds p := hA0
 rw [Tryz.params3] at hA hval
 obtain ⟨v0, vs0, d0, ds0, p0, q0, hargs, rfl, rfl, h0, r0⟩ := trodAll_cons hA
 obtain ⟨v1, vs1, d1, ds1, p1, q1, rfl, rfl, rfl, h1, r1⟩ := trodAll_cons r0
 obtain ⟨v2, vs2, d2, ds2, p2, q2, rfl, rfl, rfl, h2, r2⟩ := trodAll_cons r1
 obtain ⟨rfl, rfl, rfl⟩ := trodAll_nil r2
 obtain rfl : args = #[v0, v1, v2] := by cases args; simp_all
 obtain ⟨rfl, rfl⟩ := trodVars_none hV
 obtain ⟨cs0, rfl, hcs0⟩ := okWide_struct Tryz.underlying26 (hval 0 26 v0 rfl rfl)
 obtain ⟨cs1, rfl, hcs1⟩ := okWide_struct Tryz.underlying30 (hval 1 30 v1 rfl rfl)
 obtain ⟨a2, len2, cap2, rfl⟩ := okWide_slice Tryz.underlying31 (hval 2 31 v2 rfl rfl)
 have k0 := h0
 have k1 := h1
 have k2 := h2
 have lt0 : ∀ x ∈ p0, x.block < W.heap.size := by obtain ⟨m, hm⟩ := k0; exact DataW.trod_lt m _ _ _ hm
 have lt1 : ∀ x ∈ p1, x.block < W.heap.size := by obtain ⟨m, hm⟩ := k1; exact DataW.trod_lt m _ _ _ hm
 have lt2 : ∀ x ∈ p2, x.block < W.heap.size := by obtain ⟨m, hm⟩ := k2; exact DataW.trod_lt m _ _ _ hm
 obtain ⟨m0, e0⟩ := h0
 obtain ⟨m1, e1⟩ := h1
 obtain ⟨m2, e2⟩ := h2
 obtain ⟨s, g0⟩ := Go.Abs.TryzT.src_read e0
 obtain ⟨st, g1, hb⟩ := Go.Abs.TryzT.sta_read e1
 obtain ⟨l, u2, c2, g2, _⟩ := Go.Abs.TryzT.ints_read e2
 simp [Value.cells] at g0 g1 c2
 subst c2
 clear hA0 hval0 hsz0
 refine (Go.Abs.TryzT.calls3 W _ _ _ s st hb l (Go.Abs.TryzT.agg_VR g0) (Go.Abs.TryzT.agg_VR g1) g2).mono fun e W' ⟨he, bel⟩ => ?_
 subst he
 exact ⟨_, rfl, _, _, _, [], _, [], hW', trodAll_mk1 (shut_bool Tryz.underlying4 _), (trodAll_cons_mk (Below.trod laidOut (by kernel_rfl) (of_decide_eq_true (by kernel_rfl)) k0 bel lt0) (trodAll_cons_mk (Below.trod laidOut (by kernel_rfl) (of_decide_eq_true (by kernel_rfl)) k1 bel lt1) (trodAll_cons_mk (Below.trod laidOut (by kernel_rfl) (of_decide_eq_true (by kernel_rfl)) k2 bel lt2) trodAll_mk0))), rfl, bel.frame _, fun h => by cases h⟩
theorem over : Rows.graphRunsRow.holds Tryz.pinned (OpenSpec.ofChange Rows.graphRunsSpec) :=
 OpenClaim.holds_of_wide 3 Tryz.f3 rfl rfl rfl rfl rfl rfl rfl ⟨rfl, rfl, rfl, rfl, rfl⟩ rfl rfl rfl rfl rfl (by kernel_rfl) Tryz.func3 (by kernel_rfl)
  (of_decide_eq_true (by kernel_rfl)) (by unfold Func.isWrapper; first | (rw [if_pos (by decide +kernel)]; kernel_rfl) | (rw [if_neg (by decide +kernel)]; exact ⟨rfl, rfl⟩))
  (fun os started H enc _ => lifted os started H enc)
end Go.Proofs.YtfgkfjmbjopfgaaGreat.GraphRunsRow
namespace Go.Proofs.YtfgkfjmbjopfgaaGreat
theorem graphRuns_holds : Rows.GraphRunsSaid := GraphRunsRow.over
end Go.Proofs.YtfgkfjmbjopfgaaGreat
