/-
  What graphs of events read as.
-/
import Derived.Test.YtfgkfjmbjopfgaaAbsRead
import Derived.Test.YtfgkfjmbjopfgaaGsTy
import Derived.Test.YtfgkfjmbjopfgaaProg
import Derived.KernelRfl
set_option linter.unusedVariables false
set_option linter.unusedSimpArgs false
namespace Go.Abs
open Go
open Go.Proofs
namespace TryT
theorem c35 : Try.prog.cellsOf 35 = 1 := by kernel_rfl
theorem c27 : Try.prog.cellsOf 27 = 1 := by kernel_rfl
theorem c30 : Try.prog.cellsOf 30 = 1 := by kernel_rfl
theorem c31 : Try.prog.cellsOf 31 = 1 := by kernel_rfl
theorem c32 : Try.prog.cellsOf 32 = 1 := by kernel_rfl
theorem c3 : Try.prog.cellsOf 3 = 1 := by kernel_rfl
theorem c29 : Try.prog.cellsOf 29 = 5 := by kernel_rfl
theorem c66 : Try.prog.cellsOf 66 = 6 := by kernel_rfl
theorem c69 : Try.prog.cellsOf 69 = 2 := by kernel_rfl
theorem c34 : Try.prog.cellsOf 34 = 19 := by kernel_rfl
theorem c37 : Try.prog.cellsOf 37 = 20 := by kernel_rfl
section
variable {H : Type} {enc : TypeId × Value → H} {w : World} {spare : Nat → Bool} {held : Bool}
theorem intC_read (n : Nat) (us : List Value) (y : DataW H × List MemPlace) (h : DataW.trod enc Try.prog w 0 spare held n 3 us = some y) : ∃ k, CellsR w (intC k) us := by
  obtain ⟨k, rfl, _, _⟩ := DataW.trod_int Try.underlying3 h
  exact ⟨k, .cons (.int _ _) rfl (.nil w)⟩
theorem ints_read {n : Nat} {us : List Value} {y : DataW H × List MemPlace} (h : DataW.trod enc Try.prog w 0 spare held n 35 us = some y) : ∃ (l : List Int) (u : Value), us = [u] ∧ VR (Rd noOwn w) noMaps (.fsl 1 (l.map intC)) u ∧ u.oneCell' = true :=
  slice_read Try.underlying35 c3 (by decide) (fun _ => rfl) (fun m us y _ hy => intC_read m us y hy) h
theorem ex_read : ∀ (fuel : Nat) (us : List Value) (y : DataW H × List MemPlace), DataW.trod enc Try.prog w 0 spare held fuel 29 us = some y → ∃ e : Ex, CellsR w e.cells us := by
  intro fuel
  induction fuel using Nat.strongRecOn with
  | ind fuel ih =>
    intro us y h
    obtain ⟨n, rfl, hl, hf⟩ := struct_read Try.underlying29 h
    rw [c29] at hl
    match us, hl with
    | [u0, u1, u2, u3, u4], _ =>
      obtain ⟨y0, h0⟩ := hf 0 ⟨_, 3, 0, _, _, _, _⟩ rfl
      obtain ⟨y1, h1⟩ := hf 1 ⟨_, 3, 1, _, _, _, _⟩ rfl
      obtain ⟨y2, h2⟩ := hf 2 ⟨_, 3, 2, _, _, _, _⟩ rfl
      obtain ⟨y3, h3⟩ := hf 3 ⟨_, 3, 3, _, _, _, _⟩ rfl
      obtain ⟨y4, h4⟩ := hf 4 ⟨_, 27, 4, _, _, _, _⟩ rfl
      simp only [c3, c27, List.drop_succ_cons, List.drop_zero, List.take_succ_cons, List.take_zero] at h0 h1 h2 h3 h4
      obtain ⟨k0, rfl⟩ := int_read Try.underlying3 h0
      obtain ⟨k1, rfl⟩ := int_read Try.underlying3 h1
      obtain ⟨k2, rfl⟩ := int_read Try.underlying3 h2
      obtain ⟨k3, rfl⟩ := int_read Try.underlying3 h3
      obtain ⟨l, u, e, hv, ho⟩ := slice_read (cells := Ex.cells) Try.underlying27 c29 (by decide) (fun e => by rw [Ex.cells_cs]; rfl) (fun m us y hm hy => ih m (by omega) us y hy) h4
      simp at e; subst e
      exact ⟨.mk k0 k1 k2 k3 l, by rw [Ex.cells_cs]; exact .cons (.int _ _) rfl (.cons (.int _ _) rfl (.cons (.int _ _) rfl (.cons (.int _ _) rfl (.cons hv ho (.nil w)))))⟩
theorem exs_read {n : Nat} {us : List Value} {y : DataW H × List MemPlace} (h : DataW.trod enc Try.prog w 0 spare held n 27 us = some y) : ∃ (l : List Ex) (u : Value), us = [u] ∧ VR (Rd noOwn w) noMaps (.fsl 5 (l.map Ex.cells)) u ∧ u.oneCell' = true :=
  slice_read Try.underlying27 c29 (by decide) (fun e => by rw [Ex.cells_cs]; rfl) (fun m us y _ hy => ex_read m us y hy) h
theorem ar_read (fuel : Nat) (us : List Value) (y : DataW H × List MemPlace) (h : DataW.trod enc Try.prog w 0 spare held fuel 66 us = some y) : ∃ e : Ar, CellsR w e.cells us := by
  obtain ⟨n, rfl, hl, hf⟩ := struct_read Try.underlying66 h
  rw [c66] at hl
  match us, hl with
  | [u0, u1, u2, u3, u4, u5], _ =>
    obtain ⟨y0, h0⟩ := hf 0 ⟨_, 3, 0, _, _, _, _⟩ rfl
    obtain ⟨y1, h1⟩ := hf 1 ⟨_, 29, 1, _, _, _, _⟩ rfl
    simp only [c3, c29, List.drop_succ_cons, List.drop_zero, List.take_succ_cons, List.take_zero] at h0 h1
    obtain ⟨k0, rfl⟩ := int_read Try.underlying3 h0
    obtain ⟨e, he⟩ := ex_read _ _ _ h1
    exact ⟨⟨k0, e⟩, .cons (.int _ _) rfl he⟩
theorem ars_read {n : Nat} {us : List Value} {y : DataW H × List MemPlace} (h : DataW.trod enc Try.prog w 0 spare held n 30 us = some y) : ∃ (l : List Ar) (u : Value), us = [u] ∧ VR (Rd noOwn w) noMaps (.fsl 6 (l.map Ar.cells)) u ∧ u.oneCell' = true :=
  slice_read Try.underlying30 c66 (by decide) (fun e => by rw [Ar.cells_eq]; rfl) (fun m us y _ hy => ar_read m us y hy) h
theorem st_read : ∀ (fuel : Nat) (us : List Value) (y : DataW H × List MemPlace), DataW.trod enc Try.prog w 0 spare held fuel 34 us = some y → ∃ x : St, CellsR w x.cells us := by
  intro fuel
  induction fuel using Nat.strongRecOn with
  | ind fuel ih =>
    intro us y h
    obtain ⟨n, rfl, hl, hf⟩ := struct_read Try.underlying34 h
    rw [c34] at hl
    match us, hl with
    | [u0, u1, u2, u3, u4, u5, u6, u7, u8, u9, u10, u11, u12, u13, u14, u15, u16, u17, u18], _ =>
      obtain ⟨y0, h0⟩ := hf 0 ⟨_, 3, 0, _, _, _, _⟩ rfl
      obtain ⟨y1, h1⟩ := hf 1 ⟨_, 3, 1, _, _, _, _⟩ rfl
      obtain ⟨y2, h2⟩ := hf 2 ⟨_, 3, 2, _, _, _, _⟩ rfl
      obtain ⟨y3, h3⟩ := hf 3 ⟨_, 3, 3, _, _, _, _⟩ rfl
      obtain ⟨y4, h4⟩ := hf 4 ⟨_, 29, 4, _, _, _, _⟩ rfl
      obtain ⟨y5, h5⟩ := hf 5 ⟨_, 29, 9, _, _, _, _⟩ rfl
      obtain ⟨y6, h6⟩ := hf 6 ⟨_, 27, 14, _, _, _, _⟩ rfl
      obtain ⟨y7, h7⟩ := hf 7 ⟨_, 30, 15, _, _, _, _⟩ rfl
      obtain ⟨y8, h8⟩ := hf 8 ⟨_, 31, 16, _, _, _, _⟩ rfl
      obtain ⟨y9, h9⟩ := hf 9 ⟨_, 31, 17, _, _, _, _⟩ rfl
      obtain ⟨y10, h10⟩ := hf 10 ⟨_, 32, 18, _, _, _, _⟩ rfl
      simp only [c3, c27, c29, c30, c31, c32, List.drop_succ_cons, List.drop_zero, List.take_succ_cons, List.take_zero] at h0 h1 h2 h3 h4 h5 h6 h7 h8 h9 h10
      obtain ⟨k0, rfl⟩ := int_read Try.underlying3 h0
      obtain ⟨k1, rfl⟩ := int_read Try.underlying3 h1
      obtain ⟨k2, rfl⟩ := int_read Try.underlying3 h2
      obtain ⟨k3, rfl⟩ := int_read Try.underlying3 h3
      obtain ⟨e4, q4⟩ := ex_read _ _ _ h4
      obtain ⟨e5, q5⟩ := ex_read _ _ _ h5
      obtain ⟨l6, v6, e, q6, o6⟩ := exs_read h6
      simp at e; subst e
      obtain ⟨l7, v7, e, q7, o7⟩ := ars_read h7
      simp at e; subst e
      obtain ⟨l8, v8, e, q8, o8⟩ := slice_read (cells := St.cells) Try.underlying31 c34 (by decide) (fun e => by rw [St.cells_cs]; rfl) (fun m us y hm hy => ih m (by omega) us y hy) h8
      simp at e; subst e
      obtain ⟨l9, v9, e, q9, o9⟩ := slice_read (cells := St.cells) Try.underlying31 c34 (by decide) (fun e => by rw [St.cells_cs]; rfl) (fun m us y hm hy => ih m (by omega) us y hy) h9
      simp at e; subst e
      obtain ⟨l10, v10, e, q10, o10⟩ := slice_read (cells := Am.cells) Try.underlying32 c69 (by decide) (fun e => by rw [Am.cells_eq]; rfl) (fun m us y hm hy => by
        obtain ⟨n2, rfl, hl2, hf2⟩ := struct_read Try.underlying69 hy
        rw [c69] at hl2
        match us, hl2 with
        | [v0, v1], _ =>
          obtain ⟨z0, g0⟩ := hf2 0 ⟨_, 35, 0, _, _, _, _⟩ rfl
          obtain ⟨z1, g1⟩ := hf2 1 ⟨_, 31, 1, _, _, _, _⟩ rfl
          simp only [c35, c31, List.drop_succ_cons, List.drop_zero, List.take_succ_cons, List.take_zero] at g0 g1
          obtain ⟨l0, w0, e, r0, p0⟩ := ints_read g0
          simp at e; subst e
          obtain ⟨l1, w1, e, r1, p1⟩ := slice_read (cells := St.cells) Try.underlying31 c34 (by decide) (fun e => by rw [St.cells_cs]; rfl) (fun m us y hm hy => ih m (by omega) us y hy) g1
          simp at e; subst e
          exact ⟨.mk l0 l1, by rw [Am.cells_eq]; exact .cons r0 p0 (.cons r1 p1 (.nil w))⟩) h10
      simp at e; subst e
      refine ⟨.mk k0 k1 k2 k3 e4 e5 l6 l7 l8 l9 l10, ?_⟩
      rw [St.cells, stL_eq, stL_eq, amL_eq]
      exact CellsR.append (us := [_, _, _, _, u4, u5, u6, u7, u8, u9, u10, u11, u12, u13]) (CellsR.append (us := [_, _, _, _, u4, u5, u6, u7, u8]) (CellsR.append (us := [_, _, _, _]) (.cons (.int _ _) rfl (.cons (.int _ _) rfl (.cons (.int _ _) rfl (.cons (.int _ _) rfl (.nil w))))) q4) q5)
        (.cons q6 o6 (.cons q7 o7 (.cons q8 o8 (.cons q9 o9 (.cons q10 o10 (.nil w))))))
theorem ev_read (fuel : Nat) (us : List Value) (y : DataW H × List MemPlace) (h : DataW.trod enc Try.prog w 0 spare held fuel 37 us = some y) : ∃ x : Ev, CellsR w x.cells us := by
  obtain ⟨n, rfl, hl, hf⟩ := struct_read Try.underlying37 h
  rw [c37] at hl
  match us, hl with
  | [u0, u1, u2, u3, u4, u5, u6, u7, u8, u9, u10, u11, u12, u13, u14, u15, u16, u17, u18, u19], _ =>
    obtain ⟨y0, h0⟩ := hf 0 ⟨_, 34, 0, _, _, _, _⟩ rfl
    obtain ⟨y1, h1⟩ := hf 1 ⟨_, 35, 19, _, _, _, _⟩ rfl
    simp only [c34, c35, List.drop_succ_cons, List.drop_zero, List.take_succ_cons, List.take_zero] at h0 h1
    obtain ⟨s, q0⟩ := st_read _ _ _ h0
    obtain ⟨l1, v1, e, q1, o1⟩ := ints_read h1
    simp at e; subst e
    exact ⟨⟨s, l1⟩, CellsR.append (us := [u0, u1, u2, u3, u4, u5, u6, u7, u8, u9, u10, u11, u12, u13, u14, u15, u16, u17, u18]) q0 (.cons q1 o1 (.nil w))⟩
theorem evs_read {n : Nat} {us : List Value} {y : DataW H × List MemPlace} (h : DataW.trod enc Try.prog w 0 spare held n 22 us = some y) : ∃ (l : List Ev) (u : Value), us = [u] ∧ VR (Rd noOwn w) noMaps (evsV l) u ∧ u.oneCell' = true :=
  slice_read Try.underlying22 c37 (by decide) (fun e => by rw [Ev.cells_cs]; rfl) (fun m us y _ hy => ev_read m us y hy) h
end
end TryT
end Go.Abs
