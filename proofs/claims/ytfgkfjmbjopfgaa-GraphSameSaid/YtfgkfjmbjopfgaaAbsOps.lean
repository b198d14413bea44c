/-
  What an operation that only reads makes, in the model, of related operands.
-/
import Derived.Test.YtfgkfjmbjopfgaaAbsRel
import Derived.Laws.Cells
import Derived.ChangeKeysEq
set_option linter.unusedVariables false
set_option linter.unusedSimpArgs false
namespace Go.Abs
open Go

/-! ### What the checker asks of operands and types -/

def constCell : V → Value → Bool
  | .int k n, .int k2 n2 => k == k2 && n == n2
  | .bool a, .bool b => a == b
  | .str a, .string b => decide (a.data.toList = b.data.toList)
  | .nsl, .slice none 0 0 => true
  | .nilp, .pointer none => true
  | .undef, u => u.oneCell'
  | _, _ => false

def constOk : V → Value → Bool
  | .agg cs, .agg us => us.size == cs.length && (cs.zip us.toList).all fun x => constCell x.1 x.2
  | v, u => constCell v u

def chkOpd : Opd → Operand → Bool
  | .t n, .tmp m => n == m
  | .c v, .const u => constOk v u
  | .c (.fn f []), .func g => f == g
  | _, _ => false

def aggB (P : Program) (t : TypeId) : Option Bool :=
  match P.underlying t with
  | some (.struct _) | some (.array _ _) => some true
  | some _ => some false
  | none => none

def sizeB (P : Program) (t : TypeId) : Option Nat := (P.info? t).map (·.size)

def tyOk (P : Program) (t : TypeId) (n : Nat) (agg : Bool) : Bool := aggB P t == some agg && sizeB P t == some n && (agg || n == 1)

section
variable {P : Program} {w : World}

theorem run_isAggB {t : TypeId} {b : Bool} (h : aggB P t = some b) : (isAgg t).run P w = .ok b w := by
  unfold aggB at h
  unfold isAgg Go.underlying
  cases hu : P.underlying t with
  | none => simp [hu] at h
  | some d => cases d <;> simp_all

theorem run_sizeB {t : TypeId} {n : Nat} (h : sizeB P t = some n) : (sizeOf t).run P w = .ok n w := by
  unfold sizeB at h
  cases hi : P.info? t with
  | none => simp [hi] at h
  | some i => simp [hi] at h; simp [sizeOf, typeInfo, hi, h]

theorem add_none (b o j : Nat) : (⟨b, o, none⟩ : Addr).add j = ⟨b, o + j, none⟩ := by unfold Addr.add; split <;> simp_all

theorem constCell_ok {rd : Reads} {m : Maps} {v : V} {u : Value} (h : constCell v u = true) : VR rd m v u ∧ u.oneCell' = true := by
  unfold constCell at h
  split at h <;> (try simp at h)
  · obtain ⟨rfl, rfl⟩ := h; exact ⟨.int _ _, rfl⟩
  · subst h; exact ⟨.bool _, rfl⟩
  · rename_i a b
    have : a = b := by
      cases a; cases b; simp at h; simp [h]
    subst this; exact ⟨.str _, rfl⟩
  · exact ⟨.nsl, rfl⟩
  · exact ⟨.nilp, rfl⟩
  · exact ⟨.undef _, h⟩

theorem constOk_ok {rd : Reads} {m : Maps} {v : V} {u : Value} (h : constOk v u = true) : VR rd m v u := by
  unfold constOk at h
  split at h
  · rename_i cs us
    simp only [Bool.and_eq_true, beq_iff_eq, List.all_eq_true] at h
    obtain ⟨hl, ha⟩ := h
    have key : ∀ (i : Nat) (c : V) (u : Value), cs[i]? = some c → us[i]? = some u → constCell c u = true := by
      intro i c u hc hu
      refine ha (c, u) (List.mem_of_getElem? (i := i) ?_)
      rw [List.getElem?_zip_eq_some]
      exact ⟨hc, by simpa using hu⟩
    refine .agg cs us hl ?_ ?_
    · intro i u hu
      have hi : i < cs.length := by
        have := (Array.getElem?_eq_some_iff.1 hu).1; omega
      exact (constCell_ok (rd := rd) (m := m) (key i cs[i] u (List.getElem?_eq_getElem hi) hu)).2
    · exact fun i c u hc hu => (constCell_ok (key i c u hc hu)).1
  · exact (constCell_ok h).1

end

/-- Operands stand for values, in a frame. -/
theorem opd_ok {own : Nat → Prop} {m : Maps} {s : S} {a : Act} {w : World} (hf : FRel own m s a.tmps w) {x : Opd} {y : Operand} (h : chkOpd x y = true) :
    VR (Rd own w) m (ev s.env x) (a.eval y) := by
  unfold chkOpd at h
  split at h
  · rename_i n k
    simp at h; subst h
    simp only [ev, Act.eval]
    by_cases hn : n < s.env.length
    · obtain ⟨u, hu, hv⟩ := hf.env n s.env[n] (List.getElem?_eq_getElem hn)
      rw [List.getD_eq_getElem?_getD, List.getElem?_eq_getElem hn]
      simp only [Array.getD_eq_getD_getElem?, hu]
      exact hv
    · rw [List.getD_eq_getElem?_getD, List.getElem?_eq_none (by omega)]
      exact .undef _
  · exact constOk_ok h
  · rename_i f g
    simp at h; subst h
    exact .fn f [] #[] rfl (by simp)
  · cases h

/-- Values for all cells. -/
theorem exists_cells {α β : Type} {p : Nat → α → β → Prop} : ∀ (l : List α) (k : Nat), (∀ j c, l[j]? = some c → ∃ u, p (k + j) c u) → ∃ us : List β, us.length = l.length ∧ ∀ j c u, l[j]? = some c → us[j]? = some u → p (k + j) c u
  | [], _, _ => ⟨[], rfl, by simp⟩
  | c :: l, k, h => by
    obtain ⟨u, hu⟩ := h 0 c rfl
    obtain ⟨us, hl, hus⟩ := exists_cells l (k + 1) (fun j c hj => by have := h (j + 1) c hj; rwa [show k + 1 + j = k + (j + 1) by omega])
    refine ⟨u :: us, by simp [hl], ?_⟩
    intro j c2 u2 h1 h2
    cases j with
    | zero => simp at h1 h2; subst h1; subst h2; exact hu
    | succ j => simp at h1 h2; have := hus j c2 u2 h1 h2; rwa [show k + (j + 1) = k + 1 + j by omega]

/-- An address that lies among cells: where they are. -/
theorem reach {own : Nat → Prop} {m : Maps} {s : S} {tmps : Array Value} {w : World} (hf : FRel own m s tmps w) {p : V} {u : Value} (hv : VR (Rd own w) m p u) {cs : List V} {off : Nat}
    (h : cellsAt s.bx s.h p = some (cs, off)) :
    ∃ b o, u = .pointer (some ⟨b, o + off, none⟩) ∧ ∀ j c, cs[j]? = some c → ∃ x, w.cell? ⟨b, o + j, none⟩ = some x ∧ CR (Rd own w) m c x := by
  unfold cellsAt at h
  split at h
  · rename_i t g o
    unfold boxOf at h
    split at h
    · rename_i cs' hb
      simp at h
      obtain ⟨rfl, rfl⟩ := h
      split at hb
      · rename_i g2 cs2 hg
        split at hb
        · rename_i e; subst e
          simp at hb; subst hb
          have hbx : s.bx[t]? = some (some (g, cs2)) := by
            rw [List.getD_eq_getElem?_getD] at hg
            cases hh : s.bx[t]? with
            | none => simp [hh] at hg
            | some y => simp [hh] at hg; rw [hg]
          obtain ⟨b, hbt, _, arr, ty, hw, hsz, hc⟩ := hf.box t g cs2 hbx
          cases hv with
          | lp _ _ _ b' h' =>
            rw [hbt] at h'; simp at h'; subst h'
            refine ⟨b, 0, by simp, fun j c hj => ?_⟩
            obtain ⟨x, hx, hcx⟩ := hc j c hj
            exact ⟨x, by simp [World.cell?, hw, hx], hcx⟩
        · cases hb
      · cases hb
    · cases h
  · rename_i id i o
    split at h
    · rename_i sz els hh
      split at h
      · rename_i cs' hel
        simp at h
        obtain ⟨rfl, rfl⟩ := h
        obtain ⟨b, ob, C, hsg, _, arr, ty, hw, hsz, hle, hwd, hc⟩ := hf.heap.arr id sz els hh
        cases hv with
        | ep _ _ _ b' o' sz' C' h' =>
          rw [hsg] at h'; simp at h'; obtain ⟨rfl, rfl, rfl, rfl⟩ := h'
          refine ⟨b, ob + i * sz, by simp, fun j c hj => ?_⟩
          obtain ⟨x, hx, hcx⟩ := hc i cs' j c hel hj
          exact ⟨x, by simp [World.cell?, hw, hx], hcx⟩
      · cases h
    · cases h
  · rename_i cs' o
    simp at h
    obtain ⟨rfl, rfl⟩ := h
    cases hv with
    | fp _ _ b o' u' hr h1 hf' =>
      exact ⟨b, o', rfl, fun j c hj => ⟨u' j, (hr j c hj).2, hf' j c hj, h1 j c hj⟩⟩
  · cases h

/-- A part of cells, as memory or an aggregate holds them. -/
theorem part_cells {rd : Reads} {m : Maps} {cs : List V} {us : List Value} (hl : us.length = cs.length) (hc : ∀ (j : Nat) (c : V) (u : Value), cs[j]? = some c → us[j]? = some u → CR rd m c u) {off n : Nat} {v : V}
    (h : partOf cs off n true = some v) : off + n ≤ us.length ∧ VR rd m v (.agg ((us.drop off).take n).toArray) := by
  unfold partOf at h
  split at h
  · rename_i hle
    simp at h
    subst h
    refine ⟨by omega, .agg _ _ (by simp; omega) ?_ ?_⟩
    · intro i u hu
      simp [List.getElem?_take] at hu
      obtain ⟨hi, hu⟩ := hu
      have hlt : off + i < cs.length := by omega
      exact (hc (off + i) cs[off + i] u (List.getElem?_eq_getElem hlt) hu).2
    · intro i c u hci hu
      simp [List.getElem?_take] at hu hci
      exact (hc (off + i) c u hci.2 hu.2).1
  · cases h

theorem part_cell {rd : Reads} {m : Maps} {cs : List V} {us : List Value} (hl : us.length = cs.length) (hc : ∀ (j : Nat) (c : V) (u : Value), cs[j]? = some c → us[j]? = some u → CR rd m c u) {off n : Nat} {v : V}
    (h : partOf cs off n false = some v) : ∃ u, us[off]? = some u ∧ CR rd m v u := by
  unfold partOf at h
  split at h
  · simp at h
    have hlt : off < us.length := by
      have := (List.getElem?_eq_some_iff.1 h).1; omega
    exact ⟨us[off], List.getElem?_eq_getElem hlt, hc off v us[off] h (List.getElem?_eq_getElem hlt)⟩
  · cases h

theorem load_ok {P : Program} {own : Nat → Prop} {m : Maps} {s : S} {tmps : Array Value} {w : World} (hf : FRel own m s tmps w) {p : V} {u : Value} (hv : VR (Rd own w) m p u) {t n : Nat} {agg : Bool}
    (ht : tyOk P t n agg = true) {v : V} (h : loadOf s.bx s.h p n agg = some v) : ∃ x, (Instr.loadAt t u).run P w = .ok x w ∧ VR (Rd own w) m v x := by
  unfold loadOf at h
  split at h
  · rename_i cs off hca
    obtain ⟨b, o, rfl, hcell⟩ := reach hf hv hca
    obtain ⟨us, hl, hus⟩ := exists_cells (p := fun j c x => w.cell? ⟨b, o + j, none⟩ = some x ∧ CR (Rd own w) m c x) cs 0 (fun j c hj => by simpa using hcell j c hj)
    simp only [tyOk, Bool.and_eq_true, beq_iff_eq] at ht
    obtain ⟨⟨ha, hs⟩, hn⟩ := ht
    cases agg with
    | true =>
      obtain ⟨hle, hvr⟩ := part_cells (rd := Rd own w) (m := m) hl (fun j c u h1 h2 => (hus j c u h1 h2).2) h
      refine ⟨_, ?_, hvr⟩
      have hlc := run_loadCells_list (P := P) (w := w) ⟨b, o + off, none⟩ ((us.drop off).take n) (fun j x hj => by
        rw [add_none]
        simp [List.getElem?_take] at hj
        obtain ⟨hjn, hj⟩ := hj
        have hlt : off + j < cs.length := by omega
        have := (hus (off + j) cs[off + j] x (List.getElem?_eq_getElem hlt) hj).1
        rwa [show o + (0 + (off + j)) = o + off + j by omega] at this)
      rw [show ((us.drop off).take n).length = n by simp; omega] at hlc
      simp [Instr.loadAt, Instr.sureAddr, loadVar, run_isAggB ha, run_sizeB hs, hlc]
    | false =>
      obtain ⟨x, hx, hcx⟩ := part_cell (rd := Rd own w) (m := m) hl (fun j c u h1 h2 => (hus j c u h1 h2).2) h
      refine ⟨x, ?_, hcx.1⟩
      have hlt : off < cs.length := by
        have := (List.getElem?_eq_some_iff.1 hx).1; omega
      have := (hus off cs[off] x (List.getElem?_eq_getElem hlt) hx).1
      rw [show o + (0 + off) = o + off by omega] at this
      simp [Instr.loadAt, Instr.sureAddr, loadVar, run_isAggB ha, this]
  · cases h

end Go.Abs
