/-
  Whatever an operation that only reads makes of related operands is related.
-/
import Derived.Test.YtfgkfjmbjopfgaaAbsEval
set_option linter.unusedVariables false
set_option linter.unusedSimpArgs false
namespace Go.Abs
open Go
section
variable {P : Program}

theorem fieldOk_some {t : TypeId} {f off : Nat} {g : TypeId → Bool} (h : fieldOk P t f off g = true) : ∃ fs x, P.underlying t = some (.struct fs) ∧ fs[f]? = some x ∧ x.offset = off ∧ g x.type = true := by
  obtain ⟨d, hd, h⟩ := undB_some h
  cases d <;> simp at h
  rename_i fs
  split at h
  · rename_i x hx
    simp at h
    exact ⟨fs, x, hd, hx, h.1, h.2⟩
  · cases h

theorem slice_some {t : TypeId} {n : Nat} (h : isSliceOf P t n = true) : ∃ e, P.underlying t = some (.slice e) ∧ sizeB P e = some n := by
  obtain ⟨d, hd, h⟩ := undB_some h
  cases d <;> simp at h
  exact ⟨_, hd, h⟩

theorem array_some {t : TypeId} {k n : Nat} (h : isArrayOf P t k n = true) : ∃ e, P.underlying t = some (.array k e) ∧ sizeB P e = some n := by
  obtain ⟨d, hd, h⟩ := undB_some h
  cases d <;> simp at h
  obtain ⟨rfl, h2⟩ := h
  exact ⟨_, hd, h2⟩

theorem tyOk_some {t : TypeId} {n : Nat} {agg : Bool} (h : tyOk P t n agg = true) : aggB P t = some agg ∧ sizeB P t = some n ∧ (agg = false → n = 1) := by
  simp only [tyOk, Bool.and_eq_true, beq_iff_eq, Bool.or_eq_true] at h
  exact ⟨h.1.1, h.1.2, fun e => by simpa [e] using h.2⟩

theorem part_ok {rd : Reads} {m : Maps} {w : World} {cs : List V} {us : Array Value} (hl : us.size = cs.length) (hc : ∀ (j : Nat) (c : V) (u : Value), cs[j]? = some c → us[j]? = some u → CR rd m c u)
    {t off n : Nat} {agg : Bool} (ht : tyOk P t n agg = true) {v : V} (h : partOf cs off n agg = some v) : ∃ u, (part t us off).run P w = .ok u w ∧ VR rd m v u := by
  obtain ⟨ha, hs, _⟩ := tyOk_some ht
  cases agg with
  | true =>
    obtain ⟨hle, hv⟩ := part_cells (rd := rd) (m := m) (us := us.toList) (by simpa using hl) (fun j c u h1 h2 => hc j c u h1 (by simpa using h2)) h
    refine ⟨_, ?_, hv⟩
    simp only [part, Sem.run_bind, run_isAggB ha, Result.andThen_ok, if_true, run_sizeB hs, Sem.run_pure]
    congr 2
    apply Array.ext'
    simp
  | false =>
    obtain ⟨u, hu, hv⟩ := part_cell (rd := rd) (m := m) (us := us.toList) (by simpa using hl) (fun j c u h1 h2 => hc j c u h1 (by simpa using h2)) h
    refine ⟨u, ?_, hv.1⟩
    have hu' : us[off]? = some u := by simpa using hu
    simp [part, run_isAggB ha, hu']

theorem int_inv {rd : Reads} {m : Maps} {k : IntKind} {n : Int} {u : Value} (h : VR rd m (.int k n) u) : u = .int k n := by cases h; rfl

theorem fieldAt_ok {w : World} {t f off : Nat} (h : fieldOk P t f off (fun u => match sizeB P u with | some n => n != 0 | none => false) = true) (b o : Nat) :
    (Instr.fieldAt t (.pointer (some ⟨b, o, none⟩)) f).run P w = .ok (.pointer (some ⟨b, o + off, none⟩)) w := by
  obtain ⟨fs, x, hu, hx, rfl, hg⟩ := fieldOk_some h
  split at hg
  · rename_i n hn
    have hn0 : n ≠ 0 := by simpa using hg
    simp [Instr.fieldAt, run_und hu, hx, Instr.sureAddr, fieldPlace, run_sizeB hn, hn0, add_none]
  · cases hg

theorem indexAt_slice {w : World} {t e n : Nat} (hu : P.underlying t = some (.slice e)) (hs : sizeB P e = some n) {k : IntKind} {i : Int} {b o len cap : Nat} (h0 : 0 ≤ i) (h1 : i < len) :
    (Instr.indexAt t (.slice (some ⟨b, o, none⟩) len cap) (.int k i)).run P w = .ok (.pointer (some ⟨b, o + i.toNat * n, none⟩)) w := by
  simp [Instr.indexAt, asIntOf, run_und hu, h0, h1, run_sizeB hs, add_none]

theorem indexAt_array {w : World} {t e n len : Nat} (hu : P.underlying t = some (.array len e)) (hs : sizeB P e = some n) {k : IntKind} {i : Int} {b o : Nat} (h0 : 0 ≤ i) (h1 : i < len) :
    (Instr.indexAt t (.pointer (some ⟨b, o, none⟩)) (.int k i)).run P w = .ok (.pointer (some ⟨b, o + i.toNat * n, none⟩)) w := by
  simp [Instr.indexAt, asIntOf, run_und hu, Instr.sureAddr, h0, h1, run_sizeB hs, add_none]

/-- What cells laid over others come to. -/
theorem over_get (cs ds : List V) (off i : Nat) (h : off + ds.length ≤ cs.length) : (over cs off ds)[i]? = if off ≤ i ∧ i < off + ds.length then ds[i - off]? else cs[i]? := by
  unfold over
  rw [List.append_assoc, List.getElem?_append]
  simp only [List.length_take, show min off cs.length = off by omega]
  split
  · rename_i hi
    rw [if_neg (by omega), List.getElem?_take, if_pos hi]
  · rename_i hi
    rw [List.getElem?_append]
    split
    · rename_i h2; rw [if_pos (by omega)]
    · rename_i h2
      rw [if_neg (by omega), List.getElem?_drop]
      congr 1; omega

theorem over_length (cs ds : List V) (off : Nat) (h : off + ds.length ≤ cs.length) : (over cs off ds).length = cs.length := by
  unfold over; simp; omega

theorem cells_ok {rd : Reads} {m : Maps} {v : V} {u : Value} (hv : VR rd m v u) {cs : List V} (h : cellsOf v = some cs) : u.cells.size = cs.length ∧
    ∀ (i : Nat) (c : V) (x : Value), cs[i]? = some c → u.cells[i]? = some x → CR rd m c x := by
  have hv' := hv
  cases hv <;> simp [cellsOf] at h <;> (try subst h)
  case agg us hl h1 hf => exact ⟨hl, fun i c x hc hx => ⟨hf i c x hc hx, h1 i x hx⟩⟩
  all_goals
    refine ⟨rfl, ?_⟩
    intro i c x hc hx
    cases i with
    | succ i => simp at hc
    | zero =>
      simp [Value.cells] at hc hx
      subst hc; subst hx
      exact ⟨hv', rfl⟩

theorem foldl_set (n : Nat) : ∀ (l : List Value) (k off : Nat) (cells : Array Value), l.length = n → ∀ i, ((l.zipIdx k).foldl (fun cs (x : Value × Nat) => cs.setIfInBounds (off + x.2) x.1) cells)[i]? =
    if off + k ≤ i ∧ i < off + k + l.length ∧ i < cells.size then l[i - (off + k)]? else cells[i]? := by
  induction n with
  | zero =>
    intro l k off cells hl i
    have : l = [] := List.eq_nil_of_length_eq_zero hl
    subst this
    simp
    omega
  | succ n ih =>
    intro l k off cells hl i
    cases l with
    | nil => simp at hl
    | cons v l =>
      simp only [List.length_cons, Nat.add_right_cancel_iff] at hl
      simp only [List.zipIdx_cons, List.foldl_cons]
      rw [ih l (k + 1) off _ hl i]
      simp only [Array.size_setIfInBounds, List.length_cons]
      by_cases h1 : off + (k + 1) ≤ i ∧ i < off + (k + 1) + l.length ∧ i < cells.size
      · rw [if_pos h1, if_pos (by omega)]
        rw [show i - (off + k) = (i - (off + (k + 1))) + 1 by omega, List.getElem?_cons_succ]
      · rw [if_neg h1]
        by_cases h2 : i = off + k
        · subst h2
          by_cases h3 : off + k < cells.size
          · rw [if_pos (by omega)]; simp [h3]
          · rw [if_neg (by omega)]; simp [h3]
        · rw [if_neg (by omega), Array.getElem?_setIfInBounds_ne (by omega)]

theorem fold_size (l : List (Value × Nat)) : ∀ (cells : Array Value) (off : Nat), (l.foldl (fun cs (x : Value × Nat) => cs.setIfInBounds (off + x.2) x.1) cells).size = cells.size := by
  induction l with
  | nil => intro cells off; rfl
  | cons x l ih => intro cells off; simp [ih]

/-- 'fill', in both machines. -/
theorem fill_ok {own : Nat → Prop} {m : Maps} {s : S} {a : Act} {w : World} (hf : FRel own m s a.tmps w) (place : Nat → Option (Nat × Nat)) :
    ∀ (ps : List (Nat × Nat × Opd)) (qs : List (Nat × Operand)) (cs : List V) (us : Array Value) (out : List V), ps.length = qs.length →
      (∀ (i off n : Nat) (x : Opd) (j : Nat) (y : Operand), ps[i]? = some (off, n, x) → qs[i]? = some (j, y) → chkOpd x y = true ∧ place j = some (off, n)) →
      us.size = cs.length → (∀ (i : Nat) (c : V) (u : Value), cs[i]? = some c → us[i]? = some u → CR (Rd own w) m c u) → Abs.fill s.env cs ps = some out →
      ∃ res, Instr.fill place us (qs.map fun x => (x.1, a.eval x.2)) = some res ∧ res.size = out.length ∧ ∀ (i : Nat) (c : V) (u : Value), out[i]? = some c → res[i]? = some u → CR (Rd own w) m c u
  | [], qs, cs, us, out, hl, _, hs, hc, h => by
    have : qs = [] := List.eq_nil_of_length_eq_zero hl.symm
    subst this
    simp [Abs.fill] at h; subst h
    exact ⟨us, rfl, hs, hc⟩
  | (off, n, x) :: ps, [], _, _, _, hl, _, _, _, _ => by simp at hl
  | (off, n, x) :: ps, (j, y) :: qs, cs, us, out, hl, hp, hs, hc, h => by
    obtain ⟨hxy, hpl⟩ := hp 0 off n x j y rfl rfl
    simp only [Abs.fill] at h
    split at h
    · rename_i ds hds
      split at h
      · rename_i hle
        obtain ⟨hdn, hle⟩ := hle
        obtain ⟨hsz, hcs⟩ := cells_ok (opd_ok hf hxy) hds
        have hsz2 : ((a.eval y).cells.toList.zipIdx.foldl (fun cs (x : Value × Nat) => cs.setIfInBounds (off + x.2) x.1) us).size = us.size := fold_size _ us off
        have hget : ∀ i, ((a.eval y).cells.toList.zipIdx.foldl (fun cs (x : Value × Nat) => cs.setIfInBounds (off + x.2) x.1) us)[i]? = if off ≤ i ∧ i < off + ds.length then (a.eval y).cells[i - off]? else us[i]? := by
          intro i
          rw [foldl_set _ _ 0 off us rfl i]
          simp only [Nat.add_zero, Array.length_toList, hsz, Array.getElem?_toList]
          by_cases h1 : off ≤ i ∧ i < off + ds.length
          · rw [if_pos (by omega), if_pos h1]
          · rw [if_neg (by omega), if_neg h1]
        obtain ⟨res, hr, hrs, hrc⟩ := fill_ok hf place ps qs (over cs off ds) ((a.eval y).cells.toList.zipIdx.foldl (fun cs (x : Value × Nat) => cs.setIfInBounds (off + x.2) x.1) us) out (by simpa using hl)
          (fun i off n x j y h1 h2 => hp (i + 1) off n x j y (by simpa using h1) (by simpa using h2))
          (by rw [hsz2, over_length _ _ _ (by omega)]; exact hs)
          (by
            intro i c u hci hui
            rw [hget] at hui
            rw [over_get _ _ _ _ (by omega)] at hci
            split at hci
            · rename_i hi; rw [if_pos hi] at hui; exact hcs _ c u hci hui
            · rename_i hi; rw [if_neg hi] at hui; exact hc _ c u hci hui) h
        refine ⟨res, ?_, hrs, hrc⟩
        simp only [List.map_cons, Instr.fill, hpl]
        rw [if_neg (by simp; omega)]
        rw [← hr]
        congr 1
        rw [← Array.foldl_toList, Array.toList_zipIdx]
      · cases h
    · cases h
end
end Go.Abs
