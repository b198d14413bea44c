/-
  Slices: what 'append', 'copy', 'make' and literals do.
-/
import Derived.Test.YtfgkfjmbjopfgaaAbsNew
set_option linter.unusedVariables false
set_option linter.unusedSimpArgs false
namespace Go.Abs
open Go

/-- Elements, cell by cell. -/
def Laid (rd : Reads) (m : Maps) (arr : List Value) (sz : Nat) (els : List (List V)) : Prop :=
  arr.length = els.length * sz ∧ (∀ (i : Nat) (x : List V), els[i]? = some x → x.length = sz) ∧
    ∀ (i : Nat) (x : List V) (j : Nat) (c : V), els[i]? = some x → x[j]? = some c → ∃ u, arr[i * sz + j]? = some u ∧ CR rd m c u

theorem Laid.mono {rd rd2 : Reads} {m m2 : Maps} (hr : ∀ b o u, rd b o u → rd2 b o u) (hm : m.le m2) {arr : List Value} {sz : Nat} {els : List (List V)} (h : Laid rd m arr sz els) : Laid rd2 m2 arr sz els :=
  ⟨h.1, h.2.1, fun i x j c e1 e2 => by obtain ⟨u, hu, hc⟩ := h.2.2 i x j c e1 e2; exact ⟨u, hu, hc.mono hr hm⟩⟩

theorem Laid.one {rd : Reads} {m : Maps} {arr : List Value} {sz : Nat} {els : List (List V)} (h : Laid rd m arr sz els) : ∀ v ∈ arr, v.oneCell' = true := by
  intro v hv
  obtain ⟨p, hp⟩ := List.getElem?_of_mem hv
  have hlt : p < els.length * sz := by rw [← h.1]; exact (List.getElem?_eq_some_iff.1 hp).1
  have hsz : 0 < sz := by rcases Nat.eq_zero_or_pos sz with h0 | h0; · rw [h0] at hlt; simp at hlt
                          · exact h0
  have hi : p / sz < els.length := Nat.div_lt_of_lt_mul (by rw [Nat.mul_comm]; exact hlt)
  have hx := h.2.1 (p / sz) els[p / sz] (List.getElem?_eq_getElem hi)
  have hj : p % sz < els[p / sz].length := by rw [hx]; exact Nat.mod_lt _ hsz
  obtain ⟨u, hu, hc⟩ := h.2.2 (p / sz) els[p / sz] (p % sz) els[p / sz][p % sz] (List.getElem?_eq_getElem hi) (List.getElem?_eq_getElem hj)
  rw [show p / sz * sz + p % sz = p by rw [Nat.mul_comm]; exact Nat.div_add_mod p sz, hp] at hu
  simp at hu; subst hu
  exact hc.2

theorem Laid.append {rd : Reads} {m : Maps} {a1 a2 : List Value} {sz : Nat} {e1 e2 : List (List V)} (h1 : Laid rd m a1 sz e1) (h2 : Laid rd m a2 sz e2) : Laid rd m (a1 ++ a2) sz (e1 ++ e2) := by
  refine ⟨by rw [List.length_append, List.length_append, h1.1, h2.1, Nat.add_mul], ?_, ?_⟩
  · intro i x hx
    rw [List.getElem?_append] at hx
    split at hx
    · exact h1.2.1 i x hx
    · exact h2.2.1 _ x hx
  · intro i x j c hx hc
    rw [List.getElem?_append] at hx
    split at hx
    · rename_i hi
      obtain ⟨u, hu, hcu⟩ := h1.2.2 i x j c hx hc
      exact ⟨u, by rw [List.getElem?_append_left (List.getElem?_eq_some_iff.1 hu).1]; exact hu, hcu⟩
    · rename_i hi
      obtain ⟨u, hu, hcu⟩ := h2.2.2 _ x j c hx hc
      refine ⟨u, ?_, hcu⟩
      have hge : e1.length * sz ≤ i * sz := Nat.mul_le_mul_right _ (by omega)
      rw [List.getElem?_append_right (by rw [h1.1]; omega), h1.1]
      rw [show i * sz + j - e1.length * sz = (i - e1.length) * sz + j by rw [Nat.sub_mul]; omega]
      exact hu

theorem Laid.take {rd : Reads} {m : Maps} {arr : List Value} {sz : Nat} {els : List (List V)} (h : Laid rd m arr sz els) (k : Nat) (hk : k ≤ els.length) : Laid rd m (arr.take (k * sz)) sz (els.take k) := by
  have hle : k * sz ≤ els.length * sz := Nat.mul_le_mul_right _ hk
  refine ⟨by rw [List.length_take, List.length_take, h.1, Nat.min_eq_left hle, Nat.min_eq_left hk], ?_, ?_⟩
  · intro i x hx
    simp [List.getElem?_take] at hx
    exact h.2.1 i x hx.2
  · intro i x j c hx hc
    simp [List.getElem?_take] at hx
    obtain ⟨u, hu, hcu⟩ := h.2.2 i x j c hx.2 hc
    refine ⟨u, ?_, hcu⟩
    have hj : j < sz := by rw [← h.2.1 i x hx.2]; exact (List.getElem?_eq_some_iff.1 hc).1
    have : (i + 1) * sz ≤ k * sz := Nat.mul_le_mul_right _ hx.1
    rw [Nat.add_mul, Nat.one_mul] at this
    rw [List.getElem?_take, if_pos (by omega)]
    exact hu

/-- From reads of memory to cells. -/
theorem laid_of {rd : Reads} {m : Maps} {w : World} {b o sz : Nat} {els : List (List V)} (hw : ∀ (i : Nat) (x : List V), els[i]? = some x → x.length = sz)
    (h : ∀ (i : Nat) (x : List V) (j : Nat) (c : V), els[i]? = some x → x[j]? = some c → ∃ u, w.cell? ⟨b, o + i * sz + j, none⟩ = some u ∧ CR rd m c u) :
    ∃ arr : List Value, Laid rd m arr sz els ∧ ∀ j v, arr[j]? = some v → w.cell? ⟨b, o + j, none⟩ = some v := by
  induction els generalizing o with
  | nil => exact ⟨[], ⟨by simp, by simp, by simp⟩, by simp⟩
  | cons x els ih =>
    obtain ⟨us, hl, hus⟩ := exists_cells (p := fun j c u => w.cell? ⟨b, o + j, none⟩ = some u ∧ CR rd m c u) x 0 (fun j c hj => by
      have := h 0 x j c rfl hj
      simpa using this)
    have hxl := hw 0 x rfl
    obtain ⟨arr, ha, har⟩ := ih (o := o + sz) (fun i y hy => hw (i + 1) y (by simpa using hy)) (fun i y j c hy hc => by
      have := h (i + 1) y j c (by simpa using hy) hc
      rwa [Nat.add_mul, Nat.one_mul, show o + (i * sz + sz) + j = o + sz + i * sz + j by omega] at this)
    refine ⟨us ++ arr, ?_, ?_⟩
    · have h1 : Laid rd m us sz [x] := by
        refine ⟨by simp [hl, hxl], fun i y hy => ?_, fun i y j c hy hc => ?_⟩
        · cases i with
          | zero => simp at hy; subst hy; exact hxl
          | succ i => simp at hy
        · cases i with
          | zero =>
            simp at hy; subst hy
            have hlt : j < us.length := by rw [hl]; exact (List.getElem?_eq_some_iff.1 hc).1
            exact ⟨us[j], by simp [hlt], (hus j c us[j] hc (List.getElem?_eq_getElem hlt)).2⟩
          | succ i => simp at hy
      exact h1.append ha
    · intro j v hj
      rw [List.getElem?_append] at hj
      split at hj
      · rename_i hlt
        have hlt2 : j < x.length := by omega
        have := (hus j x[j] v (List.getElem?_eq_getElem hlt2) hj).1
        simpa using this
      · rename_i hge
        have := har _ v hj
        rwa [show o + sz + (j - us.length) = o + j by omega] at this

/-- What a slice (or a string) holds, as the model reads it. -/
theorem elems_ok {P : Program} {own : Nat → Prop} {m : Maps} {s : S} {tmps : Array Value} {w : World} (hf : FRel own m s tmps w) {y : V} {u : Value} (hv : VR (Rd own w) m y u) {sz : Nat} {new : List (List V)}
    (h : elemsOf s.h y = some new) (hsz : ∀ z ∈ new, z.length = sz) : (Builtin.lenOf u).run P w = .ok new.length w ∧
      ∃ arr : List Value, Laid (Rd own w) m arr sz new ∧ ∀ k, k ≤ new.length → (Builtin.firstCells sz k u).run P w = .ok (arr.take (k * sz)).toArray w := by
  have hload : ∀ (b o : Nat) (arr : List Value), Laid (Rd own w) m arr sz new → (∀ j v, arr[j]? = some v → w.cell? ⟨b, o + j, none⟩ = some v) → ∀ k, k ≤ new.length →
      (loadCells ⟨b, o, none⟩ (k * sz)).run P w = .ok (arr.take (k * sz)).toArray w := by
    intro b o arr hl ha k hk
    have := run_loadCells_list (P := P) (w := w) ⟨b, o, none⟩ (arr.take (k * sz)) (fun j v hj => by
      rw [add_none]
      simp [List.getElem?_take] at hj
      exact ha j v hj.2)
    have hle : k * sz ≤ new.length * sz := Nat.mul_le_mul_right _ hk
    rwa [List.length_take, hl.1, Nat.min_eq_left hle] at this
  have hzero : ∀ a : Addr, (loadCells a 0).run P w = .ok #[] w := fun a => by
    have := run_loadCells_list (P := P) (w := w) a [] (by simp)
    simpa using this
  unfold elemsOf at h
  split at h
  · simp at h; subst h
    rw [nsl_inv hv]
    refine ⟨by simp [Builtin.lenOf], [], ⟨by simp, by simp, by simp⟩, fun k hk => by simp [Builtin.firstCells]⟩
  · rename_i sz2 els
    simp at h; subst h
    obtain ⟨a, cap, rfl, hcap, hne⟩ := fsl_inv hv
    refine ⟨by simp [Builtin.lenOf], ?_⟩
    by_cases hz : els = []
    · subst hz
      refine ⟨[], ⟨by simp, by simp, by simp⟩, fun k hk => ?_⟩
      have hk0 : k = 0 := by simpa using hk
      subst hk0
      cases a with
      | none => simp [Builtin.firstCells]
      | some a => simp [Builtin.firstCells, hzero]
    · obtain ⟨b, off, rfl, hw, v', hv'⟩ := hne hz
      have hszz : sz2 = sz := by
        cases els with
        | nil => exact absurd rfl hz
        | cons x els => rw [← hw 0 x rfl]; exact hsz x (by simp)
      subst hszz
      obtain ⟨arr, hl, ha⟩ := laid_of (rd := Rd own w) (m := m) (w := w) (b := b) (o := off) (els := els) hw (fun i x j c e1 e2 => ⟨v' i j, (hv' i x j c e1 e2).1.2, (hv' i x j c e1 e2).2⟩)
      exact ⟨arr, hl, fun k hk => by simp [Builtin.firstCells, hload b off arr hl ha k hk]⟩
  · rename_i id off ln
    split at h
    · rename_i sz2 els hh
      split at h
      · rename_i hle
        simp at h
        obtain ⟨b, ob, sz3, C, a, cap, rfl, hsg, hor⟩ := msl_inv hv
        obtain ⟨b2, o2, C2, hsg2, _, arr0, ty, hw, has, hlc, hwd, hc⟩ := hf.heap.arr id sz2 els hh
        rw [hsg] at hsg2; simp at hsg2; obtain ⟨rfl, rfl, rfl, rfl⟩ := hsg2
        have hlen : new.length = ln := by rw [← h]; simp; omega
        refine ⟨by simp [Builtin.lenOf, hlen], ?_⟩
        by_cases hz : new = []
        · rw [hz]
          refine ⟨[], ⟨by simp, by simp, by simp⟩, fun k hk => ?_⟩
          have hk0 : k = 0 := by simpa using hk
          subst hk0
          simp [Builtin.firstCells, hzero]
        · rcases hor with ⟨h0, _⟩ | ⟨rfl, _, _⟩
          · exact absurd (List.eq_nil_of_length_eq_zero (by omega)) hz
          · have hget : ∀ (i : Nat) (x : List V), new[i]? = some x → els[off + i]? = some x := by
              intro i x hx
              rw [← h] at hx
              simp [List.getElem?_take] at hx
              exact hx.2
            have hszz : sz3 = sz := by
              cases hn : new with
              | nil => exact absurd hn hz
              | cons x r => rw [← hwd (off + 0) x (hget 0 x (by rw [hn]; rfl))]; exact hsz x (by rw [hn]; simp)
            subst hszz
            obtain ⟨arr, hl, ha⟩ := laid_of (rd := Rd own w) (m := m) (w := w) (b := b) (o := ob + off * sz3) (els := new) (fun i x hx => hsz x (List.mem_of_getElem? hx)) (fun i x j c e1 e2 => by
              obtain ⟨u, hu, hcu⟩ := hc (off + i) x j c (hget i x e1) e2
              refine ⟨u, ?_, hcu⟩
              rw [Nat.add_assoc ob, ← Nat.add_mul]
              simp [World.cell?, hw, hu])
            exact ⟨arr, hl, fun k hk => by simp [Builtin.firstCells, hload b (ob + off * sz3) arr hl ha k hk]⟩
      · cases h
    · cases h
  · rename_i st
    simp at h; subst h
    rw [str_inv hv]
    have hstl : st.data.toList.length = st.size := by simp
    refine ⟨by simp [Builtin.lenOf], ?_⟩
    refine ⟨st.data.toList.map fun b => .int .u8 b.toNat, ?_, fun k hk => ?_⟩
    · by_cases hz : st.data.toList = []
      · rw [hz]; exact ⟨by simp, by simp, by simp⟩
      · have h1 : sz = 1 := by
          cases hn : st.data.toList with
          | nil => exact absurd hn hz
          | cons x r => rw [hn] at hsz; exact (hsz [.int .u8 x.toNat] (by simp)).symm
        subst h1
        refine ⟨by simp, fun i x hx => ?_, fun i x j c hx hc => ?_⟩
        · exact hsz x (List.mem_of_getElem? hx)
        · rw [List.getElem?_map, Option.map_eq_some_iff] at hx
          obtain ⟨y, hy, rfl⟩ := hx
          cases j with
          | succ j => simp at hc
          | zero =>
            simp at hc; subst hc
            refine ⟨.int .u8 y.toNat, ?_, .int _ _, rfl⟩
            rw [Nat.mul_one, Nat.add_zero, List.getElem?_map, hy]; rfl
    · simp only [Builtin.firstCells, Sem.run_pure]
      by_cases hz : st.data.toList = []
      · have hsz0 : st.size = 0 := by rw [← hstl, hz]; rfl
        have hk0 : k = 0 := by simp [hsz0] at hk; exact hk
        subst hk0
        have : (st.extract 0 0).data = #[] := by simp
        rw [this]; simp
      · have h1 : sz = 1 := by
          cases hn : st.data.toList with
          | nil => exact absurd hn hz
          | cons x r => rw [hn] at hsz; exact (hsz [.int .u8 x.toNat] (by simp)).symm
        subst h1
        congr 1
        apply Array.ext'
        simp [ByteArray.data_extract]
  · cases h

end Go.Abs
