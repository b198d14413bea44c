/-
  New blocks, and stores into our own.
-/
import Derived.Test.YtfgkfjmbjopfgaaAbsMem
import Derived.Laws.IdiomCopy
set_option linter.unusedVariables false
set_option linter.unusedSimpArgs false
namespace Go.Abs
open Go

def push (w : World) (o : Obj) : World := { w with heap := w.heap.push o }

theorem setCells_io : ∀ (w : World) (b o : Nat) (l : List Value), Io w (w.setCells b o l)
  | w, b, o, [] => Io.refl w
  | w, b, o, v :: l => by
    rw [World.setCells]
    have h1 : Io w (w.setCell ⟨b, o, none⟩ v) := ⟨rfl, rfl, rfl⟩
    exact h1.trans (setCells_io (w.setCell ⟨b, o, none⟩ v) b (o + 1) l)

theorem push_other (w : World) (o : Obj) : Other w (push w o) w.heap.size :=
  ⟨⟨rfl, rfl, rfl⟩, by show w.heap.size ≤ (w.heap.push o).size; simp, fun x _ hlt => by
    show (w.heap.push o)[x]? = _
    rw [Array.getElem?_push, if_neg (Nat.ne_of_lt hlt)]⟩

theorem push_get (w : World) (o : Obj) : (push w o).heap[w.heap.size]? = some o := by
  show (w.heap.push o)[w.heap.size]? = _
  rw [Array.getElem?_push, if_pos rfl]

theorem le_sum : ∀ (L : List Nat) (x : Nat), x ∈ L → x ≤ L.sum
  | y :: L, x, h => by
    rw [List.sum_cons]
    rcases List.mem_cons.1 h with rfl | h
    · omega
    · have := le_sum L x h; omega

def Maps.setSg (m : Maps) (id : Nat) (x : Nat × Nat × Nat × Nat) : Maps := { m with sg := fun i => if i = id then some x else m.sg i }
def Maps.setBt (m : Maps) (t g b : Nat) : Maps := { m with bt := fun t2 g2 => if t2 = t ∧ g2 = g then some b else m.bt t2 g2 }

theorem Maps.le_setSg {m : Maps} {id : Nat} {x : Nat × Nat × Nat × Nat} (h : m.sg id = none) : m.le (m.setSg id x) :=
  ⟨fun i y hy => by simp only [Maps.setSg]; split <;> simp_all, fun _ _ _ h => h, fun _ _ _ h => h⟩
theorem Maps.le_setBt {m : Maps} {t g b : Nat} (h : m.bt t g = none) : m.le (m.setBt t g b) :=
  ⟨fun _ _ h => h, fun t2 g2 y hy => by
    simp only [Maps.setBt]
    split
    · rename_i e; obtain ⟨rfl, rfl⟩ := e; rw [h] at hy; cases hy
    · exact hy, fun _ _ _ h => h⟩

theorem fresh_sg {m m2 : Maps} (h : m.le m2) {id : Nat} (h2 : m2.sg id = none) : m.sg id = none := by
  cases e : m.sg id with
  | none => rfl
  | some x => rw [h.sg _ _ e] at h2; cases h2

theorem not_own_big {cx : Cx} {own : Nat → Prop} {m : Maps} {s : S} {tmps : Array Value} {w : World} (hr : Rel cx own m s tmps w) : ¬ cx.fr w.heap.size := fun h => by
  have := hr.frlt _ h; have := hr.k.size; omega

/-- A new local box. -/
theorem Rel.newBox {cx : Cx} {own : Nat → Prop} {m : Maps} {s : S} {tmps : Array Value} {w : World} (hr : Rel cx own m s tmps w) (t : Nat) (cs : List V) (arr : Array Value) (elem : TypeId)
    (hl : arr.size = cs.length) (hc : ∀ (j : Nat) (c : V) (u : Value), cs[j]? = some c → arr[j]? = some u → CR (Rd own w) m c u) :
    ∃ own2 m2 g, Rel cx own2 m2 { s with bx := s.bx.set t (some (g, cs)) } tmps (push w (.cells arr elem)) ∧ VR (Rd own2 (push w (.cells arr elem))) m2 (.lp t g 0) (.pointer (some ⟨w.heap.size, 0, none⟩)) := by
  obtain ⟨N, hN1, hN2, hN3⟩ := hr.f.fin
  have hfresh : m.bt t N = none := hN2 t N (Nat.le_refl _)
  have hm := Maps.le_setBt (b := w.heap.size) hfresh
  let own2 : Nat → Prop := fun x => own x ∨ x = w.heap.size
  have hbt : (m.setBt t N w.heap.size).bt t N = some w.heap.size := by simp [Maps.setBt]
  have hrd := rd_mono (own2 := own2) (push_other w (.cells arr elem)) (b := w.heap.size) (.inr (Nat.le_refl _)) (fun x hx _ => hx)
  refine ⟨own2, m.setBt t N w.heap.size, N, ?_, .lp _ _ _ _ hbt⟩
  refine hr.boxSet (b := w.heap.size) (push_other _ _) hm (fun _ _ h => h) (fun _ _ _ h => h) (fun x => Iff.rfl) (.inr (Nat.le_refl _)) ?_ ?_ hbt ?_ (hr.k.size) ?_
  · intro t2 g2 cs2 h1 _ h2
    obtain ⟨b, e1, _, e3⟩ := hr.f.box t2 g2 cs2 h1
    rw [h2] at e1; simp at e1; subst e1
    exact Nat.lt_irrefl _ e3.lt
  · intro i x r h1 h2
    obtain ⟨b, o, sz, C, e1, _, e3⟩ := hr.f.heap.blk i x h1
    rw [h2] at e1; simp at e1
    have := e3.lt
    omega
  · refine ⟨arr, elem, push_get _ _, hl, fun j c hj => ?_⟩
    have hlt : j < arr.size := by have := (List.getElem?_eq_some_iff.1 hj).1; omega
    exact ⟨arr[j], Array.getElem?_eq_getElem hlt, (hc j c _ hj (Array.getElem?_eq_getElem hlt)).mono hrd hm⟩
  · refine ⟨N + 1, fun i hi => hN1 i (by omega), fun t2 g2 hg => ?_, fun i k hi => hN3 i k (by omega)⟩
    simp only [Maps.setBt]
    rw [if_neg (by omega)]
    exact hN2 t2 g2 (by omega)

/-- A new block of our own: of elements, or a map; what the heap held before may have been struck in part. -/
theorem Rel.newBlk {cx : Cx} {own : Nat → Prop} {m : Maps} {s : S} {tmps : Array Value} {w : World} (hr : Rel cx own m s tmps w) (h1 : Heap) (h1le : h1.le s.h) (obj : Obj) (sz C : Nat) (x : Blk)
    (hx : ∀ own2 m2 id, (∀ b o u, Rd own w b o u → Rd own2 (push w obj) b o u) → m.le m2 → (∀ i, m2.bo id i = none) → m.sg id = none → BlkAt (Rd own2 (push w obj)) m2 (push w obj) id w.heap.size 0 sz C x)
    (L : List Nat) :
    ∃ own2 m2 id, s.h id = none ∧ id ∉ L ∧ m2.sg id = some (w.heap.size, 0, sz, C) ∧ (∀ b o u, Rd own w b o u → Rd own2 (push w obj) b o u) ∧ m.le m2 ∧ Rel cx own2 m2 { s with h := h1.upd id (some x) } tmps (push w obj) := by
  obtain ⟨N0, hN1, hN2, hN3⟩ := hr.f.fin
  obtain ⟨N, hN0, hNL⟩ : ∃ N, N0 ≤ N ∧ N ∉ L := by
    refine ⟨N0 + L.sum + 1, by omega, fun hmem => ?_⟩
    have := le_sum L _ hmem
    omega
  have hfresh : m.sg N = none := hN1 N hN0
  have hnone : s.h N = none := by
    cases hh : s.h N with
    | none => rfl
    | some y => obtain ⟨b, o, sz, C, e1, _⟩ := hr.f.heap.blk N y hh; rw [hfresh] at e1; cases e1
  have hm := Maps.le_setSg (x := (w.heap.size, 0, sz, C)) hfresh
  let own2 : Nat → Prop := fun x => own x ∨ x = w.heap.size
  have hsg : (m.setSg N (w.heap.size, 0, sz, C)).sg N = some (w.heap.size, 0, sz, C) := by simp [Maps.setSg]
  have hrd := rd_mono (own2 := own2) (push_other w obj) (b := w.heap.size) (.inr (Nat.le_refl _)) (fun x hx _ => hx)
  refine ⟨own2, m.setSg N (w.heap.size, 0, sz, C), N, hnone, hNL, hsg, hrd, hm, ?_⟩
  refine hr.heapSet (b := w.heap.size) (id := N) (push_other _ _) hm (fun _ _ _ h => h) (fun _ _ _ _ h => h) (fun x => Iff.rfl) (.inr (Nat.le_refl _)) ?_ ?_ ?_ ?_ (not_own_big hr) (.inl (fresh_sg hr.k.maps hfresh)) ?_
  · intro t2 g2 cs2 h1 h2
    obtain ⟨b, e1, _, e3⟩ := hr.f.box t2 g2 cs2 h1
    rw [h2] at e1; simp at e1; subst e1
    exact Nat.lt_irrefl _ e3.lt
  · intro i y hi hne
    simp only [Heap.upd, if_neg hne] at hi
    have hi2 := h1le i y hi
    refine ⟨hi2, fun r h2 => ?_⟩
    obtain ⟨b, o, sz, C, e1, _, e3⟩ := hr.f.heap.blk i y hi2
    rw [h2] at e1; simp at e1
    have := e3.lt
    omega
  · intro y hy
    simp [Heap.upd] at hy
    subst hy
    exact ⟨0, sz, C, hsg, hx own2 _ N hrd hm (fun i => hN3 N i hN0) hfresh⟩
  · intro h; have := hr.k.size; omega
  · refine ⟨N + 1, fun i hi => ?_, fun t g hg => hN2 t g (by omega), fun i k hi => hN3 i k (by omega)⟩
    simp only [Maps.setSg]
    rw [if_neg (by omega)]
    exact hN1 i (by omega)

/-! ### Stores -/

theorem setCells_heap (b : Nat) {ty : TypeId} : ∀ (vs : List Value) (o : Nat) (w : World) (arr : Array Value), w.heap[b]? = some (.cells arr ty (0, 0)) →
    ∃ arr2, (w.setCells b o vs).heap[b]? = some (.cells arr2 ty (0, 0)) ∧ arr2.size = arr.size ∧ (∀ i, arr2[i]? = if o ≤ i ∧ i < o + vs.length ∧ i < arr.size then vs[i - o]? else arr[i]?) ∧
      (w.setCells b o vs).heap.size = w.heap.size ∧ ∀ x, x ≠ b → (w.setCells b o vs).heap[x]? = w.heap[x]?
  | [], o, w, arr, h => ⟨arr, h, rfl, fun i => by rw [if_neg (by simp; omega)], rfl, fun _ _ => rfl⟩
  | v :: vs, o, w, arr, h => by
    have h1 : (w.setCell ⟨b, o, none⟩ v).heap[b]? = some (.cells (arr.setIfInBounds o v) ty (0, 0)) := by
      simp [World.setCell, Array.getElem?_modify, h]
    obtain ⟨arr2, e1, e2, e3, e4, e5⟩ := setCells_heap b vs (o + 1) (w.setCell ⟨b, o, none⟩ v) (arr.setIfInBounds o v) h1
    refine ⟨arr2, e1, by simp [e2], fun i => ?_, by rw [World.setCells, e4]; simp [World.setCell], fun x hx => ?_⟩
    · rw [e3]
      simp only [Array.size_setIfInBounds, List.length_cons]
      by_cases h2 : o + 1 ≤ i ∧ i < o + 1 + vs.length ∧ i < arr.size
      · rw [if_pos h2, if_pos (by omega), show i - o = (i - (o + 1)) + 1 by omega, List.getElem?_cons_succ]
      · rw [if_neg h2]
        by_cases h3 : i = o
        · subst h3
          by_cases h4 : i < arr.size
          · rw [if_pos (by omega)]; simp [h4]
          · rw [if_neg (by omega)]; simp [h4]
        · rw [if_neg (by omega), Array.getElem?_setIfInBounds_ne (by omega)]
    · rw [World.setCells, e5 x hx]
      have hx2 : ¬ b = x := fun e => hx e.symm
      simp [World.setCell, Array.getElem?_modify, hx2]

/-- A store of cells into a block that is there. -/
theorem run_storeCells_block {P : Program} {w : World} {b o : Nat} {arr : Array Value} {ty : TypeId} (h : w.heap[b]? = some (.cells arr ty (0, 0))) (vs : List Value) (hle : o + vs.length ≤ arr.size)
    (h1 : ∀ v ∈ vs, v.oneCell' = true) : (Go.storeCells ⟨b, o, none⟩ vs 0).run P w = .ok () (w.setCells b o vs) := by
  have := run_storeCells_cells (P := P) b o vs 0 w (fun j hj => by
      have hlt : o + j < arr.size := by omega
      simp [World.cell?, h, hlt])
    (fun j hj => by simp [World.frozen?, h]) h1
  simpa using this

theorem storeCells_some {cs : List V} {off n : Nat} {v : V} {ds : List V} (h : Abs.storeCells cs off v n = some ds) : ∃ es, cellsOf v = some es ∧ es.length = n ∧ off + n ≤ cs.length ∧ ds = over cs off es := by
  unfold Abs.storeCells at h
  split at h
  · rename_i es hes
    split at h
    · rename_i hc
      simp at h
      exact ⟨es, hes, hc.1, hc.2, h.symm⟩
    · cases h
  · cases h

theorem boxOf_some {bx : List (Option (Nat × List V))} {t g : Nat} {cs : List V} (h : boxOf bx t g = some cs) : bx[t]? = some (some (g, cs)) := by
  unfold boxOf at h
  split at h
  · rename_i g2 cs2 hg
    split at h
    · rename_i e; subst e
      simp at h; subst h
      rw [List.getD_eq_getElem?_getD] at hg
      cases hh : bx[t]? with
      | none => simp [hh] at hg
      | some y => simp [hh] at hg; rw [hg]
    · cases h
  · cases h

theorem cr_list {rd : Reads} {m : Maps} {v : V} {u : Value} (hv : VR rd m v u) {es : List V} (h : cellsOf v = some es) : u.cells.size = es.length ∧ (∀ x ∈ u.cells.toList, x.oneCell' = true) ∧
    ∀ (i : Nat) (c : V) (x : Value), es[i]? = some c → u.cells[i]? = some x → CR rd m c x := by
  obtain ⟨h1, h2⟩ := cells_ok hv h
  refine ⟨h1, fun x hx => ?_, h2⟩
  obtain ⟨i, hi⟩ := List.getElem?_of_mem hx
  have hi2 : u.cells[i]? = some x := by simpa using hi
  have hlt : i < es.length := by have := (Array.getElem?_eq_some_iff.1 hi2).1; omega
  exact (h2 i es[i] x (List.getElem?_eq_getElem hlt) hi2).2

/-- A store through an address. -/
theorem store_ok {P : Program} {cx : Cx} {own : Nat → Prop} {m : Maps} {s : S} {tmps : Array Value} {w : World} (hr : Rel cx own m s tmps w) {p v : V} {pu vu : Value} (hp : VR (Rd own w) m p pu) (hv : VR (Rd own w) m v vu)
    {t n : Nat} (ht : sizeB P t = some n) {s2 : S} (h : storeOf s p v n = some s2) :
    ∃ w2, (Instr.storeAt t pu vu).run P w = .ok () w2 ∧ Rel cx own m s2 tmps w2 := by
  unfold storeOf at h
  split at h
  · rename_i tt g off
    split at h
    · rename_i cs hb
      split at h
      · rename_i ds hds
        simp at h; subst h
        obtain ⟨es, hes, hn, hle, rfl⟩ := storeCells_some hds
        have hbx := boxOf_some hb
        obtain ⟨b, hbt, hown, arr, ty, hw, hsz, hc⟩ := hr.f.box tt g cs hbx
        obtain ⟨hvl, hv1, hvc⟩ := cr_list hv hes
        cases hp with
        | lp _ _ _ b' h' =>
          rw [hbt] at h'; simp at h'; subst h'
          have hrun := run_storeCells_block (P := P) (o := off) hw vu.cells.toList (by simp; omega) hv1
          refine ⟨w.setCells b off vu.cells.toList, ?_, ?_⟩
          · simp only [Instr.storeAt, Instr.sureAddr, storeVar, Sem.run_bind, Sem.run_pure, Result.andThen_ok, run_sizeB ht]
            rw [if_neg (by omega)]
            simp [hrun]
          · obtain ⟨arr2, e1, e2, e3, e4, e5⟩ := setCells_heap b vu.cells.toList off w arr hw
            have hoth : Other w (w.setCells b off vu.cells.toList) b := ⟨setCells_io _ _ _ _, by omega, fun x hx _ => e5 x hx⟩
            have hrd := rd_mono (own2 := own) hoth (.inl hown) (fun x hx _ => .inl hx)
            refine hr.boxSet (b := b) hoth (Maps.le.refl m) (fun _ _ h => h) (fun _ _ _ h => h) (fun x => ⟨.inl, fun h => h.elim id (fun e => e ▸ hown)⟩) (.inl hown) ?_ ?_ hbt ?_ (hr.k.bxs tt g cs b hbx hbt) hr.f.fin
            · intro t2 g2 cs2 h1 hne h2
              exact hne (hr.f.binj t2 g2 cs2 tt g cs b h1 hbx h2 hbt)
            · intro i x r h1 h2
              exact hr.f.bh tt g cs i x b r hbx h1 hbt h2
            · refine ⟨arr2, ty, e1, by rw [e2, hsz, over_length _ _ _ (by omega)], fun j c hj => ?_⟩
              rw [over_get _ _ _ _ (by omega)] at hj
              rw [e3]
              simp only [Array.length_toList]
              split at hj
              · rename_i hi
                have hlt : j - off < vu.cells.size := by omega
                rw [if_pos (by omega)]
                exact ⟨vu.cells[j - off], by simp [hlt], (hvc _ c _ hj (Array.getElem?_eq_getElem hlt)).mono hrd (Maps.le.refl m)⟩
              · rename_i hi
                obtain ⟨u, hu, hcu⟩ := hc j c hj
                exact ⟨u, by rw [if_neg (by omega)]; exact hu, hcu.mono hrd (Maps.le.refl m)⟩
      · cases h
    · cases h
  · rename_i id i off
    split at h
    · rename_i sz els hh
      split at h
      · rename_i cs hel
        split at h
        · rename_i ds hds
          simp at h; subst h
          obtain ⟨es, hes, hn, hle, rfl⟩ := storeCells_some hds
          obtain ⟨b, ob, C, hsg, hown, arr, ty, hw, hsz, hlc, hwd, hc⟩ := hr.f.heap.arr id sz els hh
          obtain ⟨hvl, hv1, hvc⟩ := cr_list hv hes
          have hcsl := hwd i cs hel
          have hiC : i < C := by have := (List.getElem?_eq_some_iff.1 hel).1; omega
          have hbnd : ob + (i * sz + sz) ≤ arr.size := by
            rw [hsz]
            refine Nat.add_le_add_left ?_ _
            calc i * sz + sz = (i + 1) * sz := by rw [Nat.add_mul, Nat.one_mul]
              _ ≤ C * sz := Nat.mul_le_mul_right _ hiC
          cases hp with
          | ep _ _ _ b' o' sz' C' h' =>
            rw [hsg] at h'; simp at h'; obtain ⟨rfl, rfl, rfl, rfl⟩ := h'
            have hrun := run_storeCells_block (P := P) (o := ob + i * sz + off) hw vu.cells.toList (by simp; omega) hv1
            refine ⟨w.setCells b (ob + i * sz + off) vu.cells.toList, ?_, ?_⟩
            · simp only [Instr.storeAt, Instr.sureAddr, storeVar, Sem.run_bind, Sem.run_pure, Result.andThen_ok, run_sizeB ht]
              rw [if_neg (by omega)]
              simp [hrun]
            · obtain ⟨arr2, e1, e2, e3, e4, e5⟩ := setCells_heap b vu.cells.toList (ob + i * sz + off) w arr hw
              have hoth : Other w (w.setCells b (ob + i * sz + off) vu.cells.toList) b := ⟨setCells_io _ _ _ _, by omega, fun x hx _ => e5 x hx⟩
              have hrd := rd_mono (own2 := own) hoth (.inl hown) (fun x hx _ => .inl hx)
              obtain ⟨hkf, hk0⟩ := hr.k.ids id _ b _ hh hsg
              refine hr.heapSet (b := b) (id := id) hoth (Maps.le.refl m) (fun _ _ _ h => h) (fun _ _ _ _ h => h) (fun x => ⟨.inl, fun h => h.elim _root_.id (fun e => e ▸ hown)⟩) (.inl hown) ?_ ?_ ?_ hk0 hkf (hr.k.live id _ hh) hr.f.fin
              · intro t2 g2 cs2 h1 h2
                exact hr.f.bh t2 g2 cs2 id _ b _ h1 hh h2 hsg
              · intro k x hk hne
                simp only [Heap.upd, if_neg hne] at hk
                refine ⟨hk, fun r h2 => hne (hr.f.heap.inj k id x _ b _ _ hk hh h2 hsg)⟩
              · intro x hx
                simp [Heap.upd] at hx
                subst hx
                refine ⟨ob, sz, C, hsg, rfl, arr2, ty, e1, by rw [e2, hsz], by simpa using hlc, ?_, ?_⟩
                · intro k y hk
                  rw [List.getElem?_set] at hk
                  split at hk
                  · split at hk
                    · simp at hk; subst hk; rw [over_length _ _ _ (by omega)]; exact hcsl
                    · cases hk
                  · exact hwd k y hk
                · intro k y j c hk hj
                  rw [e3]
                  simp only [Array.length_toList]
                  have hjsz : j < sz := by
                    have hyl : y.length = sz := by
                      rw [List.getElem?_set] at hk
                      split at hk
                      · split at hk
                        · simp at hk; subst hk; rw [over_length _ _ _ (by omega)]; exact hcsl
                        · cases hk
                      · exact hwd k y hk
                    have := (List.getElem?_eq_some_iff.1 hj).1; omega
                  rw [List.getElem?_set] at hk
                  split at hk
                  · rename_i hki; subst hki
                    split at hk
                    · simp at hk; subst hk
                      rw [over_get _ _ _ _ (by omega)] at hj
                      split at hj
                      · rename_i hi
                        have hlt : j - off < vu.cells.size := by omega
                        rw [if_pos (by omega)]
                        refine ⟨vu.cells[j - off], by rw [show ob + i * sz + j - (ob + i * sz + off) = j - off by omega]; simp [hlt], (hvc _ c _ hj (Array.getElem?_eq_getElem hlt)).mono hrd (Maps.le.refl m)⟩
                      · rename_i hi
                        obtain ⟨u, hu, hcu⟩ := hc i cs j c hel hj
                        exact ⟨u, by rw [if_neg (by omega)]; exact hu, hcu.mono hrd (Maps.le.refl m)⟩
                    · cases hk
                  · rename_i hki
                    obtain ⟨u, hu, hcu⟩ := hc k y j c hk hj
                    have hout : ¬ (ob + i * sz + off ≤ ob + k * sz + j ∧ ob + k * sz + j < ob + i * sz + off + vu.cells.size ∧ ob + k * sz + j < arr.size) := by
                      intro ⟨ha, hb, _⟩
                      rcases Nat.lt_or_gt_of_ne hki with hlt | hgt
                      · have : (i + 1) * sz ≤ k * sz := Nat.mul_le_mul_right _ hlt
                        rw [Nat.add_mul, Nat.one_mul] at this; omega
                      · have : (k + 1) * sz ≤ i * sz := Nat.mul_le_mul_right _ hgt
                        rw [Nat.add_mul, Nat.one_mul] at this; omega
                    exact ⟨u, by rw [if_neg hout]; exact hu, hcu.mono hrd (Maps.le.refl m)⟩
        · cases h
      · cases h
    · cases h
  · cases h

end Go.Abs
