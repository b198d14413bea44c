/-
  Slices: 'append', 'copy', 'make', literals, in the model.
-/
import Derived.Test.YtfgkfjmbjopfgaaAbsEff
import Derived.Laws.Append
set_option linter.unusedVariables false
set_option linter.unusedSimpArgs false
namespace Go.Abs
open Go

/-- An element type's cells, bytes, and zero. -/
def elemOk (P : Program) (e : TypeId) (sz bytes : Nat) : Bool :=
  match P.info? e with
  | some i => i.size == sz && i.bytes == bytes && sz != 0 && (match i.zero with | some z => z.cells.size == sz | none => false)
  | none => false

theorem elemOk_some {P : Program} {e : TypeId} {sz bytes : Nat} (h : elemOk P e sz bytes = true) : ∃ i z, P.info? e = some i ∧ i.size = sz ∧ i.bytes = bytes ∧ sz ≠ 0 ∧ i.zero = some z ∧ z.cells.size = sz := by
  unfold elemOk at h
  split at h
  · rename_i i hi
    simp only [Bool.and_eq_true, beq_iff_eq, bne_iff_ne] at h
    obtain ⟨⟨⟨h1, h2⟩, h3⟩, h4⟩ := h
    split at h4
    · rename_i z hz
      exact ⟨i, z, hi, h1, h2, h3, hz, by simpa using h4⟩
    · cases h4
  · cases h

theorem grow_le (n : Nat) : ∀ (r c : Nat), c < n → Builtin.growBy n r c ≤ n + (n + 768) / 4
  | 0, c, h => by simp only [Builtin.growBy]; omega
  | r + 1, c, h => by
    simp only [Builtin.growBy]
    split
    · omega
    · by_cases h2 : c + (c + 768) / 4 < n
      · exact grow_le n r _ h2
      · cases r with
        | zero => simp only [Builtin.growBy]; omega
        | succ r => simp only [Builtin.growBy]; rw [if_pos (by omega)]; omega

theorem nextcap_le (need cap : Nat) (h : cap < need) : Builtin.nextslicecap need cap ≤ 2 * need + 768 := by
  unfold Builtin.nextslicecap
  split
  · omega
  · split
    · omega
    · have := grow_le need 4 cap h; omega

/-- A slice to append to. -/
inductive AppTo (s : S) : V → Nat → List (List V) → Heap → List Nat → Prop
  | nsl (sz : Nat) : AppTo s .nsl sz [] s.h []
  | msl (id off ln sz : Nat) (els : List (List V)) (hh : s.h id = some (.arr sz els)) (hle : off + ln ≤ els.length) : AppTo s (.msl id off ln) sz ((els.drop off).take ln) (s.h.upd id Option.none) [id]

theorem Heap.upd_none_le (h : Heap) (id : Nat) : (h.upd id Option.none).le h := by
  intro i b hi
  simp only [Heap.upd] at hi
  split at hi
  · cases hi
  · exact hi

theorem AppTo.le {s : S} {x : V} {sz : Nat} {old : List (List V)} {h1 : Heap} {L : List Nat} (h : AppTo s x sz old h1 L) : h1.le s.h := by
  cases h with
  | nsl => exact fun _ _ h => h
  | msl id off ln _ els hh hle => exact Heap.upd_none_le _ _

/-- A block of our own under another name, with other elements. -/
theorem Rel.rename {cx : Cx} {own : Nat → Prop} {m : Maps} {s : S} {tmps : Array Value} {w w2 : World} (hr : Rel cx own m s tmps w) {id b : Nat} {x : Blk} {r : Nat × Nat × Nat} (hh : s.h id = some x) (hsg : m.sg id = some (b, r))
    (hown : own b) (hoth : Other w w2 b) {o2 sz C2 : Nat} {els2 : List (List V)}
    (hat : ∀ m2, m.le m2 → (∀ x o u, Rd own w x o u → Rd own w2 x o u) → ArrAt (Rd own w2) m2 w2 b o2 sz C2 els2) :
    ∃ m2 id2, s.h id2 = none ∧ id2 ≠ id ∧ m.le m2 ∧ m2.sg id2 = some (b, o2, sz, C2) ∧ Rel cx own m2 { s with h := (s.h.upd id Option.none).upd id2 (some (.arr sz els2)) } tmps w2 := by
  obtain ⟨N0, hN1, hN2, hN3⟩ := hr.f.fin
  obtain ⟨N, hN, hNid⟩ : ∃ N, N0 ≤ N ∧ N ≠ id := ⟨N0 + id + 1, by omega, by omega⟩
  have hfresh : m.sg N = none := hN1 N hN
  have hnone : s.h N = none := by
    cases hhN : s.h N with
    | none => rfl
    | some y => obtain ⟨b, o, sz, C, e1, _⟩ := hr.f.heap.blk N y hhN; rw [hfresh] at e1; cases e1
  have hm := Maps.le_setSg (x := (b, o2, sz, C2)) hfresh
  have hsgN : (m.setSg N (b, o2, sz, C2)).sg N = some (b, o2, sz, C2) := by simp [Maps.setSg]
  have hrd := rd_mono (own2 := own) hoth (.inl hown) (fun x hx _ => .inl hx)
  obtain ⟨hkf, hk0⟩ := hr.k.ids id _ b _ hh hsg
  refine ⟨_, N, hnone, hNid, hm, hsgN, ?_⟩
  refine hr.heapSet (b := b) (id := N) hoth hm (fun _ _ _ h => h) (fun _ _ _ _ h => h) (fun x => ⟨.inl, fun h => h.elim _root_.id (fun e => e ▸ hown)⟩) (.inl hown) ?_ ?_ ?_ hk0 hkf (.inl (fresh_sg hr.k.maps hfresh)) ?_
  · intro t2 g2 cs2 h1 h2
    exact hr.f.bh t2 g2 cs2 id _ b _ h1 hh h2 hsg
  · intro k x hk hne
    simp only [Heap.upd, if_neg hne] at hk
    split at hk
    · cases hk
    · rename_i hkid
      exact ⟨hk, fun r h2 => hkid (hr.f.heap.inj k id x _ b _ _ hk hh h2 hsg)⟩
  · intro x hx
    simp [Heap.upd] at hx
    subst hx
    exact ⟨o2, sz, C2, hsgN, rfl, hat _ hm hrd⟩
  · refine ⟨N + 1, fun i hi => ?_, fun t g hg => hN2 t g (by omega), fun i k hi => hN3 i k (by omega)⟩
    simp only [Maps.setSg]
    rw [if_neg (by omega)]
    exact hN1 i (by omega)

theorem upd_upd_none (h : Heap) (id id2 : Nat) (x : Blk) : (h.upd id Option.none).upd id2 (some x) = (h.upd id Option.none).upd id2 (some x) := rfl

theorem grownCap_ge' (w : World) (need old : Nat) (e : TypeId) : need ≤ grownCap w need old e := by simp [grownCap, Question.cut]

/-- 'append', where there is room. -/
theorem append_fit {P : Program} {w w2 : World} {t1 t2 e ty sz n l cap : Nat} {a : Addr} {yu : Value} {arr : Array Value} (hu : P.underlying t1 = some (.slice e))
    (hd : (∃ e2, P.underlying t2 = some (.slice e2)) ∨ P.underlying t2 = some .string) (hsize : (sizeOf e).run P w = .ok sz w) (hlen : (Builtin.lenOf yu).run P w = .ok n w) (hfit : l + n ≤ cap)
    (hnf : (Builtin.firstCells sz n yu).run P w = .ok arr w) (hst : (Go.storeCells (a.add (l * sz)) arr.toList 0).run P w = .ok () w2) :
    (Builtin.append_ #[t1, t2] ty #[.slice (some a) l cap, yu]).run P w = .ok (.slice (some a) (l + n) cap) w2 := by
  rcases hd with ⟨e2, hd⟩ | hd <;> simp [Builtin.append_, run_und hu, run_und hd, hsize, hlen, hfit, hnf, hst]

/-- 'append' into a new block. -/
theorem append_grow {P : Program} {w : World} {t1 t2 e ty sz n l cap : Nat} {base : Option Addr} {yu : Value} {arr old : Array Value} {i : TypeInfo} {z : Value} (hu : P.underlying t1 = some (.slice e))
    (hd : (∃ e2, P.underlying t2 = some (.slice e2)) ∨ P.underlying t2 = some .string) (hi : P.info? e = some i) (hz : i.zero = some z) (hsz : i.size = sz) (hlen : (Builtin.lenOf yu).run P w = .ok n w) (hfit : cap < l + n)
    (hb : Builtin.nextslicecap (l + n) cap * i.bytes ≤ 281474976710656) (h63 : i.bytes ≠ 0)
    (hof : (Builtin.firstCells sz l (.slice base l cap)).run P { w with drawn := w.drawn + 1 } = .ok old { w with drawn := w.drawn + 1 })
    (hnf : (Builtin.firstCells sz n yu).run P { w with drawn := w.drawn + 1 } = .ok arr { w with drawn := w.drawn + 1 }) :
    (Builtin.append_ #[t1, t2] ty #[.slice base l cap, yu]).run P w =
      .ok (.slice (some ⟨w.heap.size, 0, none⟩) (l + n) (grownCap w (l + n) cap e)) (push { w with drawn := w.drawn + 1 } (.cells (old ++ arr ++ Builtin.zeroCells z.cells (grownCap w (l + n) cap e - (l + n))) e)) := by
  have hn : ¬ (l + n ≤ cap) := by omega
  have h48' : ¬ (281474976710656 < Builtin.nextslicecap (l + n) cap * i.bytes) := by omega
  subst hsz
  have hof2 : (Builtin.firstCells i.size l (.slice base l cap)).run P w.drew = .ok old w.drew := hof
  have hnf2 : (Builtin.firstCells i.size n yu).run P w.drew = .ok arr w.drew := hnf
  rw [Array.append_assoc]
  rcases hd with ⟨e2, hd⟩ | hd <;> simp [Builtin.append_, run_und hu, run_und hd, sizeOf, typeInfo, zeroValue, hi, hz, hlen, hn, h63, h48', Question.forced, hof2, hnf2, newRow, grownCap] <;> rfl

set_option maxHeartbeats 800000 in
theorem app_ok {P : Program} {cx : Cx} {own : Nat → Prop} {m : Maps} {s : S} {tmps : Array Value} {w : World} (hr : Rel cx own m s tmps w) {x y : V} {xu yu : Value} (hx : VR (Rd own w) m x xu) (hy : VR (Rd own w) m y yu)
    {t1 t2 e ty sz bytes : Nat} (hu : P.underlying t1 = some (.slice e)) (hb0 : bytes ≠ 0) (ht2 : undB P t2 (fun d => match d with | .slice _ | .string => true | _ => false) = true) (he : elemOk P e sz bytes = true)
    {new : List (List V)} (hn : elemsOf s.h y = some new) (hnz : ∀ z ∈ new, z.length = sz) {old : List (List V)} {h1 : Heap} {L : List Nat} (hto : AppTo s x sz old h1 L)
    (hb : (old.length + new.length) * bytes ≤ 70368744177664) (hne : x = .nsl → new ≠ []) :
    ∃ own2 m2 id u w2, s.h id = none ∧ id ∉ L ∧ (Builtin.append_ #[t1, t2] ty #[xu, yu]).run P w = .ok u w2 ∧
      Rel cx own2 m2 { s with h := h1.upd id (some (.arr sz (old ++ new))) } tmps w2 ∧ VR (Rd own2 w2) m2 (.msl id 0 (old.length + new.length)) u := by
  obtain ⟨inf, z, hinf, his, hib, hs0, hz, hzs⟩ := elemOk_some he
  have hd : (∃ e2, P.underlying t2 = some (.slice e2)) ∨ P.underlying t2 = some .string := by
    obtain ⟨d2, hd2, hdd⟩ := undB_some ht2
    cases d2 <;> simp at hdd
    · exact .inr hd2
    · exact .inl ⟨_, hd2⟩
  -- what is read, in any world of the same memory
  have hread : ∀ d : Nat, let w1 : World := { w with drawn := d }
      ∃ narr : List Value, Laid (Rd own w) m narr sz new ∧ (Builtin.lenOf yu).run P w1 = .ok new.length w1 ∧ (Builtin.firstCells sz new.length yu).run P w1 = .ok narr.toArray w1 := by
    intro d w1
    have hr1 : Rel cx own m s tmps w1 := hr.heap_eq rfl
    obtain ⟨hlen, narr, hnl, hnf⟩ := elems_ok (P := P) hr1.f (y := y) (u := yu) hy hn hnz
    have hnf1 := hnf new.length (Nat.le_refl _)
    rw [show narr.take (new.length * sz) = narr from List.take_of_length_le (by rw [hnl.1]; exact Nat.le_refl _)] at hnf1
    exact ⟨narr, hnl, hlen, hnf1⟩
  obtain ⟨base, cap, rfl, hcap, hold⟩ : ∃ base cap, xu = .slice base old.length cap ∧ old.length ≤ cap ∧
      ∀ d : Nat, let w1 : World := { w with drawn := d }
      ∃ oarr : List Value, Laid (Rd own w) m oarr sz old ∧ (Builtin.firstCells sz old.length xu).run P w1 = .ok oarr.toArray w1 := by
    cases hto with
    | nsl =>
      rw [nsl_inv hx]
      exact ⟨none, 0, rfl, by simp, fun d => ⟨[], ⟨by simp, by simp, by simp⟩, by simp [Builtin.firstCells]⟩⟩
    | msl id off ln _ els hh hle =>
      have hel : elemsOf s.h (.msl id off ln) = some ((els.drop off).take ln) := by simp [elemsOf, hh, hle]
      obtain ⟨b2, o2, C2, hsg2, _, arr0, ty0, hw, has, hlc, hwd, hc⟩ := hr.f.heap.arr id sz els hh
      have hlen2 : ((els.drop off).take ln).length = ln := by simp; omega
      have hx' := hx
      obtain ⟨b, ob, sz3, C, a, cap, hxu, hsg, hor⟩ := msl_inv hx
      refine ⟨some a, cap, by rw [hlen2]; exact hxu, by rw [hlen2]; rcases hor with h | h <;> omega, fun d => ?_⟩
      intro w1
      have hr1 : Rel cx own m s tmps w1 := hr.heap_eq rfl
      obtain ⟨_, oarr, hol, hof⟩ := elems_ok (P := P) hr1.f (y := .msl id off ln) (u := xu) hx' hel (fun zz hzz => by
        obtain ⟨i, hi⟩ := List.getElem?_of_mem hzz
        simp [List.getElem?_take] at hi
        exact hwd _ zz hi.2)
      refine ⟨oarr, hol, ?_⟩
      have := hof _ (Nat.le_refl _)
      rwa [show oarr.take (((els.drop off).take ln).length * sz) = oarr from List.take_of_length_le (by rw [hol.1]; exact Nat.le_refl _)] at this
  have hsize : ∀ w : World, (sizeOf e).run P w = .ok sz w := fun w => run_sizeB (by simp [sizeB, hinf, his])
  obtain ⟨narr, hnl, hlen, hnf⟩ := hread w.drawn
  by_cases hfit : old.length + new.length ≤ cap
  · -- there is room
    cases hto with
    | nsl =>
      have := nsl_inv hx
      simp at this
      obtain ⟨_, rfl⟩ := this
      have h0 : new.length = 0 := by simpa using hfit
      exact absurd (List.eq_nil_of_length_eq_zero h0) (hne rfl)
    | msl id off ln _ els hh hle =>
      obtain ⟨b, ob, sz3, C, a, cap', hxe, hsg, hor⟩ := msl_inv hx
      injection hxe with hbase hln hcapp
      subst hcapp; subst hbase
      obtain ⟨b2, o2, C2, hsg2, hown, arr0, ty0, hw, has, hlc, hwd, hc⟩ := hr.f.heap.arr id sz els hh
      rw [hsg] at hsg2; simp at hsg2; obtain ⟨rfl, rfl, rfl, rfl⟩ := hsg2
      have hlen2 : ((els.drop off).take ln).length = ln := by simp; omega
      have hrun : ∀ w2, (Go.storeCells (a.add (((els.drop off).take ln).length * sz3)) narr 0).run P w = .ok () w2 →
          (Builtin.append_ #[t1, t2] ty #[.slice (some a) ((els.drop off).take ln).length cap, yu]).run P w = .ok (.slice (some a) (((els.drop off).take ln).length + new.length) cap) w2 := by
        intro w2 hst
        exact append_fit hu hd (hsize w) hlen hfit hnf hst
      rcases hor with ⟨hl0, hc0⟩ | ⟨rfl, hC, hlc2⟩
      · -- no room at all: nothing is there, and nothing comes
        have hn0 : new = [] := List.eq_nil_of_length_eq_zero (by omega)
        subst hn0
        have hna : narr = [] := List.eq_nil_of_length_eq_zero (by rw [hnl.1]; simp)
        subst hna
        obtain ⟨m2, id2, e1, e2, e3, e4, e5⟩ := hr.rename (w2 := w) hh hsg hown ⟨Io.refl _, Nat.le_refl _, fun _ _ _ => rfl⟩ (o2 := ob) (sz := sz3) (C2 := C) (els2 := (els.drop off).take ln ++ [])
          (fun m2 hm _ => ⟨arr0, ty0, hw, has, by simp; omega, by rw [hl0]; simp, by rw [hl0]; simp⟩)
        refine ⟨own, m2, id2, _, w, e1, by simpa using e2, hrun w (by simp [Go.storeCells]), e5, ?_⟩
        exact .msl _ _ _ b ob sz3 C a cap e4 (.inl ⟨by rw [hlen2]; simp [hl0], hc0⟩)
      · rw [hlen2] at hrun hfit
        have hbnd : ob + off * sz3 + ln * sz3 + narr.length ≤ arr0.size := by
          rw [has, hnl.1, Nat.add_assoc, Nat.add_assoc, ← Nat.add_mul, ← Nat.add_mul]
          exact Nat.add_le_add_left (Nat.mul_le_mul_right _ (by omega)) _
        have hst := run_storeCells_block (P := P) (o := ob + off * sz3 + ln * sz3) hw narr hbnd hnl.one
        obtain ⟨arr2, f1, f2, f3, f4, f5⟩ := setCells_heap b narr (ob + off * sz3 + ln * sz3) w arr0 hw
        have hoth : Other w (w.setCells b (ob + off * sz3 + ln * sz3) narr) b := ⟨setCells_io _ _ _ _, by omega, fun x hx _ => f5 x hx⟩
        obtain ⟨m2, id2, e1, e2, e3, e4, e5⟩ := hr.rename (w2 := w.setCells b (ob + off * sz3 + ln * sz3) narr) hh hsg hown hoth (o2 := ob + off * sz3) (sz := sz3) (C2 := cap) (els2 := (els.drop off).take ln ++ new)
          (fun m2 hm hrd => by
            refine ⟨arr2, ty0, f1, by rw [f2, has, ← hC, Nat.add_mul]; omega, by simp; omega, ?_, ?_⟩
            · intro i y hy
              rw [List.getElem?_append] at hy
              split at hy
              · simp [List.getElem?_take] at hy
                exact hwd _ y hy.2
              · exact hnz y (List.mem_of_getElem? hy)
            · intro i y j c hy hj
              rw [f3]
              rw [List.getElem?_append] at hy
              split at hy
              · rename_i hi
                rw [hlen2] at hi
                simp [List.getElem?_take] at hy
                obtain ⟨u, hu, hcu⟩ := hc _ y j c hy.2 hj
                have hjs : j < sz3 := by rw [← hwd _ y hy.2]; exact (List.getElem?_eq_some_iff.1 hj).1
                have : (i + 1) * sz3 ≤ ln * sz3 := Nat.mul_le_mul_right _ hi
                rw [Nat.add_mul, Nat.one_mul] at this
                rw [if_neg (by omega)]
                refine ⟨u, ?_, hcu.mono hrd hm⟩
                rw [Nat.add_mul] at hu
                rw [show ob + off * sz3 + i * sz3 + j = ob + (off * sz3 + i * sz3) + j by omega]
                exact hu
              · rename_i hi
                rw [hlen2] at hi hy
                obtain ⟨u, hu, hcu⟩ := hnl.2.2 _ y j c hy hj
                have hlt := (List.getElem?_eq_some_iff.1 hu).1
                have hsub : (i - ln) * sz3 = i * sz3 - ln * sz3 := Nat.sub_mul _ _ _
                have hge : ln * sz3 ≤ i * sz3 := Nat.mul_le_mul_right _ (by omega)
                refine ⟨u, ?_, hcu.mono hrd hm⟩
                rw [if_pos (by omega), show ob + off * sz3 + i * sz3 + j - (ob + off * sz3 + ln * sz3) = (i - ln) * sz3 + j by omega]
                exact hu)
        rw [hlen2]
        refine ⟨own, m2, id2, _, _, e1, by simpa using e2, hrun _ (by rw [add_none]; exact hst), e5, ?_⟩
        refine .msl _ _ _ b (ob + off * sz3) sz3 cap _ cap e4 (.inr ⟨by simp, by omega, by omega⟩)
  · -- a new block
    have hcap0 : cap < old.length + new.length := by omega
    obtain ⟨oarr, hol, hof⟩ := hold (w.drawn + 1)
    obtain ⟨narr2, hnl2, hlen2, hnf2⟩ := hread (w.drawn + 1)
    have hbytes := growslice_fits hcap0 (bytes := bytes) (by omega)
    have hgc := grownCap_ge' w (old.length + new.length) cap e
    have hr1 : Rel cx own m s tmps { w with drawn := w.drawn + 1 } := hr.heap_eq rfl
    have hall := hol.append hnl2
    obtain ⟨own2, m2, id2, e1, e2, e3, e4, e5, e6⟩ := hr1.newBlk h1 hto.le
      (.cells (oarr.toArray ++ narr2.toArray ++ Builtin.zeroCells z.cells (grownCap w (old.length + new.length) cap e - (old.length + new.length))) e) sz (grownCap w (old.length + new.length) cap e) (.arr sz (old ++ new))
      (fun own2 m2 id hrd hm _ _ => by
        refine ⟨rfl, _, e, push_get _ _, ?_, by simpa using hgc, hall.2.1, ?_⟩
        · simp only [Array.size_append, List.size_toArray, Builtin.zeroCells, Array.size_map, Array.size_range, hol.1, hnl2.1, hzs, Nat.zero_add, ← Nat.add_mul]
          congr 1; omega
        · intro i y j c hy hj
          obtain ⟨u, hu, hcu⟩ := hall.2.2 i y j c hy hj
          refine ⟨u, ?_, hcu.mono hrd hm⟩
          have hlt := (List.getElem?_eq_some_iff.1 hu).1
          rw [Nat.zero_add, Array.getElem?_append_left (by simpa using hlt)]
          simpa using hu) L
    refine ⟨own2, m2, id2, _, _, e1, e2, append_grow hu hd hinf hz his hlen hcap0 (by rw [hib]; exact hbytes) (by rw [hib]; exact hb0) hof hnf2, e6, ?_⟩
    exact .msl _ _ _ w.heap.size 0 sz _ _ _ e3 (.inr ⟨by simp, by omega, hgc⟩)

end Go.Abs
