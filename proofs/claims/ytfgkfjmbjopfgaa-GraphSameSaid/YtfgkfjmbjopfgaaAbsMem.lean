/-
  Memory that turns: a new block, or one of our own written.
-/
import Derived.Test.YtfgkfjmbjopfgaaAbsVal2
set_option linter.unusedVariables false
set_option linter.unusedSimpArgs false
namespace Go.Abs
open Go

/-- All blocks but one are as they were. -/
structure Other (w w2 : World) (b : Nat) : Prop where
  io : Io w w2
  size : w.heap.size ≤ w2.heap.size
  same : ∀ x, x ≠ b → x < w.heap.size → w2.heap[x]? = w.heap[x]?

theorem cell_heap {w w2 : World} {b : Nat} (h : w2.heap[b]? = w.heap[b]?) (o : Nat) : w2.cell? ⟨b, o, none⟩ = w.cell? ⟨b, o, none⟩ := by
  simp [World.cell?, h]

theorem cell_lt {w : World} {b o : Nat} {u : Value} (h : w.cell? ⟨b, o, none⟩ = some u) : b < w.heap.size := by
  rcases Nat.lt_or_ge b w.heap.size with hb | hb
  · exact hb
  · simp [World.cell?, Array.getElem?_eq_none hb] at h

theorem rd_mono {own own2 : Nat → Prop} {w w2 : World} {b : Nat} (ho : Other w w2 b) (hb : own b ∨ w.heap.size ≤ b) (h2 : ∀ x, own2 x → x < w.heap.size → own x ∨ x = b) :
    ∀ x o u, Rd own w x o u → Rd own2 w2 x o u := by
  intro x o u ⟨h1, hc⟩
  have hlt := cell_lt hc
  have hne : x ≠ b := by
    rintro rfl
    rcases hb with hb | hb
    · exact h1 hb
    · omega
  refine ⟨fun hx => ?_, ?_⟩
  · rcases h2 x hx hlt with h | h
    · exact h1 h
    · exact hne h
  · rw [cell_heap (ho.same x hne hlt)]; exact hc

theorem ArrAt.mono {rd rd2 : Reads} {m m2 : Maps} {w w2 : World} (hr : ∀ b o u, rd b o u → rd2 b o u) (hm : m.le m2) {b o sz C : Nat} {els : List (List V)} (hw : w2.heap[b]? = w.heap[b]?)
    (h : ArrAt rd m w b o sz C els) : ArrAt rd2 m2 w2 b o sz C els := by
  obtain ⟨arr, ty, h1, h2, h3, h4, h5⟩ := h
  exact ⟨arr, ty, by rw [hw]; exact h1, h2, h3, h4, fun i x j c e1 e2 => by obtain ⟨u, hu, hc⟩ := h5 i x j c e1 e2; exact ⟨u, hu, hc.mono hr hm⟩⟩

theorem BoxAt.mono {rd rd2 : Reads} {m m2 : Maps} {w w2 : World} (hr : ∀ b o u, rd b o u → rd2 b o u) (hm : m.le m2) {b : Nat} {cs : List V} (hw : w2.heap[b]? = w.heap[b]?)
    (h : BoxAt rd m w b cs) : BoxAt rd2 m2 w2 b cs := by
  obtain ⟨arr, ty, h1, h2, h5⟩ := h
  exact ⟨arr, ty, by rw [hw]; exact h1, h2, fun j c e => by obtain ⟨u, hu, hc⟩ := h5 j c e; exact ⟨u, hu, hc.mono hr hm⟩⟩

theorem MapAt.mono {rd rd2 : Reads} {m m2 : Maps} {w w2 : World} (hr : ∀ b o u, rd b o u → rd2 b o u) (hm : m.le m2) {id b : Nat} (hbo : BoKeeps m m2 id) {es : List (V × V)} (hw : w2.heap[b]? = w.heap[b]?)
    (h : MapAt rd m w id b es) : MapAt rd2 m2 w2 id b es := by
  obtain ⟨ents, clock, h1, h2, h3, h4, h5⟩ := h
  refine ⟨ents, clock, by rw [hw]; exact h1, h2, fun i e x e1 e2 => ?_, h4, fun i n h1 h2 => h5 i n h1 (hbo i n h2)⟩
  obtain ⟨a, b, c, d⟩ := h3 i e x e1 e2
  exact ⟨a.mono hr hm, b.mono hr hm, hm.bo _ _ _ c, d⟩

theorem BlkAt.mono {rd rd2 : Reads} {m m2 : Maps} {w w2 : World} (hr : ∀ b o u, rd b o u → rd2 b o u) (hm : m.le m2) {id b o sz C : Nat} (hbo : BoKeeps m m2 id) {x : Blk} (hw : w2.heap[b]? = w.heap[b]?)
    (h : BlkAt rd m w id b o sz C x) : BlkAt rd2 m2 w2 id b o sz C x := by
  cases x with
  | arr sz2 els => exact ⟨h.1, ArrAt.mono hr hm hw h.2⟩
  | map es => exact MapAt.mono hr hm hbo hw h

theorem lt_of_heap {w : World} {b : Nat} {o : Obj} (h : w.heap[b]? = some o) : b < w.heap.size := (Array.getElem?_eq_some_iff.1 h).1

theorem BlkAt.lt {rd : Reads} {m : Maps} {w : World} {id b o sz C : Nat} {x : Blk} (h : BlkAt rd m w id b o sz C x) : b < w.heap.size := by
  cases x with
  | arr sz2 els => obtain ⟨_, arr, ty, h1, _⟩ := h; exact lt_of_heap h1
  | map es => obtain ⟨ents, clock, h1, _⟩ := h; exact lt_of_heap h1

theorem BoxAt.lt {rd : Reads} {m : Maps} {w : World} {b : Nat} {cs : List V} (h : BoxAt rd m w b cs) : b < w.heap.size := by
  obtain ⟨arr, ty, h1, _⟩ := h; exact lt_of_heap h1

/-- A world of the same memory. -/
theorem Rel.heap_eq {cx : Cx} {own : Nat → Prop} {m : Maps} {s : S} {tmps : Array Value} {w w2 : World} (h : Rel cx own m s tmps w) (hw : w2.heap = w.heap) (hio : Io w w2 := by exact ⟨rfl, rfl, rfl⟩) : Rel cx own m s tmps w2 := by
  have hrd : ∀ b o u, Rd own w b o u → Rd own w2 b o u := fun b o u ⟨h1, h2⟩ => ⟨h1, by simpa [World.cell?, hw] using h2⟩
  have hm := Maps.le.refl m
  refine ⟨⟨h.f.size, fun t v hv => ?_, fun t g cs hb => ?_, h.f.binj, h.f.bh, ⟨fun id x hx => ?_, h.f.heap.inj⟩, h.f.fin⟩, ⟨h.k.io.trans hio, by rw [hw]; exact h.k.size, fun b h1 h2 => by rw [hw]; exact h.k.same b h1 h2, h.k.old, h.k.maps, h.k.fr, h.k.ids, h.k.bxs, h.k.live, h.k.bo⟩, h.frlt⟩
  · obtain ⟨u, hu, hvr⟩ := h.f.env t v hv
    exact ⟨u, hu, hvr.mono hrd hm⟩
  · obtain ⟨b, h1, h2, h3⟩ := h.f.box t g cs hb
    exact ⟨b, h1, h2, h3.mono hrd hm (by rw [hw])⟩
  · obtain ⟨b, o, sz, C, h1, h2, h3⟩ := h.f.heap.blk id x hx
    exact ⟨b, o, sz, C, h1, h2, h3.mono hrd hm (fun _ _ e => e) (by rw [hw])⟩

/-- A slot is laid. -/
theorem Rel.put {cx : Cx} {own : Nat → Prop} {m : Maps} {s : S} {a : Act} {w : World} (h : Rel cx own m s a.tmps w) (d : Option Nat) {v : V} {u : Value} (hv : VR (Rd own w) m v u) :
    Rel cx own m (s.put d v) (a.put d u).tmps w := by
  cases d with
  | none => exact h
  | some d =>
    refine ⟨⟨by simp [S.put, Act.put, h.f.size], fun t v2 hv2 => ?_, h.f.box, h.f.binj, h.f.bh, h.f.heap, h.f.fin⟩, ⟨h.k.io, h.k.size, h.k.same, h.k.old, h.k.maps, h.k.fr, h.k.ids, h.k.bxs, h.k.live, h.k.bo⟩, h.frlt⟩
    simp only [S.put, List.getElem?_set] at hv2
    simp only [Act.put]
    split at hv2
    · rename_i e; subst e
      split at hv2
      · rename_i hlt
        simp at hv2; subst hv2
        exact ⟨u, by simp [h.f.size, hlt], hv⟩
      · cases hv2
    · rename_i hne
      obtain ⟨u2, hu2, hvr⟩ := h.f.env t v2 hv2
      exact ⟨u2, by rw [Array.getElem?_setIfInBounds_ne hne]; exact hu2, hvr⟩

/-- The heap turns at one name (another one may be struck): block 'b' is it. -/
theorem Rel.heapSet {cx : Cx} {own : Nat → Prop} {m : Maps} {s : S} {tmps : Array Value} {w : World} (hr : Rel cx own m s tmps w) {own2 : Nat → Prop} {m2 : Maps} {h2 : Heap} {w2 : World} {b id : Nat}
    (ho : Other w w2 b) (hm : m.le m2) (hbt : ∀ t g x, m2.bt t g = some x → m.bt t g = some x) (hbo : ∀ i, i ≠ id → BoKeeps m m2 i)
    (hown : ∀ x, own2 x ↔ own x ∨ x = b) (hb : own b ∨ w.heap.size ≤ b)
    (hbox : ∀ (t g : Nat) (cs : List V), s.bx[t]? = some (some (g, cs)) → m.bt t g = some b → False)
    (hids : ∀ i x, h2 i = some x → i ≠ id → s.h i = some x ∧ ∀ r, m.sg i = some (b, r) → False)
    (hid : ∀ x, h2 id = some x → ∃ o sz C, m2.sg id = some (b, o, sz, C) ∧ BlkAt (Rd own2 w2) m2 w2 id b o sz C x)
    (hk0 : b < cx.w0.heap.size → cx.h0 b) (hkf : ¬ cx.fr b) (hlv : cx.m0.sg id = none ∨ cx.dom id)
    (hfin : ∃ N, (∀ i, N ≤ i → m2.sg i = none) ∧ (∀ t g, N ≤ g → m2.bt t g = none) ∧ (∀ i k, N ≤ i → m2.bo i k = none)) : Rel cx own2 m2 { s with h := h2 } tmps w2 := by
  have hrd := rd_mono (own2 := own2) ho hb (fun x hx _ => (hown x).1 hx)
  have hsub : ∀ x, own x → own2 x := fun x hx => (hown x).2 (.inl hx)
  have hblk : ∀ i x, h2 i = some x → i ≠ id → ∃ bb o sz C, m.sg i = some (bb, o, sz, C) ∧ bb ≠ b ∧ own bb ∧ bb < w.heap.size ∧ BlkAt (Rd own2 w2) m2 w2 i bb o sz C x := by
    intro i x hx hne
    obtain ⟨h1, h3⟩ := hids i x hx hne
    obtain ⟨bb, o, sz, C, e1, e2, e3⟩ := hr.f.heap.blk i x h1
    have hbb : bb ≠ b := by rintro rfl; exact h3 _ e1
    exact ⟨bb, o, sz, C, e1, hbb, e2, e3.lt, e3.mono hrd hm (hbo i hne) (ho.same bb hbb e3.lt)⟩
  refine ⟨⟨hr.f.size, fun t v hv => ?_, fun t g cs hc => ?_, ?_, ?_, ⟨fun i x hx => ?_, ?_⟩, hfin⟩, ⟨hr.k.io.trans ho.io, Nat.le_trans hr.k.size ho.size, ?_, ?_, hr.k.maps.trans hm, fun x hx => hsub x (hr.k.fr x hx), ?_, ?_, ?_, ?_⟩, hr.frlt⟩
  · obtain ⟨u, hu, hvr⟩ := hr.f.env t v hv
    exact ⟨u, hu, hvr.mono hrd hm⟩
  · obtain ⟨bb, e1, e2, e3⟩ := hr.f.box t g cs hc
    have hbb : bb ≠ b := by rintro rfl; exact hbox t g cs hc e1
    exact ⟨bb, hm.bt _ _ _ e1, hsub bb e2, e3.mono hrd hm (ho.same bb hbb e3.lt)⟩
  · intro t g cs t2 g2 cs2 bb e1 e2 e3 e4
    exact hr.f.binj t g cs t2 g2 cs2 bb e1 e2 (hbt _ _ _ e3) (hbt _ _ _ e4)
  · intro t g cs i x bb r e1 e2 e3 e4
    have e3' := hbt _ _ _ e3
    by_cases hne : i = id
    · subst hne
      obtain ⟨o, sz, C, f1, _⟩ := hid x e2
      rw [f1] at e4; simp at e4
      obtain ⟨rfl, _⟩ := e4
      exact hbox t g cs e1 e3'
    · obtain ⟨b2, o, sz, C, f1, _⟩ := hblk i x e2 hne
      have f2 := hm.sg _ _ f1
      rw [f2] at e4; simp at e4
      obtain ⟨rfl, rfl⟩ := e4
      exact hr.f.bh t g cs i x b2 _ e1 (hids i x e2 hne).1 e3' f1
  · by_cases hne : i = id
    · subst hne
      obtain ⟨o, sz, C, f1, f2⟩ := hid x hx
      exact ⟨b, o, sz, C, f1, (hown b).2 (.inr rfl), f2⟩
    · obtain ⟨bb, o, sz, C, f1, f2, f3, f4, f5⟩ := hblk i x hx hne
      exact ⟨bb, o, sz, C, hm.sg _ _ f1, hsub bb f3, f5⟩
  · intro i i2 x y bb r r2 e1 e2 e3 e4
    by_cases hne : i = id
    · by_cases hne2 : i2 = id
      · rw [hne, hne2]
      · exfalso
        subst hne
        obtain ⟨o, sz, C, f1, _⟩ := hid x e1
        rw [f1] at e3; simp at e3
        obtain ⟨rfl, _⟩ := e3
        obtain ⟨b2, o2, sz2, C2, g1, g2, _⟩ := hblk i2 y e2 hne2
        rw [hm.sg _ _ g1] at e4; simp at e4
        exact g2 e4.1
    · by_cases hne2 : i2 = id
      · exfalso
        subst hne2
        obtain ⟨o, sz, C, f1, _⟩ := hid y e2
        rw [f1] at e4; simp at e4
        obtain ⟨rfl, _⟩ := e4
        obtain ⟨b2, o2, sz2, C2, g1, g2, _⟩ := hblk i x e1 hne
        rw [hm.sg _ _ g1] at e3; simp at e3
        exact g2 e3.1
      · obtain ⟨b2, o2, sz2, C2, g1, _⟩ := hblk i x e1 hne
        obtain ⟨b3, o3, sz3, C3, k1, _⟩ := hblk i2 y e2 hne2
        rw [hm.sg _ _ g1] at e3; simp at e3
        rw [hm.sg _ _ k1] at e4; simp at e4
        obtain ⟨rfl, rfl⟩ := e3
        obtain ⟨rfl, rfl⟩ := e4
        exact hr.f.heap.inj i i2 x y _ _ _ (hids i x e1 hne).1 (hids i2 y e2 hne2).1 g1 k1
  · intro x hx hnx
    have hxb : x ≠ b := by
      rintro rfl
      exact hnx (hk0 hx)
    rw [ho.same x hxb (by have := hr.k.size; omega)]
    exact hr.k.same x hx hnx
  · intro x hx hox
    rcases (hown x).1 hox with h | rfl
    · exact hr.k.old x hx h
    · rcases hb with h | h
      · exact hr.k.old x hx h
      · have := hr.k.size; omega
  · intro i x bb r e1 e2
    by_cases hne : i = id
    · subst hne
      obtain ⟨o, sz, C, f1, _⟩ := hid x e1
      rw [f1] at e2; simp at e2
      obtain ⟨rfl, _⟩ := e2
      exact ⟨hkf, hk0⟩
    · obtain ⟨b2, o2, sz2, C2, g1, _⟩ := hblk i x e1 hne
      rw [hm.sg _ _ g1] at e2; simp at e2
      obtain ⟨rfl, rfl⟩ := e2
      exact hr.k.ids i x _ _ (hids i x e1 hne).1 g1
  · intro t g cs bb e1 e2
    exact hr.k.bxs t g cs bb e1 (hbt _ _ _ e2)
  · intro i x hx
    by_cases hne : i = id
    · subst hne; exact hlv
    · exact hr.k.live i x (hids i x hx hne).1
  · intro i x hx hnd
    by_cases hne : i = id
    · subst hne
      rcases hlv with h | h
      · rw [h] at hx; cases hx
      · exact absurd h hnd
    · exact fun k n hn => hr.k.bo i x hx hnd k n (hbo i hne k n hn)

/-- The boxes turn at one slot: block 'b' is it. -/
theorem Rel.boxSet {cx : Cx} {own : Nat → Prop} {m : Maps} {s : S} {tmps : Array Value} {w : World} (hr : Rel cx own m s tmps w) {own2 : Nat → Prop} {m2 : Maps} {w2 : World} {b t g : Nat} {cs : List V}
    (ho : Other w w2 b) (hm : m.le m2) (hsg : ∀ i x, m2.sg i = some x → m.sg i = some x) (hbo : ∀ i, BoKeeps m m2 i)
    (hown : ∀ x, own2 x ↔ own x ∨ x = b) (hb : own b ∨ w.heap.size ≤ b)
    (hbox : ∀ (t2 g2 : Nat) (cs2 : List V), s.bx[t2]? = some (some (g2, cs2)) → t2 ≠ t → m.bt t2 g2 = some b → False)
    (hids : ∀ i x r, s.h i = some x → m.sg i = some (b, r) → False)
    (hbt : m2.bt t g = some b) (hat : BoxAt (Rd own2 w2) m2 w2 b cs)
    (hk0 : cx.w0.heap.size ≤ b)
    (hfin : ∃ N, (∀ i, N ≤ i → m2.sg i = none) ∧ (∀ t g, N ≤ g → m2.bt t g = none) ∧ (∀ i k, N ≤ i → m2.bo i k = none)) : Rel cx own2 m2 { s with bx := s.bx.set t (some (g, cs)) } tmps w2 := by
  have hrd := rd_mono (own2 := own2) ho hb (fun x hx _ => (hown x).1 hx)
  have hsub : ∀ x, own x → own2 x := fun x hx => (hown x).2 (.inl hx)
  have hsg2 : ∀ i x, s.h i = some x → ∃ bb o sz C, m.sg i = some (bb, o, sz, C) ∧ bb ≠ b ∧ own bb ∧ BlkAt (Rd own2 w2) m2 w2 i bb o sz C x := by
    intro i x hx
    obtain ⟨bb, o, sz, C, e1, e2, e3⟩ := hr.f.heap.blk i x hx
    have hbb : bb ≠ b := by rintro rfl; exact hids i x _ hx e1
    exact ⟨bb, o, sz, C, e1, hbb, e2, e3.mono hrd hm (hbo i) (ho.same bb hbb e3.lt)⟩
  have hcase : ∀ (t2 g2 : Nat) (cs2 : List V), (s.bx.set t (some (g, cs)))[t2]? = some (some (g2, cs2)) → (t2 = t ∧ g2 = g ∧ cs2 = cs) ∨ (t2 ≠ t ∧ s.bx[t2]? = some (some (g2, cs2))) := by
    intro t2 g2 cs2 h
    rw [List.getElem?_set] at h
    split at h
    · rename_i e; subst e
      split at h
      · simp at h; exact .inl ⟨rfl, h.1.symm, h.2.symm⟩
      · cases h
    · rename_i e; exact .inr ⟨fun h => e h.symm, h⟩
  have hold : ∀ (t2 g2 : Nat) (cs2 : List V), s.bx[t2]? = some (some (g2, cs2)) → t2 ≠ t → ∃ bb, m.bt t2 g2 = some bb ∧ bb ≠ b ∧ own bb ∧ BoxAt (Rd own2 w2) m2 w2 bb cs2 := by
    intro t2 g2 cs2 h hne
    obtain ⟨bb, e1, e2, e3⟩ := hr.f.box t2 g2 cs2 h
    have hbb : bb ≠ b := by rintro rfl; exact hbox t2 g2 cs2 h hne e1
    exact ⟨bb, e1, hbb, e2, e3.mono hrd hm (ho.same bb hbb e3.lt)⟩
  refine ⟨⟨hr.f.size, fun t2 v hv => ?_, fun t2 g2 cs2 hc => ?_, ?_, ?_, ⟨fun i x hx => ?_, ?_⟩, hfin⟩, ⟨hr.k.io.trans ho.io, Nat.le_trans hr.k.size ho.size, ?_, ?_, hr.k.maps.trans hm, fun x hx => hsub x (hr.k.fr x hx), ?_, ?_, hr.k.live, fun i x hx hnd k n hn => hr.k.bo i x hx hnd k n (hbo i k n hn)⟩, hr.frlt⟩
  · obtain ⟨u, hu, hvr⟩ := hr.f.env t2 v hv
    exact ⟨u, hu, hvr.mono hrd hm⟩
  · rcases hcase t2 g2 cs2 hc with ⟨rfl, rfl, rfl⟩ | ⟨hne, hc⟩
    · exact ⟨b, hbt, (hown b).2 (.inr rfl), hat⟩
    · obtain ⟨bb, e1, _, e2, e3⟩ := hold t2 g2 cs2 hc hne
      exact ⟨bb, hm.bt _ _ _ e1, hsub bb e2, e3⟩
  · intro t2 g2 cs2 t3 g3 cs3 bb e1 e2 e3 e4
    rcases hcase t2 g2 cs2 e1 with ⟨rfl, rfl, rfl⟩ | ⟨hne, e1⟩
    · rcases hcase t3 g3 cs3 e2 with ⟨rfl, rfl, rfl⟩ | ⟨hne2, e2⟩
      · rfl
      · obtain ⟨b2, f1, f2, _⟩ := hold t3 g3 cs3 e2 hne2
        rw [hbt] at e3; rw [hm.bt _ _ _ f1] at e4
        simp at e3 e4
        exact absurd (e4.trans e3.symm) f2
    · have e1n := e1
      rcases hcase t3 g3 cs3 e2 with ⟨rfl, rfl, rfl⟩ | ⟨hne2, e2⟩
      · obtain ⟨b2, f1, f2, _⟩ := hold t2 g2 cs2 e1n hne
        rw [hbt] at e4; rw [hm.bt _ _ _ f1] at e3
        simp at e3 e4
        exact absurd (e3.trans e4.symm) f2
      · obtain ⟨b2, f1, _⟩ := hold t2 g2 cs2 e1 hne
        obtain ⟨b3, k1, _⟩ := hold t3 g3 cs3 e2 hne2
        rw [hm.bt _ _ _ f1] at e3; rw [hm.bt _ _ _ k1] at e4
        simp at e3 e4
        subst e3; subst e4
        exact hr.f.binj t2 g2 cs2 t3 g3 cs3 _ e1 e2 f1 k1
  · intro t2 g2 cs2 i x bb r e1 e2 e3 e4
    have e4' := hsg _ _ e4
    rcases hcase t2 g2 cs2 e1 with ⟨rfl, rfl, rfl⟩ | ⟨hne, e1⟩
    · rw [hbt] at e3; simp at e3; subst e3
      exact hids i x _ e2 e4'
    · obtain ⟨b2, f1, _⟩ := hold t2 g2 cs2 e1 hne
      rw [hm.bt _ _ _ f1] at e3; simp at e3; subst e3
      exact hr.f.bh t2 g2 cs2 i x _ _ e1 e2 f1 e4'
  · obtain ⟨bb, o, sz, C, f1, f2, f3, f4⟩ := hsg2 i x hx
    exact ⟨bb, o, sz, C, hm.sg _ _ f1, hsub bb f3, f4⟩
  · intro i i2 x y bb r r2 e1 e2 e3 e4
    exact hr.f.heap.inj i i2 x y bb _ _ e1 e2 (hsg _ _ e3) (hsg _ _ e4)
  · intro x hx hnx
    rw [ho.same x (by omega) (by have := hr.k.size; omega)]
    exact hr.k.same x hx hnx
  · intro x hx hox
    rcases (hown x).1 hox with h | rfl
    · exact hr.k.old x hx h
    · omega
  · intro i x bb r e1 e2
    exact hr.k.ids i x _ _ e1 (hsg _ _ e2)
  · intro t2 g2 cs2 bb e1 e2
    rcases hcase t2 g2 cs2 e1 with ⟨rfl, rfl, rfl⟩ | ⟨hne, e1⟩
    · rw [hbt] at e2; simp at e2; subst e2; exact hk0
    · obtain ⟨b2, f1, _⟩ := hold t2 g2 cs2 e1 hne
      rw [hm.bt _ _ _ f1] at e2; simp at e2; subst e2
      exact hr.k.bxs t2 g2 cs2 _ e1 f1

end Go.Abs
