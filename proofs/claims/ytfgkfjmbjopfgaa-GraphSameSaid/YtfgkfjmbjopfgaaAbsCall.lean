/-
  Freezing, and calls.
-/
import Derived.Test.YtfgkfjmbjopfgaaAbsEff3
set_option linter.unusedVariables false
set_option linter.unusedSimpArgs false
namespace Go.Abs
open Go

/-- A block that the heap names. -/
def HOwn (m : Maps) (h : Heap) (b : Nat) : Prop := ∃ id x r, h id = some x ∧ m.sg id = some (b, r)

def Lent (m : Maps) (h : Heap) (ids : Nat → Prop) (b : Nat) : Prop := ∃ id x r, ids id ∧ h id = some x ∧ m.sg id = some (b, r)

theorem Lent.own {own : Nat → Prop} {m : Maps} {h : Heap} {w : World} (hr : HRel own m h w) {ids : Nat → Prop} {b : Nat} (hl : Lent m h ids b) : own b := by
  obtain ⟨id, x, r, _, h1, h2⟩ := hl
  obtain ⟨b2, o, sz, C, e1, e2, _⟩ := hr.blk id x h1
  rw [e1] at h2; simp at h2
  rw [← h2.1]; exact e2

theorem HOwn.own {own : Nat → Prop} {m : Maps} {h : Heap} {w : World} (hr : HRel own m h w) {b : Nat} (hl : HOwn m h b) : own b := by
  obtain ⟨id, x, r, h1, h2⟩ := hl
  obtain ⟨b2, o, sz, C, e1, e2, _⟩ := hr.blk id x h1
  rw [e1] at h2; simp at h2
  rw [← h2.1]; exact e2

theorem frz_ok {own own2 : Nat → Prop} {m : Maps} {h : Heap} {w : World} {ids : Nat → Prop} (hr : HRel own m h w) (ho : ∀ b, own2 b → own b ∧ ¬ Lent m h ids b) {v v2 : V} (hf : Frz h ids v v2) :
    ∀ {u : Value}, VR (Rd own w) m v u → VR (Rd own2 w) m v2 u := by
  have hrd : ∀ b o u, Rd own w b o u → Rd own2 w b o u := fun b o u ⟨h1, h2⟩ => ⟨fun h3 => h1 (ho b h3).1, h2⟩
  induction hf with
  | same v => exact fun hv => hv.mono hrd (Maps.le.refl m)
  | nsl sz => intro u hv; rw [nsl_inv hv]; exact .fsl0 _ _ _
  | agg cs ds hl _ ih =>
    intro u hv
    cases hv with
    | agg _ us hs h1 hf =>
      refine .agg ds us (by omega) h1 fun i c u hc hu => ?_
      have hi : i < cs.length := by have := (List.getElem?_eq_some_iff.1 hc).1; omega
      exact ih i cs[i] c (List.getElem?_eq_getElem hi) hc (hf i cs[i] u (List.getElem?_eq_getElem hi) hu)
  | tup cs ds hl _ ih =>
    intro u hv
    cases hv with
    | tup _ us hs hf =>
      refine .tup ds us (by omega) fun i c u hc hu => ?_
      have hi : i < cs.length := by have := (List.getElem?_eq_some_iff.1 hc).1; omega
      exact ih i cs[i] c (List.getElem?_eq_getElem hi) hc (hf i cs[i] u (List.getElem?_eq_getElem hi) hu)
  | fsl sz els out hlen hw _ ih =>
    intro u hv
    obtain ⟨a, cap, rfl, hcap, hne⟩ := fsl_inv hv
    rw [← hlen]
    by_cases hz : els = []
    · have : out = [] := List.eq_nil_of_length_eq_zero (by rw [hlen, hz]; rfl)
      subst this; exact .fsl0 _ _ _
    · obtain ⟨b, off, rfl, hwd, v', hv'⟩ := hne hz
      have hget : ∀ (i : Nat) (y : List V), out[i]? = some y → ∃ x, els[i]? = some x ∧ y.length = x.length := by
        intro i y hy
        have hi : i < els.length := by have := (List.getElem?_eq_some_iff.1 hy).1; omega
        exact ⟨els[i], List.getElem?_eq_getElem hi, hw i _ y (List.getElem?_eq_getElem hi) hy⟩
      have hget2 : ∀ (i : Nat) (y : List V) (j : Nat) (c : V), out[i]? = some y → y[j]? = some c → ∃ x d, els[i]? = some x ∧ x[j]? = some d := by
        intro i y j c hy hj
        obtain ⟨x, hx, hxl⟩ := hget i y hy
        have hjl : j < x.length := by have := (List.getElem?_eq_some_iff.1 hj).1; omega
        exact ⟨x, x[j], hx, List.getElem?_eq_getElem hjl⟩
      refine .fsl sz out b off cap v' (by omega) (fun i y hy => ?_) (fun i y j c hy hj => ?_) (fun i y j c hy hj => ?_) (fun i y j c hy hj => ?_)
      · obtain ⟨x, hx, hxl⟩ := hget i y hy; rw [hxl]; exact hwd i x hx
      · obtain ⟨x, d, hx, hd⟩ := hget2 i y j c hy hj; exact hrd _ _ _ (hv' i x j d hx hd).1
      · obtain ⟨x, d, hx, hd⟩ := hget2 i y j c hy hj; exact (hv' i x j d hx hd).2.2
      · obtain ⟨x, d, hx, hd⟩ := hget2 i y j c hy hj; exact ih i x y j d c hx hy hd hj (hv' i x j d hx hd).2.1
  | msl id off ln sz els out hid hb hle hlen hw _ ih =>
    intro u hv
    obtain ⟨b, ob, sz3, C, a, cap, rfl, hsg, hor⟩ := msl_inv hv
    obtain ⟨b2, o2, C2, hsg2, hown, arr0, ty0, hwb, has, hlc, hwd, hc⟩ := hr.arr id sz els hb
    rw [hsg] at hsg2; simp at hsg2; obtain ⟨rfl, rfl, rfl, rfl⟩ := hsg2
    rw [← hlen]
    by_cases hz : out = []
    · subst hz; exact .fsl0 _ _ _
    · have hpos : 0 < out.length := List.length_pos_iff.2 hz
      rcases hor with ⟨h0, _⟩ | ⟨rfl, hC, hlc2⟩
      · omega
      · have hget : ∀ (i : Nat) (y : List V), out[i]? = some y → ∃ x, els[off + i]? = some x ∧ y.length = x.length := by
          intro i y hy
          have hi : off + i < els.length := by have := (List.getElem?_eq_some_iff.1 hy).1; omega
          exact ⟨els[off + i], List.getElem?_eq_getElem hi, hw i _ y (List.getElem?_eq_getElem hi) hy⟩
        have hget2 : ∀ (i : Nat) (y : List V) (j : Nat) (c : V), out[i]? = some y → y[j]? = some c → ∃ x d u, els[off + i]? = some x ∧ x[j]? = some d ∧ arr0[ob + (off + i) * sz3 + j]? = some u ∧ CR (Rd own w) m d u := by
          intro i y j c hy hj
          obtain ⟨x, hx, hxl⟩ := hget i y hy
          have hjl : j < x.length := by have := (List.getElem?_eq_some_iff.1 hj).1; omega
          obtain ⟨u, hu, hcu⟩ := hc (off + i) x j x[j] hx (List.getElem?_eq_getElem hjl)
          exact ⟨x, x[j], u, hx, List.getElem?_eq_getElem hjl, hu, hcu⟩
        have hno : ¬ own2 b := fun h => (ho b h).2 ⟨id, _, _, hid, hb, hsg⟩
        refine .fsl sz3 out b (ob + off * sz3) cap (fun i j => (arr0[ob + (off + i) * sz3 + j]?).getD default) (by omega) (fun i y hy => ?_) (fun i y j c hy hj => ?_) (fun i y j c hy hj => ?_) (fun i y j c hy hj => ?_)
        · obtain ⟨x, hx, hxl⟩ := hget i y hy; rw [hxl]; exact hwd _ x hx
        · obtain ⟨x, d, u, hx, hd, hu, hcu⟩ := hget2 i y j c hy hj
          refine ⟨hno, ?_⟩
          simp only [hu, Option.getD_some]
          rw [Nat.add_mul, ← Nat.add_assoc] at hu
          simp [World.cell?, hwb, hu]
        · obtain ⟨x, d, u, hx, hd, hu, hcu⟩ := hget2 i y j c hy hj
          simp only [hu, Option.getD_some]; exact hcu.2
        · obtain ⟨x, d, u, hx, hd, hu, hcu⟩ := hget2 i y j c hy hj
          simp only [hu, Option.getD_some]
          exact ih i x y j d c hx hy hd hj hcu.1

theorem flat_ok {rd rd2 : Reads} {m : Maps} {v : V} (hf : Flat v) : ∀ {u : Value}, VR rd m v u → VR rd2 m v u := by
  induction hf with
  | int k n => intro u hv; rw [int_inv hv]; exact .int _ _
  | bool b => intro u hv; rw [bool_inv hv]; exact .bool _
  | str s => intro u hv; rw [str_inv hv]; exact .str _
  | tup vs _ ih =>
    intro u hv
    cases hv with
    | tup _ us hl hf => exact .tup vs us hl fun i c u hc hu => ih c (List.mem_of_getElem? hc) (hf i c u hc hu)

def Fin (m : Maps) : Prop := ∃ N, (∀ i, N ≤ i → m.sg i = none) ∧ (∀ t g, N ≤ g → m.bt t g = none) ∧ (∀ i k, N ≤ i → m.bo i k = none)

/-- A function that a call enters. -/
def Enters (P : Program) (f : Nat) : Prop := ∃ fn, P.funcs[f]? = some fn ∧ fn.name ≠ "runtime.NumGoroutine" ∧ fn.body.isSome = true

/-- What a call leaves. -/
structure Left (own : Nat → Prop) (m : Maps) (h : Heap) (w : World) (own2 : Nat → Prop) (m2 : Maps) (h2 : Heap) (w2 : World) : Prop where
  heap : HRel own2 m2 h2 w2
  fin : Fin m2
  maps : m.le m2
  size : w.heap.size ≤ w2.heap.size
  same : ∀ b, b < w.heap.size → ¬ HOwn m h b → w2.heap[b]? = w.heap[b]?
  old : ∀ b, b < w.heap.size → own2 b → own b
  keep : ∀ b, b < w.heap.size → own b → ¬ HOwn m h b → own2 b
  ids : ∀ id x b r, h2 id = some x → m2.sg id = some (b, r) → b < w.heap.size → HOwn m h b
  live : ∀ id x, h2 id = some x → m.sg id = none ∨ ∃ y, h id = some y
  bo : ∀ id x, m.sg id = some x → h id = none → BoKeeps m m2 id
  io : Io w w2

/-- What a call of the abstract machine says of the model's. -/
def Sim (P : Program) : Call := fun f vs h R => Enters P f ∧ (∀ L, FinA L h → ∃ r h2, FinA L h2 ∧ R r h2) ∧
  ∀ (own : Nat → Prop) (m : Maps) (w : World) (us : Array Value), HRel own m h w → Fin m → (∀ b, own b → b < w.heap.size) → us.size = vs.length →
    (∀ (i : Nat) (v : V) (u : Value), vs[i]? = some v → us[i]? = some u → VR (Rd own w) m v u) →
    Calls P f us w fun e w2 => match e with
      | .returned u => ∃ own2 m2 r h2, R r h2 ∧ VR (Rd own2 w2) m2 r u ∧ Left own m h w own2 m2 h2 w2
      | _ => False

theorem Rel.after {cx : Cx} {own : Nat → Prop} {m : Maps} {s : S} {tmps : Array Value} {w : World} (hr : Rel cx own m s tmps w) {own3 : Nat → Prop} {m2 : Maps} {h3 : Heap} {w2 : World} (hio : Io w w2)
    (hrd : ∀ b o u, Rd own w b o u → Rd own3 w2 b o u) (hm : m.le m2) (hfin : Fin m2) (hh : HRel own3 m2 h3 w2) (hsz : w.heap.size ≤ w2.heap.size)
    (hkeep : ∀ b, b < w.heap.size → own b → ¬ HOwn m s.h b → own3 b) (hsame : ∀ b, b < w.heap.size → ¬ HOwn m s.h b → w2.heap[b]? = w.heap[b]?)
    (hold : ∀ b, b < w.heap.size → own3 b → own b) (hids : ∀ id x b r, h3 id = some x → m2.sg id = some (b, r) → b < w.heap.size → HOwn m s.h b)
    (hlive : ∀ id x, h3 id = some x → m.sg id = none ∨ ∃ y, s.h id = some y) (hbo : ∀ id x, m.sg id = some x → s.h id = none → BoKeeps m m2 id) :
    Rel cx own3 m2 { s with h := h3 } tmps w2 := by
  have hbox : ∀ (t g : Nat) (cs : List V) (b : Nat), s.bx[t]? = some (some (g, cs)) → m.bt t g = some b → ¬ HOwn m s.h b := by
    intro t g cs b h1 h2 ⟨id, x, r, h3, h4⟩
    exact hr.f.bh t g cs id x b r h1 h3 h2 h4
  have hbt : ∀ (t g : Nat) (cs : List V) (b : Nat), s.bx[t]? = some (some (g, cs)) → m2.bt t g = some b → m.bt t g = some b := by
    intro t g cs b h1 h2
    obtain ⟨b2, e1, _⟩ := hr.f.box t g cs h1
    rw [hm.bt _ _ _ e1] at h2
    rw [e1]; exact h2
  have hfr : ∀ b, HOwn m s.h b → ¬ cx.fr b ∧ (b < cx.w0.heap.size → cx.h0 b) := fun b ⟨id, x, r, h1, h2⟩ => hr.k.ids id x b r h1 h2
  refine ⟨⟨hr.f.size, fun t v hv => ?_, fun t g cs hb => ?_, ?_, ?_, hh, hfin⟩, ⟨hr.k.io.trans hio, Nat.le_trans hr.k.size hsz, ?_, ?_, hr.k.maps.trans hm, ?_, ?_, ?_, ?_, ?_⟩, hr.frlt⟩
  · obtain ⟨u, hu, hvr⟩ := hr.f.env t v hv
    exact ⟨u, hu, hvr.mono hrd hm⟩
  · obtain ⟨b, e1, e2, e3⟩ := hr.f.box t g cs hb
    have hno := hbox t g cs b hb e1
    exact ⟨b, hm.bt _ _ _ e1, hkeep b e3.lt e2 hno, e3.mono hrd hm (hsame b e3.lt hno)⟩
  · intro t g cs t2 g2 cs2 b e1 e2 e3 e4
    exact hr.f.binj t g cs t2 g2 cs2 b e1 e2 (hbt _ _ _ _ e1 e3) (hbt _ _ _ _ e2 e4)
  · intro t g cs id x b r e1 e2 e3 e4
    have e3' := hbt _ _ _ _ e1 e3
    obtain ⟨b2, f1, _, f3⟩ := hr.f.box t g cs e1
    rw [f1] at e3'; simp at e3'; subst e3'
    exact hbox t g cs b2 e1 f1 (hids id x b2 r e2 e4 f3.lt)
  · intro b hb hno
    have hlt : b < w.heap.size := by have := hr.k.size; omega
    rw [hsame b hlt (fun h => hno ((hfr b h).2 hb))]
    exact hr.k.same b hb hno
  · intro b hb ho
    exact hr.k.old b hb (hold b (by have := hr.k.size; omega) ho)
  · intro b hb
    have hlt : b < w.heap.size := by have := hr.k.size; have := hr.frlt b hb; omega
    exact hkeep b hlt (hr.k.fr b hb) (fun h => (hfr b h).1 hb)
  · intro id x b r e1 e2
    by_cases hlt : b < w.heap.size
    · exact hfr b (hids id x b r e1 e2 hlt)
    · exact ⟨fun h => by have := hr.k.size; have := hr.frlt b h; omega, fun h => by have := hr.k.size; omega⟩
  · intro t g cs b e1 e2
    exact hr.k.bxs t g cs b e1 (hbt _ _ _ _ e1 e2)
  · intro id x hx
    rcases hlive id x hx with h | ⟨y, hy⟩
    · exact .inl (fresh_sg hr.k.maps h)
    · exact hr.k.live id y hy
  · intro id x hx hnd
    have hnone : s.h id = none := by
      cases hh : s.h id with
      | none => rfl
      | some y => rcases hr.k.live id y hh with h | h
                  · rw [h] at hx; cases hx
                  · exact absurd h hnd
    exact fun i n hn => hr.k.bo id x hx hnd i n (hbo id x (hr.k.maps.sg _ _ hx) hnone i n hn)

theorem hrel_own {own own2 : Nat → Prop} {m : Maps} {h : Heap} {w : World} (hr : HRel own m h w) (h1 : ∀ b, own2 b → own b) (h2 : ∀ b, HOwn m h b → own2 b) : HRel own2 m h w := by
  refine ⟨fun id x hx => ?_, hr.inj⟩
  obtain ⟨b, o, sz, C, e1, e2, e3⟩ := hr.blk id x hx
  exact ⟨b, o, sz, C, e1, h2 b ⟨id, x, _, hx, e1⟩, e3.mono (fun b o u ⟨h3, h4⟩ => ⟨fun h5 => h3 (h1 b h5), h4⟩) (Maps.le.refl m) (fun _ _ h => h) rfl⟩

theorem hown_lt {own : Nat → Prop} {m : Maps} {h : Heap} {w : World} (hr : HRel own m h w) {b : Nat} (hb : HOwn m h b) : b < w.heap.size := by
  obtain ⟨id, x, r, h1, h2⟩ := hb
  obtain ⟨b2, o, sz, C, e1, _, e3⟩ := hr.blk id x h1
  rw [e1] at h2; simp at h2
  rw [← h2.1]; exact e3.lt

theorem call_ok {P : Program} {cx : Cx} {own : Nat → Prop} {m : Maps} {s : S} {tmps : Array Value} {w : World} (hr : Rel cx own m s tmps w) {f : Nat} {vs : List V} {R : V → Heap → Prop} (hc : callOk (Sim P) f vs s.h R)
    {us : Array Value} (hl : us.size = vs.length) (hv : ∀ (i : Nat) (v : V) (u : Value), vs[i]? = some v → us[i]? = some u → VR (Rd own w) m v u) :
    Enters P f ∧ Calls P f us w fun e w2 => match e with
      | .returned u => ∃ own2 m2 r h2, R r h2 ∧ VR (Rd own2 w2) m2 r u ∧ Rel cx own2 m2 { s with h := h2 } tmps w2
      | _ => False := by
  rcases hc with ⟨hen, _, hc⟩ | ⟨ids, vs2, hl2, hfz, hen, _, hc⟩ | ⟨ids, vs2, h2, hl2, hfz, hle, hids, hen, _, hc⟩
  rotate_left 2
  · refine ⟨hen, ?_⟩
    let own1 : Nat → Prop := fun b => (own b ∧ b < w.heap.size) ∧ ¬ Lent m s.h ids b
    have hsub : ∀ b, own1 b → own b := fun b h => h.1.1
    have hhown : ∀ b, HOwn m h2 b → HOwn m s.h b := fun b ⟨id, x, r, q1, q2⟩ => ⟨id, x, r, hle _ _ q1, q2⟩
    have hlown : ∀ b, Lent m s.h ids b → HOwn m s.h b := fun b ⟨id, x, r, _, q1, q2⟩ => ⟨id, x, r, q1, q2⟩
    have hh1 : HRel own1 m h2 w := by
      refine ⟨fun id x hx => ?_, fun id id2 x y b r r2 q1 q2 q3 q4 => hr.f.heap.inj id id2 x y b r r2 (hle _ _ q1) (hle _ _ q2) q3 q4⟩
      obtain ⟨b, o, sz, C, e1, e2, e3⟩ := hr.f.heap.blk id x (hle _ _ hx)
      refine ⟨b, o, sz, C, e1, ⟨⟨e2, e3.lt⟩, ?_⟩, e3.mono (fun b o u ⟨h3, h4⟩ => ⟨fun h5 => h3 (hsub b h5), h4⟩) (Maps.le.refl m) (fun _ _ h => h) rfl⟩
      rintro ⟨id2, y, r2, q1, q2, q3⟩
      have := hr.f.heap.inj id id2 x y b _ _ (hle _ _ hx) q2 e1 q3
      subst this
      rw [hids id q1] at hx; cases hx
    refine (hc own1 m w us hh1 hr.f.fin (fun b h => h.1.2) (by omega) (fun i v u h1 h2 => ?_)).mono ?_
    · have hi : i < vs.length := by have := (List.getElem?_eq_some_iff.1 h1).1; omega
      exact frz_ok hr.f.heap (fun b h => ⟨h.1.1, h.2⟩) (hfz i vs[i] v (List.getElem?_eq_getElem hi) h1) (hv i vs[i] u (List.getElem?_eq_getElem hi) h2)
    · intro e w2 he
      cases e with
      | returned u =>
        obtain ⟨own2, m2, r, h3, hR, hvr, hlf⟩ := he
        refine ⟨own2, m2, r, h3, hR, hvr, ?_⟩
        refine hr.after hlf.io ?_ hlf.maps hlf.fin hlf.heap hlf.size (fun b hb ho hn => hlf.keep b hb ⟨⟨ho, hb⟩, fun h => hn (hlown b h)⟩ (fun h => hn (hhown b h))) (fun b hb hn => hlf.same b hb (fun h => hn (hhown b h))) (fun b hb ho => hsub b (hlf.old b hb ho))
          (fun id x b rr q1 q2 q3 => hhown b (hlf.ids id x b rr q1 q2 q3)) (fun id x hx => ?_) (fun id x hx hn => hlf.bo id x hx ?_)
        · intro b o u ⟨h1, h4⟩
          have hlt := cell_lt h4
          refine ⟨fun h => h1 (hsub b (hlf.old b hlt h)), ?_⟩
          rw [cell_heap (hlf.same b hlt (fun h => h1 ((hhown b h).own hr.f.heap)))]
          exact h4
        · rcases hlf.live id x hx with h | ⟨y, hy⟩
          · exact .inl h
          · exact .inr ⟨y, hle _ _ hy⟩
        · cases e : h2 id with
          | none => rfl
          | some y => rw [hle _ _ e] at hn; cases hn
      | panicked chain => exact he
      | outgrown => exact he
  · refine ⟨hen, ?_⟩
    let own1 : Nat → Prop := fun b => own b ∧ b < w.heap.size
    have hh1 : HRel own1 m s.h w := hrel_own hr.f.heap (fun b h => h.1) (fun b h => ⟨h.own hr.f.heap, hown_lt hr.f.heap h⟩)
    have hrd1 : ∀ b o u, Rd own w b o u → Rd own1 w b o u := fun b o u ⟨h1, h2⟩ => ⟨fun h => h1 h.1, h2⟩
    refine (hc own1 m w us hh1 hr.f.fin (fun b h => h.2) hl (fun i v u h1 h2 => (hv i v u h1 h2).mono hrd1 (Maps.le.refl m))).mono ?_
    intro e w2 he
    cases e with
    | returned u =>
      obtain ⟨own2, m2, r, h2, hR, hvr, hlf⟩ := he
      refine ⟨own2, m2, r, h2, hR, hvr, ?_⟩
      refine hr.after hlf.io ?_ hlf.maps hlf.fin hlf.heap hlf.size (fun b hb ho hn => hlf.keep b hb ⟨ho, hb⟩ hn) hlf.same (fun b hb ho => (hlf.old b hb ho).1) hlf.ids hlf.live hlf.bo
      intro b o u ⟨h1, h2⟩
      have hlt := cell_lt h2
      refine ⟨fun h => h1 (hlf.old b hlt h).1, ?_⟩
      rw [cell_heap (hlf.same b hlt (fun h => h1 (h.own hr.f.heap)))]
      exact h2
    | panicked chain => exact he
    | outgrown => exact he
  · refine ⟨hen, ?_⟩
    let own1 : Nat → Prop := fun b => (own b ∧ b < w.heap.size) ∧ ¬ Lent m s.h ids b
    have hh1 : HRel own1 m Heap.none w := ⟨fun id x hx => (by cases hx), fun id id2 x y b r r2 hx => (by cases hx)⟩
    have hno : ∀ b, ¬ HOwn m Heap.none b := fun b ⟨id, x, r, h1, _⟩ => by cases h1
    refine (hc own1 m w us hh1 hr.f.fin (fun b h => h.1.2) (by omega) (fun i v u h1 h2 => ?_)).mono ?_
    · have hi : i < vs.length := by have := (List.getElem?_eq_some_iff.1 h1).1; omega
      exact frz_ok hr.f.heap (fun b h => ⟨h.1.1, h.2⟩) (hfz i vs[i] v (List.getElem?_eq_getElem hi) h1) (hv i vs[i] u (List.getElem?_eq_getElem hi) h2)
    · intro e w2 he
      cases e with
      | returned u =>
        obtain ⟨own2, m2, r, h2, ⟨hfl, hR⟩, hvr, hlf⟩ := he
        -- what was lent is our own again
        let own3 : Nat → Prop := fun b => own2 b ∨ Lent m s.h ids b
        have hsame : ∀ b, b < w.heap.size → w2.heap[b]? = w.heap[b]? := fun b hb => hlf.same b hb (hno b)
        have hold : ∀ b, b < w.heap.size → own3 b → own b := by
          intro b hb ho
          rcases ho with h | h
          · exact (hlf.old b hb h).1.1
          · exact h.own hr.f.heap
        have hrd : ∀ b o u, Rd own w b o u → Rd own3 w2 b o u := by
          intro b o u ⟨h1, h2⟩
          have hlt := cell_lt h2
          exact ⟨fun h => h1 (hold b hlt h), by rw [cell_heap (hsame b hlt)]; exact h2⟩
        have hkeep : ∀ b, b < w.heap.size → own b → own3 b := by
          intro b hb ho
          by_cases hl : Lent m s.h ids b
          · exact .inr hl
          · exact .inl (hlf.keep b hb ⟨⟨ho, hb⟩, hl⟩ (hno b))
        have hbo : ∀ id x, m.sg id = some x → BoKeeps m m2 id := fun id x hx => hlf.bo id x hx rfl
        have hh3 : HRel own3 m2 s.h w2 := by
          refine ⟨fun id x hx => ?_, fun id id2 x y b r r2 e1 e2 e3 e4 => ?_⟩
          · obtain ⟨b, o, sz, C, e1, e2, e3⟩ := hr.f.heap.blk id x hx
            exact ⟨b, o, sz, C, hlf.maps.sg _ _ e1, hkeep b e3.lt e2, e3.mono hrd hlf.maps (hbo id _ e1) (hsame b e3.lt)⟩
          · obtain ⟨b1, o1, sz1, C1, f1, _⟩ := hr.f.heap.blk id x e1
            obtain ⟨b2, o2, sz2, C2, g1, _⟩ := hr.f.heap.blk id2 y e2
            rw [hlf.maps.sg _ _ f1] at e3; rw [hlf.maps.sg _ _ g1] at e4
            simp at e3 e4
            obtain ⟨rfl, _⟩ := e3
            obtain ⟨rfl, _⟩ := e4
            exact hr.f.heap.inj id id2 x y _ _ _ e1 e2 f1 g1
        have hvr3 : VR (Rd own3 w2) m2 r u := by
          rcases hfl with h | h
          · refine hvr.mono (fun b o u ⟨h1, h2⟩ => ⟨fun h3 => ?_, h2⟩) (Maps.le.refl m2)
            rcases h3 with h3 | ⟨id, x, rr, h4, _⟩
            · exact h1 h3
            · exact h id h4
          · exact flat_ok h hvr
        refine ⟨own3, m2, r, s.h, hR, hvr3, ?_⟩
        refine hr.after hlf.io hrd hlf.maps hlf.fin hh3 hlf.size (fun b hb ho _ => hkeep b hb ho) (fun b hb _ => hsame b hb) hold ?_ (fun id x hx => .inr ⟨x, hx⟩) (fun id x hx _ => hbo id x hx)
        intro id x b rr e1 e2 hb
        obtain ⟨b1, o1, sz1, C1, f1, _⟩ := hr.f.heap.blk id x e1
        rw [hlf.maps.sg _ _ f1] at e2; simp at e2
        obtain ⟨rfl, _⟩ := e2
        exact ⟨id, x, _, e1, f1⟩
      | panicked chain => exact he
      | outgrown => exact he

end Go.Abs
