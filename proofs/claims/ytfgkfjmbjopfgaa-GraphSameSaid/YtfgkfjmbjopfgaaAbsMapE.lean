/-
  Maps that turn.
-/
import Derived.Test.YtfgkfjmbjopfgaaAbsCall
set_option linter.unusedVariables false
set_option linter.unusedSimpArgs false
namespace Go.Abs
open Go

theorem bytes_eq {a b : ByteArray} (h : (a == b) = true) : a = b := by
  have h2 : (a.data == b.data) = true := h
  have h3 := eq_of_beq h2
  cases a; cases b; simp at h3; rw [h3]
theorem bytes_self (a : ByteArray) : (a == a) = true := by
  show (a.data == a.data) = true
  exact beq_self_eq_true _

theorem keyVal_eq {k k2 : V} (h : keyEq k k2 = some true) : keyVal k = keyVal k2 := by
  unfold keyEq at h
  split at h
  · split at h
    · rename_i e; subst e; simp at h; subst h; rfl
    · cases h
  · rename_i a b
    simp at h; rw [bytes_eq h]
  · split at h
    · rename_i e; obtain ⟨rfl, rfl⟩ := e; simp at h; obtain ⟨rfl, rfl⟩ := h; rfl
    · cases h
  · cases h

theorem sameBits_self {ks : Nat} {k : V} (h : keyIs ks k = true) (n : Nat) : Instr.sameBits (n + 2) (keyVal k) (keyVal k) = true := by
  unfold keyIs at h
  split at h
  · simp [keyVal, Instr.sameBits]
  · simp [keyVal, Instr.sameBits, bytes_self]
  · simp [keyVal, Instr.sameBits]
  · cases h

theorem findKey_at {k : V} : ∀ {es : List (V × V)} {i : Nat}, findKey k es = some (some i) → ∃ e, es[i]? = some e ∧ keyEq k e.1 = some true
  | [], i, h => by simp [findKey] at h
  | e :: es, i, h => by
    simp only [findKey] at h
    split at h
    · rename_i hq; simp at h; subst h; exact ⟨e, rfl, hq⟩
    · simp only [Option.map_eq_some_iff] at h
      obtain ⟨r, h1, h2⟩ := h
      cases r with
      | none => simp at h2
      | some j =>
        simp at h2; subst h2
        obtain ⟨e2, h3, h4⟩ := findKey_at h1
        exact ⟨e2, by simpa using h3, h4⟩
    · cases h

def setBlk (w : World) (b : Nat) (o : Obj) : World := { w with heap := w.heap.setIfInBounds b o }

theorem setBlk_same {w : World} {b : Nat} {o : Obj} (h : w.heap[b]? = some o) : setBlk w b o = w := by
  have : w.heap.setIfInBounds b o = w.heap := by
    apply Array.ext_getElem?
    intro i
    rw [Array.getElem?_setIfInBounds]
    split
    · rename_i e; subst e
      split
      · exact h.symm
      · rename_i hn; have := lt_of_heap h; omega
    · rfl
  simp [setBlk, this]

theorem setObj_map {P : Program} {w : World} {b : Nat} {ents : Array MapEntry} {clock : Nat} (o : Obj) (hw : w.heap[b]? = some (.map ents clock)) : (setObj b o).run P w = .ok () (setBlk w b o) := by
  simp [setObj, Sem.run, hw, setBlk]

/-- A map of our own turns. -/
theorem Rel.mapTurn {cx : Cx} {own : Nat → Prop} {m : Maps} {s : S} {tmps : Array Value} {w : World} (hr : Rel cx own m s tmps w) {id b : Nat} {r : Nat × Nat × Nat} {es : List (V × V)} (hh : s.h id = some (.map es)) (hsg : m.sg id = some (b, r))
    {m2 : Maps} (hm : m.le m2) (hsg2 : m2.sg = m.sg) (hbt2 : m2.bt = m.bt) (hbo2 : ∀ i, i ≠ id → BoKeeps m m2 i) {es2 : List (V × V)} {ents2 : Array MapEntry} {clock2 : Nat} (hl : ents2.size = es2.length)
    (hv : ∀ (i : Nat) (e : V × V) (x : MapEntry), es2[i]? = some e → ents2[i]? = some x → VR (Rd own w) m2 e.1 x.key ∧ VR (Rd own w) m2 e.2 x.val ∧ m2.bo id i = some x.born ∧ x.born < clock2)
    (hinj : ∀ (i j : Nat) (x y : MapEntry), ents2[i]? = some x → ents2[j]? = some y → x.born = y.born → i = j) (hlast : ∀ i n, es2.length ≤ i → m2.bo id i = some n → False) :
    Rel cx own m2 { s with h := s.h.upd id (some (.map es2)) } tmps (setBlk w b (.map ents2 clock2)) ∧ (∀ x o u, Rd own w x o u → Rd own (setBlk w b (.map ents2 clock2)) x o u) := by
  obtain ⟨b2, o, sz, C, e1, hown, hblk⟩ := hr.f.heap.blk id _ hh
  rw [hsg] at e1; simp at e1; obtain ⟨rfl, rfl⟩ := e1
  have hlt := hblk.lt
  have hoth : Other w (setBlk w b (.map ents2 clock2)) b := ⟨⟨rfl, rfl, rfl⟩, by simp [setBlk], fun x hx _ => by simp only [setBlk]; rw [Array.getElem?_setIfInBounds_ne (fun e => hx e.symm)]⟩
  have hrd := rd_mono (own2 := own) hoth (.inl hown) (fun x hx _ => .inl hx)
  obtain ⟨hkf, hk0⟩ := hr.k.ids id _ b _ hh hsg
  refine ⟨?_, hrd⟩
  refine hr.heapSet (b := b) (id := id) hoth hm (fun t g x h => by rw [hbt2] at h; exact h) hbo2 (fun x => ⟨.inl, fun h => h.elim _root_.id (fun e => e ▸ hown)⟩) (.inl hown) ?_ ?_ ?_ hk0 hkf (hr.k.live id _ hh) ?_
  · intro t2 g2 cs2 h1 h2
    exact hr.f.bh t2 g2 cs2 id _ b _ h1 hh h2 hsg
  · intro k x hk hne
    simp only [Heap.upd, if_neg hne] at hk
    exact ⟨hk, fun r h2 => hne (hr.f.heap.inj k id x _ b _ _ hk hh h2 hsg)⟩
  · intro x hx
    simp [Heap.upd] at hx
    subst hx
    refine ⟨o, sz, C, by rw [hsg2]; exact hsg, ents2, clock2, ?_, hl, fun i e x h1 h2 => ?_, hinj, hlast⟩
    · simp only [setBlk]; rw [Array.getElem?_setIfInBounds_self_of_lt hlt]
    · obtain ⟨a1, a2, a3, a4⟩ := hv i e x h1 h2
      exact ⟨a1.mono hrd (.refl _), a2.mono hrd (.refl _), a3, a4⟩
  · obtain ⟨N, h1, h2, h3⟩ := hr.f.fin
    refine ⟨N, fun i hi => by rw [hsg2]; exact h1 i hi, fun t g hg => by rw [hbt2]; exact h2 t g hg, fun i k hi => ?_⟩
    have hne : i ≠ id := fun e => by subst e; rw [h1 i hi] at hsg; cases hsg
    cases e : m2.bo i k with
    | none => rfl
    | some n => have := hbo2 i hne k n e; rw [h3 i k hi] at this; cases this

variable {P : Program} {cx : Cx} {own : Nat → Prop} {m : Maps} {s : S} {tmps : Array Value} {w : World}

def Maps.setBo (m : Maps) (id i n : Nat) : Maps := { m with bo := fun j k => if j = id ∧ k = i then some n else m.bo j k }

theorem Maps.le_setBo {m : Maps} {id i n : Nat} (h : m.bo id i = none) : m.le (m.setBo id i n) := by
  refine ⟨fun _ _ h => h, fun _ _ _ h => h, fun j k x hx => ?_⟩
  simp only [Maps.setBo]
  split
  · rename_i e; obtain ⟨rfl, rfl⟩ := e; rw [h] at hx; cases hx
  · exact hx

theorem stays_run {ks : Nat} {k : V} (hk : keyIs ks k = true) : (Instr.keyThatStays (keyVal k) (keyVal k)).run P w = .ok (keyVal k) w := by
  have : Instr.sameBits 10000 (keyVal k) (keyVal k) = true := sameBits_self hk 9998
  simp [Instr.keyThatStays, this]

/-- An entry that is not there yet. -/
theorem Rel.mapPush (hr : Rel cx own m s tmps w) {id b : Nat} {r : Nat × Nat × Nat} {es : List (V × V)} (hh : s.h id = some (.map es)) (hsg : m.sg id = some (b, r)) {ents : Array MapEntry} {clock : Nat} (hw : w.heap[b]? = some (.map ents clock))
    {k v : V} {uk uv : Value} (hk : VR (Rd own w) m k uk) (hv : VR (Rd own w) m v uv) :
    ∃ m2, m.le m2 ∧ m2.bo id es.length = some clock ∧ Rel cx own m2 { s with h := s.h.upd id (some (.map (es ++ [(k, v)]))) } tmps (setBlk w b (.map (ents.push { key := uk, val := uv, born := clock }) (clock + 1))) ∧
      (∀ x o u, Rd own w x o u → Rd own (setBlk w b (.map (ents.push { key := uk, val := uv, born := clock }) (clock + 1))) x o u) := by
  obtain ⟨b2, r2, e1, _, ents2, clock2, hw2, hl, he, hinj, hlast⟩ := hr.f.heap.map id es hh
  rw [hsg] at e1; simp at e1; obtain ⟨rfl, rfl⟩ := e1
  rw [hw] at hw2; simp at hw2; obtain ⟨rfl, rfl⟩ := hw2
  have hn : m.bo id es.length = none := by
    cases e : m.bo id es.length with
    | none => rfl
    | some n => exact (hlast _ n (Nat.le_refl _) e).elim
  have hm := Maps.le_setBo (n := clock) hn
  have hbo : (m.setBo id es.length clock).bo id es.length = some clock := by simp [Maps.setBo]
  have hcase : ∀ (i : Nat) (x : MapEntry), (ents.push { key := uk, val := uv, born := clock })[i]? = some x → (i < es.length ∧ ents[i]? = some x) ∨ (i = es.length ∧ x = { key := uk, val := uv, born := clock }) := by
    intro i x h
    rw [Array.getElem?_push] at h
    split at h
    · rename_i e; simp at h; exact .inr ⟨by omega, h.symm⟩
    · have := (Array.getElem?_eq_some_iff.1 h).1; exact .inl ⟨by omega, h⟩
  obtain ⟨h1, h2⟩ := hr.mapTurn hh hsg hm rfl rfl (ents2 := ents.push { key := uk, val := uv, born := clock }) (clock2 := clock + 1) (es2 := es ++ [(k, v)])
    (fun i hi j n h => by simp only [Maps.setBo] at h; rw [if_neg (fun e => hi e.1)] at h; exact h) (by simp [hl])
    (fun i e x h1 h2 => by
      rcases hcase i x h2 with ⟨h3, h4⟩ | ⟨rfl, rfl⟩
      · rw [List.getElem?_append_left h3] at h1
        obtain ⟨a1, a2, a3, a4⟩ := he i e x h1 h4
        exact ⟨a1.mono (fun _ _ _ h => h) hm, a2.mono (fun _ _ _ h => h) hm, hm.bo _ _ _ a3, by omega⟩
      · simp at h1; subst h1
        exact ⟨hk.mono (fun _ _ _ h => h) hm, hv.mono (fun _ _ _ h => h) hm, hbo, by simp⟩)
    (fun i j x y h1 h2 h3 => by
      rcases hcase i x h1 with ⟨a1, a2⟩ | ⟨rfl, rfl⟩ <;> rcases hcase j y h2 with ⟨b1, b2⟩ | ⟨rfl, rfl⟩
      · exact hinj i j x y a2 b2 h3
      · have := (he i es[i] x (List.getElem?_eq_getElem a1) a2).2.2.2
        simp at h3; omega
      · have := (he j es[j] y (List.getElem?_eq_getElem b1) b2).2.2.2
        simp at h3; omega
      · rfl)
    (fun i n h1 h2 => by
      simp only [List.length_append, List.length_cons, List.length_nil] at h1
      simp only [Maps.setBo] at h2
      rw [if_neg (by omega)] at h2
      exact hlast i n (by omega) h2)
  exact ⟨_, hm, hbo, h1, h2⟩

/-- An entry's value turns. -/
theorem Rel.mapSet (hr : Rel cx own m s tmps w) {id b : Nat} {r : Nat × Nat × Nat} {es : List (V × V)} (hh : s.h id = some (.map es)) (hsg : m.sg id = some (b, r)) {ents : Array MapEntry} {clock : Nat} (hw : w.heap[b]? = some (.map ents clock))
    {i : Nat} {k v : V} {uk uv : Value} (hk : VR (Rd own w) m k uk) (hv : VR (Rd own w) m v uv) :
    Rel cx own m { s with h := s.h.upd id (some (.map (es.set i (k, v)))) } tmps (setBlk w b (.map (ents.modify i fun e => { e with key := uk, val := uv }) clock)) := by
  obtain ⟨b2, r2, e1, _, ents2, clock2, hw2, hl, he, hinj, hlast⟩ := hr.f.heap.map id es hh
  rw [hsg] at e1; simp at e1; obtain ⟨rfl, rfl⟩ := e1
  rw [hw] at hw2; simp at hw2; obtain ⟨rfl, rfl⟩ := hw2
  have hcase : ∀ (j : Nat) (x : MapEntry), (ents.modify i fun e => { e with key := uk, val := uv })[j]? = some x → ∃ y, ents[j]? = some y ∧ x = if i = j then { y with key := uk, val := uv } else y := by
    intro j x h
    rw [Array.getElem?_modify] at h
    split at h
    · simp only [Option.map_eq_some_iff] at h
      obtain ⟨y, h1, h2⟩ := h
      exact ⟨y, h1, by rw [if_pos (by assumption)]; exact h2.symm⟩
    · exact ⟨x, h, by rw [if_neg (by assumption)]⟩
  refine (hr.mapTurn hh hsg (.refl m) rfl rfl (ents2 := ents.modify i fun e => { e with key := uk, val := uv }) (clock2 := clock) (es2 := es.set i (k, v)) (fun _ _ => fun _ _ h => h) (by simp [hl]) (fun j e x h1 h2 => ?_) (fun j j2 x y h1 h2 h3 => ?_) (fun j n h1 h2 => ?_)).1
  · obtain ⟨y, h3, rfl⟩ := hcase j x h2
    rw [List.getElem?_set] at h1
    split at h1
    · rename_i e; subst e
      split at h1
      · rename_i hi
        simp at h1; subst h1
        obtain ⟨_, _, a3, a4⟩ := he i es[i] y (List.getElem?_eq_getElem hi) h3
        rw [if_pos rfl]
        exact ⟨hk, hv, a3, a4⟩
      · cases h1
    · rename_i e
      rw [if_neg e]
      exact he j _ y h1 h3
  · obtain ⟨x0, a1, rfl⟩ := hcase j x h1
    obtain ⟨y0, b1, rfl⟩ := hcase j2 y h2
    refine hinj j j2 x0 y0 a1 b1 ?_
    split at h3 <;> split at h3 <;> simpa using h3
  · exact hlast j n (by simpa using h1) h2

def landed (es : List (V × V)) (x : V × V) : Option Nat → List (V × V)
  | some i => es.set i x
  | none => es ++ [x]

theorem mapUpdate_run {t : TypeId} {ks : Nat} {z k v : V} {um uk uv : Value} {id : Nat} {es : List (V × V)} {r : Option Nat} (hr : Rel cx own m s tmps w) (hm : mapKeyOk P t ks = true)
    (hvm : VR (Rd own w) m (.map id) um) (hvk : VR (Rd own w) m k uk) (hvv : VR (Rd own w) m v uv) (hh : s.h id = some (.map es)) (hk : keyIs ks k = true) (hf : findKey k es = some r) :
    ∃ m2 w2, (Instr.mapUpdate t um uk uv).run P w = .ok () w2 ∧ Rel cx own m2 { s with h := s.h.upd id (some (.map (landed es (k, v) r))) } tmps w2 := by
  obtain ⟨b, r0, h1, rfl⟩ := map_inv hvm
  obtain ⟨b2, r2, h2, _, ents, clock, hw, hl, he, _⟩ := hr.f.heap.map id es hh
  rw [h1] at h2; simp at h2; obtain ⟨rfl, rfl⟩ := h2
  obtain ⟨d, hd, hdd⟩ := undB_some hm
  cases d <;> simp at hdd
  rename_i kt et
  have hkv := keyVal_of hk hvk
  subst hkv
  have hc : (Instr.checkKey false 10000 kt (keyVal k)).run P w = .ok () w := checkKey_run hdd hk 9998
  obtain ⟨q, hq, hfd⟩ := findKey_run (P := P) (w := w) hdd hk (ents_of (b := clock) hl he) hf
  have hg : (getObj b).run P w = .ok (.map ents clock) w := by simp [getObj, Sem.run, hw]
  cases r with
  | none =>
    simp only [Found] at hfd; subst hfd
    obtain ⟨m2, _, _, h3, _⟩ := hr.mapPush hh h1 hw hvk hvv
    exact ⟨m2, _, by simp [Instr.mapUpdate, run_und hd, hg, hc, hq, setObj_map _ hw], h3⟩
  | some i =>
    obtain ⟨x, hx, rfl⟩ := hfd
    obtain ⟨e, he1, he2⟩ := findKey_at hf
    have hxk : x.key = keyVal k := by
      rw [(ents_of (b := clock) hl he).2 i e x he1 hx ks (keyIs_same hk he2), keyVal_eq he2]
    have hx2 : ents[i]? = some x := by simpa using hx
    refine ⟨m, _, ?_, hr.mapSet hh h1 hw (i := i) hvk hvv⟩
    simp [Instr.mapUpdate, run_und hd, hg, hc, hq, hx2, hxk, stays_run hk, setObj_map _ hw]

theorem mapEntry_run {t : TypeId} {ks : Nat} {z k : V} {um uk : Value} {id : Nat} {es : List (V × V)} {r : Option Nat} (hr : Rel cx own m s tmps w) (hm : mapOk P t ks z = true)
    (hvm : VR (Rd own w) m (.map id) um) (hvk : VR (Rd own w) m k uk) (hh : s.h id = some (.map es)) (hk : keyIs ks k = true) (hf : findKey k es = some r) {zv : V} (hz : picked es z r = some zv) :
    ∃ m2 w2 u, (Instr.mapEntry t um uk).run P w = .ok u w2 ∧ VR (Rd own w2) m2 (.tup [zv, .stamp id (match r with | some i => i | none => es.length)]) u ∧
      Rel cx own m2 (match r with | some _ => s | none => { s with h := s.h.upd id (some (.map (es ++ [(k, z)]))) }) tmps w2 := by
  obtain ⟨b, r0, h1, rfl⟩ := map_inv hvm
  obtain ⟨b2, r2, h2, _, ents, clock, hw, hl, he, _⟩ := hr.f.heap.map id es hh
  rw [h1] at h2; simp at h2; obtain ⟨rfl, rfl⟩ := h2
  obtain ⟨kt, et, uz, hd, hko, hzr, hvz⟩ := mapOk_some (w := w) hm
  have hkv := keyVal_of hk hvk
  subst hkv
  have hc : (Instr.checkKey false 10000 kt (keyVal k)).run P w = .ok () w := checkKey_run hko hk 9998
  obtain ⟨q, hq, hfd⟩ := findKey_run (P := P) (w := w) hko hk (ents_of (b := clock) hl he) hf
  have hg : (getObj b).run P w = .ok (.map ents clock) w := by simp [getObj, Sem.run, hw]
  have tupok : ∀ {rd : Reads} {m2 : Maps} {a : V} {ua : Value} {i n : Nat}, VR rd m2 a ua → m2.bo id i = some n → VR rd m2 (.tup [a, .stamp id i]) (.tuple #[ua, .int .i64 n]) := by
    intro rd m2 a ua i n ha hb
    refine .tup _ _ rfl fun j c u h1 h2 => ?_
    match j with
    | 0 => simp at h1 h2; subst h1; subst h2; exact ha
    | 1 => simp at h1 h2; subst h1; subst h2; exact .stamp _ _ _ hb
    | j + 2 => simp at h1
  cases r with
  | none =>
    simp only [Found] at hfd; subst hfd
    simp only [picked, Option.some.injEq] at hz; subst hz
    obtain ⟨m2, hle, hbo, h3, h4⟩ := hr.mapPush hh h1 hw hvk (hvz (Rd own w) m).1
    exact ⟨m2, _, _, by simp [Instr.mapEntry, run_und hd, hg, hc, hq, hzr, setObj_map _ hw, goInt], tupok ((hvz _ _).1) hbo, h3⟩
  | some i =>
    obtain ⟨x, hx, rfl⟩ := hfd
    obtain ⟨e, he1, he2⟩ := findKey_at hf
    have hxk : x.key = keyVal k := by
      rw [(ents_of (b := clock) hl he).2 i e x he1 hx ks (keyIs_same hk he2), keyVal_eq he2]
    have hx2 : ents[i]? = some x := by simpa using hx
    simp only [picked, he1, Option.map_some, Option.some.injEq] at hz; subst hz
    have hsame : (ents.modify i fun e => { e with key := keyVal k }) = ents := by
      apply Array.ext_getElem?
      intro j
      rw [Array.getElem?_modify]
      split
      · rename_i e; subst e; rw [hx2]; simp [← hxk]
      · rfl
    obtain ⟨a1, a2, a3, a4⟩ := he i e x he1 hx2
    refine ⟨m, w, .tuple #[x.val, .int .i64 x.born], ?_, tupok a2 a3, hr⟩
    simp [Instr.mapEntry, run_und hd, hg, hc, hq, hx2, hxk, stays_run hk, setObj_map _ hw, hsame, setBlk_same hw, goInt]

theorem entryStore_run {t : TypeId} {v : V} {um us uv : Value} {id i : Nat} {es : List (V × V)} {e : V × V} (hr : Rel cx own m s tmps w)
    (hvm : VR (Rd own w) m (.map id) um) (hvs : VR (Rd own w) m (.stamp id i) us) (hvv : VR (Rd own w) m v uv) (hh : s.h id = some (.map es)) (hi : es[i]? = some e) :
    ∃ w2, (Instr.entryStore t um us uv).run P w = .ok () w2 ∧ Rel cx own m { s with h := s.h.upd id (some (.map (es.set i (e.1, v)))) } tmps w2 := by
  obtain ⟨b, r0, h1, rfl⟩ := map_inv hvm
  obtain ⟨b2, r2, h2, _, ents, clock, hw, hl, he, hinj, hlast⟩ := hr.f.heap.map id es hh
  rw [h1] at h2; simp at h2; obtain ⟨rfl, rfl⟩ := h2
  cases hvs with
  | stamp _ _ n hs =>
    have hil : i < ents.size := by have := (List.getElem?_eq_some_iff.1 hi).1; omega
    obtain ⟨a1, a2, a3, a4⟩ := he i e ents[i] hi (Array.getElem?_eq_getElem hil)
    rw [hs] at a3; simp at a3
    have hg : (getObj b).run P w = .ok (.map ents clock) w := by simp [getObj, Sem.run, hw]
    have hfi : ents.findIdx? (fun e => (e.born : Int) == n) = some i := by
      rw [Array.findIdx?_eq_some_iff_getElem]
      refine ⟨hil, by simp [a3], fun j hj => ?_⟩
      simp only [beq_iff_eq, Int.natCast_inj]
      intro hjn
      have := hinj j i ents[j] ents[i] (Array.getElem?_eq_getElem (by omega)) (Array.getElem?_eq_getElem hil) (by omega)
      omega
    have hmod : (ents.modify i fun e => { e with val := uv }) = ents.modify i fun x => { x with key := ents[i].key, val := uv } := by
      apply Array.ext_getElem?
      intro j
      rw [Array.getElem?_modify, Array.getElem?_modify]
      split
      · rename_i hh; subst hh; rw [Array.getElem?_eq_getElem hil]; rfl
      · rfl
    refine ⟨setBlk w b (.map (ents.modify i fun e => { e with val := uv }) clock), ?_, ?_⟩
    · have ha : (asIntOf (.int .i64 n)).run P w = .ok (.i64, (n : Int)) w := rfl
      simp [Instr.entryStore, hg, asInt, ha, hfi, setObj_map _ hw]
    · rw [hmod]
      exact hr.mapSet hh h1 hw a1 hvv

end Go.Abs
