/-
  A part of the proof. Conditions: none.
-/
import Derived.Test.YtfgkfjmbjopfgaaGreatP2
import Derived.Tactics
import Derived.Orders
set_option linter.unusedVariables false
set_option linter.unusedSimpArgs false
set_option maxRecDepth 100000
namespace Go.Abs
open Go

theorem bytes_eq {a b : ByteArray} (h : (a == b) = true) : a = b := by
 have h2 : (a.data == b.data) = true := h
 have h3 := eq_of_beq h2
 cases a; cases b; simp at h3; rw [h3]
theorem bytes_self (a : ByteArray) : (a == a) = true := by
 show (a.data == a.data) = true
 exact beq_self_eq_true _

theorem keyVal_eq {k k2 : V} (h : keyEq k k2 = some true) : keyVal k = keyVal k2 := by
 unfold keyEq at h
 split at h
 ·split at h
  ·rename_i e; subst e; simp at h; subst h; rfl
  ·cases h
 ·rename_i a b
  simp at h; rw [bytes_eq h]
 ·split at h
  ·rename_i e; obtain ⟨rfl, rfl⟩ := e; simp at h; obtain ⟨rfl, rfl⟩ := h; rfl
  ·cases h
 ·cases h

theorem sameBits_self {ks : Nat} {k : V} (h : keyIs ks k = true) (n : Nat) : Instr.sameBits (n + 2) (keyVal k) (keyVal k) = true := by
 unfold keyIs at h
 split at h
 ·simp [keyVal, Instr.sameBits]
 ·simp [keyVal, Instr.sameBits, bytes_self]
 ·simp [keyVal, Instr.sameBits]
 ·cases h

theorem findKey_at {k : V} : ∀ {es : List (V × V)} {i : Nat}, findKey k es = some (some i) → ∃ e, es[i]? = some e ∧ keyEq k e.1 = some true
 | [], i, h => by simp [findKey] at h
 | e :: es, i, h => by
  simp only [findKey] at h
  split at h
  ·rename_i hq; simp at h; subst h; exact ⟨e, rfl, hq⟩
  ·simp only [Option.map_eq_some_iff] at h
   obtain ⟨r, h1, h2⟩ := h
   cases r with
   | none => simp at h2
   | some j =>
    simp at h2; subst h2
    obtain ⟨e2, h3, h4⟩ := findKey_at h1
    exact ⟨e2, by simpa using h3, h4⟩
  ·cases h

def setBlk (w : World) (b : Nat) (o : Obj) : World := { w with heap := w.heap.setIfInBounds b o }

theorem setBlk_same {w : World} {b : Nat} {o : Obj} (h : w.heap[b]? = some o) : setBlk w b o = w := by
 have : w.heap.setIfInBounds b o = w.heap := by
  apply Array.ext_getElem?
  intro i
  rw [Array.getElem?_setIfInBounds]
  split
  ·rename_i e; subst e
   split
   ·exact h.symm
   ·rename_i hn; have := lt_of_heap h; omega
  ·rfl
 simp [setBlk, this]

theorem setObj_map {P : Program} {w : World} {b : Nat} {ents : Array MapEntry} {clock : Nat} (o : Obj) (hw : w.heap[b]? = some (.map ents clock)) : (setObj b o).run P w = .ok () (setBlk w b o) := by
 simp [setObj, Sem.run, hw, setBlk]

theorem Rel.mapTurn {cx : Cx} {own : Nat → Prop} {m : Maps} {s : S} {tmps : Array Value} {w : World} (hr : Rel cx own m s tmps w) {id b : Nat} {r : Nat × Nat × Nat} {es : List (V × V)} (hh : s.h id = some (.map es)) (hsg : m.sg id = some (b, r))
  {m2 : Maps} (hm : m.le m2) (hsg2 : m2.sg = m.sg) (hbt2 : m2.bt = m.bt) (hbo2 : ∀ i, i ≠ id → BoKeeps m m2 i) {es2 : List (V × V)} {ents2 : Array MapEntry} {clock2 : Nat} (hl : ents2.size = es2.length)
  (hv : ∀ (i : Nat) (e : V × V) (x : MapEntry), es2[i]? = some e → ents2[i]? = some x → VR (Rd own w) m2 e.1 x.key ∧ VR (Rd own w) m2 e.2 x.val ∧ m2.bo id i = some x.born ∧ x.born < clock2)
  (hinj : ∀ (i j : Nat) (x y : MapEntry), ents2[i]? = some x → ents2[j]? = some y → x.born = y.born → i = j) (hlast : ∀ i n, es2.length ≤ i → m2.bo id i = some n → False) :
  Rel cx own m2 { s with h := s.h.upd id (some (.map es2)) } tmps (setBlk w b (.map ents2 clock2)) ∧ (∀ x o u, Rd own w x o u → Rd own (setBlk w b (.map ents2 clock2)) x o u) := by
 obtain ⟨b2, o, sz, C, e1, hown, hblk⟩ := hr.f.heap.blk id _ hh
 rw [hsg] at e1; simp at e1; obtain ⟨rfl, rfl⟩ := e1
 have hlt := hblk.lt
 have hoth : Other w (setBlk w b (.map ents2 clock2)) b := ⟨⟨rfl, rfl, rfl⟩, by simp [setBlk], fun x hx _ => by simp only [setBlk]; rw [Array.getElem?_setIfInBounds_ne (fun e => hx e.symm)]⟩
 have hrd := rd_mono (own2 := own) hoth (.inl hown) (fun x hx _ => .inl hx)
 obtain ⟨hkf, hk0⟩ := hr.k.ids id _ b _ hh hsg
 refine ⟨?_, hrd⟩
 refine hr.heapSet (b := b) (id := id) hoth hm (fun t g x h => by rw [hbt2] at h; exact h) hbo2 (fun x => ⟨.inl, fun h => h.elim _root_.id (fun e => e ▸ hown)⟩) (.inl hown) ?_ ?_ ?_ hk0 hkf (hr.k.live id _ hh) ?_
 ·intro t2 g2 cs2 h1 h2
  exact hr.f.bh t2 g2 cs2 id _ b _ h1 hh h2 hsg
 ·intro k x hk hne
  simp only [Heap.upd, if_neg hne] at hk
  exact ⟨hk, fun r h2 => hne (hr.f.heap.inj k id x _ b _ _ hk hh h2 hsg)⟩
 ·intro x hx
  simp [Heap.upd] at hx
  subst hx
  refine ⟨o, sz, C, by rw [hsg2]; exact hsg, ents2, clock2, ?_, hl, fun i e x h1 h2 => ?_, hinj, hlast⟩
  ·simp only [setBlk]; rw [Array.getElem?_setIfInBounds_self_of_lt hlt]
  ·obtain ⟨a1, a2, a3, a4⟩ := hv i e x h1 h2
   exact ⟨a1.mono hrd (.refl _), a2.mono hrd (.refl _), a3, a4⟩
 ·obtain ⟨N, h1, h2, h3⟩ := hr.f.fin
  refine ⟨N, fun i hi => by rw [hsg2]; exact h1 i hi, fun t g hg => by rw [hbt2]; exact h2 t g hg, fun i k hi => ?_⟩
  have hne : i ≠ id := fun e => by subst e; rw [h1 i hi] at hsg; cases hsg
  cases e : m2.bo i k with
  | none => rfl
  | some n => have := hbo2 i hne k n e; rw [h3 i k hi] at this; cases this

variable {P : Program} {cx : Cx} {own : Nat → Prop} {m : Maps} {s : S} {tmps : Array Value} {w : World}

def Maps.setBo (m : Maps) (id i n : Nat) : Maps := { m with bo := fun j k => if j = id ∧ k = i then some n else m.bo j k }

theorem Maps.le_setBo {m : Maps} {id i n : Nat} (h : m.bo id i = none) : m.le (m.setBo id i n) := by
 refine ⟨fun _ _ h => h, fun _ _ _ h => h, fun j k x hx => ?_⟩
 simp only [Maps.setBo]
 split
 ·rename_i e; obtain ⟨rfl, rfl⟩ := e; rw [h] at hx; cases hx
 ·exact hx

theorem stays_run {ks : Nat} {k : V} (hk : keyIs ks k = true) : (Instr.keyThatStays (keyVal k) (keyVal k)).run P w = .ok (keyVal k) w := by
 have : Instr.sameBits 10000 (keyVal k) (keyVal k) = true := sameBits_self hk 9998
 simp [Instr.keyThatStays, this]

theorem Rel.mapPush (hr : Rel cx own m s tmps w) {id b : Nat} {r : Nat × Nat × Nat} {es : List (V × V)} (hh : s.h id = some (.map es)) (hsg : m.sg id = some (b, r)) {ents : Array MapEntry} {clock : Nat} (hw : w.heap[b]? = some (.map ents clock))
  {k v : V} {uk uv : Value} (hk : VR (Rd own w) m k uk) (hv : VR (Rd own w) m v uv) :
  ∃ m2, m.le m2 ∧ m2.bo id es.length = some clock ∧ Rel cx own m2 { s with h := s.h.upd id (some (.map (es ++ [(k, v)]))) } tmps (setBlk w b (.map (ents.push { key := uk, val := uv, born := clock }) (clock + 1))) ∧
   (∀ x o u, Rd own w x o u → Rd own (setBlk w b (.map (ents.push { key := uk, val := uv, born := clock }) (clock + 1))) x o u) := by
 obtain ⟨b2, r2, e1, _, ents2, clock2, hw2, hl, he, hinj, hlast⟩ := hr.f.heap.map id es hh
 rw [hsg] at e1; simp at e1; obtain ⟨rfl, rfl⟩ := e1
 rw [hw] at hw2; simp at hw2; obtain ⟨rfl, rfl⟩ := hw2
 have hn : m.bo id es.length = none := by
  cases e : m.bo id es.length with
  | none => rfl
  | some n => exact (hlast _ n (Nat.le_refl _) e).elim
 have hm := Maps.le_setBo (n := clock) hn
 have hbo : (m.setBo id es.length clock).bo id es.length = some clock := by simp [Maps.setBo]
 have hcase : ∀ (i : Nat) (x : MapEntry), (ents.push { key := uk, val := uv, born := clock })[i]? = some x → (i < es.length ∧ ents[i]? = some x) ∨ (i = es.length ∧ x = { key := uk, val := uv, born := clock }) := by
  intro i x h
  rw [Array.getElem?_push] at h
  split at h
  ·rename_i e; simp at h; exact .inr ⟨by omega, h.symm⟩
  ·have := (Array.getElem?_eq_some_iff.1 h).1; exact .inl ⟨by omega, h⟩
 obtain ⟨h1, h2⟩ := hr.mapTurn hh hsg hm rfl rfl (ents2 := ents.push { key := uk, val := uv, born := clock }) (clock2 := clock + 1) (es2 := es ++ [(k, v)])
  (fun i hi j n h => by simp only [Maps.setBo] at h; rw [if_neg (fun e => hi e.1)] at h; exact h) (by simp [hl])
  (fun i e x h1 h2 => by
   rcases hcase i x h2 with ⟨h3, h4⟩ | ⟨rfl, rfl⟩
   ·rw [List.getElem?_append_left h3] at h1
    obtain ⟨a1, a2, a3, a4⟩ := he i e x h1 h4
    exact ⟨a1.mono (fun _ _ _ h => h) hm, a2.mono (fun _ _ _ h => h) hm, hm.bo _ _ _ a3, by omega⟩
   ·simp at h1; subst h1
    exact ⟨hk.mono (fun _ _ _ h => h) hm, hv.mono (fun _ _ _ h => h) hm, hbo, by simp⟩)
  (fun i j x y h1 h2 h3 => by
   rcases hcase i x h1 with ⟨a1, a2⟩ | ⟨rfl, rfl⟩ <;> rcases hcase j y h2 with ⟨b1, b2⟩ | ⟨rfl, rfl⟩
   ·exact hinj i j x y a2 b2 h3
   ·have := (he i es[i] x (List.getElem?_eq_getElem a1) a2).2.2.2
    simp at h3; omega
   ·have := (he j es[j] y (List.getElem?_eq_getElem b1) b2).2.2.2
    simp at h3; omega
   ·rfl)
  (fun i n h1 h2 => by
   simp only [List.length_append, List.length_cons, List.length_nil] at h1
   simp only [Maps.setBo] at h2
   rw [if_neg (by omega)] at h2
   exact hlast i n (by omega) h2)
 exact ⟨_, hm, hbo, h1, h2⟩

theorem Rel.mapSet (hr : Rel cx own m s tmps w) {id b : Nat} {r : Nat × Nat × Nat} {es : List (V × V)} (hh : s.h id = some (.map es)) (hsg : m.sg id = some (b, r)) {ents : Array MapEntry} {clock : Nat} (hw : w.heap[b]? = some (.map ents clock))
  {i : Nat} {k v : V} {uk uv : Value} (hk : VR (Rd own w) m k uk) (hv : VR (Rd own w) m v uv) :
  Rel cx own m { s with h := s.h.upd id (some (.map (es.set i (k, v)))) } tmps (setBlk w b (.map (ents.modify i fun e => { e with key := uk, val := uv }) clock)) := by
 obtain ⟨b2, r2, e1, _, ents2, clock2, hw2, hl, he, hinj, hlast⟩ := hr.f.heap.map id es hh
 rw [hsg] at e1; simp at e1; obtain ⟨rfl, rfl⟩ := e1
 rw [hw] at hw2; simp at hw2; obtain ⟨rfl, rfl⟩ := hw2
 have hcase : ∀ (j : Nat) (x : MapEntry), (ents.modify i fun e => { e with key := uk, val := uv })[j]? = some x → ∃ y, ents[j]? = some y ∧ x = if i = j then { y with key := uk, val := uv } else y := by
  intro j x h
  rw [Array.getElem?_modify] at h
  split at h
  ·simp only [Option.map_eq_some_iff] at h
   obtain ⟨y, h1, h2⟩ := h
   exact ⟨y, h1, by rw [if_pos (by assumption)]; exact h2.symm⟩
  ·exact ⟨x, h, by rw [if_neg (by assumption)]⟩
 refine (hr.mapTurn hh hsg (.refl m) rfl rfl (ents2 := ents.modify i fun e => { e with key := uk, val := uv }) (clock2 := clock) (es2 := es.set i (k, v)) (fun _ _ => fun _ _ h => h) (by simp [hl]) (fun j e x h1 h2 => ?_) (fun j j2 x y h1 h2 h3 => ?_) (fun j n h1 h2 => ?_)).1
 ·obtain ⟨y, h3, rfl⟩ := hcase j x h2
  rw [List.getElem?_set] at h1
  split at h1
  ·rename_i e; subst e
   split at h1
   ·rename_i hi
    simp at h1; subst h1
    obtain ⟨_, _, a3, a4⟩ := he i es[i] y (List.getElem?_eq_getElem hi) h3
    rw [if_pos rfl]
    exact ⟨hk, hv, a3, a4⟩
   ·cases h1
  ·rename_i e
   rw [if_neg e]
   exact he j _ y h1 h3
 ·obtain ⟨x0, a1, rfl⟩ := hcase j x h1
  obtain ⟨y0, b1, rfl⟩ := hcase j2 y h2
  refine hinj j j2 x0 y0 a1 b1 ?_
  split at h3 <;> split at h3 <;> simpa using h3
 ·exact hlast j n (by simpa using h1) h2

def landed (es : List (V × V)) (x : V × V) : Option Nat → List (V × V)
 | some i => es.set i x
 | none => es ++ [x]

theorem mapUpdate_run {t : TypeId} {ks : Nat} {z k v : V} {um uk uv : Value} {id : Nat} {es : List (V × V)} {r : Option Nat} (hr : Rel cx own m s tmps w) (hm : mapKeyOk P t ks = true)
  (hvm : VR (Rd own w) m (.map id) um) (hvk : VR (Rd own w) m k uk) (hvv : VR (Rd own w) m v uv) (hh : s.h id = some (.map es)) (hk : keyIs ks k = true) (hf : findKey k es = some r) :
  ∃ m2 w2, (Instr.mapUpdate t um uk uv).run P w = .ok () w2 ∧ Rel cx own m2 { s with h := s.h.upd id (some (.map (landed es (k, v) r))) } tmps w2 := by
 obtain ⟨b, r0, h1, rfl⟩ := map_inv hvm
 obtain ⟨b2, r2, h2, _, ents, clock, hw, hl, he, _⟩ := hr.f.heap.map id es hh
 rw [h1] at h2; simp at h2; obtain ⟨rfl, rfl⟩ := h2
 obtain ⟨d, hd, hdd⟩ := undB_some hm
 cases d <;> simp at hdd
 rename_i kt et
 have hkv := keyVal_of hk hvk
 subst hkv
 have hc : (Instr.checkKey false 10000 kt (keyVal k)).run P w = .ok () w := checkKey_run hdd hk 9998
 obtain ⟨q, hq, hfd⟩ := findKey_run (P := P) (w := w) hdd hk (ents_of (b := clock) hl he) hf
 have hg : (getObj b).run P w = .ok (.map ents clock) w := by simp [getObj, Sem.run, hw]
 cases r with
 | none =>
  simp only [Found] at hfd; subst hfd
  obtain ⟨m2, _, _, h3, _⟩ := hr.mapPush hh h1 hw hvk hvv
  exact ⟨m2, _, by simp [Instr.mapUpdate, run_und hd, hg, hc, hq, setObj_map _ hw], h3⟩
 | some i =>
  obtain ⟨x, hx, rfl⟩ := hfd
  obtain ⟨e, he1, he2⟩ := findKey_at hf
  have hxk : x.key = keyVal k := by
   rw [(ents_of (b := clock) hl he).2 i e x he1 hx ks (keyIs_same hk he2), keyVal_eq he2]
  have hx2 : ents[i]? = some x := by simpa using hx
  refine ⟨m, _, ?_, hr.mapSet hh h1 hw (i := i) hvk hvv⟩
  simp [Instr.mapUpdate, run_und hd, hg, hc, hq, hx2, hxk, stays_run hk, setObj_map _ hw]

theorem mapEntry_run {t : TypeId} {ks : Nat} {z k : V} {um uk : Value} {id : Nat} {es : List (V × V)} {r : Option Nat} (hr : Rel cx own m s tmps w) (hm : mapOk P t ks z = true)
  (hvm : VR (Rd own w) m (.map id) um) (hvk : VR (Rd own w) m k uk) (hh : s.h id = some (.map es)) (hk : keyIs ks k = true) (hf : findKey k es = some r) {zv : V} (hz : picked es z r = some zv) :
  ∃ m2 w2 u, (Instr.mapEntry t um uk).run P w = .ok u w2 ∧ VR (Rd own w2) m2 (.tup [zv, .stamp id (match r with | some i => i | none => es.length)]) u ∧
   Rel cx own m2 (match r with | some _ => s | none => { s with h := s.h.upd id (some (.map (es ++ [(k, z)]))) }) tmps w2 := by
 obtain ⟨b, r0, h1, rfl⟩ := map_inv hvm
 obtain ⟨b2, r2, h2, _, ents, clock, hw, hl, he, _⟩ := hr.f.heap.map id es hh
 rw [h1] at h2; simp at h2; obtain ⟨rfl, rfl⟩ := h2
 obtain ⟨kt, et, uz, hd, hko, hzr, hvz⟩ := mapOk_some (w := w) hm
 have hkv := keyVal_of hk hvk
 subst hkv
 have hc : (Instr.checkKey false 10000 kt (keyVal k)).run P w = .ok () w := checkKey_run hko hk 9998
 obtain ⟨q, hq, hfd⟩ := findKey_run (P := P) (w := w) hko hk (ents_of (b := clock) hl he) hf
 have hg : (getObj b).run P w = .ok (.map ents clock) w := by simp [getObj, Sem.run, hw]
 have tupok : ∀ {rd : Reads} {m2 : Maps} {a : V} {ua : Value} {i n : Nat}, VR rd m2 a ua → m2.bo id i = some n → VR rd m2 (.tup [a, .stamp id i]) (.tuple #[ua, .int .i64 n]) := by
  intro rd m2 a ua i n ha hb
  refine .tup _ _ rfl fun j c u h1 h2 => ?_
  match j with
  | 0 => simp at h1 h2; subst h1; subst h2; exact ha
  | 1 => simp at h1 h2; subst h1; subst h2; exact .stamp _ _ _ hb
  | j + 2 => simp at h1
 cases r with
 | none =>
  simp only [Found] at hfd; subst hfd
  simp only [picked, Option.some.injEq] at hz; subst hz
  obtain ⟨m2, hle, hbo, h3, h4⟩ := hr.mapPush hh h1 hw hvk (hvz (Rd own w) m).1
  exact ⟨m2, _, _, by simp [Instr.mapEntry, run_und hd, hg, hc, hq, hzr, setObj_map _ hw, goInt], tupok ((hvz _ _).1) hbo, h3⟩
 | some i =>
  obtain ⟨x, hx, rfl⟩ := hfd
  obtain ⟨e, he1, he2⟩ := findKey_at hf
  have hxk : x.key = keyVal k := by
   rw [(ents_of (b := clock) hl he).2 i e x he1 hx ks (keyIs_same hk he2), keyVal_eq he2]
  have hx2 : ents[i]? = some x := by simpa using hx
  simp only [picked, he1, Option.map_some, Option.some.injEq] at hz; subst hz
  have hsame : (ents.modify i fun e => { e with key := keyVal k }) = ents := by
   apply Array.ext_getElem?
   intro j
   rw [Array.getElem?_modify]
   split
   ·rename_i e; subst e; rw [hx2]; simp [← hxk]
   ·rfl
  obtain ⟨a1, a2, a3, a4⟩ := he i e x he1 hx2
  refine ⟨m, w, .tuple #[x.val, .int .i64 x.born], ?_, tupok a2 a3, hr⟩
  simp [Instr.mapEntry, run_und hd, hg, hc, hq, hx2, hxk, stays_run hk, setObj_map _ hw, hsame, setBlk_same hw, goInt]

theorem entryStore_run {t : TypeId} {v : V} {um us uv : Value} {id i : Nat} {es : List (V × V)} {e : V × V} (hr : Rel cx own m s tmps w)
  (hvm : VR (Rd own w) m (.map id) um) (hvs : VR (Rd own w) m (.stamp id i) us) (hvv : VR (Rd own w) m v uv) (hh : s.h id = some (.map es)) (hi : es[i]? = some e) :
  ∃ w2, (Instr.entryStore t um us uv).run P w = .ok () w2 ∧ Rel cx own m { s with h := s.h.upd id (some (.map (es.set i (e.1, v)))) } tmps w2 := by
 obtain ⟨b, r0, h1, rfl⟩ := map_inv hvm
 obtain ⟨b2, r2, h2, _, ents, clock, hw, hl, he, hinj, hlast⟩ := hr.f.heap.map id es hh
 rw [h1] at h2; simp at h2; obtain ⟨rfl, rfl⟩ := h2
 cases hvs with
 | stamp _ _ n hs =>
  have hil : i < ents.size := by have := (List.getElem?_eq_some_iff.1 hi).1; omega
  obtain ⟨a1, a2, a3, a4⟩ := he i e ents[i] hi (Array.getElem?_eq_getElem hil)
  rw [hs] at a3; simp at a3
  have hg : (getObj b).run P w = .ok (.map ents clock) w := by simp [getObj, Sem.run, hw]
  have hfi : ents.findIdx? (fun e => (e.born : Int) == n) = some i := by
   rw [Array.findIdx?_eq_some_iff_getElem]
   refine ⟨hil, by simp [a3], fun j hj => ?_⟩
   simp only [beq_iff_eq, Int.natCast_inj]
   intro hjn
   have := hinj j i ents[j] ents[i] (Array.getElem?_eq_getElem (by omega)) (Array.getElem?_eq_getElem hil) (by omega)
   omega
  have hmod : (ents.modify i fun e => { e with val := uv }) = ents.modify i fun x => { x with key := ents[i].key, val := uv } := by
   apply Array.ext_getElem?
   intro j
   rw [Array.getElem?_modify, Array.getElem?_modify]
   split
   ·rename_i hh; subst hh; rw [Array.getElem?_eq_getElem hil]; rfl
   ·rfl
  refine ⟨setBlk w b (.map (ents.modify i fun e => { e with val := uv }) clock), ?_, ?_⟩
  ·have ha : (asIntOf (.int .i64 n)).run P w = .ok (.i64, (n : Int)) w := rfl
   simp [Instr.entryStore, hg, asInt, ha, hfi, setObj_map _ hw]
  ·rw [hmod]
   exact hr.mapSet hh h1 hw a1 hvv

end Go.Abs
namespace Go.Abs
open Go

def chkOp (P : Program) (o : AOp) (p : Oper) : Bool :=
 p.dst == o.dst && match o, p.op with
 | .val _ _ x, op => chkVal P x op
 | .box _ _ x _, .box _ y => chkOpd x y
 | .box _ _ (.c (.agg z)) _, .alloc e => zeroOk P e z
 | .hbox _ _ x _, .box _ y => chkOpd x y
 | .hbox _ _ (.c (.agg z)) _, .alloc e => zeroOk P e z
 | .bsl _ _ sz n zero parts, .buildSlice t n2 ps => n == n2 && zero.length == sz && sz != 0 && decide (n * sz ≤ 16777216) && partsS sz parts ps.toList && undB P t fun d => match d with
  | .slice e => sizeB P e == some sz && zeroOk P e zero
  | _ => false
 | .mks _ _ n c sz bytes zero, .makeSlice t n2 c2 => chkOpd n n2 && chkOpd c c2 && undB P t fun d => match d with
  | .slice e => elemOk P e sz bytes && zeroOk P e zero
  | _ => false
 | .st _ x v n, .store t x2 v2 => chkOpd x x2 && chkOpd v v2 && sizeB P t == some n
 | .stl _ x v n, .store t x2 v2 => chkOpd x x2 && chkOpd v v2 && sizeB P t == some n
 | .app _ _ x y sz bytes, .call { callee := .builtin .append, args := as, argTypes := ts } => match as.toList, ts.toList with
  | [a, b], [t1, t2] => chkOpd x a && chkOpd y b && bytes != 0 && undB P t2 (fun d => match d with | .slice _ | .string => true | _ => false) && undB P t1 fun d => match d with
   | .slice e => elemOk P e sz bytes
   | _ => false
  | _, _ => false
 | .cpy _ _ x y sz, .call { callee := .builtin .copy, args := as, argTypes := ts } => match as.toList, ts.toList with
  | [a, b], [t1, _] => chkOpd x a && chkOpd y b && isSliceOf P t1 sz
  | _, _ => false
 | .call _ _ f args, .call { callee := .value (.func f2), args := as, argTypes := _ } => f == f2 && chkOpds args as.toList
 | .pcall _ _ f args, .call { callee := .value (.func f2), args := as, argTypes := _ } => f == f2 && chkOpds args as.toList
 | .callv _ _ f args, .call { callee := .value f2, args := as, argTypes := _ } => chkOpd f f2 && chkOpds args as.toList
 | .mkm _ _, .makeMap _ none => true
 | .mup _ ks m k v, .mapUpdate t m2 k2 v2 => chkOpd m m2 && chkOpd k k2 && chkOpd v v2 && mapKeyOk P t ks
 | .mup _ ks m k v, .insert t m2 k2 v2 => chkOpd m m2 && chkOpd k k2 && chkOpd v v2 && mapKeyOk P t ks
 | .men _ _ ks m k z, .mapEntry t m2 k2 => chkOpd m m2 && chkOpd k k2 && mapOk P t ks z
 | .mst _ m st v, .entryStore _ m2 s2 v2 => chkOpd m m2 && chkOpd st s2 && chkOpd v v2
 | _, _ => false

def Aft (cx : Cx) (Q : S → Prop) (ds : List Deferred) : Act → World → Prop := fun a w => ∃ own m s, Q s ∧ Rel cx own m s a.tmps w ∧ a.defers = ds

theorem put_defers (a : Act) (d : Option Tmp) (v : Value) : (a.put d v).defers = a.defers := by cases d <;> rfl

theorem enter_run {P : Program} {w : World} {f : Nat} {args : Array Value} (h : Enters P f) : (callFunc f args).run P w = .ok (.enter f args) w := by
 obtain ⟨fn, h1, h2, h3⟩ := h
 have hn : fn.body.isNone = false := by cases hb : fn.body <;> simp_all
 have h2' : (fn.name == "runtime.NumGoroutine") = false := by simpa using h2
 simp only [callFunc, Sem.run_bind, run_program, Result.andThen_ok, h1, h2', hn, Bool.false_eq_true, if_false, Sem.run_pure]

section
variable {P : Program} {cx : Cx} {own : Nat → Prop} {m : Maps} {s : S} {a : Act} {w : World} {K : Act → World → Prop} {Qx : Exit → Act → World → Prop} {Q : S → Prop} {p : Oper}

theorem upon_value_put {own2 : Nat → Prop} {m2 : Maps} {s2 : S} {u : Value} {v : V} {w2 : World} {d : Option Nat} (hd : p.dst = d) (hrun : (execOp a.eval p).run P w = .ok (.value u) w2) (hr : Rel cx own2 m2 s2 a.tmps w2)
  (hv : VR (Rd own2 w2) m2 v u) (hq : Q (s2.put d v)) (hK : ∀ a2 w2, Aft cx Q a.defers a2 w2 → K a2 w2) : p.wp P a w K Qx := by
 unfold Oper.wp
 rw [hrun]
 exact hK _ _ ⟨own2, m2, _, hq, by rw [hd]; exact hr.put d hv, put_defers _ _ _⟩

theorem mup_ok {ks : Nat} {x k v : Opd} {g : Option (Nat × Bool)} {t : TypeId} {um uk uv : Value} (hr : Rel cx own m s a.tmps w) (hd : p.dst = none)
  (hrun : execOp a.eval p = (do Instr.mapUpdate t um uk uv; pure .skip)) (hxv : VR (Rd own w) m (ev s.env x) um) (hkv : VR (Rd own w) m (ev s.env k) uk) (hvv : VR (Rd own w) m (ev s.env v) uv)
  (hm : mapKeyOk P t ks = true) (h : (AOp.mup g ks x k v).run (Sim P) s Q) (hK : ∀ a2 w2, Aft cx Q a.defers a2 w2 → K a2 w2) : p.wp P a w K Qx := by
 simp only [AOp.run] at h
 split at h <;> first | exact h.elim | skip
 rename_i id hid
 rw [hid] at hxv
 split at h <;> first | exact h.elim | skip
 rename_i es hes
 obtain ⟨hk, h⟩ := h
 have fin : ∀ r, findKey (ev s.env k) es = some r → Q { s with h := s.h.upd id (some (.map (landed es (ev s.env k, ev s.env v) r))) } → p.wp P a w K Qx := by
  intro r hf hq
  obtain ⟨m3, w2, e1, e2⟩ := mapUpdate_run (z := .nsl) hr hm hxv hkv hvv hes hk hf
  unfold Oper.wp
  rw [hrun]
  simp only [Sem.run_bind, e1, Result.andThen_ok, Sem.run_pure]
  refine hK _ _ ⟨own, m3, _, hq, ?_, put_defers _ _ _⟩
  rw [hd]; exact e2
 split at h
 ·rename_i i hf; exact fin _ hf h
 ·rename_i hf; exact fin _ hf h
 ·exact h.elim

theorem calls_next {f : Nat} {us : Array Value} {R : V → Heap → Prop} {d : Option Nat} (hd : p.dst = d) (hrun : (execOp a.eval p).run P w = .ok (.enter f us) w)
  (hc : Calls P f us w fun e w2 => match e with
   | .returned u => ∃ own2 m2 r h2, R r h2 ∧ VR (Rd own2 w2) m2 r u ∧ Rel cx own2 m2 { s with h := h2 } a.tmps w2
   | _ => False)
  (hR : ∀ r h, R r h → Q ({ s with h := h }.put d r)) (hK : ∀ a2 w2, Aft cx Q a.defers a2 w2 → K a2 w2) : p.wp P a w K Qx := by
 unfold Oper.wp
 rw [hrun]
 refine hc.mono ?_
 intro e w2 he
 cases e with
 | returned u =>
  obtain ⟨own2, m2, r, h2, h3, h4, h5⟩ := he
  exact hK _ _ ⟨own2, m2, _, hR r h2 h3, by rw [hd]; exact h5.put d h4, put_defers _ _ _⟩
 | panicked c => exact he.elim
 | outgrown => exact he.elim

theorem op_ok (hr : Rel cx own m s a.tmps w) {o : AOp} (hc : chkOp P o p = true) (h : o.run (Sim P) s Q) (hK : ∀ a2 w2, Aft cx Q a.defers a2 w2 → K a2 w2) : p.wp P a w K Qx := by
 unfold chkOp at hc
 simp only [Bool.and_eq_true, beq_iff_eq] at hc
 obtain ⟨hd, hc⟩ := hc
 generalize hop : p.op = op at hc
 split at hc
 ·rename_i g d x
  simp only [AOp.run] at h
  split at h
  ·rename_i v hv
   obtain ⟨u, hu, hvr⟩ := eval_ok (P := P) (o := p) hr.f (by rw [hop]; exact hc) hv
   exact upon_value_put (d := d) hd hu hr hvr h hK
  ·exact h.elim
 ·rename_i g d x n e y
  simp only [AOp.run] at h
  split at h
  ·rename_i cs hcs
   obtain ⟨h1, h2⟩ := cells_ok (opd_ok hr.f hc) hcs
   obtain ⟨own2, m2, gg, hr2, hv⟩ := hr.newBox d cs (a.eval y).cells e h1 h2
   exact upon_value_put (d := some d) hd (by simp [execOp, hop, Instr.box, newVar, newRow]; rfl) hr2 hv (h.2.2 gg) hK
  ·exact h.elim
 ·rename_i g d z n e
  simp only [AOp.run, ev, cellsOf] at h
  obtain ⟨zv, hz1, hz2, hz3⟩ := zero_run (w := w) hc (rd := Rd own w) (m := m)
  obtain ⟨own2, m2, gg, hr2, hv⟩ := hr.newBox d z zv.cells e hz2 hz3
  exact upon_value_put (d := some d) hd (by simp [execOp, hop, Instr.alloc, hz1, newVar, newRow]; rfl) hr2 hv (h.2.2 gg) hK
 ·rename_i g d x n e y
  simp only [AOp.run] at h
  split at h
  ·rename_i cs hcs
   obtain ⟨hn, h⟩ := h
   obtain ⟨h1, h2⟩ := cells_ok (opd_ok hr.f hc) hcs
   obtain ⟨own2, m2, id, e1, _, e3, e4, e5, e6⟩ := hr.newBlk s.h (fun _ _ h => h) (.cells (a.eval y).cells e) n 1 (.arr n [cs])
    (fun own2 m2 id hrd hm _ _ => by
     refine ⟨rfl, _, e, push_get _ _, by omega, by simp, ?_, ?_⟩
     ·intro i x hx
      cases i with
      | zero => simp at hx; subst hx; exact hn
      | succ i => simp at hx
     ·intro i x j c hx hj
      cases i with
      | zero =>
       simp at hx; subst hx
       have hlt : j < (a.eval y).cells.size := by have := (List.getElem?_eq_some_iff.1 hj).1; omega
       exact ⟨(a.eval y).cells[j], by simp [hlt], (h2 j c _ hj (Array.getElem?_eq_getElem hlt)).mono hrd hm⟩
      | succ i => simp at hx) []
   refine upon_value_put (d := some d) (v := .ep id 0 0) (u := .pointer (some ⟨w.heap.size, 0, none⟩)) hd (by simp [execOp, hop, Instr.box, newVar, newRow]; rfl) e6 ?_ (h id e1) hK
   have := VR.ep (rd := Rd own2 (push w (.cells (a.eval y).cells e))) (m := m2) id 0 0 _ _ _ _ e3
   simpa using this
  ·exact h.elim
 ·rename_i g d z n e
  simp only [AOp.run, ev, cellsOf] at h
  obtain ⟨hn, h⟩ := h
  obtain ⟨zv, hz1, hz2, hz3⟩ := zero_run (w := w) hc (rd := Rd own w) (m := m)
  obtain ⟨own2, m2, id, e1, _, e3, e4, e5, e6⟩ := hr.newBlk s.h (fun _ _ h => h) (.cells zv.cells e) n 1 (.arr n [z])
   (fun own2 m2 id hrd hm _ _ => by
    refine ⟨rfl, _, e, push_get _ _, by omega, by simp, ?_, ?_⟩
    ·intro i x hx
     cases i with
     | zero => simp at hx; subst hx; exact hn
     | succ i => simp at hx
    ·intro i x j c hx hj
     cases i with
     | zero =>
      simp at hx; subst hx
      have hlt : j < zv.cells.size := by have := (List.getElem?_eq_some_iff.1 hj).1; omega
      exact ⟨zv.cells[j], by simp [hlt], (hz3 j c _ hj (Array.getElem?_eq_getElem hlt)).mono hrd hm⟩
     | succ i => simp at hx) []
  refine upon_value_put (d := some d) (v := .ep id 0 0) (u := .pointer (some ⟨w.heap.size, 0, none⟩)) hd (by simp [execOp, hop, Instr.alloc, hz1, newVar, newRow]; rfl) e6 ?_ (h id e1) hK
  have := VR.ep (rd := Rd own2 (push w (.cells zv.cells e))) (m := m2) id 0 0 _ _ _ _ e3
  simpa using this
 ·rename_i g d sz n zero parts t n2 ps
  simp only [Bool.and_eq_true, beq_iff_eq, bne_iff_ne, decide_eq_true_eq] at hc
  obtain ⟨⟨⟨⟨⟨rfl, hzl⟩, hs0⟩, h24⟩, hps⟩, hty⟩ := hc
  obtain ⟨dd, hdd, hx⟩ := undB_some hty
  cases dd <;> simp at hx
  rename_i e
  simp only [AOp.run] at h
  split at h
  ·rename_i cs hcs
   obtain ⟨own2, m2, id, u, w2, e1, e2, e3, e4⟩ := bsl_ok hr hdd hx.1 hx.2 hzl hs0 h24 hps hcs
   exact upon_value_put (d := some d) hd (by simp only [execOp, hop, Sem.run_bind, e2, Result.andThen_ok, Sem.run_pure]) e3 e4 (h id e1) hK
  ·exact h.elim
 ·rename_i g d n c sz bytes zero t n2 c2
  simp only [Bool.and_eq_true] at hc
  obtain ⟨⟨hn, hcc⟩, hty⟩ := hc
  obtain ⟨dd, hdd, hx⟩ := undB_some hty
  cases dd <;> simp at hx
  rename_i e
  simp only [AOp.run] at h
  have hnv := opd_ok hr.f hn
  have hcv := opd_ok hr.f hcc
  split at h
  ·rename_i k1 x k2 y h1 h2
   rw [h1] at hnv; rw [h2] at hcv
   have q1 := int_inv hnv
   have q2 := int_inv hcv
   obtain ⟨own2, m2, id, u, w2, e1, e2, e3, e4⟩ := mks_ok (k1 := k1) (k2 := k2) hr hdd hx.1 hx.2 h.1 h.2.1 h.2.2.1 h.2.2.2.1
   exact upon_value_put (d := some d) hd (by simp only [execOp, hop, q1, q2, Sem.run_bind, e2, Result.andThen_ok, Sem.run_pure]) e3 e4 (h.2.2.2.2 id e1) hK
  ·exact h.elim
 ·rename_i g x v n t x2 v2
  simp only [Bool.and_eq_true, beq_iff_eq] at hc
  simp only [AOp.run] at h
  split at h
  ·rename_i s2 hs2
   obtain ⟨w2, e1, e2⟩ := store_ok (P := P) hr (opd_ok hr.f hc.1.1) (opd_ok hr.f hc.1.2) hc.2 hs2
   unfold Oper.wp
   rw [show (execOp a.eval p).run P w = .ok .skip w2 by simp only [execOp, hop, Sem.run_bind, e1, Result.andThen_ok, Sem.run_pure]]
   refine hK _ _ ⟨own, m, s2, h, ?_, put_defers _ _ _⟩
   rw [hd]; exact e2
  ·exact h.elim
 ·rename_i g x v n t x2 v2
  simp only [Bool.and_eq_true, beq_iff_eq] at hc
  simp only [AOp.run] at h
  split at h <;> first | exact h.elim | skip
  rename_i hx
  rw [← hx] at h
  split at h
  ·rename_i s2 hs2
   obtain ⟨w2, e1, e2⟩ := store_ok (P := P) hr (opd_ok hr.f hc.1.1) (opd_ok hr.f hc.1.2) hc.2 hs2
   unfold Oper.wp
   rw [show (execOp a.eval p).run P w = .ok .skip w2 by simp only [execOp, hop, Sem.run_bind, e1, Result.andThen_ok, Sem.run_pure]]
   refine hK _ _ ⟨own, m, s2, h, ?_, put_defers _ _ _⟩
   rw [hd]; exact e2
  ·exact h.elim
 ·rename_i g d x y sz bytes as ts
  split at hc
  ·rename_i p1 p2 t1 t2 hy ht
   have hy' : as = #[p1, p2] := by rw [← Array.toArray_toList (xs := as), hy]
   have ht' : ts = #[t1, t2] := by rw [← Array.toArray_toList (xs := ts), ht]
   subst hy'; subst ht'
   simp only [Bool.and_eq_true, bne_iff_ne] at hc
   obtain ⟨⟨⟨⟨hxo, hyo⟩, hb0⟩, ht2⟩, ht1⟩ := hc
   obtain ⟨dd, hdd, hel⟩ := undB_some ht1
   cases dd <;> simp at hel
   rename_i e
   simp only [AOp.run] at h
   have hxv := opd_ok hr.f hxo
   have hyv := opd_ok hr.f hyo
   split at h
   ·rename_i new hnew
    obtain ⟨hnz, h⟩ := h
    have fin : ∀ {old h1 L}, AppTo s (ev s.env x) sz old h1 L → (old.length + new.length) * bytes ≤ 70368744177664 → (ev s.env x = .nsl → new ≠ []) →
      (∀ id, s.h id = none → id ∉ L → Q { s with env := s.env.set d (.msl id 0 (old.length + new.length)), h := h1.upd id (some (.arr sz (old ++ new))) }) → p.wp P a w K Qx := by
     intro old h1 L hto hb hne hq
     obtain ⟨own2, m2, id, u, w2, e1, e2, e3, e4, e5⟩ := app_ok (ty := p.type) hr hxv hyv hdd hb0 ht2 hel hnew hnz hto hb hne
     exact upon_value_put (d := some d) hd (by simp [execOp, hop, resolve, invoke, builtin, e3]) e4 e5 (hq id e1 e2) hK
    split at h
    ·rename_i hx
     rcases h with ⟨hpos, hb, hq⟩ | ⟨hn0, hq⟩
     ·rw [hx] at fin
      refine fin (.nsl sz) (by simpa using hb) (fun _ e => by rw [e] at hpos; simp at hpos) (fun id e1 _ => ?_)
      simpa using hq id e1
     ·-- nothing onto nil
      subst hn0
      rw [hx] at hxv
      have hxe := nsl_inv hxv
      obtain ⟨hlen, narr, hnl, hnf⟩ := elems_ok (P := P) hr.f hyv hnew hnz
      have hnf0 := hnf 0 (Nat.le_refl _)
      obtain ⟨inf, z, hinf, his, hib, hs0, hzi, hzs⟩ := elemOk_some hel
      obtain ⟨d2, hd2, hdd2⟩ := undB_some ht2
      refine upon_value_put (d := some d) (u := .slice none 0 0) (v := .nsl) hd ?_ hr .nsl hq hK
      have : (Builtin.append_ #[t1, t2] p.type #[a.eval p1, a.eval p2]).run P w = .ok (.slice none 0 0) w := by
       rw [hxe]
       cases d2 <;> simp at hdd2 <;> simp [Builtin.append_, run_und hdd, run_und hd2, run_sizeB (show sizeB P e = some sz by simp [sizeB, hinf, his]), hlen, hnf0]
      simp [execOp, hop, resolve, invoke, builtin, this]
    ·rename_i id off ln hx
     split at h
     ·rename_i sz2 els hh
      obtain ⟨rfl, hle, hb, hq⟩ := h
      rw [hx] at fin
      have hl2 : ((els.drop off).take ln).length = ln := by simp; omega
      refine fin (.msl id off ln sz2 els hh hle) (by rw [hl2]; exact hb) (fun e => by cases e) (fun id2 e1 e2 => ?_)
      rw [hl2]
      exact hq id2 e1 (by simpa using e2)
     ·exact h.elim
    ·exact h.elim
   ·exact h.elim
  ·cases hc
 ·rename_i g d x y sz as ts
  split at hc
  ·rename_i p1 p2 t1 t2 hy ht
   have hy' : as = #[p1, p2] := by rw [← Array.toArray_toList (xs := as), hy]
   have ht' : ts = #[t1, t2] := by rw [← Array.toArray_toList (xs := ts), ht]
   subst hy'; subst ht'
   simp only [Bool.and_eq_true] at hc
   obtain ⟨⟨hxo, hyo⟩, ht1⟩ := hc
   obtain ⟨e, hu, hsz⟩ := slice_some ht1
   have hxv := opd_ok hr.f hxo
   have hyv := opd_ok hr.f hyo
   simp only [AOp.run] at h
   split at h
   ·rename_i id off ln hx
    split at h
    ·rename_i sz2 els hh
     obtain ⟨rfl, hle, h⟩ := h
     split at h
     ·rename_i new hnew
      rw [hx] at hxv
      obtain ⟨w2, e1, e2⟩ := cpy_ok (ty := p.type) (t2 := t2) hr hxv hyv hu hsz hh hle hnew h.1
      exact upon_value_put (d := d) hd (by simp [execOp, hop, resolve, invoke, builtin, e1]) e2 (.int _ _) h.2 hK
     ·exact h.elim
    ·exact h.elim
   ·rename_i hx
    split at h
    ·rename_i new hnew
     rw [hx] at hxv
     have hxe := nsl_inv hxv
     obtain ⟨hlen, narr, hnl, hnf⟩ := elems_ok (P := P) hr.f hyv hnew h.1
     have hnf0 := hnf 0 (Nat.zero_le _)
     refine upon_value_put (d := d) hd (u := .int .i64 0) ?_ hr (.int _ _) h.2 hK
     have : (Builtin.copy_ #[t1, t2] p.type #[a.eval p1, a.eval p2]).run P w = .ok (.int .i64 0) w := by
      rw [hxe]
      simp [Builtin.copy_, run_und hu, run_sizeB hsz, hlen, hnf0, goInt]
     simp [execOp, hop, resolve, invoke, builtin, this]
    ·exact h.elim
   ·exact h.elim
  ·cases hc
 ·rename_i g d f args f2 as ts
  simp only [Bool.and_eq_true, beq_iff_eq] at hc
  obtain ⟨rfl, hargs⟩ := hc
  obtain ⟨hl, hv⟩ := opds_ok hr.f hargs
  simp only [AOp.run] at h
  obtain ⟨hen, hcalls⟩ := call_ok (us := as.map a.eval) hr h (by simpa using hl) (fun i v u h1 h2 => hv i v u h1 (by simpa using h2))
  refine calls_next (d := d) hd ?_ hcalls (fun _ _ h => h) hK
  simp [execOp, hop, resolve, Deferred.ofValue, invoke, enter_run hen, Act.eval]
 ·rename_i g d f args f2 as ts
  simp only [Bool.and_eq_true, beq_iff_eq] at hc
  obtain ⟨rfl, hargs⟩ := hc
  obtain ⟨hl, hv⟩ := opds_ok hr.f hargs
  simp only [AOp.run] at h
  obtain ⟨hen, hcalls⟩ := call_ok (us := as.map a.eval) hr (.inr (.inl h)) (by simpa using hl) (fun i v u h1 h2 => hv i v u h1 (by simpa using h2))
  refine calls_next (d := d) hd ?_ hcalls (fun _ _ h => h) hK
  simp [execOp, hop, resolve, Deferred.ofValue, invoke, enter_run hen, Act.eval]
 ·rename_i g d f args f2 as ts
  simp only [Bool.and_eq_true] at hc
  obtain ⟨hfo, hargs⟩ := hc
  obtain ⟨hl, hv⟩ := opds_ok hr.f hargs
  have hfv := opd_ok hr.f hfo
  simp only [AOp.run] at h
  split at h
  ·rename_i k caps hk
   rw [hk] at hfv
   generalize hfe : a.eval f2 = fu at hfv
   cases hfv with
   | fn _ _ cus hcl hcf =>
    obtain ⟨hen, hcalls⟩ := call_ok (us := as.map a.eval ++ cus) hr h (by simp [hcl]; simpa using hl) (fun i v u h1 h2 => by
     rw [List.getElem?_append] at h1
     rw [Array.getElem?_append] at h2
     have hll : (args.map (ev s.env)).length = (as.map a.eval).size := by simpa using hl.symm
     split at h1
     ·rename_i hi
      rw [if_pos (by omega)] at h2
      exact hv i v u h1 (by simpa using h2)
     ·rename_i hi
      rw [if_neg (by omega)] at h2
      rw [hll] at h1
      exact hcf _ v u h1 h2)
    refine calls_next (d := d) hd ?_ hcalls (fun _ _ h => h) hK
    simp [execOp, hop, resolve, hfe, Deferred.ofValue, invoke, enter_run hen]
  ·exact h.elim
 ·rename_i g d ty
  simp only [AOp.run] at h
  obtain ⟨own2, m2, id, e1, _, e3, e4, e5, e6⟩ := hr.newBlk s.h (fun _ _ h => h) (.map #[] 0) 0 0 (.map [])
   (fun own2 m2 id hrd hm hbo _ => ⟨#[], 0, push_get _ _, rfl, fun i e x h1 => by simp at h1, fun i j x y h1 => by simp at h1, fun i n _ h2 => by rw [hbo i] at h2; cases h2⟩) []
  refine upon_value_put (d := some d) (v := .map id) (u := .map (some w.heap.size)) hd (by simp [execOp, hop, Instr.makeMap]; rfl) e6 ?_ (h id e1) hK
  exact .map id _ _ _ _ e3
 ·rename_i g ks x k v t m2 k2 v2
  simp only [Bool.and_eq_true] at hc
  obtain ⟨⟨⟨h1, h2⟩, h3⟩, h4⟩ := hc
  exact mup_ok hr hd (by simp [execOp, hop]) (opd_ok hr.f h1) (opd_ok hr.f h2) (opd_ok hr.f h3) h4 h hK
 ·rename_i g ks x k v t m2 k2 v2
  simp only [Bool.and_eq_true] at hc
  obtain ⟨⟨⟨h1, h2⟩, h3⟩, h4⟩ := hc
  exact mup_ok hr hd (by simp [execOp, hop]) (opd_ok hr.f h1) (opd_ok hr.f h2) (opd_ok hr.f h3) h4 h hK
 ·rename_i g d ks x k z t m2 k2
  simp only [Bool.and_eq_true] at hc
  obtain ⟨⟨h1, h2⟩, h4⟩ := hc
  have hxv := opd_ok hr.f h1
  have hkv := opd_ok hr.f h2
  simp only [AOp.run] at h
  split at h <;> first | exact h.elim | skip
  rename_i id hid
  rw [hid] at hxv
  split at h <;> first | exact h.elim | skip
  rename_i es hes
  obtain ⟨hk, h⟩ := h
  split at h
  ·rename_i i hf
   split at h <;> first | exact h.elim | skip
   rename_i e he
   obtain ⟨m3, w2, u, e1, e2, e3⟩ := mapEntry_run hr h4 hxv hkv hes hk hf (zv := e.2) (by simp [picked, he])
   exact upon_value_put (d := some d) hd (by simp [execOp, hop, e1]) e3 e2 h hK
  ·rename_i hf
   obtain ⟨m3, w2, u, e1, e2, e3⟩ := mapEntry_run hr h4 hxv hkv hes hk hf (zv := z) rfl
   exact upon_value_put (d := some d) hd (by simp [execOp, hop, e1]) e3 e2 h hK
  ·exact h.elim
 ·rename_i g x st v t m2 s2 v2
  simp only [Bool.and_eq_true] at hc
  obtain ⟨⟨h1, h2⟩, h3⟩ := hc
  have hxv := opd_ok hr.f h1
  have hsv := opd_ok hr.f h2
  have hvv := opd_ok hr.f h3
  simp only [AOp.run] at h
  split at h <;> first | exact h.elim | skip
  rename_i id id2 i hid hst
  obtain ⟨rfl, h⟩ := h
  rw [hid] at hxv; rw [hst] at hsv
  split at h <;> first | exact h.elim | skip
  rename_i es hes
  split at h <;> first | exact h.elim | skip
  rename_i e he
  obtain ⟨w2, e1, e2⟩ := entryStore_run (P := P) (t := t) hr hxv hsv hvv hes he
  unfold Oper.wp
  rw [show (execOp a.eval p).run P w = .ok .skip w2 by simp [execOp, hop, e1]]
  refine hK _ _ ⟨own, m, _, h, ?_, put_defers _ _ _⟩
  rw [hd]; exact e2
 ·cases hc

end
end Go.Abs
namespace Go.Abs
open Go

def chkGuard (ops : Array Oper) : Option (Nat × Bool) → Option (Nat × Bool) → Bool
 | none, none => true
 | some (t, b), some (j, b2) => b == b2 && ((ops[j]?).bind (·.dst)) == some t
 | _, _ => false

def chkOps (P : Program) (ops : Array Oper) : List AOp → List Oper → Bool
 | [], [] => true
 | o :: l, p :: r => chkOp P o p && chkGuard ops o.guard p.guard && chkOps P ops l r
 | _, _ => false

section
variable {P : Program} {cx : Cx} {Qx : Exit → Act → World → Prop}

theorem yielded_tmp {ops : Array Oper} {tmps : Array Value} {j t : Nat} (h : (ops[j]?).bind (·.dst) = some t) : yielded ops tmps j = match tmps[t]? with | some (.bool b) => some b | _ => none := by
 unfold yielded; rw [h]; rfl

theorem step_ok {own : Nat → Prop} {m : Maps} {s : S} {a : Act} {w : World} (hr : Rel cx own m s a.tmps w) {ops : Array Oper} {o : AOp} {p : Oper} (hc : chkOp P o p = true) (hg : chkGuard ops o.guard p.guard = true)
  {Q : S → Prop} (h : o.step (Sim P) s Q) {K : Act → World → Prop} (hK : ∀ a2 w2, Aft cx Q a.defers a2 w2 → K a2 w2) :
  if Region.wanted p (yielded ops a.tmps) then p.wp P a w K Qx else K (a.put p.dst Go.undef) w := by
 have hdst : p.dst = o.dst := by
  unfold chkOp at hc
  simp only [Bool.and_eq_true, beq_iff_eq] at hc
  exact hc.1
 unfold AOp.step at h
 unfold chkGuard at hg
 split at hg
 ·rename_i h1 h2
  rw [h1] at h
  simp only [Region.wanted, h2, if_true]
  exact op_ok hr hc h hK
 ·rename_i t b j b2 h1 h2
  simp only [Bool.and_eq_true, beq_iff_eq] at hg
  obtain ⟨rfl, hj⟩ := hg
  rw [h1] at h
  simp only at h
  have hvr := opd_ok (x := .t t) (y := .tmp t) hr.f (by simp [chkOpd])
  split at h
  ·rename_i v hv
   rw [hv] at hvr
   have hbv := bool_inv hvr
   have htm : a.tmps[t]? = some (.bool v) := by
    simp only [Act.eval, Array.getD_eq_getD_getElem?] at hbv
    cases hh : a.tmps[t]? with
    | none => rw [hh] at hbv; cases hbv
    | some x => rw [hh] at hbv; simp at hbv; rw [hbv]
   have hw : Region.wanted p (yielded ops a.tmps) = (v == b) := by
    simp only [Region.wanted, h2, yielded_tmp hj, htm]
    cases v <;> cases b <;> rfl
   rw [hw]
   split at h
   ·rename_i hb; subst hb; simp only [beq_self_eq_true, if_true]; exact op_ok hr hc h hK
   ·rename_i hb
    rw [show (v == b) = false by simpa using hb]
    simp only [Bool.false_eq_true, if_false]
    exact hK _ _ ⟨own, m, _, h, by rw [hdst]; exact hr.put _ .skip, put_defers _ _ _⟩
  ·rename_i hv
   rw [hv] at hvr
   have hbv : a.eval (.tmp t) = Go.undef := by
    generalize a.eval (.tmp t) = u at hvr
    cases hvr; rfl
   have hw : Region.wanted p (yielded ops a.tmps) = false := by
    simp only [Region.wanted, h2, yielded_tmp hj]
    simp only [Act.eval, Array.getD_eq_getD_getElem?] at hbv
    cases hh : a.tmps[t]? with
    | none => rfl
    | some x => rw [hh] at hbv; simp [Go.undef] at hbv; rw [hbv]; rfl
   rw [hw]
   simp only [Bool.false_eq_true, if_false]
   exact hK _ _ ⟨own, m, _, h, by rw [hdst]; exact hr.put _ .skip, put_defers _ _ _⟩
  ·exact h.elim
 ·cases hg

theorem ops_ok {ops : Array Oper} {Q : S → Prop} {ds : List Deferred} (hQ : ∀ a w, Aft cx Q ds a w → Qx .normal a w) : ∀ (l : List AOp) (r : List Oper), chkOps P ops l r = true →
  ∀ (own : Nat → Prop) (m : Maps) (s : S) (a : Act) (w : World), Rel cx own m s a.tmps w → a.defers = ds → wOps (Sim P) l Q s → wpList P ops Qx r a w
 | [], [], _, own, m, s, a, w, hr, hd, h => wpList_nil (hQ a w ⟨own, m, s, h, hr, hd⟩)
 | o :: l, p :: r, hc, own, m, s, a, w, hr, hd, h => by
  simp only [chkOps, Bool.and_eq_true] at hc
  refine wpList_step fun K hK => ?_
  refine step_ok hr hc.1.1 hc.1.2 h fun a2 w2 ⟨own2, m2, s2, hq, hr2, hd2⟩ => hK a2 w2 ?_
  exact ops_ok hQ l r hc.2 own2 m2 s2 a2 w2 hr2 (hd2.trans hd) hq
 | [], _ :: _, hc, _, _, _, _, _, _, _, _ => by simp [chkOps] at hc
 | _ :: _, [], hc, _, _, _, _, _, _, _, _ => by simp [chkOps] at hc

end

abbrev DrawOk := List AOp → Array Oper → Bool

def chkCode (P : Program) (D : DrawOk) : ACode → Code → Bool
 | .skip, .skip => true
 | .region draw ops, .region _ ps d => draw == d && (if d then D ops ps else chkOps P ps ops ps.toList)
 | .seq a b, .seq x y => chkCode P D a x && chkCode P D b y
 | .cond c a b, .cond d x y => chkOpd c d && chkCode P D a x && chkCode P D b y
 | .block i a, .block j x => i == j && chkCode P D a x
 | .loop _ _ a, .loop x => chkCode P D a x
 | .exit i, .exit j => i == j
 | .ret, .ret => true
 | _, _ => false

theorem Rel.forget {cx : Cx} {own : Nat → Prop} {m : Maps} {s : S} {tmps : Array Value} {w : World} (hr : Rel cx own m s tmps w) (live boxes : List Nat) : Rel cx own m (s.keep live boxes) tmps w := by
 have hget : ∀ {α : Type} (live : List Nat) (d : α) (l : List α) (i : Nat) (x : α), (keepOnly live d l)[i]? = some x → x = d ∨ l[i]? = some x := by
  intro α live d l i x h
  simp only [keepOnly, List.getElem?_map, List.getElem?_zipIdx, Option.map_map, Option.map_eq_some_iff] at h
  obtain ⟨y, hy, h⟩ := h
  simp at h
  split at h
  ·exact .inr (by rw [hy, h])
  ·exact .inl h.symm
 have hbx : ∀ (t g : Nat) (cs : List V), (s.keep live boxes).bx[t]? = some (some (g, cs)) → s.bx[t]? = some (some (g, cs)) := by
  intro t g cs h
  rcases hget boxes none s.bx t _ h with h | h
  ·cases h
  ·exact h
 refine ⟨⟨by simp [S.keep, keepOnly, hr.f.size], fun t v hv => ?_, fun t g cs hb => hr.f.box t g cs (hbx t g cs hb), fun t g cs t2 g2 cs2 b e1 e2 => hr.f.binj t g cs t2 g2 cs2 b (hbx _ _ _ e1) (hbx _ _ _ e2),
  fun t g cs id x b r e1 => hr.f.bh t g cs id x b r (hbx _ _ _ e1), hr.f.heap, hr.f.fin⟩, ⟨hr.k.io, hr.k.size, hr.k.same, hr.k.old, hr.k.maps, hr.k.fr, hr.k.ids, fun t g cs b e1 => hr.k.bxs t g cs b (hbx _ _ _ e1), hr.k.live, hr.k.bo⟩, hr.frlt⟩
 rcases hget live V.undef s.env t v hv with h | h
 ·have hlt : t < s.env.length := by
   have := (List.getElem?_eq_some_iff.1 hv).1; simpa [S.keep, keepOnly] using this
  have hlt2 : t < tmps.size := by rw [hr.f.size]; exact hlt
  subst h
  exact ⟨tmps[t], Array.getElem?_eq_getElem hlt2, .undef _⟩
 ·exact hr.f.env t v h

def toOut : Out → Exit
 | .normal => .normal
 | .exit i => .exit i
 | .ret => .ret

def AftO (cx : Cx) (Q : Out → S → Prop) (ds : List Deferred) : Exit → Act → World → Prop := fun e a w => ∃ o, e = toOut o ∧ Aft cx (Q o) ds a w

section
variable {P : Program} {cx : Cx} {D : DrawOk}

def DrawSound (P : Program) (D : DrawOk) : Prop := ∀ (cx : Cx) (l : List AOp) (ps : Array Oper), D l ps = true → ∀ (id : Nat) (Q : S → Prop) (own : Nat → Prop) (m : Maps) (s : S) (a : Act) (w : World), Rel cx own m s a.tmps w →
 wOps (Sim P) l Q s → ∀ (Qx : Exit → Act → World → Prop), (∀ a2 w2, Aft cx Q a.defers a2 w2 → Qx .normal a2 w2) → (Code.region id ps true).wp P Qx a w

theorem code_ok (hD : DrawSound P D) : ∀ (c : ACode) (x : Code), chkCode P D c x = true → ∀ (Q : Out → S → Prop) (own : Nat → Prop) (m : Maps) (s : S) (a : Act) (w : World), Rel cx own m s a.tmps w → W (Sim P) c Q s →
  ∀ (Qx : Exit → Act → World → Prop), (∀ e a2 w2, AftO cx Q a.defers e a2 w2 → Qx e a2 w2) → x.wp P Qx a w := by
 intro c
 induction c with
 | skip =>
  intro x hc Q own m s a w hr h Qx hq
  cases x <;> simp [chkCode] at hc
  exact wp_skip (hq .normal a w ⟨.normal, rfl, own, m, s, h, hr, rfl⟩)
 | region draw ops =>
  intro x hc Q own m s a w hr h Qx hq
  cases x <;> simp [chkCode] at hc
  rename_i id ps d
  obtain ⟨rfl, hc⟩ := hc
  have hn : ∀ a2 w2, Aft cx (Q .normal) a.defers a2 w2 → Qx .normal a2 w2 := fun a2 w2 h => hq .normal a2 w2 ⟨.normal, rfl, h⟩
  cases draw with
  | false => exact wp_region_list (ops_ok hn ops ps.toList (by simpa using hc) own m s a w hr rfl h)
  | true => exact hD cx ops ps (by simpa using hc) id (Q .normal) own m s a w hr h Qx hn
 | seq c1 c2 ih1 ih2 =>
  intro x hc Q own m s a w hr h Qx hq
  cases x <;> simp [chkCode] at hc
  rename_i x1 x2
  refine wp_seq (ih1 x1 hc.1 _ own m s a w hr h _ fun e a2 w2 ⟨o, he, own2, m2, s2, hQ, hr2, hd⟩ => ?_)
  subst he
  cases o with
  | normal => exact ih2 x2 hc.2 Q own2 m2 s2 a2 w2 hr2 hQ Qx (fun e a3 w3 h3 => hq e a3 w3 (by rw [← hd]; exact h3))
  | exit i => exact hq (.exit i) a2 w2 ⟨.exit i, rfl, own2, m2, s2, hQ, hr2, hd⟩
  | ret => exact hq .ret a2 w2 ⟨.ret, rfl, own2, m2, s2, hQ, hr2, hd⟩
 | cond c1 x1 y1 ihx ihy =>
  intro x hc Q own m s a w hr h Qx hq
  cases x <;> simp [chkCode] at hc
  rename_i c2 x2 y2
  obtain ⟨⟨hco, hx⟩, hy⟩ := hc
  simp only [W] at h
  have hv := opd_ok hr.f hco
  split at h
  ·rename_i t ht
   rw [ht] at hv
   have hb := bool_inv hv
   cases t with
   | true => exact wp_cond_true hb (ihx x2 hx Q own m s a w hr (by simpa using h) Qx hq)
   | false => exact wp_cond_false hb (ihy y2 hy Q own m s a w hr (by simpa using h) Qx hq)
  ·exact h.elim
 | block i c1 ih =>
  intro x hc Q own m s a w hr h Qx hq
  cases x <;> simp [chkCode] at hc
  rename_i j x1
  obtain ⟨rfl, hc⟩ := hc
  refine wp_block (ih x1 hc _ own m s a w hr h _ fun e a2 w2 ⟨o, he, own2, m2, s2, hQ, hr2, hd⟩ => ?_)
  subst he
  cases o with
  | normal => exact hq .normal a2 w2 ⟨.normal, rfl, own2, m2, s2, hQ, hr2, hd⟩
  | exit k =>
   simp only [toOut, Exit.inBlock]
   simp only at hQ
   split at hQ
   ·rename_i hk; subst hk; rw [if_pos rfl]; exact hq .normal a2 w2 ⟨.normal, rfl, own2, m2, s2, hQ, hr2, hd⟩
   ·rename_i hk; rw [if_neg hk]; exact hq (.exit k) a2 w2 ⟨.exit k, rfl, own2, m2, s2, hQ, hr2, hd⟩
  | ret => exact hq .ret a2 w2 ⟨.ret, rfl, own2, m2, s2, hQ, hr2, hd⟩
 | loop live boxes c1 ih =>
  intro x hc Q own m s a w hr h Qx hq
  cases x <;> simp [chkCode] at hc
  rename_i x1
  intro b k cs
  let X : S → Prop := fun s => ∀ (own : Nat → Prop) (m : Maps) (a2 : Act) (w : World), Rel cx own m s a2.tmps w → a2.defers = a.defers →
     ∃ e a' w', Qx e a' w' ∧ Arrives P (lone (b.at a2 (.code x1 :: .inLoop x1 :: k)) cs w) b k cs e a' w'
  have key : ∀ s, Lp (fun X s => W (Sim P) c1 (fun o s2 => match o with | .normal => X (s2.keep live boxes) | .exit i => Q (.exit i) s2 | .ret => Q .ret s2) s) s →
    X s := by
   intro s hs
   refine hs X ?_
   intro s hF own m a2 w hr hda
   have hwp := ih x1 hc _ own m s a2 w hr hF
    (fun e a' w' => match e with
     | .normal => ∃ e2 a3 w3, Qx e2 a3 w3 ∧ Arrives P (lone (b.at a' (.code x1 :: .inLoop x1 :: k)) cs w') b k cs e2 a3 w3
     | e => Qx e a' w') (fun e a' w' ⟨o, he, own2, m2, s2, hQ, hr2, hd⟩ => by
     subst he
     cases o with
     | normal => exact hQ own2 m2 a' w' (hr2.forget live boxes) (hd.trans hda)
     | exit i => exact hq (.exit i) a' w' ⟨.exit i, rfl, own2, m2, s2, hQ, hr2, hd.trans hda⟩
     | ret => exact hq .ret a' w' ⟨.ret, rfl, own2, m2, s2, hQ, hr2, hd.trans hda⟩)
   obtain ⟨e, a1, w1, hq1, harr⟩ := hwp b (.inLoop x1 :: k) cs
   cases e with
   | normal =>
    obtain ⟨e2, a3, w3, h3, harr3⟩ := hq1
    exact ⟨e2, a3, w3, h3, .of_steps (Steps.trans harr (.one step_inLoop)) harr3⟩
   | exit id => exact ⟨_, a1, w1, hq1, .pass (x := .inLoop x1) rfl (fun _ _ => .inl (by simp)) harr⟩
   | goto l => exact ⟨_, a1, w1, hq1, .pass (x := .inLoop x1) rfl (fun _ _ => .inl (by simp)) harr⟩
   | ret => exact ⟨_, a1, w1, hq1, .pass (x := .inLoop x1) rfl (fun _ _ => .inl (by simp)) harr⟩
   | panic ch => exact ⟨_, a1, w1, hq1, .pass (x := .inLoop x1) rfl (fun _ _ => .inl (by simp)) harr⟩
   | outgrown => exact ⟨_, a1, w1, hq1, .pass (x := .inLoop x1) rfl (fun _ _ => .inl (by simp)) harr⟩
  obtain ⟨e, a', w', h1, h2⟩ := key _ h own m a w (hr.forget live boxes) rfl
  exact ⟨e, a', w', h1, .of_steps (.one step_loop) h2⟩
 | exit i =>
  intro x hc Q own m s a w hr h Qx hq
  cases x <;> simp [chkCode] at hc
  subst hc
  exact wp_exit (hq (.exit i) a w ⟨.exit i, rfl, own, m, s, h, hr, rfl⟩)
 | ret =>
  intro x hc Q own m s a w hr h Qx hq
  cases x <;> simp [chkCode] at hc
  exact wp_ret (hq .ret a w ⟨.ret, rfl, own, m, s, h, hr, rfl⟩)

end
end Go.Abs
namespace Go.Abs
open Go

def chkRes (P : Program) : List ARes → List ResultVar → Bool
 | [], [] => true
 | .tmp t :: l, .tmp t2 :: r => t == t2 && chkRes P l r
 | .cell t n agg :: l, .cell t2 ty :: r => t == t2 && tyOk P ty n agg && chkRes P l r
 | _, _ => false

def chkFn (P : Program) (D : DrawOk) (f : Nat) (a : AFn) : Bool :=
 match P.funcs[f]? with
 | some fn => fn.name != "runtime.NumGoroutine" && fn.ntmps == a.ntmps && chkRes P a.results fn.results.toList && (match fn.body with
  | some c => chkCode P D a.body c
  | none => false)
 | none => false

def resRun (tmps : Array Value) : ResultVar → Sem Value
 | .tmp t => pure (tmps.getD t Go.undef)
 | .cell a t => do loadVar t (← asAddr (tmps.getD a Go.undef))

section
variable {P : Program} {D : DrawOk}

theorem res_ok {own : Nat → Prop} {m : Maps} {s : S} {tmps : Array Value} {w : World} (hf : FRel own m s tmps w) : ∀ (rs : List ARes) (vs : List ResultVar), chkRes P rs vs = true → ∀ out, mapM? (ARes.val s) rs = some out →
  ∃ us : List Value, (vs.mapM (resRun tmps)).run P w = .ok us w ∧ us.length = out.length ∧ ∀ (i : Nat) (v : V) (u : Value), out[i]? = some v → us[i]? = some u → VR (Rd own w) m v u
 | [], [], _, out, h => by simp [mapM?] at h; subst h; exact ⟨[], by simp, rfl, by simp⟩
 | a :: rs, b :: vs, hc, out, h => by
  simp only [mapM?] at h
  split at h
  ·rename_i v r hv hrr
   simp at h; subst h
   have hval : ∃ u, (resRun tmps b).run P w = .ok u w ∧ VR (Rd own w) m v u ∧ chkRes P rs vs = true := by
    cases a with
    | tmp t =>
     cases b <;> simp [chkRes] at hc
     obtain ⟨rfl, hc⟩ := hc
     simp [ARes.val] at hv; subst hv
     have := opd_ok (a := { tmps := tmps, defers := [] }) (x := .t t) (y := .tmp t) hf (by simp [chkOpd])
     exact ⟨_, rfl, this, hc⟩
    | cell t n agg =>
     cases b <;> simp [chkRes] at hc
     rename_i t2 ty
     obtain ⟨⟨rfl, hty⟩, hc⟩ := hc
     have hvr := opd_ok (a := { tmps := tmps, defers := [] }) (x := .t t) (y := .tmp t) hf (by simp [chkOpd])
     simp only [ARes.val] at hv
     obtain ⟨x, hx, hxv⟩ := load_ok (P := P) hf hvr hty hv
     refine ⟨x, ?_, hxv, hc⟩
     have hca : ∃ cs off, cellsAt s.bx s.h (ev s.env (.t t)) = some (cs, off) := by
      unfold loadOf at hv
      split at hv
      ·rename_i cs off h; exact ⟨cs, off, h⟩
      ·cases hv
     obtain ⟨cs, off, hca⟩ := hca
     obtain ⟨b, o, hbu, _⟩ := reach hf hvr hca
     simp only [Act.eval] at hbu hx
     rw [hbu] at hx
     simp only [resRun, hbu, asAddr, Sem.run_bind, Sem.run_pure, Result.andThen_ok]
     simpa [Instr.loadAt, Instr.sureAddr] using hx
   obtain ⟨u, hu, hvr, hc2⟩ := hval
   obtain ⟨us, h1, h2, h3⟩ := res_ok hf rs vs hc2 r hrr
   refine ⟨u :: us, by rw [List.mapM_cons]; simp [hu, h1], by simp [h2], ?_⟩
   intro i v2 u2 e1 e2
   cases i with
   | zero => simp at e1 e2; subst e1; subst e2; exact hvr
   | succ i => exact h3 i v2 u2 (by simpa using e1) (by simpa using e2)
  ·cases h
 | [], _ :: _, hc, _, _ => by simp [chkRes] at hc
 | _ :: _, [], hc, _, _ => by simp [chkRes] at hc

theorem results_run {own : Nat → Prop} {m : Maps} {s : S} {tmps : Array Value} {w : World} (hf : FRel own m s tmps w) {rs : List ARes} {fn : Func} (hc : chkRes P rs fn.results.toList = true) {v : V} (h : resultOf rs s = some v) :
  ∃ u, (results fn tmps).run P w = .ok u w ∧ VR (Rd own w) m v u := by
 have hout : ∃ out, mapM? (ARes.val s) rs = some out ∧ ((∃ x, out = [x] ∧ v = x) ∨ ((∀ x, out ≠ [x]) ∧ v = .tup out)) := by
  unfold resultOf at h
  split at h
  ·rename_i x hx; simp at h; exact ⟨[x], hx, .inl ⟨x, rfl, h.symm⟩⟩
  ·rename_i vs hne hx; simp at h; exact ⟨vs, hx, .inr ⟨fun x e => hne x e, h.symm⟩⟩
  ·cases h
 obtain ⟨out, hm, hcase⟩ := hout
 obtain ⟨us, h1, h2, h3⟩ := res_ok (P := P) hf rs fn.results.toList hc out hm
 have hr : (fn.results.mapM (resRun tmps)).run P w = .ok us.toArray w := by
  rw [← Array.toArray_toList (xs := fn.results), List.mapM_toArray, Sem.run_map, h1]; rfl
 have hrun : (results fn tmps).run P w = .ok (if h : us.toArray.size = 1 then us.toArray[0] else .tuple us.toArray) w := by
  have he : results fn tmps = (do let vs ← fn.results.mapM (resRun tmps); pure (if h : vs.size = 1 then vs[0] else .tuple vs)) := rfl
  rw [he, Sem.run_bind, hr]
  simp only [Result.andThen_ok, Sem.run_pure]
 refine ⟨_, hrun, ?_⟩
 rcases hcase with ⟨x, rfl, rfl⟩ | ⟨hne, rfl⟩
 ·obtain ⟨u, rfl⟩ := List.length_eq_one_iff.1 h2
  simpa using h3 0 v u rfl rfl
 ·have hn1 : us.toArray.size ≠ 1 := by
   intro e
   match out, h2, hne with
   | [], h, _ => simp at e; rw [e] at h; simp at h
   | [x], _, hne => exact hne x rfl
   | _ :: _ :: _, h, _ => simp at e; rw [e] at h; simp at h
  rw [dif_neg hn1]
  exact .tup out us.toArray (by simpa using h2) (fun i c u hc hu => h3 i c u hc (by simpa using hu))

theorem sim_full : Full (Sim P) := fun L _ _ _ _ hf h => h.2.1 L hf

theorem fn_ok (hD : DrawSound P D) {A : Prog} (hA : ∀ f a, A f = some a → chkFn P D f a = true) (f : Nat) (vs : List V) (h : Heap) (R : V → Heap → Prop) (hb : bodyOf A (Sim P) f vs h R) : Sim P f vs h R := by
 unfold bodyOf at hb
 split at hb
 ·rename_i afn hf
  obtain ⟨hn, hW⟩ := hb
  have hc := hA f afn hf
  unfold chkFn at hc
  split at hc
  ·rename_i fn hfn
   simp only [Bool.and_eq_true, bne_iff_ne, beq_iff_eq] at hc
   obtain ⟨⟨⟨hname, hnt⟩, hres⟩, hbody⟩ := hc
   split at hbody
   ·rename_i code hcode
    refine ⟨⟨fn, hfn, hname, by simp [hcode]⟩, fun L hf => ?_, ?_⟩
    ·obtain ⟨o, s2, h1, h2⟩ := W_full (L := L) sim_full afn.body (start afn vs h) hf hW
     have fin : ∀ o, (o = Out.normal ∨ o = Out.ret) → post afn.results R o s2 → ∃ r h2, FinA L h2 ∧ R r h2 := by
      intro o ho hp
      have hp' : match resultOf afn.results s2 with
        | some v => ∃ (ids : Nat → Prop) (u : V) (h : Heap), Frz s2.h ids v u ∧ h.le s2.h ∧ (∀ i, ids i → h i = none) ∧ R u h
        | none => False := by rcases ho with rfl | rfl <;> exact hp
      split at hp'
      ·obtain ⟨ids, u, h3, _, hle, _, hR⟩ := hp'
       exact ⟨u, h3, FinA.le hle h1, hR⟩
      ·exact hp'.elim
     cases o with
     | normal => exact fin .normal (.inl rfl) h2
     | exit i => exact h2.elim
     | ret => exact fin .ret (.inr rfl) h2
    intro own m w us hh hfin hlt hl hv
    refine calls_of_wp hfn hcode ?_
    let cx : Cx := { w0 := w, m0 := m, own0 := own, h0 := HOwn m h, fr := fun b => own b ∧ ¬ HOwn m h b, dom := fun id => ∃ x, h id = some x }
    have hnone : ∀ (t : Nat) (x : Nat × List V), (start afn vs h).bx[t]? = some (some x) → False := by
     intro t x hx
     have := List.eq_of_mem_replicate (List.mem_of_getElem? hx)
     cases this
    have hr : Rel cx own m (start afn vs h) (us ++ Array.replicate (fn.ntmps - us.size) Go.undef) w := by
     refine ⟨⟨by simp [start, hl, hnt], fun t v ht => ?_, fun t g cs hx => (hnone t _ hx).elim, fun t g cs t2 g2 cs2 b hx => (hnone t _ hx).elim, fun t g cs id x b r hx => (hnone t _ hx).elim, hh, hfin⟩,
      ⟨Io.refl w, Nat.le_refl _, fun b _ _ => rfl, fun b _ h => h, Maps.le.refl m, fun b h => h.1, fun id x b r e1 e2 => ⟨fun h => h.2 ⟨id, x, r, e1, e2⟩, fun _ => ⟨id, x, r, e1, e2⟩⟩, fun t g cs b hx => (hnone t _ hx).elim,
       fun id x hx => .inr ⟨x, hx⟩, fun id x _ _ => fun _ _ h => h⟩, fun b hb => hlt b hb.1⟩
     simp only [start] at ht
     rw [List.getElem?_append] at ht
     rw [Array.getElem?_append]
     split at ht
     ·rename_i hi
      rw [if_pos (by omega)]
      have hlt : t < us.size := by omega
      exact ⟨us[t], Array.getElem?_eq_getElem hlt, hv t v us[t] ht (Array.getElem?_eq_getElem hlt)⟩
     ·rename_i hi
      rw [if_neg (by omega)]
      have hu := List.eq_of_mem_replicate (List.mem_of_getElem? ht)
      have hlt : t - vs.length < afn.ntmps - vs.length := by have := (List.getElem?_eq_some_iff.1 ht).1; simpa using this
      subst hu
      refine ⟨Go.undef, ?_, .undef _⟩
      rw [hl, hnt, Array.getElem?_replicate, if_pos hlt]
    refine code_ok hD afn.body code hbody _ own m _ { tmps := us ++ Array.replicate (fn.ntmps - us.size) Go.undef, defers := [] } w hr hW _ ?_
    intro e a2 w2 ⟨o, he, own2, m2, s2, hQ, hr2, hd⟩
    subst he
    have hfin2 : ∀ o, o = Out.normal ∨ o = Out.ret → post afn.results R o s2 → a2.defers = [] ∧ ∃ v, (results fn a2.tmps).run P w2 = .ok v w2 ∧
      ∃ own2 m2 r h2, R r h2 ∧ VR (Rd own2 w2) m2 r v ∧ Left own m h w own2 m2 h2 w2 := by
     intro o ho hp
     have hp' : match resultOf afn.results s2 with
       | some v => ∃ (ids : Nat → Prop) (u : V) (h : Heap), Frz s2.h ids v u ∧ h.le s2.h ∧ (∀ i, ids i → h i = none) ∧ R u h
       | none => False := by rcases ho with rfl | rfl <;> exact hp
     split at hp'
     ·rename_i v hv2
      obtain ⟨ids, u, h2, hfz, hle, hdrop, hR⟩ := hp'
      obtain ⟨uu, hrun, hvr⟩ := results_run (P := P) (fn := fn) hr2.f hres hv2
      refine ⟨hd, uu, hrun, fun b => own2 b ∧ ¬ Lent m2 s2.h ids b, m2, u, h2, hR, frz_ok hr2.f.heap (fun b h => h) hfz hvr, ?_⟩
      have hno : ∀ id x b r, h2 id = some x → m2.sg id = some (b, r) → ¬ Lent m2 s2.h ids b := by
       intro id x b r e1 e2 ⟨id2, y, r2, e3, e4, e5⟩
       have := hr2.f.heap.inj id id2 x y b r r2 (hle _ _ e1) e4 e2 e5
       subst this
       rw [hdrop id e3] at e1; cases e1
      have hrd : ∀ b o u, Rd own2 w2 b o u → Rd (fun b => own2 b ∧ ¬ Lent m2 s2.h ids b) w2 b o u := fun b o u ⟨h1, h2⟩ => ⟨fun h3 => h1 h3.1, h2⟩
      refine ⟨⟨fun id x hx => ?_, fun id id2 x y b r r2 e1 e2 => hr2.f.heap.inj id id2 x y b r r2 (hle _ _ e1) (hle _ _ e2)⟩, hr2.f.fin, hr2.k.maps, hr2.k.size, hr2.k.same, fun b hb ho => hr2.k.old b hb ho.1, ?_, ?_, ?_, ?_, hr2.k.io⟩
      ·obtain ⟨b, o, sz, C, f1, f2, f3⟩ := hr2.f.heap.blk id x (hle _ _ hx)
       exact ⟨b, o, sz, C, f1, ⟨f2, hno id x b _ hx f1⟩, f3.mono hrd (Maps.le.refl m2) (fun _ _ h => h) rfl⟩
      ·intro b hb ho hn2
       have hfr : cx.fr b := ⟨ho, hn2⟩
       refine ⟨hr2.k.fr b hfr, fun ⟨id, x, r, _, e4, e5⟩ => (hr2.k.ids id x b r e4 e5).1 hfr⟩
      ·intro id x b r e1 e2 hb
       exact (hr2.k.ids id x b r (hle _ _ e1) e2).2 hb
      ·intro id x hx
       exact hr2.k.live id x (hle _ _ hx)
      ·intro id x hx hn2
       exact hr2.k.bo id x hx (fun ⟨y, hy⟩ => by rw [hn2] at hy; cases hy)
     ·exact hp'.elim
    cases o with
    | normal => exact hfin2 .normal (.inl rfl) hQ
    | exit i => exact hQ.elim
    | ret => exact hfin2 .ret (.inr rfl) hQ
   ·cases hbody
  ·cases hc
 ·exact hb.elim

theorem sound (hD : DrawSound P D) {A : Prog} (hA : ∀ f a, A f = some a → chkFn P D f a = true) {f : Nat} {vs : List V} {h : Heap} {R : V → Heap → Prop} (hret : Ret A f vs h R) : Sim P f vs h R :=
 hret (Sim P) (fn_ok hD hA)

end
end Go.Abs
namespace Go.Abs
open Go

def AVal.opds : AVal → List Opd
 | .mv x | .un _ x | .fld x _ _ _ | .fa x _ | .ld x _ _ | .ldf x _ _ | .ldl x _ _ | .ldh x _ _ | .nc x | .len x | .lens x | .ext x _ | .conv _ x | .mlen x => [x]
 | .pick c a b => [c, a, b]
 | .bin _ x y | .beq _ x y | .aeq _ _ x y | .ia x y _ | .iaf x y _ | .iaa x y _ _ | .ix x y _ _ _ | .ixs x y | .mx x y | .mn x y | .lookup _ x y _ | .lookupOk _ x y _ => [x, y]
 | .build _ ps => ps.map (·.2.2)
 | .mkf _ cs => cs
 | .slc x lo hi _ | .slcs x lo hi => x :: (lo.toList ++ hi.toList)

def AOp.opds : AOp → List Opd
 | .val _ _ x => x.opds
 | .box _ _ x _ | .hbox _ _ x _ => [x]
 | .bsl _ _ _ _ _ ps => ps.map (·.2.2)
 | .mks _ _ n c _ _ _ => [n, c]
 | .st _ x v _ | .stl _ x v _ => [x, v]
 | .app _ _ x y _ _ | .cpy _ _ x y _ => [x, y]
 | .mkm _ _ => []
 | .mup _ _ m k v => [m, k, v]
 | .men _ _ _ m k _ => [m, k]
 | .mst _ m s v => [m, s, v]
 | .call _ _ _ as | .pcall _ _ _ as => as
 | .callv _ _ f as => f :: as

def AOp.reads (o : AOp) : List Nat := (o.opds.filterMap fun | .t n => some n | _ => none) ++ (match o.guard with | some (t, _) => [t] | none => [])

theorem ev_ne {e : List V} {d : Nat} {v : V} {x : Opd} (h : x ≠ .t d) : ev (e.set d v) x = ev e x := by
 cases x with
 | c v => rfl
 | t n =>
  have hne : d ≠ n := fun e => h (by rw [e])
  simp [ev, List.getElem?_set_ne hne]

theorem reads_ne {o : AOp} {d : Nat} (h : d ∉ o.reads) : ∀ x ∈ o.opds, x ≠ .t d := by
 intro x hx e
 subst e
 apply h
 simp only [AOp.reads, List.mem_append, List.mem_filterMap]
 exact .inl ⟨_, hx, rfl⟩

theorem fill_cong {e e2 : List V} : ∀ (ps : List (Nat × Nat × Opd)) (cs : List V), (∀ x ∈ ps.map (·.2.2), ev e x = ev e2 x) → fill e cs ps = fill e2 cs ps
 | [], _, _ => rfl
 | (off, n, x) :: ps, cs, h => by
  have hx : ev e x = ev e2 x := h x (by simp)
  simp only [fill, hx]
  split
  ·split
   ·exact fill_cong ps _ (fun y hy => h y (by simp at hy ⊢; exact .inr hy))
   ·rfl
  ·rfl

theorem bound_cong {e e2 : List V} {o : Option Opd} {d : Nat} (h : ∀ x ∈ o.toList, ev e x = ev e2 x) : bound e o d = bound e2 o d := by
 cases o with
 | none => rfl
 | some x => simp only [bound, h x (by simp)]

theorem eval_cong {e e2 : List V} {bx : List (Option (Nat × List V))} {h : Heap} (x : AVal) (hx : ∀ y ∈ x.opds, ev e y = ev e2 y) : x.eval e bx h = x.eval e2 bx h := by
 cases x with
 | build zero ps => simp only [AVal.eval, fill_cong ps zero hx]
 | mkf f cs =>
  simp only [AVal.eval]
  congr 2
  exact List.map_congr_left fun y hy => hx y hy
 | slc x lo hi esz =>
  have h1 : ev e x = ev e2 x := hx x (by simp [AVal.opds])
  have h2 : ∀ d, bound e lo d = bound e2 lo d := fun d => bound_cong fun y hy => hx y (by simp [AVal.opds] at hy ⊢; exact .inr (.inl hy))
  have h3 : ∀ d, bound e hi d = bound e2 hi d := fun d => bound_cong fun y hy => hx y (by simp [AVal.opds] at hy ⊢; exact .inr (.inr hy))
  simp only [AVal.eval, h1, h2, h3]
 | slcs x lo hi =>
  have h1 : ev e x = ev e2 x := hx x (by simp [AVal.opds])
  have h2 : ∀ d, bound e lo d = bound e2 lo d := fun d => bound_cong fun y hy => hx y (by simp [AVal.opds] at hy ⊢; exact .inr (.inl hy))
  have h3 : ∀ d, bound e hi d = bound e2 hi d := fun d => bound_cong fun y hy => hx y (by simp [AVal.opds] at hy ⊢; exact .inr (.inr hy))
  simp only [AVal.eval, h1, h2, h3]
 | _ =>
  simp only [AVal.opds, List.mem_cons, List.not_mem_nil, or_false, forall_eq_or_imp, forall_eq] at hx
  simp only [AVal.eval, hx]

def AVal.envOnly : AVal → Bool
 | .ld .. | .ldl .. | .ldh .. | .ia .. | .slc .. | .lookup .. | .lookupOk .. | .mlen .. => false
 | _ => true

theorem eval_env {e : List V} {bx bx2 : List (Option (Nat × List V))} {h h2 : Heap} {x : AVal} (hx : x.envOnly = true) : x.eval e bx h = x.eval e bx2 h2 := by
 cases x <;> first | rfl | (simp [AVal.envOnly] at hx)

theorem map_ev {e e2 : List V} {as : List Opd} (h : ∀ x ∈ as, ev e x = ev e2 x) : as.map (ev e) = as.map (ev e2) := List.map_congr_left fun x hx => h x hx

theorem storeOf_put {s : S} {d : Nat} {v p x : V} {n : Nat} : storeOf { s with env := s.env.set d v } p x n = (storeOf s p x n).map fun s => { s with env := s.env.set d v } := by
 unfold storeOf
 split
 ·simp only []; split
  ·split <;> rfl
  ·rfl
 ·simp only []; split
  ·split
   ·split <;> rfl
   ·rfl
  ·rfl
 ·rfl

theorem run_put {C : Call} (o : AOp) (s : S) (d : Nat) (v : V) (Q : S → Prop) (h1 : ∀ x ∈ o.opds, x ≠ .t d) (h2 : o.dst ≠ some d) :
  o.run C { s with env := s.env.set d v } Q = o.run C s (fun s1 => Q { s1 with env := s1.env.set d v }) := by
 have he : ∀ x ∈ o.opds, ev (s.env.set d v) x = ev s.env x := fun x hx => ev_ne (h1 x hx)
 have hput : ∀ (d2 : Option Nat) (u : V) (s : S), d2 ≠ some d → ({ s with env := s.env.set d v } : S).put d2 u = { s.put d2 u with env := (s.put d2 u).env.set d v } := by
  intro d2 u s hd
  cases d2 with
  | none => rfl
  | some d2 =>
   have : d ≠ d2 := fun e => hd (by rw [e])
   simp only [S.put, List.set_comm _ _ this]
 have hset : ∀ (d2 : Nat) (u : V), o.dst = some d2 → (s.env.set d v).set d2 u = (s.env.set d2 u).set d v := by
  intro d2 u hd
  have : d ≠ d2 := fun e => h2 (by rw [hd, e])
  exact List.set_comm _ _ this
 cases o with
 | val g d2 x =>
  simp only [AOp.run]
  rw [eval_cong x he]
  cases x.eval s.env s.bx s.h with
  | none => rfl
  | some u => exact congrArg Q (hput d2 u s h2)
 | box g d2 x n =>
  simp only [AOp.run, he x (by simp [AOp.opds])]
  cases cellsOf (ev s.env x) with
  | none => rfl
  | some cs => simp only [hset d2 _ rfl]
 | hbox g d2 x n =>
  simp only [AOp.run, he x (by simp [AOp.opds])]
  cases cellsOf (ev s.env x) with
  | none => rfl
  | some cs => simp only [hset d2 _ rfl]
 | bsl g d2 sz len zero ps =>
  simp only [AOp.run]
  rw [fill_cong ps _ he]
  cases fill s.env _ ps with
  | none => rfl
  | some cs => simp only [hset d2 _ rfl]
 | mks g d2 n c sz bytes zero =>
  simp only [AOp.run, he n (by simp [AOp.opds]), he c (by simp [AOp.opds]), hset d2 _ rfl]
 | stl g x y n =>
  simp only [AOp.run, he x (by simp [AOp.opds]), he y (by simp [AOp.opds]), storeOf_put]
  cases ev s.env x <;> simp only []
  rename_i t g off
  cases storeOf s (.lp t g off) (ev s.env y) n <;> rfl
 | st g x y n =>
  simp only [AOp.run, he x (by simp [AOp.opds]), he y (by simp [AOp.opds]), storeOf_put]
  cases storeOf s (ev s.env x) (ev s.env y) n <;> rfl
 | app g d2 x y sz bytes =>
  simp only [AOp.run, he x (by simp [AOp.opds]), he y (by simp [AOp.opds]), hset d2 _ rfl]
 | cpy g d2 x y sz =>
  simp only [AOp.run, he x (by simp [AOp.opds]), he y (by simp [AOp.opds])]
  have hp := fun (h : Heap) u => hput d2 u { s with h := h } h2
  simp only at hp
  simp only [hp]
 | mkm g d2 => simp only [AOp.run, hset d2 _ rfl]
 | mup g ks m k x =>
  simp only [AOp.run, he m (by simp [AOp.opds]), he k (by simp [AOp.opds]), he x (by simp [AOp.opds])]
 | men g d2 ks m k zero =>
  simp only [AOp.run, he m (by simp [AOp.opds]), he k (by simp [AOp.opds]), hset d2 _ rfl]
 | mst g m st x =>
  simp only [AOp.run, he m (by simp [AOp.opds]), he st (by simp [AOp.opds]), he x (by simp [AOp.opds])]
 | call g d2 f as =>
  have hm : as.map (ev (s.env.set d v)) = as.map (ev s.env) := map_ev fun x hx => he x hx
  have hq : (fun r h => Q (({ env := s.env.set d v, bx := s.bx, h := h } : S).put d2 r)) = fun r h => Q { ({ s with h := h } : S).put d2 r with env := (({ s with h := h } : S).put d2 r).env.set d v } := by
   funext r h; exact congrArg Q (hput d2 r { s with h := h } h2)
  simp only [AOp.run, hm]
  exact congrArg (callOk C f (as.map (ev s.env)) s.h) hq
 | pcall g d2 f as =>
  have hm : as.map (ev (s.env.set d v)) = as.map (ev s.env) := map_ev fun x hx => he x hx
  have hq : (fun r h => Q (({ env := s.env.set d v, bx := s.bx, h := h } : S).put d2 r)) = fun r h => Q { ({ s with h := h } : S).put d2 r with env := (({ s with h := h } : S).put d2 r).env.set d v } := by
   funext r h; exact congrArg Q (hput d2 r { s with h := h } h2)
  simp only [AOp.run, hm]
  exact congrArg (callPure C f (as.map (ev s.env)) s.h) hq
 | callv g d2 f as =>
  have hf := he f (by simp [AOp.opds])
  have hm := map_ev (e := s.env.set d v) (e2 := s.env) (as := as) (fun x hx => he x (by simp [AOp.opds, hx]))
  have hq : (fun r h => Q (({ env := s.env.set d v, bx := s.bx, h := h } : S).put d2 r)) = fun r h => Q { ({ s with h := h } : S).put d2 r with env := (({ s with h := h } : S).put d2 r).env.set d v } := by
   funext r h; exact congrArg Q (hput d2 r { s with h := h } h2)
  simp only [AOp.run, hf, hm]
  cases ev s.env f <;> try rfl
  simp only []
  exact congrArg (callOk C _ _ s.h) hq

/-! ### What an operation comes to -/

theorem run_env {C : Call} (hC : Sub C C) (o : AOp) (s : S) {Q : S → Prop} (h : o.run C s Q) : o.run C s fun s1 => (∀ t : Nat, o.dst ≠ some t → s1.env[t]? = s.env[t]?) ∧ Q s1 := by
 have hp : ∀ (d : Option Nat) (u : V) (s1 : S), s1.env = s.env → ∀ t : Nat, d ≠ some t → (s1.put d u).env[t]? = s.env[t]? := by
  intro d u s1 he t ht
  cases d with
  | none => simp [S.put, he]
  | some d =>
   have : d ≠ t := fun e => ht (by rw [e])
   simp [S.put, he, List.getElem?_set_ne this]
 have hs : ∀ (d : Nat) (u : V), ∀ t : Nat, some d ≠ some t → (s.env.set d u)[t]? = s.env[t]? := by
  intro d u t ht
  have : d ≠ t := fun e => ht (by rw [e])
  simp [List.getElem?_set_ne this]
 cases o with
 | val g d x => simp only [AOp.run] at h ⊢; split at h <;> first | exact ⟨hp d _ s rfl, h⟩ | exact h.elim
 | box g d x n => simp only [AOp.run] at h ⊢; split at h <;> first | exact ⟨h.1, h.2.1, fun g => ⟨hs d _, h.2.2 g⟩⟩ | exact h.elim
 | hbox g d x n => simp only [AOp.run] at h ⊢; split at h <;> first | exact ⟨h.1, fun id hid => ⟨hs d _, h.2 id hid⟩⟩ | exact h.elim
 | bsl g d sz len zero parts => simp only [AOp.run] at h ⊢; split at h <;> first | exact fun id hid => ⟨hs d _, h id hid⟩ | exact h.elim
 | mks g d n c sz bytes zero =>
  simp only [AOp.run] at h ⊢; split at h <;> first | exact h.elim | skip
  exact ⟨h.1, h.2.1, h.2.2.1, h.2.2.2.1, fun id hid => ⟨hs d _, h.2.2.2.2 id hid⟩⟩
 | stl g x v n =>
  simp only [AOp.run] at h ⊢; split at h <;> first | exact h.elim | skip
  split at h <;> first | exact h.elim | skip
  rename_i s2 hs2
  refine ⟨fun t _ => ?_, h⟩
  simp only [storeOf] at hs2
  split at hs2
  ·split at hs2
   ·simp at hs2; subst hs2; rfl
   ·cases hs2
  ·cases hs2
 | st g x v n =>
  simp only [AOp.run] at h ⊢; split at h <;> first | exact h.elim | skip
  rename_i s2 hs2
  refine ⟨fun t _ => ?_, h⟩
  unfold storeOf at hs2
  split at hs2
  ·split at hs2
   ·split at hs2
    ·simp at hs2; subst hs2; rfl
    ·cases hs2
   ·cases hs2
  ·split at hs2
   ·split at hs2
    ·split at hs2
     ·simp at hs2; subst hs2; rfl
     ·cases hs2
    ·cases hs2
   ·cases hs2
  ·cases hs2
 | app g d x y sz bytes =>
  simp only [AOp.run] at h ⊢
  split at h <;> first | exact h.elim | skip
  refine ⟨h.1, ?_⟩
  replace h := h.2
  split at h <;> first | exact h.elim | skip
  ·rcases h with h | h
   ·exact .inl ⟨h.1, h.2.1, fun id hid => ⟨hs d _, h.2.2 id hid⟩⟩
   ·exact .inr ⟨h.1, hs d _, h.2⟩
  ·split at h <;> first | exact h.elim | skip
   exact ⟨h.1, h.2.1, h.2.2.1, fun id2 h2 h3 => ⟨hs d _, h.2.2.2 id2 h2 h3⟩⟩
 | cpy g d x y sz =>
  simp only [AOp.run] at h ⊢
  split at h <;> first | exact h.elim | skip
  ·split at h <;> first | exact h.elim | skip
   refine ⟨h.1, h.2.1, ?_⟩
   replace h := h.2.2
   split at h <;> first | exact h.elim | skip
   exact ⟨h.1, hp d _ _ rfl, h.2⟩
  ·split at h <;> first | exact h.elim | exact ⟨h.1, hp d _ s rfl, h.2⟩
 | mkm g d => exact fun id hid => ⟨hs d _, h id hid⟩
 | mup g ks m key v =>
  simp only [AOp.run] at h ⊢
  split at h <;> first | exact h.elim | skip
  split at h <;> first | exact h.elim | skip
  refine ⟨h.1, ?_⟩
  replace h := h.2
  split at h <;> first | exact h.elim | exact ⟨fun _ _ => by first | rfl | trivial, h⟩
 | men g d ks m key zero =>
  simp only [AOp.run] at h ⊢
  split at h <;> first | exact h.elim | skip
  split at h <;> first | exact h.elim | skip
  refine ⟨h.1, ?_⟩
  replace h := h.2
  split at h
  ·split at h <;> first | exact h.elim | exact ⟨hs d _, h⟩
  ·exact ⟨hs d _, h⟩
  ·exact h.elim
 | mst g m stp v =>
  simp only [AOp.run] at h ⊢
  split at h <;> first | exact h.elim | skip
  refine ⟨h.1, ?_⟩
  replace h := h.2
  split at h <;> first | exact h.elim | skip
  split at h <;> first | exact h.elim | exact ⟨fun _ _ => by first | rfl | trivial, h⟩
 | call g d f args => exact callOk_mono hC (fun r h2 hv => ⟨hp d r { s with h := h2 } rfl, hv⟩) h
 | pcall g d f args =>
  simp only [AOp.run] at h ⊢
  exact callPure_mono hC (fun r h2 hv => ⟨hp d r { s with h := h2 } rfl, hv⟩) h
 | callv g d f args =>
  simp only [AOp.run] at h ⊢
  split at h <;> first | exact h.elim | skip
  exact callOk_mono hC (fun r h2 hv => ⟨hp d r { s with h := h2 } rfl, hv⟩) h


def AOp.stat (o : AOp) (e : List V) : Option Bool :=
 match o.guard with
 | none => some true
 | some (t, want) => match ev e (.t t) with
  | .bool b => some (b == want)
  | .skip => some false
  | _ => none

theorem step_eq (C : Call) (o : AOp) (s : S) (Q : S → Prop) : o.step C s Q = match o.stat s.env with
  | some true => o.run C s Q
  | some false => Q (s.put o.dst .skip)
  | none => False := by
 unfold AOp.step AOp.stat
 cases o.guard with
 | none => rfl
 | some g =>
  obtain ⟨t, want⟩ := g
  simp only []
  cases ev s.env (.t t) <;> try rfl
  rename_i b
  simp only []
  by_cases h : b = want
  ·subst h; simp
  ·have : (b == want) = false := by simpa using h
   simp [h, this]

theorem stat_cong {o : AOp} {e e2 : List V} (h : ∀ t ∈ o.reads, ev e (.t t) = ev e2 (.t t)) : o.stat e = o.stat e2 := by
 unfold AOp.stat
 cases hg : o.guard with
 | none => rfl
 | some g =>
  obtain ⟨t, want⟩ := g
  simp only []
  rw [h t (by simp [AOp.reads, hg])]

theorem opds_cong {o : AOp} {e e2 : List V} (h : ∀ t ∈ o.reads, ev e (.t t) = ev e2 (.t t)) : ∀ x ∈ o.opds, ev e x = ev e2 x := by
 intro x hx
 cases x with
 | c v => rfl
 | t n => exact h n (by simp only [AOp.reads, List.mem_append, List.mem_filterMap]; exact .inl ⟨_, hx, rfl⟩)

theorem put_put {s : S} {d1 d2 : Option Nat} {v1 v2 : V} (h : ∀ d, d1 = some d → d2 ≠ some d) : (s.put d1 v1).put d2 v2 = (s.put d2 v2).put d1 v1 := by
 cases d1 with
 | none => rfl
 | some d1 =>
  cases d2 with
  | none => rfl
  | some d2 =>
   have : d1 ≠ d2 := fun e => h d1 rfl (by rw [e])
   simp only [S.put, List.set_comm _ _ this]

theorem ev_put {s : S} {d : Option Nat} {v : V} {t : Nat} (h : d ≠ some t) : ev (s.put d v).env (.t t) = ev s.env (.t t) := by
 cases d with
 | none => rfl
 | some d => exact ev_ne (fun e => h (by injection e with e; rw [e]))

theorem put_h (s : S) (d : Option Nat) (v : V) : (s.put d v).h = s.h := by cases d <;> rfl
theorem put_bx (s : S) (d : Option Nat) (v : V) : (s.put d v).bx = s.bx := by cases d <;> rfl

def indep (j i : AOp) : Bool :=
 (match j.dst with | some d => !i.reads.contains d && i.dst != some d | none => true) && (match i.dst with | some d => !j.reads.contains d | none => true)

theorem indep_spec {j i : AOp} (h : indep j i = true) : (∀ d, j.dst = some d → d ∉ i.reads ∧ i.dst ≠ some d) ∧ (∀ d, i.dst = some d → d ∉ j.reads ∧ j.dst ≠ some d) := by
 unfold indep at h
 simp only [Bool.and_eq_true] at h
 obtain ⟨h1, h2⟩ := h
 have a1 : ∀ d, j.dst = some d → d ∉ i.reads ∧ i.dst ≠ some d := by
  intro d hd
  rw [hd] at h1
  simpa using h1
 refine ⟨a1, fun d hd => ⟨?_, fun e => (a1 d e).2 hd⟩⟩
 rw [hd] at h2
 simpa using h2

theorem step_put {C : Call} {o : AOp} {s : S} {d : Option Nat} {v : V} {Q : S → Prop} (h : ∀ x, d = some x → x ∉ o.reads ∧ o.dst ≠ some x) :
  o.step C (s.put d v) Q = o.step C s (fun s1 => Q (s1.put d v)) := by
 cases d with
 | none => rfl
 | some d =>
  obtain ⟨h1, h2⟩ := h d rfl
  rw [step_eq, step_eq]
  have hst : o.stat (s.put (some d) v).env = o.stat s.env := stat_cong fun t ht => ev_put (fun e => h1 (by injection e with e; rw [e]; exact ht))
  rw [hst]
  cases o.stat s.env with
  | none => rfl
  | some b =>
   cases b with
   | true => exact run_put o s d v Q (reads_ne h1) h2
   | false => exact congrArg Q (put_put (fun x e => by injection e with e; subst e; exact h2))

theorem step_env {C : Call} (hC : Sub C C) (o : AOp) (s : S) {Q : S → Prop} (h : o.step C s Q) : o.step C s fun s1 => (∀ t : Nat, o.dst ≠ some t → s1.env[t]? = s.env[t]?) ∧ Q s1 := by
 rw [step_eq] at h ⊢
 split at h
 ·exact run_env hC o s h
 ·refine ⟨fun t ht => ?_, h⟩
  cases hd : o.dst with
  | none => rfl
  | some d =>
   have : d ≠ t := fun e => ht (by rw [hd, e])
   simp [S.put, List.getElem?_set_ne this]
 ·exact h

def sval (o : AOp) (x : AVal) (s : S) : Option V :=
 match o.stat s.env with
 | some true => x.eval s.env s.bx s.h
 | some false => some .skip
 | none => none

theorem step_val {C : Call} {g : Option (Nat × Bool)} {d : Option Nat} {x : AVal} {s : S} {Q : S → Prop} : (AOp.val g d x).step C s Q ↔ ∃ v, sval (.val g d x) x s = some v ∧ Q (s.put d v) := by
 rw [step_eq, sval]
 cases (AOp.val g d x).stat s.env with
 | none => simp
 | some b =>
  cases b with
  | true =>
   simp only [AOp.run]
   cases x.eval s.env s.bx s.h <;> simp
  | false => simp [AOp.dst]

theorem sval_env {g : Option (Nat × Bool)} {d : Option Nat} {x : AVal} {s s1 : S} (hx : x.envOnly = true) (h : ∀ t ∈ (AOp.val g d x).reads, ev s1.env (.t t) = ev s.env (.t t)) : sval (.val g d x) x s1 = sval (.val g d x) x s := by
 unfold sval
 rw [stat_cong h]
 have he := eval_cong (bx := s1.bx) (h := s1.h) x (opds_cong (o := .val g d x) h)
 rw [he, eval_env hx (bx2 := s.bx) (h2 := s.h)]

theorem sval_any {g : Option (Nat × Bool)} {d : Option Nat} {x : AVal} {s s1 : S} (hb : s1.bx = s.bx) (hh : s1.h = s.h) (h : ∀ t ∈ (AOp.val g d x).reads, ev s1.env (.t t) = ev s.env (.t t)) : sval (.val g d x) x s1 = sval (.val g d x) x s := by
 unfold sval
 rw [stat_cong h]
 have he := eval_cong (bx := s1.bx) (h := s1.h) x (opds_cong (o := .val g d x) h)
 rw [he, hb, hh]

theorem ev_of_get {e e2 : List V} {t : Nat} (h : e[t]? = e2[t]?) : ev e (.t t) = ev e2 (.t t) := by
 simp only [ev, List.getD_eq_getElem?_getD, h]

section
variable {C : Call}

theorem swap_env_first (hC : Sub C C) (hF : Full C) {j : AOp} {g : Option (Nat × Bool)} {d : Option Nat} {x : AVal} (hx : x.envOnly = true) (hi : indep j (.val g d x) = true) {s : S} (hf : FinH s.h) {Q : S → Prop}
  (h : j.step C s fun s1 => (AOp.val g d x).step C s1 Q) : (AOp.val g d x).step C s fun s1 => j.step C s1 Q := by
 obtain ⟨i1, i2⟩ := indep_spec hi
 have h1 := step_env hC j s h
 have h2 : j.step C s fun s1 => ∃ v, sval (.val g d x) x s = some v ∧ Q (s1.put d v) := by
  refine AOp.step_mono hC j s ?_ h1
  intro s1 ⟨he, hs⟩
  rw [step_val] at hs
  rwa [sval_env hx (fun t ht => ev_of_get (he t (fun e => (i1 t e).1 ht)))] at hs
 obtain ⟨s1, _, v, hv, _⟩ := AOp.step_full hF j s (FinH.all hf) h2
 rw [step_val]
 refine ⟨v, hv, ?_⟩
 rw [step_put (d := d) (fun y e => i2 y e)]
 refine AOp.step_mono hC j s ?_ h2
 intro s1 ⟨v2, hv2, hq⟩
 rw [hv] at hv2; injection hv2 with hv2; rw [hv2]; exact hq

theorem swap_env_second (hC : Sub C C) {i : AOp} {g : Option (Nat × Bool)} {d : Option Nat} {x : AVal} (hx : x.envOnly = true) (hi : indep (.val g d x) i = true) {s : S} {Q : S → Prop}
  (h : (AOp.val g d x).step C s fun s1 => i.step C s1 Q) : i.step C s fun s1 => (AOp.val g d x).step C s1 Q := by
 obtain ⟨i1, i2⟩ := indep_spec hi
 rw [step_val] at h
 obtain ⟨v, hv, h⟩ := h
 rw [step_put (d := d) (fun y e => i1 y e)] at h
 refine AOp.step_mono hC i s ?_ (step_env hC i s h)
 intro s1 ⟨he, hq⟩
 rw [step_val, sval_env hx (fun t ht => ev_of_get (he t (fun e => (i2 t e).1 ht)))]
 exact ⟨v, hv, hq⟩

theorem swap_vals {g g2 : Option (Nat × Bool)} {d d2 : Option Nat} {x y : AVal} (hi : indep (.val g d x) (.val g2 d2 y) = true) {s : S} {Q : S → Prop}
  (h : (AOp.val g d x).step C s fun s1 => (AOp.val g2 d2 y).step C s1 Q) : (AOp.val g2 d2 y).step C s fun s1 => (AOp.val g d x).step C s1 Q := by
 obtain ⟨i1, i2⟩ := indep_spec hi
 rw [step_val] at h ⊢
 obtain ⟨v, hv, h⟩ := h
 rw [step_val] at h
 obtain ⟨u, hu, h⟩ := h
 rw [sval_any (s := s) (put_bx s d v) (put_h s d v) (fun t ht => ev_put (d := d) (fun e => (i1 t e).1 ht))] at hu
 refine ⟨u, hu, ?_⟩
 rw [step_val, sval_any (s := s) (put_bx s d2 u) (put_h s d2 u) (fun t ht => ev_put (d := d2) (fun e => (i2 t e).1 ht))]
 refine ⟨v, hv, ?_⟩
 rw [put_put (d1 := d2) (d2 := d) (fun z e => (i2 z e).2)]
 exact h

end

/-! ### What reads boxes alone; what keeps them -/

def AVal.bxOnly : AVal → Bool
 | .ldl .. => true
 | x => x.envOnly
def AOp.keepsBx : AOp → Bool
 | .box .. | .st .. | .stl .. => false
 | _ => true

theorem eval_bx {e : List V} {bx : List (Option (Nat × List V))} {h h2 : Heap} {x : AVal} (hx : x.bxOnly = true) : x.eval e bx h = x.eval e bx h2 := by
 cases x <;> first | rfl | (simp [AVal.bxOnly, AVal.envOnly] at hx)

theorem run_bx {C : Call} (hC : Sub C C) (o : AOp) (hk : o.keepsBx = true) (s : S) {Q : S → Prop} (h : o.run C s Q) : o.run C s fun s1 => s1.bx = s.bx ∧ Q s1 := by
 cases o with
 | val g d x => simp only [AOp.run] at h ⊢; split at h <;> first | exact ⟨put_bx _ _ _, h⟩ | exact h.elim
 | box g d x n => simp [AOp.keepsBx] at hk
 | st g x v n => simp [AOp.keepsBx] at hk
 | stl g x v n => simp [AOp.keepsBx] at hk
 | hbox g d x n => simp only [AOp.run] at h ⊢; split at h <;> first | exact ⟨h.1, fun id hid => ⟨(by first | rfl | trivial), h.2 id hid⟩⟩ | exact h.elim
 | bsl g d sz len zero parts => simp only [AOp.run] at h ⊢; split at h <;> first | exact fun id hid => ⟨(by first | rfl | trivial), h id hid⟩ | exact h.elim
 | mks g d n c sz bytes zero =>
  simp only [AOp.run] at h ⊢; split at h <;> first | exact h.elim | skip
  exact ⟨h.1, h.2.1, h.2.2.1, h.2.2.2.1, fun id hid => ⟨(by first | rfl | trivial), h.2.2.2.2 id hid⟩⟩
 | app g d x y sz bytes =>
  simp only [AOp.run] at h ⊢
  split at h <;> first | exact h.elim | skip
  refine ⟨h.1, ?_⟩
  replace h := h.2
  split at h <;> first | exact h.elim | skip
  ·rcases h with h | h
   ·exact .inl ⟨h.1, h.2.1, fun id hid => ⟨(by first | rfl | trivial), h.2.2 id hid⟩⟩
   ·exact .inr ⟨h.1, (by first | rfl | trivial), h.2⟩
  ·split at h <;> first | exact h.elim | skip
   exact ⟨h.1, h.2.1, h.2.2.1, fun id2 h2 h3 => ⟨(by first | rfl | trivial), h.2.2.2 id2 h2 h3⟩⟩
 | cpy g d x y sz =>
  simp only [AOp.run] at h ⊢
  split at h <;> first | exact h.elim | skip
  ·split at h <;> first | exact h.elim | skip
   refine ⟨h.1, h.2.1, ?_⟩
   replace h := h.2.2
   split at h <;> first | exact h.elim | skip
   exact ⟨h.1, put_bx _ _ _, h.2⟩
  ·split at h <;> first | exact h.elim | exact ⟨h.1, put_bx _ _ _, h.2⟩
 | mkm g d => exact fun id hid => ⟨rfl, h id hid⟩
 | mup g ks m key v =>
  simp only [AOp.run] at h ⊢
  split at h <;> first | exact h.elim | skip
  split at h <;> first | exact h.elim | skip
  refine ⟨h.1, ?_⟩
  replace h := h.2
  split at h <;> first | exact h.elim | exact ⟨(by first | rfl | trivial), h⟩
 | men g d ks m key zero =>
  simp only [AOp.run] at h ⊢
  split at h <;> first | exact h.elim | skip
  split at h <;> first | exact h.elim | skip
  refine ⟨h.1, ?_⟩
  replace h := h.2
  split at h
  ·split at h <;> first | exact h.elim | exact ⟨(by first | rfl | trivial), h⟩
  ·exact ⟨(by first | rfl | trivial), h⟩
  ·exact h.elim
 | mst g m stp v =>
  simp only [AOp.run] at h ⊢
  split at h <;> first | exact h.elim | skip
  refine ⟨h.1, ?_⟩
  replace h := h.2
  split at h <;> first | exact h.elim | skip
  split at h <;> first | exact h.elim | exact ⟨(by first | rfl | trivial), h⟩
 | call g d f args =>
  simp only [AOp.run] at h ⊢
  exact callOk_mono hC (fun r h2 hv => ⟨put_bx _ _ _, hv⟩) h
 | pcall g d f args =>
  simp only [AOp.run] at h ⊢
  exact callPure_mono hC (fun r h2 hv => ⟨put_bx _ _ _, hv⟩) h
 | callv g d f args =>
  simp only [AOp.run] at h ⊢
  split at h <;> first | exact h.elim | skip
  exact callOk_mono hC (fun r h2 hv => ⟨put_bx _ _ _, hv⟩) h

theorem step_bx {C : Call} (hC : Sub C C) (o : AOp) (hk : o.keepsBx = true) (s : S) {Q : S → Prop} (h : o.step C s Q) : o.step C s fun s1 => s1.bx = s.bx ∧ Q s1 := by
 rw [step_eq] at h ⊢
 split at h
 ·exact run_bx hC o hk s h
 ·exact ⟨put_bx _ _ _, h⟩
 ·exact h

theorem sval_bx {g : Option (Nat × Bool)} {d : Option Nat} {x : AVal} {s s1 : S} (hx : x.bxOnly = true) (hb : s1.bx = s.bx) (h : ∀ t ∈ (AOp.val g d x).reads, ev s1.env (.t t) = ev s.env (.t t)) : sval (.val g d x) x s1 = sval (.val g d x) x s := by
 unfold sval
 rw [stat_cong h]
 have he := eval_cong (bx := s1.bx) (h := s1.h) x (opds_cong (o := .val g d x) h)
 rw [he, eval_bx hx (h2 := s.h), hb]

theorem swap_bx_first {C : Call} (hC : Sub C C) (hF : Full C) {j : AOp} {g : Option (Nat × Bool)} {d : Option Nat} {x : AVal} (hx : x.bxOnly = true) (hk : j.keepsBx = true) (hi : indep j (.val g d x) = true) {s : S} (hf : FinH s.h) {Q : S → Prop}
  (h : j.step C s fun s1 => (AOp.val g d x).step C s1 Q) : (AOp.val g d x).step C s fun s1 => j.step C s1 Q := by
 obtain ⟨i1, i2⟩ := indep_spec hi
 have h1 := step_bx hC j hk s (step_env hC j s h)
 have h2 : j.step C s fun s1 => ∃ v, sval (.val g d x) x s = some v ∧ Q (s1.put d v) := by
  refine AOp.step_mono hC j s ?_ h1
  intro s1 ⟨hb, he, hs⟩
  rw [step_val] at hs
  rwa [sval_bx hx hb (fun t ht => ev_of_get (he t (fun e => (i1 t e).1 ht)))] at hs
 obtain ⟨s1, _, v, hv, _⟩ := AOp.step_full hF j s (FinH.all hf) h2
 rw [step_val]
 refine ⟨v, hv, ?_⟩
 rw [step_put (d := d) (fun y e => i2 y e)]
 refine AOp.step_mono hC j s ?_ h2
 intro s1 ⟨v2, hv2, hq⟩
 rw [hv] at hv2; injection hv2 with hv2; rw [hv2]; exact hq

theorem swap_bx_second {C : Call} (hC : Sub C C) {i : AOp} {g : Option (Nat × Bool)} {d : Option Nat} {x : AVal} (hx : x.bxOnly = true) (hk : i.keepsBx = true) (hi : indep (.val g d x) i = true) {s : S} {Q : S → Prop}
  (h : (AOp.val g d x).step C s fun s1 => i.step C s1 Q) : i.step C s fun s1 => (AOp.val g d x).step C s1 Q := by
 obtain ⟨i1, i2⟩ := indep_spec hi
 rw [step_val] at h
 obtain ⟨v, hv, h⟩ := h
 rw [step_put (d := d) (fun y e => i1 y e)] at h
 refine AOp.step_mono hC i s ?_ (step_bx hC i hk s (step_env hC i s h))
 intro s1 ⟨hb, he, hq⟩
 rw [step_val, sval_bx hx hb (fun t ht => ev_of_get (he t (fun e => (i2 t e).1 ht)))]
 exact ⟨v, hv, hq⟩

/-! ### What reads no box beside what writes boxes alone; calls of frozen arguments beside all that reads -/

def AVal.heapOnly : AVal → Bool
 | .ldh .. => true
 | x => x.envOnly
theorem eval_heap {e : List V} {bx bx2 : List (Option (Nat × List V))} {h : Heap} {x : AVal} (hx : x.heapOnly = true) : x.eval e bx h = x.eval e bx2 h := by
 cases x <;> first | rfl | (simp [AVal.heapOnly, AVal.envOnly] at hx)
theorem sval_heap {g : Option (Nat × Bool)} {d : Option Nat} {x : AVal} {s s1 : S} (hx : x.heapOnly = true) (hb : s1.h = s.h) (h : ∀ t ∈ (AOp.val g d x).reads, ev s1.env (.t t) = ev s.env (.t t)) : sval (.val g d x) x s1 = sval (.val g d x) x s := by
 unfold sval
 rw [stat_cong h]
 have he := eval_cong (bx := s1.bx) (h := s1.h) x (opds_cong (o := .val g d x) h)
 rw [he, eval_heap hx (bx2 := s.bx), hb]
def AOp.keepsH : AOp → Bool
 | .stl .. => true
 | _ => false
theorem step_h {C : Call} (o : AOp) (hk : o.keepsH = true) (s : S) {Q : S → Prop} (h : o.step C s Q) : o.step C s fun s1 => s1.h = s.h ∧ Q s1 := by
 cases o <;> try (simp [AOp.keepsH] at hk)
 rename_i g x v n
 rw [step_eq] at h ⊢
 split at h
 ·simp only [AOp.run] at h ⊢; split at h <;> first | exact h.elim | skip
  split at h <;> first | exact h.elim | skip
  rename_i s2 hs2
  refine ⟨?_, h⟩
  simp only [storeOf] at hs2
  split at hs2
  ·split at hs2
   ·simp at hs2; subst hs2; rfl
   ·cases hs2
  ·cases hs2
 ·exact ⟨put_h _ _ _, h⟩
 ·exact h
theorem swap_h_second {C : Call} (hC : Sub C C) {i : AOp} {g : Option (Nat × Bool)} {d : Option Nat} {x : AVal} (hx : x.heapOnly = true) (hk : i.keepsH = true) (hi : indep (.val g d x) i = true) {s : S} {Q : S → Prop}
  (h : (AOp.val g d x).step C s fun s1 => i.step C s1 Q) : i.step C s fun s1 => (AOp.val g d x).step C s1 Q := by
 obtain ⟨i1, i2⟩ := indep_spec hi
 rw [step_val] at h
 obtain ⟨v, hv, h⟩ := h
 rw [step_put (d := d) (fun y e => i1 y e)] at h
 refine AOp.step_mono hC i s ?_ (step_h i hk s (step_env hC i s h))
 intro s1 ⟨hb, he, hq⟩
 rw [step_val, sval_heap hx hb (fun t ht => ev_of_get (he t (fun e => (i2 t e).1 ht)))]
 exact ⟨v, hv, hq⟩
def AOp.isP : AOp → Bool
 | .pcall .. => true
 | _ => false
theorem step_p {C : Call} (hC : Sub C C) (o : AOp) (hk : o.isP = true) (s : S) {Q : S → Prop} (h : o.step C s Q) : o.step C s fun s1 => (s1.bx = s.bx ∧ s1.h = s.h) ∧ Q s1 := by
 cases o <;> try (simp [AOp.isP] at hk)
 rename_i g d f as
 rw [step_eq] at h ⊢
 split at h
 ·simp only [AOp.run] at h ⊢
  obtain ⟨ids, us, h1, h2, h3⟩ := h
  exact ⟨ids, us, h1, h2, hC _ _ _ _ _ (fun r _ hv => ⟨hv.1, ⟨put_bx _ _ _, put_h _ _ _⟩, hv.2⟩) h3⟩
 ·exact ⟨⟨put_bx _ _ _, put_h _ _ _⟩, h⟩
 ·exact h
theorem swap_p_second {C : Call} (hC : Sub C C) {i : AOp} {g : Option (Nat × Bool)} {d : Option Nat} {x : AVal} (hk : i.isP = true) (hi : indep (.val g d x) i = true) {s : S} {Q : S → Prop}
  (h : (AOp.val g d x).step C s fun s1 => i.step C s1 Q) : i.step C s fun s1 => (AOp.val g d x).step C s1 Q := by
 obtain ⟨i1, i2⟩ := indep_spec hi
 rw [step_val] at h
 obtain ⟨v, hv, h⟩ := h
 rw [step_put (d := d) (fun y e => i1 y e)] at h
 refine AOp.step_mono hC i s ?_ (step_p hC i hk s (step_env hC i s h))
 intro s1 ⟨hb, he, hq⟩
 rw [step_val, sval_any hb.1 hb.2 (fun t ht => ev_of_get (he t (fun e => (i2 t e).1 ht)))]
 exact ⟨v, hv, hq⟩
theorem swap_p_first {C : Call} (hC : Sub C C) (hF : Full C) {j : AOp} {g : Option (Nat × Bool)} {d : Option Nat} {x : AVal} (hk : j.isP = true) (hi : indep j (.val g d x) = true) {s : S} (hf : FinH s.h) {Q : S → Prop}
  (h : j.step C s fun s1 => (AOp.val g d x).step C s1 Q) : (AOp.val g d x).step C s fun s1 => j.step C s1 Q := by
 obtain ⟨i1, i2⟩ := indep_spec hi
 have h1 := step_p hC j hk s (step_env hC j s h)
 have h2 : j.step C s fun s1 => ∃ v, sval (.val g d x) x s = some v ∧ Q (s1.put d v) := by
  refine AOp.step_mono hC j s ?_ h1
  intro s1 ⟨hb, he, hs⟩
  rw [step_val] at hs
  rwa [sval_any hb.1 hb.2 (fun t ht => ev_of_get (he t (fun e => (i1 t e).1 ht)))] at hs
 obtain ⟨s1, _, v, hv, _⟩ := AOp.step_full hF j s (FinH.all hf) h2
 rw [step_val]
 refine ⟨v, hv, ?_⟩
 rw [step_put (d := d) (fun y e => i2 y e)]
 refine AOp.step_mono hC j s ?_ h2
 intro s1 ⟨v2, hv2, hq⟩
 rw [hv] at hv2; injection hv2 with hv2; rw [hv2]; exact hq

/-! ### What only adds to memory -/

structure Ext (s s1 : S) : Prop where
 bx : ∀ t x, s.bx.getD t none = some x → s1.bx.getD t none = some x
 h : s.h.le s1.h

theorem Ext.put {s : S} (d : Option Nat) (v : V) : Ext s (s.put d v) := ⟨fun t x h => by rw [put_bx]; exact h, fun i b h => by rw [put_h]; exact h⟩

theorem le_upd {h : Heap} {id : Nat} {b : Blk} (hid : h id = none) : h.le (h.upd id (some b)) := by
 intro i x hx
 by_cases e : i = id
 ·subst e; rw [hid] at hx; cases hx
 ·simp [Heap.upd, e, hx]

def AOp.adds : AOp → Bool
 | .box .. | .hbox .. | .bsl .. | .mks .. | .mkm .. => true
 | _ => false

theorem run_ext {C : Call} (o : AOp) (hk : o.adds = true) (s : S) {Q : S → Prop} (h : o.run C s Q) : o.run C s fun s1 => Ext s s1 ∧ Q s1 := by
 cases o with
 | box g d x n =>
  simp only [AOp.run] at h ⊢; split at h <;> first | exact h.elim | skip
  refine ⟨h.1, h.2.1, fun g => ⟨⟨fun t y hy => ?_, fun _ _ h => h⟩, h.2.2 g⟩⟩
  have hne : d ≠ t := fun e => by subst e; rw [h.2.1] at hy; cases hy
  simp only [List.getD_eq_getElem?_getD, List.getElem?_set_ne hne] at hy ⊢
  exact hy
 | hbox g d x n => simp only [AOp.run] at h ⊢; split at h <;> first | exact ⟨h.1, fun id hid => ⟨⟨fun _ _ h => h, le_upd hid⟩, h.2 id hid⟩⟩ | exact h.elim
 | bsl g d sz len zero parts => simp only [AOp.run] at h ⊢; split at h <;> first | exact fun id hid => ⟨⟨fun _ _ h => h, le_upd hid⟩, h id hid⟩ | exact h.elim
 | mks g d n c sz bytes zero =>
  simp only [AOp.run] at h ⊢; split at h <;> first | exact h.elim | skip
  exact ⟨h.1, h.2.1, h.2.2.1, h.2.2.2.1, fun id hid => ⟨⟨fun _ _ h => h, le_upd hid⟩, h.2.2.2.2 id hid⟩⟩
 | mkm g d => exact fun id hid => ⟨⟨fun _ _ h => h, le_upd hid⟩, h id hid⟩
 | _ => simp [AOp.adds] at hk

theorem step_ext {C : Call} (o : AOp) (hk : o.adds = true) (s : S) {Q : S → Prop} (h : o.step C s Q) : o.step C s fun s1 => Ext s s1 ∧ Q s1 := by
 rw [step_eq] at h ⊢
 split at h
 ·exact run_ext o hk s h
 ·exact ⟨.put _ _, h⟩
 ·exact h

theorem cellsAt_ext {s s1 : S} (h : Ext s s1) {p : V} {y : List V × Nat} (hp : cellsAt s.bx s.h p = some y) : cellsAt s1.bx s1.h p = some y := by
 unfold cellsAt at hp ⊢
 split at hp
 ·rename_i t g off
  unfold boxOf at hp ⊢
  cases hb : s.bx.getD t none with
  | none => rw [hb] at hp; simp at hp
  | some z => rw [h.bx _ _ hb]; rw [hb] at hp; exact hp
 ·rename_i id i off
  cases hb : s.h id with
  | none => rw [hb] at hp; simp at hp
  | some z => rw [h.h _ _ hb]; rw [hb] at hp; exact hp
 ·exact hp
 ·exact hp

theorem eval_ext {s s1 : S} (h : Ext s s1) {x : AVal} {v : V} (hv : x.eval s.env s.bx s.h = some v) : x.eval s.env s1.bx s1.h = some v := by
 cases x with
 | ld x n agg =>
  simp only [AVal.eval, loadOf] at hv ⊢
  cases hp : cellsAt s.bx s.h (ev s.env x) with
  | none => rw [hp] at hv; cases hv
  | some y => rw [cellsAt_ext h hp]; rw [hp] at hv; exact hv
 | ldh x n agg =>
  simp only [AVal.eval] at hv ⊢
  split at hv <;> try exact hv
  rename_i id i off _
  simp only [loadOf] at hv ⊢
  cases hp : cellsAt s.bx s.h (.ep id i off) with
  | none => rw [hp] at hv; cases hv
  | some y => rw [cellsAt_ext h hp]; rw [hp] at hv; exact hv
 | ldl x n agg =>
  simp only [AVal.eval] at hv ⊢
  split at hv
  ·rename_i t g off _
   simp only [boxOf] at hv ⊢
   cases hb : s.bx.getD t none with
   | none => rw [hb] at hv; cases hv
   | some z => rw [h.bx _ _ hb]; rw [hb] at hv; exact hv
  ·exact hv
  ·exact hv
 | ia x i esz =>
  simp only [AVal.eval] at hv ⊢
  split at hv <;> try exact hv
  split at hv <;> try exact hv
  split at hv
  case isFalse => cases hv
  rename_i id off ln _ hc
  rw [if_pos hc]
  cases hb : s.h id with
  | none => rw [hb] at hv; cases hv
  | some z => rw [h.h _ _ hb]; rw [hb] at hv; exact hv
 | slc x lo hi esz =>
  simp only [AVal.eval] at hv ⊢
  split at hv <;> try exact hv
  rename_i id off ln _
  cases hb : s.h id with
  | none => rw [hb] at hv; cases hv
  | some z => rw [h.h _ _ hb]; rw [hb] at hv; exact hv
 | lookup ks x k z =>
  simp only [AVal.eval] at hv ⊢
  split at hv <;> try exact hv
  rename_i id _
  cases hb : s.h id with
  | none => rw [hb] at hv; cases hv
  | some z => rw [h.h _ _ hb]; rw [hb] at hv; exact hv
 | lookupOk ks x k z =>
  simp only [AVal.eval] at hv ⊢
  split at hv <;> try exact hv
  rename_i id _
  cases hb : s.h id with
  | none => rw [hb] at hv; cases hv
  | some z => rw [h.h _ _ hb]; rw [hb] at hv; exact hv
 | mlen x =>
  simp only [AVal.eval] at hv ⊢
  split at hv <;> try exact hv
  rename_i id _
  cases hb : s.h id with
  | none => rw [hb] at hv; cases hv
  | some z => rw [h.h _ _ hb]; rw [hb] at hv; exact hv
 | _ => exact hv

theorem sval_ext {g : Option (Nat × Bool)} {d : Option Nat} {x : AVal} {s s1 : S} {v : V} (hx : Ext s s1) (h : ∀ t ∈ (AOp.val g d x).reads, ev s1.env (.t t) = ev s.env (.t t)) (hv : sval (.val g d x) x s = some v) : sval (.val g d x) x s1 = some v := by
 unfold sval at hv ⊢
 rw [stat_cong h]
 split at hv
 ·rw [eval_cong x (opds_cong (o := .val g d x) h)]
  exact eval_ext hx hv
 ·exact hv
 ·cases hv

theorem swap_ext {C : Call} (hC : Sub C C) {i : AOp} {g : Option (Nat × Bool)} {d : Option Nat} {x : AVal} (hk : i.adds = true) (hi : indep (.val g d x) i = true) {s : S} {Q : S → Prop}
  (h : (AOp.val g d x).step C s fun s1 => i.step C s1 Q) : i.step C s fun s1 => (AOp.val g d x).step C s1 Q := by
 obtain ⟨i1, i2⟩ := indep_spec hi
 rw [step_val] at h
 obtain ⟨v, hv, h⟩ := h
 rw [step_put (d := d) (fun y e => i1 y e)] at h
 refine AOp.step_mono hC i s ?_ (step_ext i hk s (step_env hC i s h))
 intro s1 ⟨hb, he, hq⟩
 rw [step_val]
 exact ⟨v, sval_ext hb (fun t ht => ev_of_get (he t (fun e => (i2 t e).1 ht))) hv, hq⟩

/-! ### What is laid beside -/

def Frm (C : Call) : Prop := ∀ f vs h (R : V → Heap → Prop) id b, h id = none → C f vs h R → C f vs (h.upd id (some b)) fun r h3 => ∃ h2, h2 id = none ∧ h3 = h2.upd id (some b) ∧ R r h2

theorem Frz.le {h h2 : Heap} (hl : h.le h2) {ids : Nat → Prop} {v u : V} (hf : Frz h ids v u) : Frz h2 ids v u := by
 induction hf with
 | same v => exact .same v
 | nsl sz => exact .nsl sz
 | agg cs ds hlen _ ih => exact .agg cs ds hlen ih
 | tup cs ds hlen _ ih => exact .tup cs ds hlen ih
 | fsl sz els out ho hw _ ih => exact .fsl sz els out ho hw ih
 | msl id off len sz els out hid hb hlen ho hw _ ih => exact .msl id off len sz els out hid (hl _ _ hb) hlen ho hw ih

theorem Frz.but {h : Heap} {id : Nat} (hid : h id = none) {ids : Nat → Prop} {v u : V} (hf : Frz h ids v u) : Frz h (fun i => ids i ∧ i ≠ id) v u := by
 induction hf with
 | same v => exact .same v
 | nsl sz => exact .nsl sz
 | agg cs ds hlen _ ih => exact .agg cs ds hlen ih
 | tup cs ds hlen _ ih => exact .tup cs ds hlen ih
 | fsl sz els out ho hw _ ih => exact .fsl sz els out ho hw ih
 | msl i off len sz els out hi hb hlen ho hw _ ih => exact .msl i off len sz els out ⟨hi, fun e => by subst e; rw [hid] at hb; cases hb⟩ hb hlen ho hw ih

theorem callPure_frm {C : Call} {f : Nat} {vs : List V} {h : Heap} {R R2 : V → Heap → Prop} {id : Nat} {b : Blk} (hC : Sub C C) (hid : h id = none) (hR : ∀ r, R r h → R2 r (h.upd id (some b)))
  (hc : callPure C f vs h R) : callPure C f vs (h.upd id (some b)) R2 := by
 obtain ⟨ids, us, h1, h2, h3⟩ := hc
 exact ⟨ids, us, h1, fun i x y a1 a2 => (h2 i x y a1 a2).le (le_upd hid), hC _ _ _ _ _ (fun r _ hv => ⟨hv.1, hR r hv.2⟩) h3⟩

theorem callOk_frm {C : Call} {f : Nat} {vs : List V} {h : Heap} {R R2 : V → Heap → Prop} {id : Nat} {b : Blk} (hC : Sub C C) (hN : Frm C) (hid : h id = none) (hR : ∀ r h2, h2 id = none → R r h2 → R2 r (h2.upd id (some b)))
  (hc : callOk C f vs h R) : callOk C f vs (h.upd id (some b)) R2 := by
 rcases hc with hc | hc | ⟨ids, us, h2, l1, l2, l3, l4, hc⟩
 ·exact .inl (hC _ _ _ _ _ (fun r h3 ⟨h2, e1, e2, e3⟩ => by subst e2; exact hR r h2 e1 e3) (hN _ _ _ _ id b hid hc))
 ·exact .inr (.inl (callPure_frm hC hid (fun r hr => hR r h hid hr) hc))
 ·have hid2 : h2 id = none := by
   cases e : h2 id with
   | none => rfl
   | some x => rw [l3 id x e] at hid; cases hid
  refine .inr (.inr ⟨fun i => ids i ∧ i ≠ id, us, h2.upd id (some b), l1, fun i x y a1 a2 => ((l2 i x y a1 a2).but hid).le (le_upd hid), ?_, ?_, hC _ _ _ _ _ (fun r h3 ⟨h2, e1, e2, e3⟩ => by subst e2; exact hR r h2 e1 e3) (hN _ _ _ _ id b hid2 hc)⟩)
  ·intro i x hx
   simp only [Heap.upd] at hx ⊢
   split
   ·rename_i e; rw [if_pos e] at hx; exact hx
   ·rename_i e; rw [if_neg e] at hx; exact l3 i x hx
  ·intro i ⟨h5, h6⟩
   simp only [Heap.upd]
   rw [if_neg h6]; exact l4 i h5

theorem upd_comm {h : Heap} {i j : Nat} (hne : i ≠ j) (a b : Option Blk) : (h.upd i a).upd j b = (h.upd j b).upd i a := by
 funext k
 simp only [Heap.upd]
 by_cases h1 : k = j
 ·subst h1; have : ¬ k = i := fun e => hne e.symm
  simp [this]
 ·simp [h1]
theorem upd_ne {h : Heap} {i j : Nat} (hne : i ≠ j) (a : Option Blk) : (h.upd i a) j = h j := by
 simp only [Heap.upd]; rw [if_neg (fun e => hne e.symm)]

def AOp.beside : AOp → Bool
 | .bsl .. | .call .. | .pcall .. => true
 | _ => false

theorem run_beside {C : Call} (hC : Sub C C) (hN : Frm C) (o : AOp) (hk : o.beside = true) (s : S) (id : Nat) (b : Blk) (hid : s.h id = none) {Q : S → Prop}
  (h : o.run C s fun s1 => s1.h id = none → Q { s1 with h := s1.h.upd id (some b) }) : o.run C { s with h := s.h.upd id (some b) } Q := by
 cases o with
 | bsl g d sz len zero ps =>
  simp only [AOp.run] at h ⊢
  split at h <;> first | exact h.elim | skip
  intro id2 h2
  have hne : id2 ≠ id := fun e => by subst e; simp [Heap.upd] at h2
  have h3 : s.h id2 = none := by rwa [upd_ne (fun e => hne e.symm)] at h2
  have := h id2 h3 (by show (s.h.upd id2 _) id = none; rw [upd_ne hne]; exact hid)
  rw [upd_comm hne] at this
  exact this
 | call g d f as =>
  simp only [AOp.run] at h ⊢
  refine callOk_frm hC hN hid ?_ h
  intro r h2 e1 e2
  have := e2 (by rw [put_h]; exact e1)
  cases d <;> exact this
 | pcall g d f as =>
  simp only [AOp.run] at h ⊢
  refine callPure_frm hC hid ?_ h
  intro r e2
  have := e2 (by rw [put_h]; exact hid)
  cases d <;> exact this
 | _ => simp [AOp.beside] at hk

theorem step_beside {C : Call} (hC : Sub C C) (hN : Frm C) (o : AOp) (hk : o.beside = true) (s : S) (id : Nat) (b : Blk) (hid : s.h id = none) {Q : S → Prop}
  (h : o.step C s fun s1 => s1.h id = none → Q { s1 with h := s1.h.upd id (some b) }) : o.step C { s with h := s.h.upd id (some b) } Q := by
 rw [step_eq] at h ⊢
 split at h
 ·rename_i e; rw [e]; exact run_beside hC hN o hk s id b hid h
 ·rename_i e; rw [e]
  have := h (by rw [put_h]; exact hid)
  cases hd : o.dst <;> rw [hd] at this <;> exact this
 ·exact h.elim

theorem fill_reads {g : Option (Nat × Bool)} {d sz len : Nat} {zero : List V} {ps : List (Nat × Nat × Opd)} {e e2 : List V} (h : ∀ t ∈ (AOp.bsl g d sz len zero ps).reads, ev e (.t t) = ev e2 (.t t)) (cs : List V) : fill e cs ps = fill e2 cs ps :=
 fill_cong ps cs (opds_cong (o := .bsl g d sz len zero ps) h)

theorem swap_bsl {C : Call} (hC : Sub C C) (hF : Full C) (hN : Frm C) {j : AOp} {g : Option (Nat × Bool)} {d sz len : Nat} {zero : List V} {ps : List (Nat × Nat × Opd)} (hk : j.beside = true) (hi : indep j (.bsl g d sz len zero ps) = true) {s : S} (hf : FinH s.h) {Q : S → Prop}
  (h : j.step C s fun s1 => (AOp.bsl g d sz len zero ps).step C s1 Q) : (AOp.bsl g d sz len zero ps).step C s fun s1 => j.step C s1 Q := by
 obtain ⟨i1, i2⟩ := indep_spec hi
 have h1 := step_env hC j s h
 have hcg : ∀ s1 : S, (∀ t : Nat, j.dst ≠ some t → s1.env[t]? = s.env[t]?) → ∀ t ∈ (AOp.bsl g d sz len zero ps).reads, ev s1.env (.t t) = ev s.env (.t t) :=
  fun s1 he t ht => ev_of_get (he t (fun e => (i1 t e).1 ht))
 rw [step_eq]
 have hst : ∀ s1 : S, (∀ t : Nat, j.dst ≠ some t → s1.env[t]? = s.env[t]?) → (AOp.bsl g d sz len zero ps).stat s1.env = (AOp.bsl g d sz len zero ps).stat s.env := fun s1 he => stat_cong (hcg s1 he)
 cases hs : (AOp.bsl g d sz len zero ps).stat s.env with
 | none =>
  obtain ⟨s1, _, he, hb⟩ := AOp.step_full hF j s (FinH.all hf) h1
  rw [step_eq, hst s1 he, hs] at hb
  exact hb
 | some b =>
  cases b with
  | false =>
   simp only []
   rw [step_put (fun y e => i2 y e)]
   refine AOp.step_mono hC j s ?_ h1
   intro s1 ⟨he, hb⟩
   rw [step_eq, hst s1 he, hs] at hb
   exact hb
  | true =>
   simp only [AOp.run]
   have h2 : j.step C s fun s1 => ∃ cs, fill s.env ((List.replicate len zero).flatten) ps = some cs ∧ ∀ id, s1.h id = none → Q { s1 with env := s1.env.set d (.msl id 0 len), h := s1.h.upd id (some (.arr sz ((List.range len).map fun i => (cs.drop (i * sz)).take sz))) } := by
    refine AOp.step_mono hC j s ?_ h1
    intro s1 ⟨he, hb⟩
    rw [step_eq, hst s1 he, hs] at hb
    simp only [AOp.run] at hb
    rw [fill_reads (hcg s1 he)] at hb
    split at hb
    ·rename_i cs hcs; exact ⟨cs, hcs, hb⟩
    ·exact hb.elim
   obtain ⟨s1, _, cs, hcs, _⟩ := AOp.step_full hF j s (FinH.all hf) h2
   rw [hcs]
   intro id hid
   have h3 : j.step C ({ s with h := s.h.upd id (some (.arr sz ((List.range len).map fun i => (cs.drop (i * sz)).take sz))) } : S) fun s1 => Q (s1.put (some d) (.msl id 0 len)) := by
    refine step_beside hC hN j hk s id _ hid ?_
    refine AOp.step_mono hC j s ?_ h2
    intro s1 ⟨cs2, e1, e2⟩ hid1
    rw [hcs] at e1; injection e1 with e1; subst e1
    exact e2 id hid1
   rw [← step_put (d := some d) (v := .msl id 0 len) (fun y e => i2 y e)] at h3
   exact h3

def AOp.noBox : AOp → Bool
 | .bsl .. | .call .. | .pcall .. | .callv .. | .box .. => true
 | _ => false

theorem run_boxed {C : Call} (o : AOp) (hk : o.noBox = true) (s : S) (d : Nat) (b : Option (Nat × List V)) (hd : o.dst ≠ some d) {Q : S → Prop}
  (h : o.run C s fun s1 => Q { s1 with bx := s1.bx.set d b }) : o.run C { s with bx := s.bx.set d b } Q := by
 cases o with
 | bsl g d2 sz len zero ps =>
  simp only [AOp.run] at h ⊢
  split at h <;> first | exact h.elim | skip
  exact h
 | box g d2 x n =>
  simp only [AOp.run] at h ⊢
  split at h <;> first | exact h.elim | skip
  have hne : d ≠ d2 := fun e => hd (by simp [AOp.dst, e])
  refine ⟨h.1, ?_, fun g => ?_⟩
  ·simp only [List.getD_eq_getElem?_getD, List.getElem?_set_ne hne]
   have := h.2.1
   simpa only [List.getD_eq_getElem?_getD] using this
  ·have := h.2.2 g
   rw [List.set_comm _ _ hne]
   exact this
 | call g d2 f as =>
  simp only [AOp.run] at h ⊢
  have he : (fun r h => Q (({ env := s.env, bx := s.bx.set d b, h := h } : S).put d2 r)) = fun r h => Q { ({ s with h := h } : S).put d2 r with bx := (({ s with h := h } : S).put d2 r).bx.set d b } := by
   funext r h; cases d2 <;> rfl
  exact he ▸ h
 | pcall g d2 f as =>
  simp only [AOp.run] at h ⊢
  have he : (fun r h => Q (({ env := s.env, bx := s.bx.set d b, h := h } : S).put d2 r)) = fun r h => Q { ({ s with h := h } : S).put d2 r with bx := (({ s with h := h } : S).put d2 r).bx.set d b } := by
   funext r h; cases d2 <;> rfl
  exact he ▸ h
 | callv g d2 f as =>
  simp only [AOp.run] at h ⊢
  split at h <;> first | exact h.elim | skip
  have he : (fun r h => Q (({ env := s.env, bx := s.bx.set d b, h := h } : S).put d2 r)) = fun r h => Q { ({ s with h := h } : S).put d2 r with bx := (({ s with h := h } : S).put d2 r).bx.set d b } := by
   funext r h; cases d2 <;> rfl
  exact he ▸ h
 | _ => simp [AOp.noBox] at hk

theorem step_boxed {C : Call} (o : AOp) (hk : o.noBox = true) (s : S) (d : Nat) (b : Option (Nat × List V)) (hd : o.dst ≠ some d) {Q : S → Prop}
  (h : o.step C s fun s1 => Q { s1 with bx := s1.bx.set d b }) : o.step C { s with bx := s.bx.set d b } Q := by
 rw [step_eq] at h ⊢
 split at h
 ·rename_i e; rw [e]; exact run_boxed o hk s d b hd h
 ·rename_i e; rw [e]
  cases hd : o.dst <;> rw [hd] at h <;> exact h
 ·exact h.elim

theorem run_bxd {C : Call} (hC : Sub C C) (o : AOp) (hk : o.noBox = true) (s : S) {Q : S → Prop} (h : o.run C s Q) : o.run C s fun s1 => (∀ t : Nat, o.dst ≠ some t → s1.bx[t]? = s.bx[t]?) ∧ Q s1 := by
 by_cases hb : o.keepsBx = true
 ·exact AOp.run_mono hC o s (fun s1 h => ⟨fun t _ => by rw [h.1], h.2⟩) (run_bx hC o hb s h)
 ·cases o with
  | box g d x n =>
   simp only [AOp.run] at h ⊢
   split at h <;> first | exact h.elim | skip
   refine ⟨h.1, h.2.1, fun g => ⟨fun t ht => ?_, h.2.2 g⟩⟩
   have : d ≠ t := fun e => ht (by simp [AOp.dst, e])
   exact List.getElem?_set_ne this
  | st => simp [AOp.noBox] at hk
  | stl => simp [AOp.noBox] at hk
  | _ => simp [AOp.keepsBx] at hb

theorem step_bxd {C : Call} (hC : Sub C C) (o : AOp) (hk : o.noBox = true) (s : S) {Q : S → Prop} (h : o.step C s Q) : o.step C s fun s1 => (∀ t : Nat, o.dst ≠ some t → s1.bx[t]? = s.bx[t]?) ∧ Q s1 := by
 rw [step_eq] at h ⊢
 split at h
 ·exact run_bxd hC o hk s h
 ·exact ⟨fun t _ => by rw [put_bx], h⟩
 ·exact h

theorem swap_box {C : Call} (hC : Sub C C) (hF : Full C) {j : AOp} {g : Option (Nat × Bool)} {d n : Nat} {x : Opd} (hk : j.noBox = true) (hi : indep j (.box g d x n) = true) {s : S} (hf : FinH s.h) {Q : S → Prop}
  (h : j.step C s fun s1 => (AOp.box g d x n).step C s1 Q) : (AOp.box g d x n).step C s fun s1 => j.step C s1 Q := by
 obtain ⟨i1, i2⟩ := indep_spec hi
 have h1 := step_bxd hC j hk s (step_env hC j s h)
 have hcg : ∀ s1 : S, (∀ t : Nat, j.dst ≠ some t → s1.env[t]? = s.env[t]?) → ∀ t ∈ (AOp.box g d x n).reads, ev s1.env (.t t) = ev s.env (.t t) :=
  fun s1 he t ht => ev_of_get (he t (fun e => (i1 t e).1 ht))
 have hjd : j.dst ≠ some d := (i2 d rfl).2
 rw [step_eq]
 have hst : ∀ s1 : S, (∀ t : Nat, j.dst ≠ some t → s1.env[t]? = s.env[t]?) → (AOp.box g d x n).stat s1.env = (AOp.box g d x n).stat s.env := fun s1 he => stat_cong (hcg s1 he)
 cases hs : (AOp.box g d x n).stat s.env with
 | none =>
  obtain ⟨s1, _, _, he, hb⟩ := AOp.step_full hF j s (FinH.all hf) h1
  rw [step_eq, hst s1 he, hs] at hb
  exact hb
 | some b =>
  cases b with
  | false =>
   simp only []
   rw [step_put (fun y e => i2 y e)]
   refine AOp.step_mono hC j s ?_ h1
   intro s1 ⟨_, he, hb⟩
   rw [step_eq, hst s1 he, hs] at hb
   exact hb
  | true =>
   simp only [AOp.run]
   have h2 : j.step C s fun s1 => ∃ cs, cellsOf (ev s.env x) = some cs ∧ cs.length = n ∧ s.bx.getD d none = none ∧ ∀ g, Q { s1 with env := s1.env.set d (.lp d g 0), bx := s1.bx.set d (some (g, cs)) } := by
    refine AOp.step_mono hC j s ?_ h1
    intro s1 ⟨hbx, he, hb⟩
    rw [step_eq, hst s1 he, hs] at hb
    simp only [AOp.run] at hb
    rw [opds_cong (o := .box g d x n) (hcg s1 he) x (by simp [AOp.opds])] at hb
    split at hb
    ·rename_i cs hcs
     refine ⟨cs, hcs, hb.1, ?_, hb.2.2⟩
     have e1 := hb.2.1
     rw [List.getD_eq_getElem?_getD, hbx d hjd] at e1
     rw [List.getD_eq_getElem?_getD]; exact e1
    ·exact hb.elim
   obtain ⟨s1, _, cs, hcs, hn, hbd, _⟩ := AOp.step_full hF j s (FinH.all hf) h2
   rw [hcs]
   refine ⟨hn, hbd, fun g => ?_⟩
   have h3 : j.step C ({ s with bx := s.bx.set d (some (g, cs)) } : S) fun s1 => Q (s1.put (some d) (.lp d g 0)) := by
    refine step_boxed j hk s d _ hjd ?_
    refine AOp.step_mono hC j s ?_ h2
    intro s1 ⟨cs2, e1, _, _, e2⟩
    rw [hcs] at e1; injection e1 with e1; subst e1
    exact e2 g
   rw [← step_put (d := some d) (v := .lp d g 0) (fun y e => i2 y e)] at h3
   exact h3

theorem keyEq_self {ks : Nat} {k : V} (h : keyIs ks k = true) : keyEq k k = some true := by
 unfold keyIs at h
 split at h
 ·simp [keyEq]
 ·simp only [keyEq, bytes_self]
 ·simp [keyEq]
 ·cases h

theorem findKey_push {k : V} {z : V} (hk : keyEq k k = some true) : ∀ {es : List (V × V)}, findKey k es = some none → findKey k (es ++ [(k, z)]) = some (some es.length)
 | [], _ => by simp [findKey, hk]
 | e :: es, h => by
  simp only [findKey] at h
  simp only [List.cons_append, findKey]
  split at h
  ·simp at h
  ·simp only [Option.map_eq_some_iff] at h
   obtain ⟨r, h1, h2⟩ := h
   cases r with
   | some j => simp at h2
   | none => simp only [findKey_push hk h1, Option.map_some, List.length_cons]
  ·cases h

theorem swap_men {C : Call} {d d2 ks m k : Nat} {zk : IntKind} {zn : Int} (hi : indep (.val none (some d) (.lookup ks (.t m) (.t k) (.int zk zn))) (.men none d2 ks (.t m) (.t k) (.int zk zn)) = true) {s : S} {Q : S → Prop}
  (h : (AOp.val none (some d) (.lookup ks (.t m) (.t k) (.int zk zn))).step C s fun s1 => (AOp.men none d2 ks (.t m) (.t k) (.int zk zn)).step C s1 Q) :
  (AOp.men none d2 ks (.t m) (.t k) (.int zk zn)).step C s fun s1 => (AOp.val none (some d) (.lookup ks (.t m) (.t k) (.int zk zn))).step C s1 Q := by
 obtain ⟨i1, i2⟩ := indep_spec hi
 have n1 : ∀ t : Nat, t ∈ [m, k] → ∀ v : V, ev (s.env.set d v) (.t t) = ev s.env (.t t) := by
  intro t ht v
  refine ev_ne fun e => (i1 d rfl).1 ?_
  injection e with e; subst e
  simpa [AOp.reads, AOp.opds, AOp.guard] using ht
 have n2 : ∀ t : Nat, t ∈ [m, k] → ∀ v : V, ev (s.env.set d2 v) (.t t) = ev s.env (.t t) := by
  intro t ht v
  refine ev_ne fun e => (i2 d2 rfl).1 ?_
  injection e with e; subst e
  simpa [AOp.reads, AOp.opds, AVal.opds, AOp.guard] using ht
 have hne : d2 ≠ d := fun e => (i1 d rfl).2 (by rw [← e]; rfl)
 simp only [step_eq, AOp.stat, AOp.guard, AOp.run, AVal.eval, S.put] at h ⊢
 cases hm : ev s.env (.t m) with
 | map id =>
  rw [hm] at h
  simp only [] at h ⊢
  cases hh : s.h id with
  | none => rw [hh] at h; exact h.elim
  | some bk =>
   cases bk with
   | arr sz els => rw [hh] at h; exact h.elim
   | map es =>
    rw [hh] at h
    simp only [] at h ⊢
    by_cases hk : keyIs ks (ev s.env (.t k)) = true
    ·rw [if_pos hk] at h
     refine ⟨hk, ?_⟩
     cases hf : findKey (ev s.env (.t k)) es with
     | none => rw [hf] at h; exact h.elim
     | some r =>
      rw [hf] at h
      cases r with
      | some i =>
       simp only [] at h ⊢
       cases he : es[i]? with
       | none => rw [he] at h; exact h.elim
       | some e =>
        rw [he] at h
        simp only [Option.map_some, n1 m (by simp), n1 k (by simp), hm, hh, hf, he] at h
        simp only [n2 m (by simp), n2 k (by simp), hm, hh, hf, he, if_pos hk, Option.map_some]
        rw [List.set_comm _ _ hne]
        exact h.2
      | none =>
       simp only [n1 m (by simp), n1 k (by simp), hm, hh, hf] at h
       have hp := findKey_push (z := .int zk zn) (keyEq_self hk) hf
       have hu : (s.h.upd id (some (.map (es ++ [(ev s.env (.t k), .int zk zn)])))) id = some (.map (es ++ [(ev s.env (.t k), .int zk zn)])) := by simp [Heap.upd]
       simp only [n2 m (by simp), n2 k (by simp), hm, hu, hp, if_pos hk]
       simp only [List.getElem?_append_right (Nat.le_refl _), Nat.sub_self, List.getElem?_cons_zero, Option.map_some]
       rw [List.set_comm _ _ hne]
       exact h.2
    ·rw [if_neg hk] at h; exact h.elim
 | _ => rw [hm] at h; exact h.elim

def mayPass (j i : AOp) : Bool :=
 indep j i && match j, i with
 | .val none (some _) (.lookup ks (.t m) (.t k) (.int zk zn)), .men none _ ks2 (.t m2) (.t k2) (.int zk2 zn2) => ks == ks2 && m == m2 && k == k2 && zk == zk2 && zn == zn2
 | .val .., .val .. => true
 | o, .val _ _ y => y.envOnly || (y.bxOnly && o.keepsBx) || o.isP
 | .val _ _ x, o => x.envOnly || (x.bxOnly && o.keepsBx) || o.adds || o.isP || (x.heapOnly && o.keepsH)
 | o, .bsl .. => o.beside
 | o, .box .. => o.noBox
 | _, _ => false

theorem pass {C : Call} (hC : Sub C C) (hF : Full C) (hN : Frm C) {j i : AOp} (hp : mayPass j i = true) {s : S} (hf : FinH s.h) {Q : S → Prop} (h : j.step C s fun s1 => i.step C s1 Q) : i.step C s fun s1 => j.step C s1 Q := by
 simp only [mayPass, Bool.and_eq_true] at hp
 obtain ⟨hi, hp⟩ := hp
 split at hp
 ·simp only [Bool.and_eq_true, beq_iff_eq] at hp
  obtain ⟨⟨⟨⟨rfl, rfl⟩, rfl⟩, rfl⟩, rfl⟩ := hp
  exact swap_men hi h
 ·exact swap_vals hi h
 ·simp only [Bool.or_eq_true, Bool.and_eq_true] at hp
  rcases hp with (hp | hp) | hp
  ·exact swap_env_first hC hF hp hi hf h
  ·exact swap_bx_first hC hF hp.1 hp.2 hi hf h
  ·exact swap_p_first hC hF hp hi hf h
 ·simp only [Bool.or_eq_true, Bool.and_eq_true] at hp
  rcases hp with (((hp | hp) | hp) | hp) | hp
  ·exact swap_env_second hC hp hi h
  ·exact swap_bx_second hC hp.1 hp.2 hi h
  ·exact swap_ext hC hp hi h
  ·exact swap_p_second hC hp hi h
  ·exact swap_h_second hC hp.1 hp.2 hi h
 ·exact swap_bsl hC hF hN hp hi hf h
 ·exact swap_box hC hF hp hi hf h
 ·cases hp


/-! ### Every order -/

def FinC (C : Call) : Prop := ∀ f vs h (R : V → Heap → Prop), FinH h → C f vs h R → C f vs h fun r h2 => FinH h2 ∧ R r h2

theorem run_fin {C : Call} (hC : Sub C C) (hN : FinC C) (o : AOp) (s : S) {Q : S → Prop} (hf : FinH s.h) (h : o.run C s Q) : o.run C s fun s1 => FinH s1.h ∧ Q s1 := by
 have hcp : ∀ {f vs} {d : Option Nat}, callPure C f vs s.h (fun r h => Q (({ s with h := h } : S).put d r)) → callPure C f vs s.h fun r h => FinH (({ s with h := h } : S).put d r).h ∧ Q (({ s with h := h } : S).put d r) := by
  intro f vs d ⟨ids, us, h1, h2, h3⟩
  exact ⟨ids, us, h1, h2, hC _ _ _ _ _ (fun r h hv => ⟨hv.1, by rw [put_h]; exact hf, hv.2⟩) h3⟩
 have hco : ∀ {f vs} {d : Option Nat}, callOk C f vs s.h (fun r h => Q (({ s with h := h } : S).put d r)) → callOk C f vs s.h fun r h => FinH (({ s with h := h } : S).put d r).h ∧ Q (({ s with h := h } : S).put d r) := by
  intro f vs d hc
  rcases hc with hc | hc | ⟨ids, us, h2, l1, l2, l3, l4, hc⟩
  ·exact .inl (hC _ _ _ _ _ (fun r h hv => ⟨by rw [put_h]; exact hv.1, hv.2⟩) (hN _ _ _ _ hf hc))
  ·exact .inr (.inl (hcp hc))
  ·exact .inr (.inr ⟨ids, us, h2, l1, l2, l3, l4, hC _ _ _ _ _ (fun r h hv => ⟨by rw [put_h]; exact hv.1, hv.2⟩) (hN _ _ _ _ (FinH.le l3 hf) hc)⟩)
 cases o with
 | val g d x => simp only [AOp.run] at h ⊢; split at h <;> first | exact ⟨by rw [put_h]; exact hf, h⟩ | exact h.elim
 | box g d x n => simp only [AOp.run] at h ⊢; split at h <;> first | exact ⟨h.1, h.2.1, fun g => ⟨hf, h.2.2 g⟩⟩ | exact h.elim
 | hbox g d x n => simp only [AOp.run] at h ⊢; split at h <;> first | exact ⟨h.1, fun id hid => ⟨hf.upd _ _, h.2 id hid⟩⟩ | exact h.elim
 | bsl g d sz len zero parts => simp only [AOp.run] at h ⊢; split at h <;> first | exact fun id hid => ⟨hf.upd _ _, h id hid⟩ | exact h.elim
 | mks g d n c sz bytes zero =>
  simp only [AOp.run] at h ⊢; split at h <;> first | exact h.elim | skip
  exact ⟨h.1, h.2.1, h.2.2.1, h.2.2.2.1, fun id hid => ⟨hf.upd _ _, h.2.2.2.2 id hid⟩⟩
 | stl g x v n =>
  simp only [AOp.run] at h ⊢; split at h <;> first | exact h.elim | skip
  split at h <;> first | exact h.elim | skip
  rename_i s2 hs2
  refine ⟨?_, h⟩
  simp only [storeOf] at hs2
  split at hs2
  ·split at hs2
   ·simp at hs2; subst hs2; exact hf
   ·cases hs2
  ·cases hs2
 | st g x v n =>
  simp only [AOp.run] at h ⊢; split at h <;> first | exact h.elim | skip
  rename_i s2 hs2
  refine ⟨?_, h⟩
  unfold storeOf at hs2
  split at hs2
  ·split at hs2
   ·split at hs2
    ·simp at hs2; subst hs2; exact hf
    ·cases hs2
   ·cases hs2
  ·split at hs2
   ·split at hs2
    ·split at hs2
     ·simp at hs2; subst hs2; exact hf.upd _ _
     ·cases hs2
    ·cases hs2
   ·cases hs2
  ·cases hs2
 | app g d x y sz bytes =>
  simp only [AOp.run] at h ⊢
  split at h <;> first | exact h.elim | skip
  refine ⟨h.1, ?_⟩
  replace h := h.2
  split at h <;> first | exact h.elim | skip
  ·rcases h with h | h
   ·exact .inl ⟨h.1, h.2.1, fun id hid => ⟨hf.upd _ _, h.2.2 id hid⟩⟩
   ·exact .inr ⟨h.1, hf, h.2⟩
  ·split at h <;> first | exact h.elim | skip
   exact ⟨h.1, h.2.1, h.2.2.1, fun id2 h2 h3 => ⟨(hf.upd _ _).upd _ _, h.2.2.2 id2 h2 h3⟩⟩
 | cpy g d x y sz =>
  simp only [AOp.run] at h ⊢
  split at h <;> first | exact h.elim | skip
  ·split at h <;> first | exact h.elim | skip
   refine ⟨h.1, h.2.1, ?_⟩
   replace h := h.2.2
   split at h <;> first | exact h.elim | skip
   exact ⟨h.1, by rw [put_h]; exact hf.upd _ _, h.2⟩
  ·split at h <;> first | exact h.elim | exact ⟨h.1, by rw [put_h]; exact hf, h.2⟩
 | mkm g d => exact fun id hid => ⟨hf.upd _ _, h id hid⟩
 | mup g ks m key v =>
  simp only [AOp.run] at h ⊢
  split at h <;> first | exact h.elim | skip
  split at h <;> first | exact h.elim | skip
  refine ⟨h.1, ?_⟩
  replace h := h.2
  split at h <;> first | exact h.elim | exact ⟨hf.upd _ _, h⟩
 | men g d ks m key zero =>
  simp only [AOp.run] at h ⊢
  split at h <;> first | exact h.elim | skip
  split at h <;> first | exact h.elim | skip
  refine ⟨h.1, ?_⟩
  replace h := h.2
  split at h
  ·split at h <;> first | exact h.elim | exact ⟨hf, h⟩
  ·exact ⟨hf.upd _ _, h⟩
  ·exact h.elim
 | mst g m stp v =>
  simp only [AOp.run] at h ⊢
  split at h <;> first | exact h.elim | skip
  refine ⟨h.1, ?_⟩
  replace h := h.2
  split at h <;> first | exact h.elim | skip
  split at h <;> first | exact h.elim | exact ⟨hf.upd _ _, h⟩
 | call g d f args => exact hco h
 | pcall g d f args => exact hcp h
 | callv g d f args =>
  simp only [AOp.run] at h ⊢
  split at h <;> first | exact h.elim | skip
  exact hco h

theorem step_fin {C : Call} (hC : Sub C C) (hN : FinC C) (o : AOp) (s : S) {Q : S → Prop} (hf : FinH s.h) (h : o.step C s Q) : o.step C s fun s1 => FinH s1.h ∧ Q s1 := by
 rw [step_eq] at h ⊢
 split at h
 ·exact run_fin hC hN o s hf h
 ·exact ⟨by rw [put_h]; exact hf, h⟩
 ·exact h

theorem move_front {C : Call} (hC : Sub C C) (hF : Full C) (hN : FinC C) (hM : Frm C) {i : AOp} {post : List AOp} {Q : S → Prop} : ∀ (pre : List AOp), (∀ j ∈ pre, mayPass j i = true) → ∀ s : S, FinH s.h →
  wOps C (pre ++ i :: post) Q s → i.step C s (wOps C (pre ++ post) Q)
 | [], _, _, _, h => h
 | j :: pre, hp, s, hf, h => by
  have h1 : j.step C s fun s1 => i.step C s1 (wOps C (pre ++ post) Q) := by
   refine AOp.step_mono hC j s ?_ (step_fin hC hN j s hf h)
   intro s1 ⟨hf1, h2⟩
   exact move_front hC hF hN hM pre (fun k hk => hp k (by simp [hk])) s1 hf1 h2
  exact pass hC hF hM (hp j (by simp)) hf h1

theorem sim_sub {P : Program} : Sub (Sim P) (Sim P) := by
 intro f vs h R R' hr ⟨h1, h2, h3⟩
 refine ⟨h1, fun L hf => by obtain ⟨r, h4, h5, h6⟩ := h2 L hf; exact ⟨r, h4, h5, hr _ _ h6⟩, ?_⟩
 intro own m w us a1 a2 a3 a4 a5
 refine (h3 own m w us a1 a2 a3 a4 a5).mono ?_
 intro e w2 he
 cases e with
 | returned u => obtain ⟨own2, m2, r, h2, hR, b1, b2⟩ := he; exact ⟨own2, m2, r, h2, hr _ _ hR, b1, b2⟩
 | panicked c => exact he
 | outgrown => exact he

theorem hrel_fin {own : Nat → Prop} {m : Maps} {h : Heap} {w : World} (hr : HRel own m h w) (hf : Fin m) : FinH h := by
 obtain ⟨N, h1, _⟩ := hf
 refine ⟨N, fun i hi => ?_⟩
 cases e : h i with
 | none => rfl
 | some x => obtain ⟨b, o, sz, C, e1, _⟩ := hr.blk i x e; rw [h1 i hi] at e1; cases e1

theorem sim_finc {P : Program} : FinC (Sim P) := by
 intro f vs h R hf ⟨h1, h2, h3⟩
 refine ⟨h1, fun L hf => by obtain ⟨r, h4, h5, h6⟩ := h2 L hf; exact ⟨r, h4, h5, h5.1, h6⟩, ?_⟩
 intro own m w us a1 a2 a3 a4 a5
 refine (h3 own m w us a1 a2 a3 a4 a5).mono ?_
 intro e w2 he
 cases e with
 | returned u => obtain ⟨own2, m2, r, h2, hR, b1, b2⟩ := he; exact ⟨own2, m2, r, h2, ⟨hrel_fin b2.heap b2.fin, hR⟩, b1, b2⟩
 | panicked c => exact he
 | outgrown => exact he

theorem HRel.less {own : Nat → Prop} {m : Maps} {h : Heap} {w : World} {id : Nat} {b : Blk} (hid : h id = none) (hr : HRel own m (h.upd id (some b)) w) : HRel own m h w :=
 ⟨fun i x hx => hr.blk i x (le_upd hid i x hx), fun i j x y b r r2 e1 e2 => hr.inj i j x y b r r2 (le_upd hid i x e1) (le_upd hid j y e2)⟩

theorem sim_frm {P : Program} : Frm (Sim P) := by
 intro f vs h R id b hid ⟨h1, h2, h3⟩
 refine ⟨h1, fun L hf => ?_, ?_⟩
 ·have hL : FinA (id :: L) h := ⟨FinH.le (le_upd (b := b) hid) hf.1, fun i hi => by
   rcases List.mem_cons.1 hi with e | e
   ·rw [e]; exact hid
   ·cases hh : h i with
    | none => rfl
    | some x => have := le_upd (b := b) hid i x hh; rw [hf.2 i e] at this; cases this⟩
  obtain ⟨r, h4, h5, h6⟩ := h2 _ hL
  have hne : id ∉ L := fun e => by have := hf.2 id e; simp [Heap.upd] at this
  exact ⟨r, h4.upd id (some b), FinA.upd ⟨h5.1, fun i hi => h5.2 i (List.mem_cons_of_mem _ hi)⟩ hne _, h4, h5.2 id (by simp), rfl, h6⟩
 ·intro own m w us a1 a2 a3 a4 a5
  refine (h3 own m w us (a1.less hid) a2 a3 a4 a5).mono ?_
  intro e w2 he
  cases e with
  | panicked c => exact he
  | outgrown => exact he
  | returned u =>
   obtain ⟨own2, m2, r, h4, hR, hv, hl⟩ := he
   obtain ⟨b1, o1, sz1, C1, g1, g2, g3⟩ := a1.blk id b (by simp [Heap.upd])
   have hlt := g3.lt
   have hnone : h4 id = none := by
    cases hh : h4 id with
    | none => rfl
    | some y =>
     rcases hl.live id y hh with e | ⟨y, e⟩
     ·rw [g1] at e; cases e
     ·rw [hid] at e; cases e
   have hno : ¬ HOwn m h b1 := by
    intro ⟨i, x, r, e1, e2⟩
    have hne : i ≠ id := fun e => by subst e; rw [hid] at e1; cases e1
    exact hne (a1.inj i id x b b1 r (o1, sz1, C1) (le_upd hid i x e1) (by simp [Heap.upd]) e2 g1)
   have hho : ∀ b2, HOwn m h b2 → HOwn m (h.upd id (some b)) b2 := fun b2 ⟨i, x, r, e1, e2⟩ => ⟨i, x, r, le_upd hid i x e1, e2⟩
   have hrd : ∀ b o u, Rd own w b o u → Rd own2 w2 b o u := by
    intro b2 o u ⟨e1, e2⟩
    have hlt2 := cell_lt e2
    refine ⟨fun h => e1 (hl.old b2 hlt2 h), ?_⟩
    rw [cell_heap (hl.same b2 hlt2 (fun h => e1 (h.own (a1.less hid))))]
    exact e2
   refine ⟨own2, m2, r, h4.upd id (some b), ⟨h4, hnone, rfl, hR⟩, hv, ?_⟩
   refine ⟨⟨fun i x hx => ?_, fun i j x y b2 r1 r2 e1 e2 e3 e4 => ?_⟩, hl.fin, hl.maps, hl.size, fun b2 e1 e2 => hl.same b2 e1 (fun h => e2 (hho b2 h)), hl.old, fun b2 e1 e2 e3 => hl.keep b2 e1 e2 (fun h => e3 (hho b2 h)), fun i x b2 r e1 e2 e3 => ?_, fun i x hx => ?_, fun i x e1 e2 => ?_, hl.io⟩
   ·by_cases e : i = id
    ·subst e
     simp only [Heap.upd, if_true] at hx
     injection hx with hx; subst hx
     exact ⟨b1, o1, sz1, C1, hl.maps.sg _ _ g1, hl.keep b1 hlt g2 hno, g3.mono hrd hl.maps (hl.bo i _ g1 hid) (hl.same b1 hlt hno)⟩
    ·rw [upd_ne (fun h => e h.symm)] at hx
     exact hl.heap.blk i x hx
   ·have old : ∀ (k : Nat) (z : Blk) (r : Nat × Nat × Nat), h4 k = some z → m2.sg k = some (b2, r) → b2 = b1 → False := by
     intro k z r e1 e2 e3
     subst e3
     exact hno (hl.ids k z b2 r e1 e2 hlt)
    have idb : m2.sg id = some (b1, o1, sz1, C1) := hl.maps.sg _ _ g1
    by_cases e : i = id <;> by_cases e' : j = id
    ·rw [e, e']
    ·subst e
     rw [upd_ne (fun h => e' h.symm)] at e2
     rw [idb] at e3; simp at e3
     exact (old j y r2 e2 e4 e3.1.symm).elim
    ·subst e'
     rw [upd_ne (fun h => e h.symm)] at e1
     rw [idb] at e4; simp at e4
     exact (old i x r1 e1 e3 e4.1.symm).elim
    ·rw [upd_ne (fun h => e h.symm)] at e1
     rw [upd_ne (fun h => e' h.symm)] at e2
     exact hl.heap.inj i j x y b2 r1 r2 e1 e2 e3 e4
   ·by_cases e : i = id
    ·subst e
     rw [hl.maps.sg _ _ g1] at e2
     exact ⟨i, b, r, by simp [Heap.upd], by rw [g1]; exact e2⟩
    ·rw [upd_ne (fun h => e h.symm)] at e1
     exact hho b2 (hl.ids i x b2 r e1 e2 e3)
   ·by_cases e : i = id
    ·subst e; exact .inr ⟨b, by simp [Heap.upd]⟩
    ·rw [upd_ne (fun h => e h.symm)] at hx
     rcases hl.live i x hx with h | ⟨y, h⟩
     ·exact .inl h
     ·exact .inr ⟨y, le_upd hid i y h⟩
   ·have : h i = none := by
     cases hh : h i with
     | none => rfl
     | some y => rw [le_upd hid i y hh] at e2; cases e2
    exact hl.bo i x e1 this

def waits (ps : Array Oper) : Nat → Nat → Nat → Bool
 | 0, _, _ => false
 | n + 1, j, i => ((ps[i]?).map fun p => p.after.toList.any fun e => Region.binds .any e && (e.on == j || waits ps n j e.on)).getD false

def nop : AOp := .mkm none 0

def drawOk (P : Program) : DrawOk := fun l ps =>
 chkOps P ps l ps.toList &&
 (List.range ps.size).all (fun i => ((ps[i]?).map fun p => p.after.all fun e => !Region.binds .any e || e.on < i).getD false) &&
 (List.range ps.size).all fun i => (List.range i).all fun j => mayPass (l.getD j nop) (l.getD i nop) || waits ps 12 j i

def rest (n : Nat) (listed : Array Bool) : List Nat := (List.range n).filter fun i => !listed.getD i true

theorem chkOps_get {P : Program} {ops : Array Oper} : ∀ {l : List AOp} {r : List Oper}, chkOps P ops l r = true → l.length = r.length ∧ ∀ (i : Nat) (p : Oper), r[i]? = some p → chkOp P (l.getD i nop) p = true ∧ chkGuard ops (l.getD i nop).guard p.guard = true
 | [], [], _ => ⟨rfl, by simp⟩
 | o :: l, p :: r, h => by
  simp only [chkOps, Bool.and_eq_true] at h
  obtain ⟨h1, h2⟩ := chkOps_get h.2
  refine ⟨by simp [h1], fun i q hq => ?_⟩
  cases i with
  | zero => simp at hq; subst hq; exact ⟨h.1.1, h.1.2⟩
  | succ i => have := h2 i q (by simpa using hq); simpa using this
 | [], _ :: _, h => by simp [chkOps] at h
 | _ :: _, [], h => by simp [chkOps] at h

theorem draw_sound {P : Program} (hm : P.follows .mixedOrders = true) : DrawSound P (drawOk P) := by
 intro cx l ps hD id Q own m s a w hr hw Qx hq
 simp only [drawOk, Bool.and_eq_true, List.all_eq_true, List.mem_range] at hD
 obtain ⟨⟨hchk, hlt⟩, hpass⟩ := hD
 obtain ⟨hlen, hget⟩ := chkOps_get hchk
 have hlen' : l.length = ps.size := by simpa using hlen
 refine wp_region_any hm ?_
 have key : ∀ (fuel : Nat) (listed : Array Bool) (own : Nat → Prop) (m : Maps) (s : S) (a2 : Act) (w : World), listed.size = ps.size →
   (∀ k, listed.getD k false = true → ∀ p, ps[k]? = some p → ∀ e ∈ p.after, Region.binds .any e = true → listed.getD e.on false = true) →
   (rest ps.size listed).length = fuel → Rel cx own m s a2.tmps w → a2.defers = a.defers → wOps (Sim P) ((rest ps.size listed).map fun i => l.getD i nop) Q s → wpAny P .any ps Qx fuel listed a2 w := by
  intro fuel
  induction fuel with
  | zero =>
   intro listed own m s a2 w hls hdc hfl hr hd h
   have hnil := List.eq_nil_of_length_eq_zero hfl
   rw [hnil] at h
   refine ⟨?_, hq _ _ ⟨own, m, s, h, hr, hd⟩⟩
   unfold Region.ready
   rw [List.filter_eq_nil_iff]
   intro i hi hc
   simp only [Bool.and_eq_true] at hc
   have : i ∈ rest ps.size listed := by unfold rest; rw [List.mem_filter]; exact ⟨hi, hc.1⟩
   rw [hnil] at this
   cases this
  | succ fuel ih =>
   intro listed own m s a2 w hls hdc hfl hr hd h
   refine ⟨fun hnone => ?_, fun i hi => ?_⟩
   ·-- the first that is not listed is ready
    exfalso
    obtain ⟨i, r, hir⟩ : ∃ i r, rest ps.size listed = i :: r := by
     cases hh : rest ps.size listed with
     | nil => rw [hh] at hfl; cases hfl
     | cons i r => exact ⟨i, r, rfl⟩
    have hmem : i ∈ rest ps.size listed := by rw [hir]; simp
    have hmem' := hmem
    unfold rest at hmem'
    rw [List.mem_filter, List.mem_range] at hmem'
    have hsort : (rest ps.size listed).Pairwise (· < ·) := List.Pairwise.filter _ List.pairwise_lt_range
    rw [hir] at hsort
    have hmin : ∀ j, j < i → listed.getD j false = true := by
     intro j hj
     cases hl : listed.getD j false with
     | true => rfl
     | false =>
      have hjm : j ∈ rest ps.size listed := by
       unfold rest; rw [List.mem_filter, List.mem_range]
       refine ⟨by omega, ?_⟩
       have : j < listed.size := by omega
       simp [this] at hl ⊢
       exact hl
      rw [hir] at hjm
      rcases List.mem_cons.1 hjm with e | e
      ·omega
      ·have := List.rel_of_pairwise_cons hsort e; omega
    have : i ∈ Region.ready .any ps listed := by
     unfold Region.ready
     rw [List.mem_filter]
     refine ⟨List.mem_range.2 hmem'.1, ?_⟩
     rw [Bool.and_eq_true]
     refine ⟨hmem'.2, ?_⟩
     have h1 := hlt i hmem'.1
     rw [Array.getElem?_eq_getElem hmem'.1] at h1 ⊢
     simp only [Option.map_some, Option.getD_some, Array.all_eq_true] at h1 ⊢
     intro k hk
     have h2 := h1 k hk
     simp only [Bool.or_eq_true, Bool.not_eq_true', decide_eq_true_eq] at h2 ⊢
     rcases h2 with h2 | h2
     ·exact .inl h2
     ·exact .inr (hmin _ h2)
    rw [hnone] at this
    cases this
   ·-- an operation that is ready
    unfold Region.ready at hi
    rw [List.mem_filter, List.mem_range, Bool.and_eq_true] at hi
    obtain ⟨hin, hun, hdep⟩ := hi
    rw [Array.getElem?_eq_getElem hin] at hdep
    simp only [Option.map_some, Option.getD_some] at hdep
    have hdep' : ∀ e ∈ ps[i].after, Region.binds .any e = true → listed.getD e.on false = true := by
     intro e he hb
     rw [Array.all_eq_true_iff_forall_mem] at hdep
     have := hdep e he
     simpa [hb] using this
    have hmem : i ∈ rest ps.size listed := by unfold rest; rw [List.mem_filter, List.mem_range]; exact ⟨hin, hun⟩
    obtain ⟨pre, post, hpp⟩ := List.append_of_mem hmem
    have hsort : (rest ps.size listed).Pairwise (· < ·) := List.Pairwise.filter _ List.pairwise_lt_range
    rw [hpp, List.pairwise_append] at hsort
    obtain ⟨_, hs2, hs3⟩ := hsort
    have hpre : ∀ j ∈ pre, j < i := fun j hj => hs3 j hj i (by simp)
    have hpost : ∀ j ∈ post, i < j := fun j hj => List.rel_of_pairwise_cons hs2 hj
    have hwait : ∀ n j k, waits ps n j k = true → listed.getD k false = true → listed.getD j false = true := by
     intro n
     induction n with
     | zero => intro j k h; simp [waits] at h
     | succ n ihn =>
      intro j k hwk hlk
      unfold waits at hwk
      cases hpk : ps[k]? with
      | none => simp [hpk] at hwk
      | some p =>
       simp only [hpk, Option.map_some, Option.getD_some, List.any_eq_true, Bool.and_eq_true, Bool.or_eq_true, beq_iff_eq] at hwk
       obtain ⟨e, he, hb, hor⟩ := hwk
       have hle := hdc k hlk p hpk e (by simpa using he) hb
       rcases hor with rfl | h2
       ·exact hle
       ·exact ihn j e.on h2 hle
    have hwi : ∀ j, waits ps 12 j i = true → listed.getD j false = true := by
     intro j hw4
     unfold waits at hw4
     simp only [Array.getElem?_eq_getElem hin, Option.map_some, Option.getD_some, List.any_eq_true, Bool.and_eq_true, Bool.or_eq_true, beq_iff_eq] at hw4
     obtain ⟨e, he, hb, hor⟩ := hw4
     have hle := hdep' e (by simpa using he) hb
     rcases hor with rfl | h2
     ·exact hle
     ·exact hwait 11 j e.on h2 hle
    have hpre2 : ∀ j ∈ pre.map (fun i => l.getD i nop), mayPass j (l.getD i nop) = true := by
     intro x hx
     rw [List.mem_map] at hx
     obtain ⟨j, hj, rfl⟩ := hx
     have h1 := hpass i hin j (hpre j hj)
     rw [Bool.or_eq_true] at h1
     rcases h1 with h1 | h1
     ·exact h1
     ·exfalso
      have hjl := hwi j h1
      have hjm : j ∈ rest ps.size listed := by rw [hpp]; simp [hj]
      unfold rest at hjm
      rw [List.mem_filter, List.mem_range] at hjm
      have hjs : j < listed.size := by omega
      simp [hjs] at hjl hjm
      rw [hjl] at hjm
      exact absurd hjm.2 (by simp)
    rw [hpp, List.map_append, List.map_cons] at h
    have hfin := hrel_fin hr.f.heap hr.f.fin
    have hstep := move_front sim_sub sim_full sim_finc sim_frm _ hpre2 s hfin h
    have hrest : rest ps.size (listed.setIfInBounds i true) = pre ++ post := by
     have h1 : rest ps.size (listed.setIfInBounds i true) = (rest ps.size listed).filter (fun j => j != i) := by
      unfold rest
      rw [List.filter_filter]
      refine List.filter_congr fun j hj => ?_
      rw [List.mem_range] at hj
      have hjs : j < listed.size := by omega
      by_cases hji : j = i
      ·subst hji; simp [hjs]
      ·have : i ≠ j := fun e => hji e.symm
       simp [hjs, hji, Array.getElem_setIfInBounds, this]
     rw [h1, hpp, List.filter_append, List.filter_cons]
     simp only [bne_self_eq_false, Bool.false_eq_true, if_false]
     rw [List.filter_eq_self.2, List.filter_eq_self.2]
     ·intro j hj; have := hpost j hj; simp; omega
     ·intro j hj; have := hpre j hj; simp; omega
    obtain ⟨hco, hcg⟩ := hget i ps[i] (by simp [hin])
    have hmain := step_ok (P := P) (Qx := Qx) hr (ops := ps) hco hcg hstep (K := wpAny P .any ps Qx fuel (listed.setIfInBounds i true)) (fun a3 w3 ⟨own3, m3, s3, h3, hr3, hd3⟩ => by
     refine ih _ own3 m3 s3 a3 w3 (by simp [hls]) ?_ ?_ hr3 (hd3.trans hd) (by rw [hrest, List.map_append]; exact h3)
     ·intro k hk p hpk e he hb
      by_cases hki : k = i
      ·subst hki
       rw [Array.getElem?_eq_getElem hin] at hpk
       injection hpk with hpk
       subst hpk
       have := hdep' e he hb
       by_cases hei : e.on = k
       ·rw [hei]; have hks : k < listed.size := by omega
        simp [hks]
       ·have : k ≠ e.on := fun x => hei x.symm
        simp only [Array.getD_eq_getD_getElem?, Array.getElem?_setIfInBounds_ne this]
        simpa [Array.getD_eq_getD_getElem?] using hdep' e he hb
      ·have hne : i ≠ k := fun x => hki x.symm
       simp only [Array.getD_eq_getD_getElem?, Array.getElem?_setIfInBounds_ne hne] at hk
       have := hdc k (by simpa [Array.getD_eq_getD_getElem?] using hk) p hpk e he hb
       by_cases hei : e.on = i
       ·rw [hei]; have hks : i < listed.size := by omega
        simp [hks]
       ·have hne2 : i ≠ e.on := fun x => hei x.symm
        simp only [Array.getD_eq_getD_getElem?, Array.getElem?_setIfInBounds_ne hne2]
        simpa [Array.getD_eq_getD_getElem?] using this
     ·rw [hrest]
      rw [hpp] at hfl
      simp at hfl ⊢
      omega)
    unfold wpOp
    rw [Array.getElem?_eq_getElem hin]
    simp only []
    by_cases hwn : Region.wanted ps[i] (yielded ps a2.tmps) = true
    ·rw [if_pos hwn] at hmain ⊢; exact .inl hmain
    ·rw [if_neg hwn] at hmain ⊢; exact hmain
 have hr1 : Rel cx own m s a.tmps { w with drawn := w.drawn + 1 } := hr.heap_eq rfl
 have hall : rest ps.size (Array.replicate ps.size false) = List.range ps.size := by
  unfold rest
  rw [List.filter_eq_self]
  intro j hj
  rw [List.mem_range] at hj
  simp [hj]
 refine key ps.size (Array.replicate ps.size false) own m s a _ (by simp) (fun k hk => ?_) (by rw [hall]; simp) hr1 rfl ?_
 ·exfalso
  simp only [Array.getD_eq_getD_getElem?, Array.getElem?_replicate] at hk
  split at hk <;> simp at hk
 ·rw [hall]
  have : (List.range ps.size).map (fun i => l.getD i nop) = l := by
   rw [← hlen']
   apply List.ext_getElem
   ·simp
   ·intro n h1 h2
    simp [List.getD_eq_getElem?_getD, h2]
  rw [this]
  exact hw

end Go.Abs
namespace Go.Abs.Y
open Go
abbrev z : V := .int .i64 0
abbrev n : V := .nsl
abbrev t (k : Nat) : Opd := .t k
abbrev i (k : Int) : Opd := .c (.int .i64 k)
abbrev v (d : Nat) (x : AVal) : AOp := .val none (some d) x
abbrev g (a : Nat) (b : Bool) (d : Nat) (x : AVal) : AOp := .val (some (a, b)) (some d) x
abbrev m (d x : Nat) : AOp := .val none (some d) (.mv (.t x))
abbrev k (d : Nat) (x : Int) : AOp := .val none (some d) (.mv (.c (.int .i64 x)))
abbrev c (d x : Nat) : AOp := .val none (some d) (.nc (.t x))
abbrev f (d x o : Nat) : AOp := .val none (some d) (.fa (.t x) o)
abbrev l (d x n : Nat) : AOp := .val none (some d) (.ld (.t x) n false)
abbrev a (d x n : Nat) : AOp := .val none (some d) (.ld (.t x) n true)
abbrev h (d x : Nat) : AOp := .val none (some d) (.len (.t x))
abbrev e (d x k : Nat) : AOp := .val none (some d) (.ext (.t x) k)
abbrev j (d x i n : Nat) : AOp := .val none (some d) (.ia (.t x) (.t i) n)
abbrev o (d x : Nat) : AOp := .val none (some d) (.un .not (.t x))
abbrev d (d : Nat) (op : BinOp) (x y : Nat) : AOp := .val none (some d) (.bin op (.t x) (.t y))
abbrev b (d : Nat) (op : BinOp) (x : Nat) (y : Int) : AOp := .val none (some d) (.bin op (.t x) (.c (.int .i64 y)))
abbrev gm (a : Nat) (b : Bool) (d x : Nat) : AOp := .val (some (a, b)) (some d) (.mv (.t x))
abbrev gl (a : Nat) (b : Bool) (d x n : Nat) : AOp := .val (some (a, b)) (some d) (.ld (.t x) n false)
abbrev gf (a : Nat) (b : Bool) (d x o : Nat) : AOp := .val (some (a, b)) (some d) (.fa (.t x) o)
abbrev gh (a : Nat) (b : Bool) (d x : Nat) : AOp := .val (some (a, b)) (some d) (.len (.t x))
abbrev gd (a : Nat) (b : Bool) (d : Nat) (op : BinOp) (x y : Nat) : AOp := .val (some (a, b)) (some d) (.bin op (.t x) (.t y))
abbrev gb (a : Nat) (b : Bool) (d : Nat) (op : BinOp) (x : Nat) (y : Int) : AOp := .val (some (a, b)) (some d) (.bin op (.t x) (.c (.int .i64 y)))
abbrev u (d : Nat) (f : Nat) (xs : List Opd) : AOp := .call none (some d) f xs
abbrev r (l : List AOp) : ACode := .region false l
abbrev q (l : List AOp) : ACode := .region true l
abbrev s (x y : ACode) : ACode := .seq x y
end Go.Abs.Y
