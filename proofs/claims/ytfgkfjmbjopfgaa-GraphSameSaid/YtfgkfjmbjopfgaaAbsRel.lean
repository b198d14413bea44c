/-
  How the abstract machine's values, boxes and heap stand to the model's memory.
-/
import Derived.Test.YtfgkfjmbjopfgaaAbsRules
import Derived.Laws.Sem
import Derived.Calls
set_option linter.unusedVariables false
set_option linter.unusedSimpArgs false
namespace Go.Abs
open Go

/-- Which block a name stands for (from which cell on, its elements' cells, its capacity); a local box; an entry's mark. -/
structure Maps where
  sg : Nat → Option (Nat × Nat × Nat × Nat)
  bt : Nat → Nat → Option Nat
  bo : Nat → Nat → Option Nat

structure Maps.le (m n : Maps) : Prop where
  sg : ∀ i x, m.sg i = some x → n.sg i = some x
  bt : ∀ t g b, m.bt t g = some b → n.bt t g = some b
  bo : ∀ i k b, m.bo i k = some b → n.bo i k = some b

theorem Maps.le.refl (m : Maps) : m.le m := ⟨fun _ _ h => h, fun _ _ _ h => h, fun _ _ _ h => h⟩
theorem Maps.le.trans {a b c : Maps} (h : a.le b) (k : b.le c) : a.le c := ⟨fun i x e => k.sg i x (h.sg i x e), fun t g x e => k.bt t g x (h.bt t g x e), fun i x y e => k.bo i x y (h.bo i x y e)⟩

abbrev Reads := Nat → Nat → Value → Prop

inductive VR (rd : Reads) (m : Maps) : V → Value → Prop
  | undef (u : Value) : VR rd m .undef u
  | skip : VR rd m .skip Go.undef
  | int (k : IntKind) (n : Int) : VR rd m (.int k n) (.int k n)
  | bool (b : Bool) : VR rd m (.bool b) (.bool b)
  | str (s : ByteArray) : VR rd m (.str s) (.string s)
  | agg (cs : List V) (us : Array Value) (hl : us.size = cs.length) (h1 : ∀ (i : Nat) (u : Value), us[i]? = some u → u.oneCell' = true)
      (hf : ∀ (i : Nat) (c : V) (u : Value), cs[i]? = some c → us[i]? = some u → VR rd m c u) : VR rd m (.agg cs) (.agg us)
  | tup (cs : List V) (us : Array Value) (hl : us.size = cs.length)
      (hf : ∀ (i : Nat) (c : V) (u : Value), cs[i]? = some c → us[i]? = some u → VR rd m c u) : VR rd m (.tup cs) (.tuple us)
  | nsl : VR rd m .nsl (.slice none 0 0)
  | fsl0 (sz : Nat) (a : Option Addr) (cap : Nat) : VR rd m (.fsl sz []) (.slice a 0 cap)
  | fsl (sz : Nat) (els : List (List V)) (b off cap : Nat) (u : Nat → Nat → Value) (hc : els.length ≤ cap) (hw : ∀ (i : Nat) (x : List V), els[i]? = some x → x.length = sz)
      (hr : ∀ (i : Nat) (x : List V) (j : Nat) (c : V), els[i]? = some x → x[j]? = some c → rd b (off + i * sz + j) (u i j))
      (h1 : ∀ (i : Nat) (x : List V) (j : Nat) (c : V), els[i]? = some x → x[j]? = some c → (u i j).oneCell' = true)
      (hf : ∀ (i : Nat) (x : List V) (j : Nat) (c : V), els[i]? = some x → x[j]? = some c → VR rd m c (u i j)) :
      VR rd m (.fsl sz els) (.slice (some ⟨b, off, none⟩) els.length cap)
  | msl (id off ln b o sz C : Nat) (a : Addr) (cap : Nat) (hs : m.sg id = some (b, o, sz, C))
      (h : (ln = 0 ∧ cap = 0) ∨ (a = ⟨b, o + off * sz, none⟩ ∧ off + cap = C ∧ ln ≤ cap)) : VR rd m (.msl id off ln) (.slice (some a) ln cap)
  | lp (t g off b : Nat) (h : m.bt t g = some b) : VR rd m (.lp t g off) (.pointer (some ⟨b, off, none⟩))
  | ep (id i off b o sz C : Nat) (hs : m.sg id = some (b, o, sz, C)) : VR rd m (.ep id i off) (.pointer (some ⟨b, o + i * sz + off, none⟩))
  | fp (cs : List V) (off b o : Nat) (u : Nat → Value) (hr : ∀ (j : Nat) (c : V), cs[j]? = some c → rd b (o + j) (u j))
      (h1 : ∀ (j : Nat) (c : V), cs[j]? = some c → (u j).oneCell' = true)
      (hf : ∀ (j : Nat) (c : V), cs[j]? = some c → VR rd m c (u j)) : VR rd m (.fp cs off) (.pointer (some ⟨b, o + off, none⟩))
  | nilp : VR rd m .nilp (.pointer none)
  | map (id b o sz C : Nat) (hs : m.sg id = some (b, o, sz, C)) : VR rd m (.map id) (.map (some b))
  | stamp (id i n : Nat) (hs : m.bo id i = some n) : VR rd m (.stamp id i) (.int .i64 n)
  | fn (f : Nat) (cs : List V) (us : Array Value) (hl : us.size = cs.length)
      (hf : ∀ (i : Nat) (c : V) (u : Value), cs[i]? = some c → us[i]? = some u → VR rd m c u) : VR rd m (.fn f cs) (.func (.func f) #[] us)

theorem VR.mono {rd rd' : Reads} {m m' : Maps} (hr : ∀ b o u, rd b o u → rd' b o u) (hm : m.le m') {v : V} {u : Value} (h : VR rd m v u) : VR rd' m' v u := by
  induction h with
  | undef u => exact .undef u
  | skip => exact .skip
  | int k n => exact .int k n
  | bool b => exact .bool b
  | str s => exact .str s
  | agg cs us hl h1 _ ih => exact .agg cs us hl h1 ih
  | tup cs us hl _ ih => exact .tup cs us hl ih
  | nsl => exact .nsl
  | fsl0 sz a cap => exact .fsl0 sz a cap
  | fsl sz els b off cap u hc hw hrd h1 _ ih => exact .fsl sz els b off cap u hc hw (fun i x j c e1 e2 => hr _ _ _ (hrd i x j c e1 e2)) h1 ih
  | msl id off ln b o sz C a cap hs h => exact .msl id off ln b o sz C a cap (hm.sg _ _ hs) h
  | lp t g off b h => exact .lp t g off b (hm.bt _ _ _ h)
  | ep id i off b o sz C hs => exact .ep id i off b o sz C (hm.sg _ _ hs)
  | fp cs off b o u hrd h1 _ ih => exact .fp cs off b o u (fun j c e => hr _ _ _ (hrd j c e)) h1 ih
  | nilp => exact .nilp
  | map id b o sz C hs => exact .map id b o sz C (hm.sg _ _ hs)
  | stamp id i n hs => exact .stamp id i n (hm.bo _ _ _ hs)
  | fn f cs us hl _ ih => exact .fn f cs us hl ih

/-- What may be read and is nobody's own. -/
def Rd (own : Nat → Prop) (w : World) : Reads := fun b o u => ¬ own b ∧ w.cell? ⟨b, o, none⟩ = some u

/-- A value that is a cell: related, and one cell. -/
def CR (rd : Reads) (m : Maps) (c : V) (u : Value) : Prop := VR rd m c u ∧ u.oneCell' = true

theorem CR.mono {rd rd' : Reads} {m m' : Maps} (hr : ∀ b o u, rd b o u → rd' b o u) (hm : m.le m') {v : V} {u : Value} (h : CR rd m v u) : CR rd' m' v u := ⟨h.1.mono hr hm, h.2⟩

/-- A block of memory holds these elements. -/
def ArrAt (rd : Reads) (m : Maps) (w : World) (b o sz C : Nat) (els : List (List V)) : Prop :=
  ∃ arr ty, w.heap[b]? = some (.cells arr ty (0, 0)) ∧ arr.size = o + C * sz ∧ els.length ≤ C ∧
    (∀ (i : Nat) (x : List V), els[i]? = some x → x.length = sz) ∧
    (∀ (i : Nat) (x : List V) (j : Nat) (c : V), els[i]? = some x → x[j]? = some c → ∃ u, arr[o + i * sz + j]? = some u ∧ CR rd m c u)

/-- A block of memory holds these entries. -/
def MapAt (rd : Reads) (m : Maps) (w : World) (id b : Nat) (es : List (V × V)) : Prop :=
  ∃ ents clock, w.heap[b]? = some (.map ents clock) ∧ ents.size = es.length ∧
    (∀ (i : Nat) (e : V × V) (x : MapEntry), es[i]? = some e → ents[i]? = some x → VR rd m e.1 x.key ∧ VR rd m e.2 x.val ∧ m.bo id i = some x.born ∧ x.born < clock) ∧
    (∀ (i j : Nat) (x y : MapEntry), ents[i]? = some x → ents[j]? = some y → x.born = y.born → i = j) ∧
    (∀ i n, es.length ≤ i → m.bo id i = some n → False)

def BlkAt (rd : Reads) (m : Maps) (w : World) (id b o sz C : Nat) : Blk → Prop
  | .arr sz2 els => sz2 = sz ∧ ArrAt rd m w b o sz C els
  | .map es => MapAt rd m w id b es

/-- The heap: each named block lies in memory, all of them apart, and none is another's. -/
structure HRel (own : Nat → Prop) (m : Maps) (h : Heap) (w : World) : Prop where
  blk : ∀ id x, h id = some x → ∃ b o sz C, m.sg id = some (b, o, sz, C) ∧ own b ∧ BlkAt (Rd own w) m w id b o sz C x
  inj : ∀ id id2 x y b r r2, h id = some x → h id2 = some y → m.sg id = some (b, r) → m.sg id2 = some (b, r2) → id = id2

theorem HRel.arr {own : Nat → Prop} {m : Maps} {h : Heap} {w : World} (hr : HRel own m h w) (id sz : Nat) (els : List (List V)) (hh : h id = some (.arr sz els)) :
    ∃ b o C, m.sg id = some (b, o, sz, C) ∧ own b ∧ ArrAt (Rd own w) m w b o sz C els := by
  obtain ⟨b, o, sz2, C, h1, h2, rfl, h3⟩ := hr.blk id _ hh
  exact ⟨b, o, C, h1, h2, h3⟩

theorem HRel.map {own : Nat → Prop} {m : Maps} {h : Heap} {w : World} (hr : HRel own m h w) (id : Nat) (es : List (V × V)) (hh : h id = some (.map es)) :
    ∃ b r, m.sg id = some (b, r) ∧ own b ∧ MapAt (Rd own w) m w id b es := by
  obtain ⟨b, o, sz2, C, h1, h2, h3⟩ := hr.blk id _ hh
  exact ⟨b, _, h1, h2, h3⟩

/-- A block of memory holds these cells. -/
def BoxAt (rd : Reads) (m : Maps) (w : World) (b : Nat) (cs : List V) : Prop :=
  ∃ arr ty, w.heap[b]? = some (.cells arr ty (0, 0)) ∧ arr.size = cs.length ∧ ∀ (j : Nat) (c : V), cs[j]? = some c → ∃ u, arr[j]? = some u ∧ CR rd m c u

/-- A frame's slots and boxes. -/
structure FRel (own : Nat → Prop) (m : Maps) (s : S) (tmps : Array Value) (w : World) : Prop where
  size : tmps.size = s.env.length
  env : ∀ (t : Nat) (v : V), s.env[t]? = some v → ∃ u, tmps[t]? = some u ∧ VR (Rd own w) m v u
  box : ∀ (t g : Nat) (cs : List V), s.bx[t]? = some (some (g, cs)) → ∃ b, m.bt t g = some b ∧ own b ∧ BoxAt (Rd own w) m w b cs
  binj : ∀ (t g : Nat) (cs : List V) (t2 g2 : Nat) (cs2 : List V) (b : Nat), s.bx[t]? = some (some (g, cs)) → s.bx[t2]? = some (some (g2, cs2)) → m.bt t g = some b → m.bt t2 g2 = some b → t = t2
  bh : ∀ (t g : Nat) (cs : List V) (id : Nat) (x : Blk) (b : Nat) (r : Nat × Nat × Nat), s.bx[t]? = some (some (g, cs)) → s.h id = some x → m.bt t g = some b → m.sg id = some (b, r) → False
  heap : HRel own m s.h w
  fin : ∃ N, (∀ i, N ≤ i → m.sg i = none) ∧ (∀ t g, N ≤ g → m.bt t g = none) ∧ (∀ i k, N ≤ i → m.bo i k = none)

/-- What must not turn of a name's entries' marks. -/
def BoKeeps (m m2 : Maps) (id : Nat) : Prop := ∀ i n, m2.bo id i = some n → m.bo id i = some n

/-- What a function's body finds, and must leave. -/
structure Cx where
  w0 : World
  m0 : Maps
  own0 : Nat → Prop
  h0 : Nat → Prop
  fr : Nat → Prop
  dom : Nat → Prop

/-- What is outside memory is as it was. -/
structure Io (w w2 : World) : Prop where
  os : w2.os = w.os
  tape : w2.tape = w.tape
  output : w2.output = w.output
theorem Io.refl (w : World) : Io w w := ⟨rfl, rfl, rfl⟩
theorem Io.trans {a b c : World} (h : Io a b) (k : Io b c) : Io a c := ⟨k.os.trans h.os, k.tape.trans h.tape, k.output.trans h.output⟩

structure Keeps (cx : Cx) (own : Nat → Prop) (m : Maps) (s : S) (w : World) : Prop where
  io : Io cx.w0 w
  size : cx.w0.heap.size ≤ w.heap.size
  same : ∀ b, b < cx.w0.heap.size → ¬ cx.h0 b → w.heap[b]? = cx.w0.heap[b]?
  old : ∀ b, b < cx.w0.heap.size → own b → cx.own0 b
  maps : cx.m0.le m
  fr : ∀ b, cx.fr b → own b
  ids : ∀ id x b r, s.h id = some x → m.sg id = some (b, r) → ¬ cx.fr b ∧ (b < cx.w0.heap.size → cx.h0 b)
  bxs : ∀ (t g : Nat) (cs : List V) (b : Nat), s.bx[t]? = some (some (g, cs)) → m.bt t g = some b → cx.w0.heap.size ≤ b
  live : ∀ id x, s.h id = some x → cx.m0.sg id = none ∨ cx.dom id
  bo : ∀ id x, cx.m0.sg id = some x → ¬ cx.dom id → BoKeeps cx.m0 m id

structure Rel (cx : Cx) (own : Nat → Prop) (m : Maps) (s : S) (tmps : Array Value) (w : World) : Prop where
  f : FRel own m s tmps w
  k : Keeps cx own m s w
  frlt : ∀ b, cx.fr b → b < cx.w0.heap.size

end Go.Abs
