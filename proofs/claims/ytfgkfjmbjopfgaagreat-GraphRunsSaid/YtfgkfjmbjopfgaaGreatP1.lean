/-
  A part of the proof. Conditions: none.
-/
import GoSem.Dispatch
import Derived.IntWalk
import Derived.Attr
import Derived.Laws.Sem
import Derived.Calls
import Derived.Laws.Cells
import Derived.ChangeKeysEq
set_option linter.unusedVariables false
set_option linter.unusedSimpArgs false
set_option maxRecDepth 100000
namespace Go.Abs
open Go

inductive V where
 | undef
 | skip
 | int (k : IntKind) (n : Int)
 | bool (b : Bool)
 | str (s : ByteArray)
 | agg (cs : List V)
 | tup (vs : List V)
 | nsl
 | fsl (sz : Nat) (els : List (List V))
 | msl (id off len : Nat)
 | lp (t g off : Nat)
 | ep (id i off : Nat)
 | fp (cs : List V) (off : Nat)
 | nilp
 | map (id : Nat)
 | stamp (id i : Nat)
 | fn (f : Nat) (caps : List V)
 deriving Inhabited

inductive Blk where
 | arr (sz : Nat) (els : List (List V))
 | map (es : List (V × V))

abbrev Heap := Nat → Option Blk
def Heap.none : Heap := fun _ => Option.none
def Heap.upd (h : Heap) (i : Nat) (b : Option Blk) : Heap := fun j => if j = i then b else h j
def Heap.le (h h2 : Heap) : Prop := ∀ i b, h i = some b → h2 i = some b

structure S where
 env : List V
 bx : List (Option (Nat × List V))
 h : Heap

inductive Opd where
 | t (n : Nat)
 | c (v : V)

def ev (e : List V) : Opd → V
 | .t n => e.getD n .undef
 | .c v => v

inductive AVal where
 | mv (x : Opd)
 | pick (c a b : Opd)
 | bin (op : BinOp) (x y : Opd)
 | beq (neg : Bool) (x y : Opd)
 | aeq (n : Nat) (neg : Bool) (x y : Opd)
 | un (op : UnOp) (x : Opd)
 | build (zero : List V) (parts : List (Nat × Nat × Opd))
 | fld (x : Opd) (off n : Nat) (agg : Bool)
 | fa (x : Opd) (off : Nat)
 | ia (x i : Opd) (esz : Nat)
 | iaa (x i : Opd) (n esz : Nat)
 | ix (x i : Opd) (n esz : Nat) (agg : Bool)
 | ixs (x i : Opd)
 | ld (x : Opd) (n : Nat) (agg : Bool)
 | ldf (x : Opd) (n : Nat) (agg : Bool)
 | ldl (x : Opd) (n : Nat) (agg : Bool)
 | ldh (x : Opd) (n : Nat) (agg : Bool)
 | iaf (x i : Opd) (esz : Nat)
 | nc (x : Opd)
 | len (x : Opd)
 | lens (x : Opd)
 | mx (x y : Opd)
 | mn (x y : Opd)
 | ext (x : Opd) (k : Nat)
 | mkf (f : Nat) (caps : List Opd)
 | slc (x : Opd) (lo hi : Option Opd) (esz : Nat)
 | slcs (x : Opd) (lo hi : Option Opd)
 | conv (k : IntKind) (x : Opd)
 | lookup (ks : Nat) (m key : Opd) (zero : V)
 | lookupOk (ks : Nat) (m key : Opd) (zero : V)
 | mlen (m : Opd)

def cellsOf : V → Option (List V)
 | .agg cs => some cs
 | .undef | .skip | .tup _ => none
 | v => some [v]

def shiftOf (op : BinOp) (k : IntKind) (x y : Int) : Option V :=
 if y < 0 then none else
 match op with
 | .shl => some (.int k (k.wrap (x * 2 ^ (min y.toNat k.bits))))
 | .shr => some (.int k (x.fdiv (2 ^ (min y.toNat k.bits))))
 | _ => none

def bitsOf (op : BinOp) (k : IntKind) (x y : Int) : Option V :=
 match op with
 | .and => some (.int k (k.wrap (BitVec.ofInt k.bits x &&& BitVec.ofInt k.bits y).toNat))
 | .or => some (.int k (k.wrap (BitVec.ofInt k.bits x ||| BitVec.ofInt k.bits y).toNat))
 | .xor => some (.int k (k.wrap (BitVec.ofInt k.bits x ^^^ BitVec.ofInt k.bits y).toNat))
 | .andNot => some (.int k (k.wrap (BitVec.ofInt k.bits x &&& ~~~ BitVec.ofInt k.bits y).toNat))
 | _ => none

def intOf (op : BinOp) (k : IntKind) (x y : Int) : Option V :=
 match op with
 | .add => some (.int k (k.wrap (x + y)))
 | .sub => some (.int k (k.wrap (x - y)))
 | .mul => some (.int k (k.wrap (x * y)))
 | .quo => if y = 0 then none else some (.int k (k.wrap (x.tdiv y)))
 | .rem => if y = 0 then none else some (.int k (x.tmod y))
 | .eql => some (.bool (x == y))
 | .neq => some (.bool (x != y))
 | .lss => some (.bool (decide (x < y)))
 | .leq => some (.bool (decide (x ≤ y)))
 | .gtr => some (.bool (decide (x > y)))
 | .geq => some (.bool (decide (x ≥ y)))
 | op => bitsOf op k x y

def strOf (op : BinOp) (x y : ByteArray) : Option V :=
 match op with
 | .add => if x.size + y.size ≤ 140737488355328 then some (.str (x ++ y)) else none
 | .eql => some (.bool (x.toList == y.toList))
 | .neq => some (.bool !(x.toList == y.toList))
 | .lss => some (.bool (Op.bytesLess x.toList y.toList))
 | .leq => some (.bool (Op.bytesLess x.toList y.toList || x.toList == y.toList))
 | .gtr => some (.bool !(Op.bytesLess x.toList y.toList || x.toList == y.toList))
 | .geq => some (.bool !(Op.bytesLess x.toList y.toList))
 | _ => none

def binOf (op : BinOp) : V → V → Option V
 | .int k x, .int k2 y =>
  match op with
  | .shl => shiftOf .shl k x y
  | .shr => shiftOf .shr k x y
  | op => if k = k2 then intOf op k x y else none
 | .str x, .str y => strOf op x y
 | _, _ => none

def unOf (op : UnOp) : V → Option V
 | .int k n =>
  match op with
  | .neg => some (.int k (k.wrap (0 - n)))
  | .xor => bitsOf .xor k (if k.signed then -1 else k.max) n
  | _ => none
 | .bool b =>
  match op with
  | .not => some (.bool !b)
  | _ => none
 | _ => none

def over (cs : List V) (off : Nat) (new : List V) : List V := cs.take off ++ new ++ cs.drop (off + new.length)

def fill (e : List V) : List V → List (Nat × Nat × Opd) → Option (List V)
 | cs, [] => some cs
 | cs, (off, n, x) :: r => match cellsOf (ev e x) with
  | some ds => if ds.length = n ∧ off + n ≤ cs.length then fill e (over cs off ds) r else none
  | none => none

def partOf (cs : List V) (off n : Nat) (agg : Bool) : Option V :=
 if off + n ≤ cs.length then (if agg then some (.agg ((cs.drop off).take n)) else cs[off]?) else none

def boxOf (bx : List (Option (Nat × List V))) (t g : Nat) : Option (List V) :=
 match bx.getD t none with
 | some (g2, cs) => if g = g2 then some cs else none
 | none => none

def cellsAt (bx : List (Option (Nat × List V))) (h : Heap) (p : V) : Option (List V × Nat) :=
 match p with
 | .lp t g off => match boxOf bx t g with
  | some cs => some (cs, off)
  | none => none
 | .ep id i off => match h id with
  | some (.arr _ els) => match els[i]? with
   | some cs => some (cs, off)
   | none => none
  | _ => none
 | .fp cs off => some (cs, off)
 | _ => none

def loadOf (bx : List (Option (Nat × List V))) (h : Heap) (p : V) (n : Nat) (agg : Bool) : Option V :=
 match cellsAt bx h p with
 | some (cs, off) => partOf cs off n agg
 | none => none

def bound (e : List V) (o : Option Opd) (d : Nat) : Option Nat :=
 match o with
 | none => some d
 | some x => match ev e x with
  | .int _ n => if 0 ≤ n then some n.toNat else none
  | _ => none

def keyIs : Nat → V → Bool
 | 0, .int _ _ => true
 | 1, .str _ => true
 | 2, .agg [.int _ _, .int _ _] => true
 | _, _ => false

def keyEq : V → V → Option Bool
 | .int k a, .int k2 b => if k = k2 then some (a == b) else none
 | .str a, .str b => some (a == b)
 | .agg [.int k a, .int k2 b], .agg [.int k3 c, .int k4 d] => if k = k3 ∧ k2 = k4 then some (a == c && b == d) else none
 | _, _ => none

def findKey (k : V) : List (V × V) → Option (Option Nat)
 | [] => some none
 | e :: es => match keyEq k e.1 with
  | some true => some (some 0)
  | some false => (findKey k es).map fun r => r.map (· + 1)
  | none => none

def intsOf : List V → Option (List Int)
 | [] => some []
 | .int .i64 n :: l => (intsOf l).map (n :: ·)
 | _ => none

def AVal.eval (e : List V) (bx : List (Option (Nat × List V))) (h : Heap) : AVal → Option V
 | .mv x => some (ev e x)
 | .pick c a b => match ev e c with
  | .bool t => some (if t then ev e a else ev e b)
  | _ => none
 | .bin op x y => binOf op (ev e x) (ev e y)
 | .beq neg x y => match ev e x, ev e y with
  | .bool a, .bool b => some (.bool (if neg then !(a == b) else a == b))
  | _, _ => none
 | .aeq n neg x y => match ev e x, ev e y with
  | .agg xs, .agg ys => match intsOf xs, intsOf ys with
   | some a, some b => if a.length = n ∧ b.length = n then some (.bool (if neg then !(a == b) else a == b)) else none
   | _, _ => none
  | _, _ => none
 | .un op x => unOf op (ev e x)
 | .build zero parts => (fill e zero parts).map .agg
 | .fld x off n agg => match ev e x with
  | .agg cs => partOf cs off n agg
  | _ => none
 | .fa x off => match ev e x with
  | .lp t g o => some (.lp t g (o + off))
  | .ep id i o => some (.ep id i (o + off))
  | .fp cs o => some (.fp cs (o + off))
  | _ => none
 | .ia x i esz => match ev e i with
  | .int _ n => match ev e x with
   | .fsl sz els => if 0 ≤ n ∧ sz = esz then (els[n.toNat]?).map fun cs => .fp cs 0 else none
   | .msl id off ln => if 0 ≤ n ∧ n < ln then (match h id with
     | some (.arr sz _) => if sz = esz then some (.ep id (off + n.toNat) 0) else none
     | _ => none) else none
   | _ => none
  | _ => none
 | .iaa x i n esz => match ev e i with
  | .int _ k => if 0 ≤ k ∧ k < n then (match ev e x with
   | .lp t g o => some (.lp t g (o + k.toNat * esz))
   | .ep id j o => some (.ep id j (o + k.toNat * esz))
   | .fp cs o => some (.fp cs (o + k.toNat * esz))
   | _ => none) else none
  | _ => none
 | .ix x i n esz agg => match ev e i with
  | .int _ k => match ev e x with
   | .agg cs => if 0 ≤ k ∧ k < n then partOf cs (k.toNat * esz) esz agg else none
   | _ => none
  | _ => none
 | .ixs x i => match ev e i with
  | .int _ k => match ev e x with
   | .str s => if 0 ≤ k then (s.data.toList[k.toNat]?).map fun b => .int .u8 b.toNat else none
   | _ => none
  | _ => none
 | .ld x n agg => loadOf bx h (ev e x) n agg
 | .ldf x n agg => match ev e x with
  | .fp cs off => partOf cs off n agg
  | _ => none
 | .ldh x n agg => match ev e x with
  | .ep id i off => loadOf bx h (.ep id i off) n agg
  | .fp cs off => partOf cs off n agg
  | _ => none
 | .ldl x n agg => match ev e x with
  | .lp t g off => match boxOf bx t g with
   | some cs => partOf cs off n agg
   | none => none
  | .fp cs off => partOf cs off n agg
  | _ => none
 | .iaf x i esz => match ev e i with
  | .int _ n => match ev e x with
   | .fsl sz els => if 0 ≤ n ∧ sz = esz then (els[n.toNat]?).map fun cs => .fp cs 0 else none
   | _ => none
  | _ => none
 | .nc x => match ev e x with
  | .lp t g o => some (.lp t g o)
  | .ep id i o => some (.ep id i o)
  | .fp cs o => some (.fp cs o)
  | .fn f cs => some (.fn f cs)
  | _ => none
 | .len x => match ev e x with
  | .nsl => some (.int .i64 0)
  | .fsl _ els => some (.int .i64 els.length)
  | .msl _ _ ln => some (.int .i64 ln)
  | _ => none
 | .lens x => match ev e x with
  | .str s => some (.int .i64 s.size)
  | _ => none
 | .mx x y => match ev e x, ev e y with
  | .int k a, .int _ b => some (.int k (if b > a then b else a))
  | _, _ => none
 | .mn x y => match ev e x, ev e y with
  | .int k a, .int _ b => some (.int k (if b < a then b else a))
  | _, _ => none
 | .ext x k => match ev e x with
  | .tup vs => vs[k]?
  | _ => none
 | .mkf f caps => some (.fn f (caps.map (ev e)))
 | .slc x lo hi esz => match ev e x with
  | .nsl => match bound e hi 0 with
   | some b => match bound e lo 0 with
    | some a => if a ≤ b ∧ b ≤ 0 then some .nsl else none
    | none => none
   | none => none
  | .fsl sz els => match bound e hi els.length with
   | some b => match bound e lo 0 with
    | some a => if a ≤ b ∧ b ≤ els.length ∧ sz = esz then some (.fsl sz ((els.drop a).take (b - a))) else none
    | none => none
   | none => none
  | .msl id off ln => match h id with
   | some (.arr sz _) => match bound e hi ln with
    | some b => match bound e lo 0 with
     | some a => if a ≤ b ∧ b ≤ ln ∧ sz = esz then some (.msl id (off + a) (b - a)) else none
     | none => none
    | none => none
   | _ => none
  | _ => none
 | .slcs x lo hi => match ev e x with
  | .str s => match bound e hi s.size with
   | some b => match bound e lo 0 with
    | some a => if a ≤ b ∧ b ≤ s.size then some (.str (s.extract a b)) else none
    | none => none
   | none => none
  | _ => none
 | .conv k x => match ev e x with
  | .int _ n => some (.int k (k.wrap n))
  | _ => none
 | .lookup ks m key zero => match ev e m with
  | .map id => match h id with
   | some (.map es) => if keyIs ks (ev e key) then (match findKey (ev e key) es with
    | some (some i) => (es[i]?).map (·.2)
    | some none => some zero
    | none => none) else none
   | _ => none
  | _ => none
 | .lookupOk ks m key zero => match ev e m with
  | .map id => match h id with
   | some (.map es) => if keyIs ks (ev e key) then (match findKey (ev e key) es with
    | some (some i) => (es[i]?).map fun x => .tup [x.2, .bool true]
    | some none => some (.tup [zero, .bool false])
    | none => none) else none
   | _ => none
  | _ => none
 | .mlen m => match ev e m with
  | .map id => match h id with
   | some (.map es) => some (.int .i64 es.length)
   | _ => none
  | _ => none

inductive AOp where
 | val (g : Option (Nat × Bool)) (d : Option Nat) (x : AVal)
 | box (g : Option (Nat × Bool)) (d : Nat) (x : Opd) (n : Nat)
 | hbox (g : Option (Nat × Bool)) (d : Nat) (x : Opd) (n : Nat)
 | bsl (g : Option (Nat × Bool)) (d : Nat) (sz len : Nat) (zero : List V) (parts : List (Nat × Nat × Opd))
 | mks (g : Option (Nat × Bool)) (d : Nat) (n c : Opd) (sz bytes : Nat) (zero : List V)
 | st (g : Option (Nat × Bool)) (x v : Opd) (n : Nat)
 | stl (g : Option (Nat × Bool)) (x v : Opd) (n : Nat)
 | app (g : Option (Nat × Bool)) (d : Nat) (x y : Opd) (sz bytes : Nat)
 | cpy (g : Option (Nat × Bool)) (d : Option Nat) (x y : Opd) (sz : Nat)
 | mkm (g : Option (Nat × Bool)) (d : Nat)
 | mup (g : Option (Nat × Bool)) (ks : Nat) (m key v : Opd)
 | men (g : Option (Nat × Bool)) (d ks : Nat) (m key : Opd) (zero : V)
 | mst (g : Option (Nat × Bool)) (m st v : Opd)
 | call (g : Option (Nat × Bool)) (d : Option Nat) (f : Nat) (args : List Opd)
 | callv (g : Option (Nat × Bool)) (d : Option Nat) (f : Opd) (args : List Opd)
 | pcall (g : Option (Nat × Bool)) (d : Option Nat) (f : Nat) (args : List Opd)

def AOp.guard : AOp → Option (Nat × Bool)
 | .val g .. | .box g .. | .hbox g .. | .bsl g .. | .mks g .. | .st g .. | .stl g .. | .app g .. | .cpy g .. | .mkm g .. | .mup g .. | .men g .. | .mst g .. | .call g .. | .callv g .. | .pcall g .. => g
def AOp.dst : AOp → Option Nat
 | .val _ d _ | .cpy _ d .. | .call _ d .. | .callv _ d .. | .pcall _ d .. => d
 | .box _ d .. | .hbox _ d .. | .bsl _ d .. | .mks _ d .. | .app _ d .. | .mkm _ d | .men _ d .. => some d
 | .st .. | .stl .. | .mup .. | .mst .. => none

inductive ACode where
 | skip
 | region (draw : Bool) (ops : List AOp)
 | seq (a b : ACode)
 | cond (c : Opd) (x y : ACode)
 | block (id : Nat) (x : ACode)
 | loop (live boxes : List Nat) (x : ACode)
 | exit (id : Nat)
 | ret

inductive Out where
 | normal | exit (id : Nat) | ret

abbrev Call := Nat → List V → Heap → (V → Heap → Prop) → Prop

inductive Frz (h : Heap) (ids : Nat → Prop) : V → V → Prop
 | same (v : V) : Frz h ids v v
 | nsl (sz : Nat) : Frz h ids .nsl (.fsl sz [])
 | agg (cs ds : List V) (hl : cs.length = ds.length) (hf : ∀ (i : Nat) (a b : V), cs[i]? = some a → ds[i]? = some b → Frz h ids a b) : Frz h ids (.agg cs) (.agg ds)
 | tup (cs ds : List V) (hl : cs.length = ds.length) (hf : ∀ (i : Nat) (a b : V), cs[i]? = some a → ds[i]? = some b → Frz h ids a b) : Frz h ids (.tup cs) (.tup ds)
 | fsl (sz : Nat) (els out : List (List V)) (ho : out.length = els.length)
   (hw : ∀ (i : Nat) (x y : List V), els[i]? = some x → out[i]? = some y → y.length = x.length)
   (hf : ∀ (i : Nat) (x y : List V) (j : Nat) (a b : V), els[i]? = some x → out[i]? = some y → x[j]? = some a → y[j]? = some b → Frz h ids a b) :
   Frz h ids (.fsl sz els) (.fsl sz out)
 | msl (id off len sz : Nat) (els out : List (List V)) (hid : ids id) (hb : h id = some (.arr sz els)) (hl : off + len ≤ els.length) (ho : out.length = len)
   (hw : ∀ (i : Nat) (x y : List V), els[off + i]? = some x → out[i]? = some y → y.length = x.length)
   (hf : ∀ (i : Nat) (x y : List V) (j : Nat) (a b : V), els[off + i]? = some x → out[i]? = some y → x[j]? = some a → y[j]? = some b → Frz h ids a b) :
   Frz h ids (.msl id off len) (.fsl sz out)

inductive Flat : V → Prop
 | int k n : Flat (.int k n)
 | bool b : Flat (.bool b)
 | str s : Flat (.str s)
 | tup (vs : List V) (h : ∀ v ∈ vs, Flat v) : Flat (.tup vs)

def callPure (C : Call) (f : Nat) (vs : List V) (h : Heap) (R : V → Heap → Prop) : Prop :=
 (∃ (ids : Nat → Prop) (us : List V), us.length = vs.length ∧ (∀ (i : Nat) (a b : V), vs[i]? = some a → us[i]? = some b → Frz h ids a b) ∧
  C f us Heap.none fun r _ => ((∀ i, ¬ ids i) ∨ Flat r) ∧ R r h)

def callFrz (C : Call) (f : Nat) (vs : List V) (h : Heap) (R : V → Heap → Prop) : Prop :=
 ∃ (ids : Nat → Prop) (us : List V) (h2 : Heap), us.length = vs.length ∧ (∀ (i : Nat) (a b : V), vs[i]? = some a → us[i]? = some b → Frz h ids a b) ∧
  h2.le h ∧ (∀ i, ids i → h2 i = none) ∧ C f us h2 R

def callOk (C : Call) (f : Nat) (vs : List V) (h : Heap) (R : V → Heap → Prop) : Prop := C f vs h R ∨ callPure C f vs h R ∨ callFrz C f vs h R

def S.put (s : S) (d : Option Nat) (v : V) : S :=
 match d with
 | some d => { s with env := s.env.set d v }
 | none => s

def storeCells (cs : List V) (off : Nat) (v : V) (n : Nat) : Option (List V) :=
 match cellsOf v with
 | some ds => if ds.length = n ∧ off + n ≤ cs.length then some (over cs off ds) else none
 | none => none

def storeOf (s : S) (p v : V) (n : Nat) : Option S :=
 match p with
 | .lp t g off => match boxOf s.bx t g with
  | some cs => match storeCells cs off v n with
   | some ds => some { s with bx := s.bx.set t (some (g, ds)) }
   | none => none
  | none => none
 | .ep id i off => match s.h id with
  | some (.arr sz els) => match els[i]? with
   | some cs => match storeCells cs off v n with
    | some ds => some { s with h := s.h.upd id (some (.arr sz (els.set i ds))) }
    | none => none
   | none => none
  | _ => none
 | _ => none

def elemsOf (h : Heap) : V → Option (List (List V))
 | .nsl => some []
 | .fsl _ els => some els
 | .msl id off len => match h id with
  | some (.arr _ els) => if off + len ≤ els.length then some ((els.drop off).take len) else none
  | _ => none
 | .str s => some (s.data.toList.map fun b => [.int .u8 b.toNat])
 | _ => none

def AOp.run (C : Call) (o : AOp) (s : S) (Q : S → Prop) : Prop :=
 match o with
 | .val _ d x => match x.eval s.env s.bx s.h with
  | some v => Q (s.put d v)
  | none => False
 | .box _ d x n => match cellsOf (ev s.env x) with
  | some cs => cs.length = n ∧ s.bx.getD d none = none ∧ ∀ g, Q { s with env := s.env.set d (.lp d g 0), bx := s.bx.set d (some (g, cs)) }
  | none => False
 | .hbox _ d x n => match cellsOf (ev s.env x) with
  | some cs => cs.length = n ∧ ∀ id, s.h id = none → Q { s with env := s.env.set d (.ep id 0 0), h := s.h.upd id (some (.arr n [cs])) }
  | none => False
 | .bsl _ d sz len zero parts => match fill s.env ((List.replicate len zero).flatten) parts with
  | some cs => ∀ id, s.h id = none → Q { s with env := s.env.set d (.msl id 0 len), h := s.h.upd id (some (.arr sz ((List.range len).map fun i => (cs.drop (i * sz)).take sz))) }
  | none => False
 | .mks _ d n c sz bytes zero => match ev s.env n, ev s.env c with
  | .int _ a, .int _ b => 0 ≤ a ∧ a ≤ b ∧ b * bytes ≤ 140737488355328 ∧ b < 9223372036854775808 ∧
   ∀ id, s.h id = none → Q { s with env := s.env.set d (.msl id 0 a.toNat), h := s.h.upd id (some (.arr sz (List.replicate a.toNat zero))) }
  | _, _ => False
 | .st _ x v n => match storeOf s (ev s.env x) (ev s.env v) n with
  | some s2 => Q s2
  | none => False
 | .stl _ x v n => match ev s.env x with
  | .lp t g off => match storeOf s (.lp t g off) (ev s.env v) n with
   | some s2 => Q s2
   | none => False
  | _ => False
 | .app _ d x y sz bytes => match elemsOf s.h (ev s.env y) with
  | some new => (∀ z ∈ new, z.length = sz) ∧ (match ev s.env x with
   | .nsl => (0 < new.length ∧ new.length * bytes ≤ 70368744177664 ∧
     ∀ id, s.h id = none → Q { s with env := s.env.set d (.msl id 0 new.length), h := s.h.upd id (some (.arr sz new)) }) ∨
    (new = [] ∧ Q { s with env := s.env.set d .nsl })
   | .msl id off len => match s.h id with
    | some (.arr sz2 els) => sz2 = sz ∧ off + len ≤ els.length ∧ (len + new.length) * bytes ≤ 70368744177664 ∧
     ∀ id2, s.h id2 = none → id2 ≠ id → Q { s with env := s.env.set d (.msl id2 0 (len + new.length)), h := (s.h.upd id none).upd id2 (some (.arr sz ((els.drop off).take len ++ new))) }
    | _ => False
   | _ => False)
  | none => False
 | .cpy _ d x y sz => match ev s.env x with
  | .msl id off len => match s.h id with
   | some (.arr sz2 els) => sz2 = sz ∧ off + len ≤ els.length ∧ (match elemsOf s.h (ev s.env y) with
    | some new => (∀ z ∈ new, z.length = sz) ∧ Q ({ s with h := s.h.upd id (some (.arr sz (els.take off ++ new.take len ++ els.drop (off + min new.length len)))) }.put d (.int .i64 (min new.length len : Nat)))
    | none => False)
   | _ => False
  | .nsl => match elemsOf s.h (ev s.env y) with
   | some new => (∀ z ∈ new, z.length = sz) ∧ Q (s.put d (.int .i64 0))
   | none => False
  | _ => False
 | .mkm _ d => ∀ id, s.h id = none → Q { s with env := s.env.set d (.map id), h := s.h.upd id (some (.map [])) }
 | .mup _ ks m key v => match ev s.env m with
  | .map id => match s.h id with
   | some (.map es) => keyIs ks (ev s.env key) = true ∧ (match findKey (ev s.env key) es with
    | some (some i) => Q { s with h := s.h.upd id (some (.map (es.set i (ev s.env key, ev s.env v)))) }
    | some none => Q { s with h := s.h.upd id (some (.map (es ++ [(ev s.env key, ev s.env v)]))) }
    | none => False)
   | _ => False
  | _ => False
 | .men _ d ks m key zero => match ev s.env m with
  | .map id => match s.h id with
   | some (.map es) => keyIs ks (ev s.env key) = true ∧ (match findKey (ev s.env key) es with
    | some (some i) => match es[i]? with
     | some x => Q { s with env := s.env.set d (.tup [x.2, .stamp id i]) }
     | none => False
    | some none => Q { s with env := s.env.set d (.tup [zero, .stamp id es.length]), h := s.h.upd id (some (.map (es ++ [(ev s.env key, zero)]))) }
    | none => False)
   | _ => False
  | _ => False
 | .mst _ m stp v => match ev s.env m, ev s.env stp with
  | .map id, .stamp id2 i => id = id2 ∧ (match s.h id with
   | some (.map es) => match es[i]? with
    | some x => Q { s with h := s.h.upd id (some (.map (es.set i (x.1, ev s.env v)))) }
    | none => False
   | _ => False)
  | _, _ => False
 | .call _ d f args => callOk C f (args.map (ev s.env)) s.h fun r h => Q ({ s with h := h }.put d r)
 | .pcall _ d f args => callPure C f (args.map (ev s.env)) s.h fun r h => Q ({ s with h := h }.put d r)
 | .callv _ d f args => match ev s.env f with
  | .fn k caps => callOk C k (args.map (ev s.env) ++ caps) s.h fun r h => Q ({ s with h := h }.put d r)
  | _ => False

def AOp.step (C : Call) (o : AOp) (s : S) (Q : S → Prop) : Prop :=
 match o.guard with
 | none => o.run C s Q
 | some (t, want) => match ev s.env (.t t) with
  | .bool b => if b = want then o.run C s Q else Q (s.put o.dst .skip)
  | .skip => Q (s.put o.dst .skip)
  | _ => False

def wOps (C : Call) : List AOp → (S → Prop) → S → Prop
 | [], Q, s => Q s
 | o :: l, Q, s => o.step C s (wOps C l Q)

def keepOnly {α : Type} (live : List Nat) (d : α) (l : List α) : List α := l.zipIdx.map fun x => if live.contains x.2 then x.1 else d

def S.keep (s : S) (live boxes : List Nat) : S := { s with env := keepOnly live .undef s.env, bx := keepOnly boxes none s.bx }

def Lp (F : (S → Prop) → S → Prop) (s : S) : Prop := ∀ X : S → Prop, (∀ s, F X s → X s) → X s

def W (C : Call) : ACode → (Out → S → Prop) → S → Prop
 | .skip, Q, s => Q .normal s
 | .region _ ops, Q, s => wOps C ops (Q .normal) s
 | .seq a b, Q, s => W C a (fun o s2 => match o with | .normal => W C b Q s2 | .exit i => Q (.exit i) s2 | .ret => Q .ret s2) s
 | .cond c x y, Q, s => match ev s.env c with
  | .bool t => if t then W C x Q s else W C y Q s
  | _ => False
 | .block id x, Q, s => W C x (fun o s2 => match o with | .normal => Q .normal s2 | .exit i => if i = id then Q .normal s2 else Q (.exit i) s2 | .ret => Q .ret s2) s
 | .loop live boxes x, Q, s => Lp (fun X s => W C x (fun o s2 => match o with | .normal => X (s2.keep live boxes) | .exit i => Q (.exit i) s2 | .ret => Q .ret s2) s) (s.keep live boxes)
 | .exit id, Q, s => Q (.exit id) s
 | .ret, Q, s => Q .ret s

inductive ARes where
 | tmp (t : Nat)
 | cell (t n : Nat) (agg : Bool)

def ARes.val (s : S) : ARes → Option V
 | .tmp t => some (ev s.env (.t t))
 | .cell t n agg => loadOf s.bx s.h (ev s.env (.t t)) n agg

def mapM? {α β : Type} (f : α → Option β) : List α → Option (List β)
 | [] => some []
 | a :: l => match f a, mapM? f l with
  | some b, some r => some (b :: r)
  | _, _ => none

def resultOf (rs : List ARes) (s : S) : Option V :=
 match mapM? (ARes.val s) rs with
 | some [v] => some v
 | some vs => some (.tup vs)
 | none => none

structure AFn where
 ntmps : Nat
 results : List ARes
 body : ACode

def post (rs : List ARes) (R : V → Heap → Prop) : Out → S → Prop
 | .exit _, _ => False
 | _, s => match resultOf rs s with
  | some v => ∃ (ids : Nat → Prop) (u : V) (h : Heap), Frz s.h ids v u ∧ h.le s.h ∧ (∀ i, ids i → h i = none) ∧ R u h
  | none => False

def start (fn : AFn) (vs : List V) (h : Heap) : S := { env := vs ++ List.replicate (fn.ntmps - vs.length) .undef, bx := List.replicate fn.ntmps none, h := h }

abbrev Prog := Nat → Option AFn

def bodyOf (A : Prog) (C : Call) (f : Nat) (vs : List V) (h : Heap) (R : V → Heap → Prop) : Prop :=
 match A f with
 | some fn => vs.length ≤ fn.ntmps ∧ W C fn.body (post fn.results R) (start fn vs h)
 | none => False

def Ret (A : Prog) : Call := fun f vs h R => ∀ X : Call, (∀ f vs h R, bodyOf A X f vs h R → X f vs h R) → X f vs h R

end Go.Abs
namespace Go.Abs
open Go

def Sub (C D : Call) : Prop := ∀ f vs h (R R' : V → Heap → Prop), (∀ v h, R v h → R' v h) → C f vs h R → D f vs h R'

theorem callOk_mono {C D : Call} (hC : Sub C D)
  {f : Nat} {vs : List V} {h : Heap} {R R' : V → Heap → Prop} (hr : ∀ v h, R v h → R' v h) (hc : callOk C f vs h R) : callOk D f vs h R' := by
 rcases hc with hc | ⟨ids, us, hl, hf, hc⟩ | ⟨ids, us, h2, hl, hf, h3, h4, hc⟩
 ·exact .inl (hC _ _ _ _ _ hr hc)
 ·exact .inr (.inl ⟨ids, us, hl, hf, hC _ _ _ _ _ (fun v h hv => ⟨hv.1, hr _ _ hv.2⟩) hc⟩)
 ·exact .inr (.inr ⟨ids, us, h2, hl, hf, h3, h4, hC _ _ _ _ _ hr hc⟩)

theorem callPure_mono {C D : Call} (hC : Sub C D)
  {f : Nat} {vs : List V} {h : Heap} {R R' : V → Heap → Prop} (hr : ∀ v h, R v h → R' v h) (hc : callPure C f vs h R) : callPure D f vs h R' := by
 obtain ⟨ids, us, hl, hf, hc⟩ := hc
 exact ⟨ids, us, hl, hf, hC _ _ _ _ _ (fun v h hv => ⟨hv.1, hr _ _ hv.2⟩) hc⟩

theorem AOp.run_mono {C D : Call} (hC : Sub C D) (o : AOp) (s : S) {Q Q' : S → Prop} (hq : ∀ s, Q s → Q' s)
  (h : o.run C s Q) : o.run D s Q' := by
 cases o with
 | val g d x => simp only [AOp.run] at h ⊢; split at h <;> first | exact hq _ h | exact h.elim
 | box g d x n => simp only [AOp.run] at h ⊢; split at h <;> first | exact ⟨h.1, h.2.1, fun g => hq _ (h.2.2 g)⟩ | exact h.elim
 | hbox g d x n => simp only [AOp.run] at h ⊢; split at h <;> first | exact ⟨h.1, fun id hid => hq _ (h.2 id hid)⟩ | exact h.elim
 | bsl g d sz len zero parts => simp only [AOp.run] at h ⊢; split at h <;> first | exact fun id hid => hq _ (h id hid) | exact h.elim
 | mks g d n c sz bytes zero =>
  simp only [AOp.run] at h ⊢; split at h <;> first | exact h.elim | skip
  exact ⟨h.1, h.2.1, h.2.2.1, h.2.2.2.1, fun id hid => hq _ (h.2.2.2.2 id hid)⟩
 | st g x v n => simp only [AOp.run] at h ⊢; split at h <;> first | exact hq _ h | exact h.elim
 | stl g x v n =>
  simp only [AOp.run] at h ⊢
  split at h <;> first | exact h.elim | skip
  split at h <;> first | exact hq _ h | exact h.elim
 | app g d x y sz bytes =>
  simp only [AOp.run] at h ⊢
  split at h <;> first | exact h.elim | skip
  refine ⟨h.1, ?_⟩
  replace h := h.2
  split at h <;> first | exact h.elim | skip
  ·rcases h with h | h
   ·exact .inl ⟨h.1, h.2.1, fun id hid => hq _ (h.2.2 id hid)⟩
   ·exact .inr ⟨h.1, hq _ h.2⟩
  ·split at h <;> first | exact h.elim | skip
   exact ⟨h.1, h.2.1, h.2.2.1, fun id2 h2 h3 => hq _ (h.2.2.2 id2 h2 h3)⟩
 | cpy g d x y sz =>
  simp only [AOp.run] at h ⊢
  split at h <;> first | exact h.elim | skip
  ·split at h <;> first | exact h.elim | skip
   refine ⟨h.1, h.2.1, ?_⟩
   replace h := h.2.2
   split at h <;> first | exact h.elim | skip
   exact ⟨h.1, hq _ h.2⟩
  ·split at h <;> first | exact h.elim | exact ⟨h.1, hq _ h.2⟩
 | mkm g d => exact fun id hid => hq _ (h id hid)
 | mup g ks m key v =>
  simp only [AOp.run] at h ⊢
  split at h <;> first | exact h.elim | skip
  split at h <;> first | exact h.elim | skip
  refine ⟨h.1, ?_⟩
  replace h := h.2
  split at h <;> first | exact hq _ h | exact h.elim
 | men g d ks m key zero =>
  simp only [AOp.run] at h ⊢
  split at h <;> first | exact h.elim | skip
  split at h <;> first | exact h.elim | skip
  refine ⟨h.1, ?_⟩
  replace h := h.2
  split at h
  ·split at h <;> first | exact h.elim | exact hq _ h
  ·exact hq _ h
  ·exact h.elim
 | mst g m stp v =>
  simp only [AOp.run] at h ⊢
  split at h <;> first | exact h.elim | skip
  refine ⟨h.1, ?_⟩
  replace h := h.2
  split at h <;> first | exact h.elim | skip
  split at h <;> first | exact h.elim | exact hq _ h
 | call g d f args => exact callOk_mono hC (fun _ _ hv => hq _ hv) h
 | pcall g d f args => exact callPure_mono hC (fun _ _ hv => hq _ hv) h
 | callv g d f args =>
  simp only [AOp.run] at h ⊢
  split at h <;> first | exact h.elim | skip
  exact callOk_mono hC (fun _ _ hv => hq _ hv) h

theorem AOp.step_mono {C D : Call} (hC : Sub C D) (o : AOp) (s : S) {Q Q' : S → Prop} (hq : ∀ s, Q s → Q' s)
  (h : o.step C s Q) : o.step D s Q' := by
 unfold AOp.step at h ⊢
 split at h
 ·exact AOp.run_mono hC o s hq h
 ·split at h
  ·split at h
   ·rename_i hb; rw [if_pos hb]; exact AOp.run_mono hC o s hq h
   ·rename_i hb; rw [if_neg hb]; exact hq _ h
  ·exact hq _ h
  ·exact h.elim

theorem wOps_mono {C D : Call} (hC : Sub C D) (l : List AOp) : ∀ (s : S) {Q Q' : S → Prop}, (∀ s, Q s → Q' s) →
  wOps C l Q s → wOps D l Q' s := by
 induction l with
 | nil => exact fun s _ _ hq h => hq _ h
 | cons o l ih => exact fun s _ _ hq h => AOp.step_mono hC o s (fun s h => ih s hq h) h

theorem W_mono {C D : Call} (hC : Sub C D) (c : ACode) : ∀ (s : S) {Q Q' : Out → S → Prop}, (∀ o s, Q o s → Q' o s) →
  W C c Q s → W D c Q' s := by
 induction c with
 | skip => exact fun s _ _ hq h => hq _ _ h
 | region d ops => exact fun s _ _ hq h => wOps_mono hC ops s (fun s h => hq _ _ h) h
 | seq a b iha ihb =>
  intro s Q Q' hq h
  refine iha s ?_ h
  intro o s2 h2
  cases o with
  | normal => exact ihb s2 hq h2
  | exit i => exact hq _ _ h2
  | ret => exact hq _ _ h2
 | cond c x y ihx ihy =>
  intro s Q Q' hq h
  simp only [W] at h ⊢
  split at h
  ·split at h
   ·rename_i hb; simp only [hb, if_true]; exact ihx s hq h
   ·rename_i hb; simp only [hb]; exact ihy s hq h
  ·exact h.elim
 | block id x ih =>
  intro s Q Q' hq h
  refine ih s ?_ h
  intro o s2 h2
  cases o with
  | normal => exact hq _ _ h2
  | exit i =>
   simp only at h2 ⊢
   split at h2
   ·rename_i hb; rw [if_pos hb]; exact hq _ _ h2
   ·rename_i hb; rw [if_neg hb]; exact hq _ _ h2
  | ret => exact hq _ _ h2
 | loop live boxes x ih =>
  intro s Q Q' hq h X hX
  refine h X fun s2 h2 => hX s2 (ih s2 ?_ h2)
  intro o s3 h3
  cases o with
  | normal => exact h3
  | exit i => exact hq _ _ h3
  | ret => exact hq _ _ h3
 | exit id => exact fun s _ _ hq h => hq _ _ h
 | ret => exact fun s _ _ hq h => hq _ _ h

theorem post_mono {rs : List ARes} {R R' : V → Heap → Prop} (hr : ∀ v h, R v h → R' v h) (o : Out) (s : S) (h : post rs R o s) : post rs R' o s := by
 cases o with
 | exit i => exact h
 | normal =>
  simp only [post] at h ⊢
  split at h
  ·obtain ⟨ids, u, h2, a, b, c, d⟩ := h; exact ⟨ids, u, h2, a, b, c, hr _ _ d⟩
  ·exact h
 | ret =>
  simp only [post] at h ⊢
  split at h
  ·obtain ⟨ids, u, h2, a, b, c, d⟩ := h; exact ⟨ids, u, h2, a, b, c, hr _ _ d⟩
  ·exact h

theorem bodyOf_mono {A : Prog} {C D : Call} (hC : Sub C D) {f : Nat} {vs : List V} {h : Heap} {R R' : V → Heap → Prop}
  (hr : ∀ v h, R v h → R' v h) (hb : bodyOf A C f vs h R) : bodyOf A D f vs h R' := by
 unfold bodyOf at hb ⊢
 split at hb
 ·exact ⟨hb.1, W_mono hC _ _ (fun o s => post_mono hr o s) hb.2⟩
 ·exact hb

theorem Ret.mono {A : Prog} : Sub (Ret A) (Ret A) := by
 intro f vs h R R' hr hret X hX
 let Y : Call := fun f vs h R => ∀ R', (∀ v h, R v h → R' v h) → X f vs h R'
 have hY : Sub Y X := fun f vs h R R' hr hy => hy R' hr
 exact hret Y (fun f vs h R hb R' hr => hX f vs h R' (bodyOf_mono hY hr hb)) R' hr

theorem Ret.of_body {A : Prog} {f : Nat} {vs : List V} {h : Heap} {R : V → Heap → Prop} (hb : bodyOf A (Ret A) f vs h R) : Ret A f vs h R := by
 intro X hX
 have hs : Sub (Ret A) X := fun f vs h R R' hr hret => Ret.mono f vs h R R' hr hret X hX
 exact hX f vs h R (bodyOf_mono hs (fun _ _ h => h) hb)

theorem Sub.refl_ret {A : Prog} : Sub (Ret A) (Ret A) := Ret.mono

theorem Ret.intro {A : Prog} {f : Nat} {fn : AFn} {vs : List V} {h : Heap} {R : V → Heap → Prop} (hf : A f = some fn) (hn : vs.length ≤ fn.ntmps)
  (hb : W (Ret A) fn.body (post fn.results R) (start fn vs h)) : Ret A f vs h R :=
 Ret.of_body (by unfold bodyOf; rw [hf]; exact ⟨hn, hb⟩)

def Loop (C : Call) (live boxes : List Nat) (x : ACode) (Q : Out → S → Prop) (s : S) : Prop :=
 Lp (fun X s => W C x (fun o s2 => match o with | .normal => X (s2.keep live boxes) | .exit i => Q (.exit i) s2 | .ret => Q .ret s2) s) s

theorem W_loop {C : Call} {live boxes : List Nat} {x : ACode} {Q : Out → S → Prop} {s : S} : W C (.loop live boxes x) Q s = Loop C live boxes x Q (s.keep live boxes) := rfl

def Again (C : Call) (live boxes : List Nat) (x : ACode) (Q : Out → S → Prop) (o : Out) (s : S) : Prop :=
 match o with
 | .normal => Loop C live boxes x Q (s.keep live boxes)
 | .exit i => Q (.exit i) s
 | .ret => Q .ret s

theorem Loop.step {A : Prog} {live boxes : List Nat} {x : ACode} {Q : Out → S → Prop} {s : S} (h : W (Ret A) x (Again (Ret A) live boxes x Q) s) : Loop (Ret A) live boxes x Q s := by
 intro X hX
 refine hX s (W_mono Sub.refl_ret x s ?_ h)
 intro o s2 h2
 cases o with
 | normal => exact h2 X hX
 | exit i => exact h2
 | ret => exact h2


/-! ### Something comes of whatever is done -/

def FinH (h : Heap) : Prop := ∃ N, ∀ i, N ≤ i → h i = none

theorem FinH.none : FinH Heap.none := ⟨0, fun _ _ => rfl⟩
theorem FinH.le {h h2 : Heap} (hl : h.le h2) (hf : FinH h2) : FinH h := by
 obtain ⟨N, hN⟩ := hf
 refine ⟨N, fun i hi => ?_⟩
 cases e : h i with
 | none => rfl
 | some b => rw [← hN i hi, hl i b e]
theorem FinH.upd {h : Heap} (hf : FinH h) (i : Nat) (b : Option Blk) : FinH (h.upd i b) := by
 obtain ⟨N, hN⟩ := hf
 refine ⟨N + i + 1, fun j hj => ?_⟩
 simp only [Heap.upd]
 rw [if_neg (by omega)]
 exact hN j (by omega)
def FinA (L : List Nat) (h : Heap) : Prop := FinH h ∧ ∀ i ∈ L, h i = none

theorem FinA.none (L : List Nat) : FinA L Heap.none := ⟨FinH.none, fun _ _ => rfl⟩
theorem FinA.le {L : List Nat} {h h2 : Heap} (hl : h.le h2) (hf : FinA L h2) : FinA L h := by
 refine ⟨hf.1.le hl, fun i hi => ?_⟩
 cases e : h i with
 | none => rfl
 | some b => have := hl i b e; rw [hf.2 i hi] at this; cases this
theorem FinA.upd {L : List Nat} {h : Heap} (hf : FinA L h) {i : Nat} (hi : i ∉ L) (b : Option Blk) : FinA L (h.upd i b) := by
 refine ⟨hf.1.upd i b, fun j hj => ?_⟩
 simp only [Heap.upd]
 rw [if_neg (fun (e : j = i) => hi (by rw [← e]; exact hj))]; exact hf.2 j hj
theorem FinA.old {L : List Nat} {h : Heap} (hf : FinA L h) {i : Nat} {x : Blk} (hx : h i = some x) (b : Option Blk) : FinA L (h.upd i b) :=
 hf.upd (fun e => by rw [hf.2 i e] at hx; cases hx) b
theorem mem_le_sum {L : List Nat} {i : Nat} (h : i ∈ L) : i ≤ L.sum := by
 induction L with
 | nil => cases h
 | cons x l ih =>
  simp only [List.sum_cons]
  rcases List.mem_cons.1 h with h | h
  ·omega
  ·have := ih h; omega
theorem FinA.fresh {L : List Nat} {h : Heap} (hf : FinA L h) (K : Nat) : ∃ i, h i = Option.none ∧ i ∉ L ∧ i ≠ K := by
 obtain ⟨N, hN⟩ := hf.1
 exact ⟨N + L.sum + K + 1, hN _ (by omega), fun e => by have := mem_le_sum e; omega, by omega⟩
theorem FinH.all {h : Heap} (hf : FinH h) : FinA [] h := ⟨hf, fun _ h => by cases h⟩

def Full (C : Call) : Prop := ∀ L f vs h R, FinA L h → C f vs h R → ∃ r h2, FinA L h2 ∧ R r h2

theorem AOp.run_full {C : Call} {L : List Nat} (hC : Full C) (o : AOp) (s : S) {Q : S → Prop} (hf : FinA L s.h) (h : o.run C s Q) : ∃ s2, FinA L s2.h ∧ Q s2 := by
 have hput : ∀ (s : S) d v, (s.put d v).h = s.h := fun s d v => by cases d <;> rfl
 have hcp : ∀ f vs (R : V → Heap → Prop), callPure C f vs s.h R → ∃ r h2, FinA L h2 ∧ R r h2 := by
  intro f vs R ⟨ids, us, _, _, hc⟩
  obtain ⟨r, h2, _, hR⟩ := hC L _ _ _ _ (FinA.none L) hc
  exact ⟨r, s.h, hf, hR.2⟩
 have hco : ∀ f vs (R : V → Heap → Prop), callOk C f vs s.h R → ∃ r h2, FinA L h2 ∧ R r h2 := by
  intro f vs R hc
  rcases hc with hc | hc | ⟨ids, us, h2, _, _, h3, _, hc⟩
  ·exact hC L _ _ _ _ hf hc
  ·exact hcp f vs R hc
  ·exact hC L _ _ _ _ (hf.le h3) hc
 obtain ⟨i0, hi0, hiL, _⟩ := hf.fresh 0
 cases o with
 | val g d x => simp only [AOp.run] at h; split at h <;> first | exact ⟨_, by rw [hput]; exact hf, h⟩ | exact h.elim
 | box g d x n => simp only [AOp.run] at h; split at h <;> first | exact ⟨_, (by exact hf), h.2.2 0⟩ | exact h.elim
 | hbox g d x n => simp only [AOp.run] at h; split at h <;> first | exact ⟨_, hf.upd hiL _, h.2 i0 hi0⟩ | exact h.elim
 | bsl g d sz len zero parts => simp only [AOp.run] at h; split at h <;> first | exact ⟨_, hf.upd hiL _, h i0 hi0⟩ | exact h.elim
 | mks g d n c sz bytes zero =>
  simp only [AOp.run] at h; split at h <;> first | exact h.elim | skip
  exact ⟨_, hf.upd hiL _, h.2.2.2.2 i0 hi0⟩
 | stl g x v n =>
  simp only [AOp.run] at h; split at h <;> first | exact h.elim | skip
  split at h <;> first | exact h.elim | skip
  rename_i s2 hs
  refine ⟨s2, ?_, h⟩
  simp only [storeOf] at hs
  split at hs
  ·split at hs
   ·simp at hs; subst hs; exact hf
   ·cases hs
  ·cases hs
 | st g x v n =>
  simp only [AOp.run] at h; split at h <;> first | exact h.elim | skip
  rename_i s2 hs
  refine ⟨s2, ?_, h⟩
  unfold storeOf at hs
  split at hs
  ·split at hs
   ·split at hs
    ·simp at hs; subst hs; exact hf
    ·cases hs
   ·cases hs
  ·split at hs
   ·split at hs
    ·split at hs
     ·rename_i hb _ _ _ _ _; simp at hs; subst hs; exact hf.old (by assumption) _
     ·cases hs
    ·cases hs
   ·cases hs
  ·cases hs
 | app g d x y sz bytes =>
  simp only [AOp.run] at h
  split at h <;> first | exact h.elim | skip
  replace h := h.2
  split at h <;> first | exact h.elim | skip
  ·rcases h with h | h
   ·exact ⟨_, hf.upd hiL _, h.2.2 i0 hi0⟩
   ·exact ⟨_, (by exact hf), h.2⟩
  ·split at h <;> first | exact h.elim | skip
   rename_i id _ _ _ _ _ _ _
   obtain ⟨i, h1, h3, h2⟩ := hf.fresh id
   exact ⟨_, (hf.old (by assumption) _).upd h3 _, h.2.2.2 i h1 h2⟩
 | cpy g d x y sz =>
  simp only [AOp.run] at h
  split at h <;> first | exact h.elim | skip
  ·split at h <;> first | exact h.elim | skip
   replace h := h.2.2
   split at h <;> first | exact h.elim | skip
   exact ⟨_, by rw [hput]; exact hf.old (by assumption) _, h.2⟩
  ·split at h <;> first | exact h.elim | exact ⟨_, by rw [hput]; exact hf, h.2⟩
 | mkm g d => exact ⟨_, hf.upd hiL _, h i0 hi0⟩
 | mup g ks m key v =>
  simp only [AOp.run] at h
  split at h <;> first | exact h.elim | skip
  split at h <;> first | exact h.elim | skip
  replace h := h.2
  split at h <;> first | exact ⟨_, hf.old (by assumption) _, h⟩ | exact h.elim
 | men g d ks m key zero =>
  simp only [AOp.run] at h
  split at h <;> first | exact h.elim | skip
  split at h <;> first | exact h.elim | skip
  replace h := h.2
  split at h
  ·split at h <;> first | exact h.elim | exact ⟨_, (by exact hf), h⟩
  ·exact ⟨_, hf.old (by assumption) _, h⟩
  ·exact h.elim
 | mst g m stp v =>
  simp only [AOp.run] at h
  split at h <;> first | exact h.elim | skip
  replace h := h.2
  split at h <;> first | exact h.elim | skip
  split at h <;> first | exact h.elim | exact ⟨_, hf.old (by assumption) _, h⟩
 | call g d f args =>
  simp only [AOp.run] at h
  obtain ⟨r, h2, h3, h4⟩ := hco _ _ _ h
  exact ⟨_, by rw [hput]; exact h3, h4⟩
 | pcall g d f args =>
  simp only [AOp.run] at h
  obtain ⟨r, h2, h3, h4⟩ := hcp _ _ _ h
  exact ⟨_, by rw [hput]; exact h3, h4⟩
 | callv g d f args =>
  simp only [AOp.run] at h
  split at h <;> first | exact h.elim | skip
  obtain ⟨r, h2, h3, h4⟩ := hco _ _ _ h
  exact ⟨_, by rw [hput]; exact h3, h4⟩

theorem AOp.step_full {C : Call} {L : List Nat} (hC : Full C) (o : AOp) (s : S) {Q : S → Prop} (hf : FinA L s.h) (h : o.step C s Q) : ∃ s2, FinA L s2.h ∧ Q s2 := by
 have hput : ∀ (s : S) d v, (s.put d v).h = s.h := fun s d v => by cases d <;> rfl
 unfold AOp.step at h
 split at h
 ·exact AOp.run_full hC o s hf h
 ·split at h
  ·split at h
   ·exact AOp.run_full hC o s hf h
   ·exact ⟨_, by rw [hput]; exact hf, h⟩
  ·exact ⟨_, by rw [hput]; exact hf, h⟩
  ·exact h.elim

theorem wOps_full {C : Call} {L : List Nat} (hC : Full C) : ∀ (l : List AOp) (s : S) {Q : S → Prop}, FinA L s.h → wOps C l Q s → ∃ s2, FinA L s2.h ∧ Q s2
 | [], s, _, hf, h => ⟨s, hf, h⟩
 | o :: l, s, _, hf, h => by
  obtain ⟨s2, hf2, h2⟩ := AOp.step_full hC o s hf h
  exact wOps_full hC l s2 hf2 h2

theorem W_full {C : Call} {L : List Nat} (hC : Full C) (c : ACode) : ∀ (s : S) {Q : Out → S → Prop}, FinA L s.h → W C c Q s → ∃ o s2, FinA L s2.h ∧ Q o s2 := by
 induction c with
 | skip => exact fun s _ hf h => ⟨_, s, hf, h⟩
 | region d ops => exact fun s _ hf h => by obtain ⟨s2, h1, h2⟩ := wOps_full hC ops s hf h; exact ⟨_, s2, h1, h2⟩
 | seq a b iha ihb =>
  intro s Q hf h
  obtain ⟨o, s2, h1, h2⟩ := iha s hf h
  cases o with
  | normal => exact ihb s2 h1 h2
  | exit i => exact ⟨_, s2, h1, h2⟩
  | ret => exact ⟨_, s2, h1, h2⟩
 | cond c x y ihx ihy =>
  intro s Q hf h
  simp only [W] at h
  split at h
  ·split at h
   ·exact ihx s hf h
   ·exact ihy s hf h
  ·exact h.elim
 | block id x ih =>
  intro s Q hf h
  obtain ⟨o, s2, h1, h2⟩ := ih s hf h
  cases o with
  | normal => exact ⟨_, s2, h1, h2⟩
  | exit i =>
   simp only at h2
   split at h2
   ·exact ⟨_, s2, h1, h2⟩
   ·exact ⟨_, s2, h1, h2⟩
  | ret => exact ⟨_, s2, h1, h2⟩
 | loop live boxes x ih =>
  intro s Q hf h
  have key := h (fun s => FinA L s.h → ∃ o s2, FinA L s2.h ∧ Q o s2) (fun s hF hf => by
   obtain ⟨o, s2, h1, h2⟩ := ih s hf hF
   cases o with
   | normal => exact h2 h1
   | exit i => exact ⟨_, s2, h1, h2⟩
   | ret => exact ⟨_, s2, h1, h2⟩)
  exact key hf
 | exit id => exact fun s _ hf h => ⟨_, s, hf, h⟩
 | ret => exact fun s _ hf h => ⟨_, s, hf, h⟩

end Go.Abs
namespace Go.Abs
open Go

/-! ### Slots, as what was laid last first -/

def look : List (Nat × V) → Nat → V
 | [], _ => .undef
 | (k, v) :: l, n => bif k == n then v else look l n
theorem look_nil (n : Nat) : look [] n = .undef := rfl
theorem look_cons (k : Nat) (v : V) (l : List (Nat × V)) (n : Nat) : look ((k, v) :: l) n = bif k == n then v else look l n := rfl
def E (n : Nat) (l : List (Nat × V)) : List V := (List.range n).map (look l)

def lookB : List (Nat × Option (Nat × List V)) → Nat → Option (Nat × List V)
 | [], _ => none
 | (k, v) :: l, n => bif k == n then v else lookB l n
theorem lookB_nil (n : Nat) : lookB [] n = none := rfl
theorem lookB_cons (k : Nat) (v : Option (Nat × List V)) (l : List (Nat × Option (Nat × List V))) (n : Nat) : lookB ((k, v) :: l) n = bif k == n then v else lookB l n := rfl
def B (n : Nat) (l : List (Nat × Option (Nat × List V))) : List (Option (Nat × List V)) := (List.range n).map (lookB l)

theorem ev_E (n k : Nat) (l : List (Nat × V)) : ev (E n l) (.t k) = bif k + 1 - n == 0 then look l k else .undef := by
 simp only [ev, E, List.getD_eq_getElem?_getD, List.getElem?_map]
 by_cases h : k < n
 ·have : (k + 1 - n == 0) = true := by simp only [beq_iff_eq]; omega
  simp [h, this]
 ·have : (k + 1 - n == 0) = false := by simp only [beq_eq_false_iff_ne]; omega
  simp [h, this]
theorem ev_c (e : List V) (v : V) : ev e (.c v) = v := rfl
theorem set_E (n d : Nat) (v : V) (l : List (Nat × V)) : (E n l).set d v = E n ((d, v) :: l) := by
 apply List.ext_getElem?
 intro i
 simp only [E, List.getElem?_set, List.getElem?_map, List.length_map, List.length_range]
 by_cases h : i < n
 ·by_cases e : d = i
  ·subst e; simp [h, look]
  ·have : (d == i) = false := by simpa using e
   simp [h, e, look, this]
 ·by_cases e : d = i
  ·subst e; simp [h]
  ·simp [h, e]
theorem getD_B (n k : Nat) (l : List (Nat × Option (Nat × List V))) : (B n l).getD k none = bif k + 1 - n == 0 then lookB l k else none := by
 simp only [B, List.getD_eq_getElem?_getD, List.getElem?_map]
 by_cases h : k < n
 ·have : (k + 1 - n == 0) = true := by simp only [beq_iff_eq]; omega
  simp [h, this]
 ·have : (k + 1 - n == 0) = false := by simp only [beq_eq_false_iff_ne]; omega
  simp [h, this]
theorem set_B (n d : Nat) (v : Option (Nat × List V)) (l : List (Nat × Option (Nat × List V))) : (B n l).set d v = B n ((d, v) :: l) := by
 apply List.ext_getElem?
 intro i
 simp only [B, List.getElem?_set, List.getElem?_map, List.length_map, List.length_range]
 by_cases h : i < n
 ·by_cases e : d = i
  ·subst e; simp [h, lookB]
  ·have : (d == i) = false := by simpa using e
   simp [h, e, lookB, this]
 ·by_cases e : d = i
  ·subst e; simp [h]
  ·simp [h, e]

theorem look_map (live : List Nat) (f : Nat → V) (k : Nat) : look (live.map fun k => (k, f k)) k = if live.contains k then f k else .undef := by
 induction live with
 | nil => rfl
 | cons x l ih =>
  simp only [List.map_cons, look_cons, ih, List.contains_cons]
  by_cases h : x = k
  ·subst h; simp
  ·have h1 : (x == k) = false := by simpa using h
   have h2 : (k == x) = false := by simpa using fun e => h e.symm
   simp [h1, h2]
theorem lookB_map (live : List Nat) (f : Nat → Option (Nat × List V)) (k : Nat) : lookB (live.map fun k => (k, f k)) k = if live.contains k then f k else none := by
 induction live with
 | nil => rfl
 | cons x l ih =>
  simp only [List.map_cons, lookB_cons, ih, List.contains_cons]
  by_cases h : x = k
  ·subst h; simp
  ·have h1 : (x == k) = false := by simpa using h
   have h2 : (k == x) = false := by simpa using fun e => h e.symm
   simp [h1, h2]

theorem keep_E (live : List Nat) (n : Nat) (l : List (Nat × V)) : keepOnly live .undef (E n l) = E n (live.map fun k => (k, look l k)) := by
 apply List.ext_getElem?
 intro i
 simp only [keepOnly, E, List.getElem?_map, List.getElem?_zipIdx, Option.map_map]
 by_cases h : i < n
 ·simp [h, look_map]
 ·simp [h]
theorem keep_B (live : List Nat) (n : Nat) (l : List (Nat × Option (Nat × List V))) : keepOnly live none (B n l) = B n (live.map fun k => (k, lookB l k)) := by
 apply List.ext_getElem?
 intro i
 simp only [keepOnly, B, List.getElem?_map, List.getElem?_zipIdx, Option.map_map]
 by_cases h : i < n
 ·simp [h, lookB_map]
 ·simp [h]

def number (k : Nat) : List V → List (Nat × V)
 | [] => []
 | v :: l => (k, v) :: number (k + 1) l
theorem look_number : ∀ (vs : List V) (k i : Nat), look (number k vs) (k + i) = vs.getD i .undef
 | [], _, _ => by simp [number, look]
 | v :: l, k, 0 => by simp [number, look]
 | v :: l, k, i + 1 => by
  have h : (k == k + (i + 1)) = false := by simp
  simp only [number, look, h, cond_false]
  rw [show k + (i + 1) = (k + 1) + i by omega, look_number l (k + 1) i]
  rfl
theorem start_E (fn : AFn) (vs : List V) (h : Heap) (hn : vs.length ≤ fn.ntmps) : start fn vs h = ⟨E fn.ntmps (number 0 vs), B fn.ntmps [], h⟩ := by
 unfold start
 congr 1
 ·apply List.ext_getElem?
  intro i
  have hl := look_number vs 0 i
  rw [Nat.zero_add] at hl
  simp only [E, List.getElem?_map]
  by_cases hi : i < fn.ntmps
  ·simp only [List.getElem?_range hi, Option.map_some, hl, List.getD_eq_getElem?_getD]
   by_cases h2 : i < vs.length
   ·simp [List.getElem?_append_left h2, h2]
   ·rw [List.getElem?_append_right (by omega), List.getElem?_replicate, if_pos (by omega)]
    simp [h2]
  ·have : ¬ i < vs.length := by omega
   rw [List.getElem?_append_right (by omega), List.getElem?_replicate, if_neg (by omega)]
   simp [hi]
 ·apply List.ext_getElem?
  intro i
  simp only [B, List.getElem?_map, List.getElem?_replicate]
  by_cases hi : i < fn.ntmps <;> simp [hi, lookB]

/-! ### What stands behind -/

def onPut (o : Option V) (d : Option Nat) (K : S → Prop) (s : S) : Prop :=
 match o with
 | some v => K (s.put d v)
 | none => False
theorem onPut_some (v : V) (d : Nat) (K : S → Prop) (e : List V) (b : List (Option (Nat × List V))) (h : Heap) : onPut (some v) (some d) K ⟨e, b, h⟩ = K ⟨e.set d v, b, h⟩ := rfl
def br (b : Bool) (p q : S → Prop) (s : S) : Prop := if b then p s else q s
theorem br_true (p q : S → Prop) (s : S) : br true p q s = p s := rfl
theorem br_false (p q : S → Prop) (s : S) : br false p q s = q s := by simp [br]
theorem br_not (b : Bool) (p q : S → Prop) (s : S) : br (!b) p q s = br b q p s := by cases b <;> simp [br]
theorem beq_true' (b : Bool) : (b == true) = b := by cases b <;> rfl
theorem beq_false' (b : Bool) : (b == false) = !b := by cases b <;> rfl
theorem br_intro {b : Bool} {p q : S → Prop} {s : S} (h1 : b = true → p s) (h2 : b = false → q s) : br b p q s := by
 cases b
 ·rw [br_false]; exact h2 rfl
 ·rw [br_true]; exact h1 rfl

theorem br_intro2 {b : Bool} {p q : S → Prop} {s : S} (h2 : b = false → q s) (h1 : b = true → p s) : br b p q s := br_intro h1 h2

def onBool (v : V) (p q : S → Prop) (s : S) : Prop :=
 match v with
 | .bool b => br b p q s
 | _ => False
theorem onBool_bool (b : Bool) (p q : S → Prop) (s : S) : onBool (.bool b) p q s = br b p q s := rfl

def onGuard (v : V) (w : Bool) (p q : S → Prop) (s : S) : Prop :=
 match v with
 | .bool b => br (b == w) p q s
 | .skip => q s
 | _ => False
theorem onGuard_bool (b w : Bool) (p q : S → Prop) (s : S) : onGuard (.bool b) w p q s = br (b == w) p q s := rfl
theorem onGuard_skip (w : Bool) (p q : S → Prop) (s : S) : onGuard .skip w p q s = q s := rfl

def skipK (d : Option Nat) (K : S → Prop) (s : S) : Prop := K (s.put d .skip)
theorem skipK_some (d : Nat) (K : S → Prop) (e : List V) (b : List (Option (Nat × List V))) (h : Heap) : skipK (some d) K ⟨e, b, h⟩ = K ⟨e.set d .skip, b, h⟩ := rfl
def valK (d : Option Nat) (x : AVal) (K : S → Prop) (s : S) : Prop := onPut (x.eval s.env s.bx s.h) d K s
theorem valK_eq (d : Option Nat) (x : AVal) (K : S → Prop) (e : List V) (b : List (Option (Nat × List V))) (h : Heap) : valK d x K ⟨e, b, h⟩ = onPut (x.eval e b h) d K ⟨e, b, h⟩ := rfl

def onCells (o : Option (List V)) (K : List V → Prop) : Prop :=
 match o with
 | some v => K v
 | none => False
theorem onCells_some (v : List V) (K : List V → Prop) : onCells (some v) K = K v := rfl

def boxK (d n : Nat) (K : S → Prop) (s : S) (cs : List V) : Prop := cs.length = n ∧ s.bx.getD d none = none ∧ ∀ g, K { env := s.env.set d (.lp d g 0), bx := s.bx.set d (some (g, cs)), h := s.h }
theorem boxK_eq (d n : Nat) (K : S → Prop) (e : List V) (b : List (Option (Nat × List V))) (h : Heap) (cs : List V) : boxK d n K ⟨e, b, h⟩ cs = (cs.length = n ∧ b.getD d none = none ∧ ∀ g, K ⟨e.set d (.lp d g 0), b.set d (some (g, cs)), h⟩) := rfl
def hboxK (d n : Nat) (K : S → Prop) (s : S) (cs : List V) : Prop := cs.length = n ∧ ∀ id, s.h id = none → K { env := s.env.set d (.ep id 0 0), bx := s.bx, h := s.h.upd id (some (.arr n [cs])) }
theorem hboxK_eq (d n : Nat) (K : S → Prop) (e : List V) (b : List (Option (Nat × List V))) (h : Heap) (cs : List V) : hboxK d n K ⟨e, b, h⟩ cs = (cs.length = n ∧ ∀ id, h id = none → K ⟨e.set d (.ep id 0 0), b, h.upd id (some (.arr n [cs]))⟩) := rfl
def bslK (d sz n : Nat) (K : S → Prop) (s : S) (cs : List V) : Prop := ∀ id, s.h id = none → K { env := s.env.set d (.msl id 0 n), bx := s.bx, h := s.h.upd id (some (.arr sz ((List.range n).map fun i => (cs.drop (i * sz)).take sz))) }
theorem bslK_eq (d sz n : Nat) (K : S → Prop) (e : List V) (b : List (Option (Nat × List V))) (h : Heap) (cs : List V) : bslK d sz n K ⟨e, b, h⟩ cs = (∀ id, h id = none → K ⟨e.set d (.msl id 0 n), b, h.upd id (some (.arr sz ((List.range n).map fun i => (cs.drop (i * sz)).take sz)))⟩) := rfl
def onS (o : Option S) (K : S → Prop) : Prop :=
 match o with
 | some s => K s
 | none => False
theorem onS_some (s : S) (K : S → Prop) : onS (some s) K = K s := rfl
def stK (x v : Opd) (n : Nat) (K : S → Prop) (s : S) : Prop := onS (storeOf s (ev s.env x) (ev s.env v) n) K
theorem stK_eq (x v : Opd) (n : Nat) (K : S → Prop) (e : List V) (b : List (Option (Nat × List V))) (h : Heap) : stK x v n K ⟨e, b, h⟩ = onS (storeOf ⟨e, b, h⟩ (ev e x) (ev e v) n) K := rfl

def retK (d : Option Nat) (K : S → Prop) (s : S) (r : V) (h : Heap) : Prop := K (({ s with h := h } : S).put d r)
theorem retK_some (d : Nat) (K : S → Prop) (e : List V) (b : List (Option (Nat × List V))) (h h2 : Heap) (r : V) : retK (some d) K ⟨e, b, h⟩ r h2 = K ⟨e.set d r, b, h2⟩ := rfl
def callK (C : Call) (d : Option Nat) (f : Nat) (as : List Opd) (K : S → Prop) (s : S) : Prop := callOk C f (as.map (ev s.env)) s.h (retK d K s)
theorem callK_eq (C : Call) (d : Option Nat) (f : Nat) (as : List Opd) (K : S → Prop) (e : List V) (b : List (Option (Nat × List V))) (h : Heap) : callK C d f as K ⟨e, b, h⟩ = callOk C f (as.map (ev e)) h (retK d K ⟨e, b, h⟩) := rfl
def pcallK (C : Call) (d : Option Nat) (f : Nat) (as : List Opd) (K : S → Prop) (s : S) : Prop := callPure C f (as.map (ev s.env)) s.h (retK d K s)
theorem pcallK_eq (C : Call) (d : Option Nat) (f : Nat) (as : List Opd) (K : S → Prop) (e : List V) (b : List (Option (Nat × List V))) (h : Heap) : pcallK C d f as K ⟨e, b, h⟩ = callPure C f (as.map (ev e)) h (retK d K ⟨e, b, h⟩) := rfl

def Thn (C : Call) (b : ACode) (Q : Out → S → Prop) (o : Out) (s : S) : Prop :=
 match o with
 | .normal => W C b Q s
 | .exit i => Q (.exit i) s
 | .ret => Q .ret s
def Bl (id : Nat) (Q : Out → S → Prop) (o : Out) (s : S) : Prop :=
 match o with
 | .normal => Q .normal s
 | .exit i => bif i == id then Q .normal s else Q (.exit i) s
 | .ret => Q .ret s

section
variable (C : Call) (Q : Out → S → Prop) (s : S)

theorem W_skip : W C .skip Q s = Q .normal s := rfl
theorem W_region (d : Bool) (l : List AOp) : W C (.region d l) Q s = wOps C l (Q .normal) s := rfl
theorem W_seq (a b : ACode) : W C (.seq a b) Q s = W C a (Thn C b Q) s := by
 show W C a (fun o s2 => match o with | .normal => W C b Q s2 | .exit i => Q (.exit i) s2 | .ret => Q .ret s2) s = _
 have : (fun (o : Out) s2 => match o with | .normal => W C b Q s2 | .exit i => Q (.exit i) s2 | .ret => Q .ret s2) = Thn C b Q := by
  funext o s2; cases o <;> rfl
 rw [this]
theorem W_cond (c : Opd) (x y : ACode) : W C (.cond c x y) Q s = onBool (ev s.env c) (W C x Q) (W C y Q) s := by
 simp only [W, onBool]
 cases ev s.env c <;> rfl
theorem W_block (id : Nat) (x : ACode) : W C (.block id x) Q s = W C x (Bl id Q) s := by
 show W C x (fun o s2 => match o with | .normal => Q .normal s2 | .exit i => if i = id then Q .normal s2 else Q (.exit i) s2 | .ret => Q .ret s2) s = _
 have : (fun (o : Out) s2 => match o with | .normal => Q .normal s2 | .exit i => if i = id then Q .normal s2 else Q (.exit i) s2 | .ret => Q .ret s2) = Bl id Q := by
  funext o s2
  cases o with
  | normal => rfl
  | ret => rfl
  | exit i => simp only [Bl, Bool.cond_eq_ite, beq_iff_eq]
 rw [this]
theorem W_exit (id : Nat) : W C (.exit id) Q s = Q (.exit id) s := rfl
theorem W_ret : W C .ret Q s = Q .ret s := rfl
theorem Thn_normal (b : ACode) : Thn C b Q .normal s = W C b Q s := rfl
theorem Thn_exit (b : ACode) (i : Nat) : Thn C b Q (.exit i) s = Q (.exit i) s := rfl
theorem Thn_ret (b : ACode) : Thn C b Q .ret s = Q .ret s := rfl
theorem Bl_normal (id : Nat) : Bl id Q .normal s = Q .normal s := rfl
theorem Bl_exit (id i : Nat) : Bl id Q (.exit i) s = bif i == id then Q .normal s else Q (.exit i) s := rfl
theorem Bl_ret (id : Nat) : Bl id Q .ret s = Q .ret s := rfl
theorem keep_eq (l b : List Nat) (n n2 : Nat) (x : List (Nat × V)) (y : List (Nat × Option (Nat × List V))) (h : Heap) :
  S.keep ⟨E n x, B n2 y, h⟩ l b = ⟨E n (l.map fun k => (k, look x k)), B n2 (b.map fun k => (k, lookB y k)), h⟩ := by simp only [S.keep, keep_E, keep_B]
theorem Again_normal (l b : List Nat) (x : ACode) : Again C l b x Q .normal s = Loop C l b x Q (s.keep l b) := rfl
theorem Again_exit (l b : List Nat) (x : ACode) (i : Nat) : Again C l b x Q (.exit i) s = Q (.exit i) s := rfl
theorem Again_ret (l b : List Nat) (x : ACode) : Again C l b x Q .ret s = Q .ret s := rfl
end

section
variable (C : Call) (K : S → Prop) (s : S)

theorem wOps_nil : wOps C [] K s = K s := rfl
theorem wOps_cons (o : AOp) (l : List AOp) : wOps C (o :: l) K s = o.step C s (wOps C l K) := rfl

theorem step_guard (o : AOp) (t : Nat) (w : Bool) (h : o.guard = some (t, w)) (p : S → Prop) (hp : o.run C s K = p s) : o.step C s K = onGuard (ev s.env (.t t)) w p (skipK o.dst K) s := by
 unfold AOp.step onGuard
 rw [h]
 simp only []
 rw [hp]
 cases ev s.env (.t t) <;> simp [br, skipK]
theorem step_plain (o : AOp) (h : o.guard = none) : o.step C s K = o.run C s K := by unfold AOp.step; rw [h]

theorem run_val (g : Option (Nat × Bool)) (d : Option Nat) (x : AVal) : (AOp.val g d x).run C s K = valK d x K s := by
 simp only [AOp.run, valK, onPut] <;> cases x.eval s.env s.bx s.h <;> rfl
theorem val_0 (d : Option Nat) (x : AVal) : (AOp.val none d x).step C s K = valK d x K s := by
 rw [step_plain _ _ _ _ rfl, run_val]
theorem val_g (t : Nat) (w : Bool) (d : Option Nat) (x : AVal) : (AOp.val (some (t, w)) d x).step C s K = onGuard (ev s.env (.t t)) w (valK d x K) (skipK d K) s :=
 step_guard C K s _ t w rfl _ (run_val C K s _ d x)
theorem box_0 (d : Nat) (x : Opd) (n : Nat) : (AOp.box none d x n).step C s K = onCells (cellsOf (ev s.env x)) (boxK d n K s) := by
 rw [step_plain _ _ _ _ rfl]; simp only [AOp.run, onCells]
 cases cellsOf (ev s.env x) <;> rfl
theorem hbox_0 (d : Nat) (x : Opd) (n : Nat) : (AOp.hbox none d x n).step C s K = onCells (cellsOf (ev s.env x)) (hboxK d n K s) := by
 rw [step_plain _ _ _ _ rfl]; simp only [AOp.run, onCells]
 cases cellsOf (ev s.env x) <;> rfl
theorem bsl_0 (d sz n : Nat) (zero : List V) (ps : List (Nat × Nat × Opd)) : (AOp.bsl none d sz n zero ps).step C s K = onCells (fill s.env ((List.replicate n zero).flatten) ps) (bslK d sz n K s) := by
 rw [step_plain _ _ _ _ rfl]; simp only [AOp.run, onCells]
 cases fill s.env ((List.replicate n zero).flatten) ps <;> rfl
theorem st_0 (x v : Opd) (n : Nat) : (AOp.st none x v n).step C s K = stK x v n K s := by
 rw [step_plain _ _ _ _ rfl]; simp only [AOp.run, stK, onS] <;> cases storeOf s (ev s.env x) (ev s.env v) n <;> rfl
theorem call_0 (d : Option Nat) (f : Nat) (as : List Opd) : (AOp.call none d f as).step C s K = callK C d f as K s := by
 rw [step_plain _ _ _ _ rfl]; rfl
theorem call_g (t : Nat) (w : Bool) (d : Option Nat) (f : Nat) (as : List Opd) : (AOp.call (some (t, w)) d f as).step C s K = onGuard (ev s.env (.t t)) w (callK C d f as K) (skipK d K) s :=
 step_guard C K s _ t w rfl _ rfl
theorem pcall_0 (d : Option Nat) (f : Nat) (as : List Opd) : (AOp.pcall none d f as).step C s K = pcallK C d f as K s := by
 rw [step_plain _ _ _ _ rfl]; rfl
end

/-! ### What the guides' cases want: alike, guarded or not -/

def bslS (d sz n : Nat) (zero : List V) (ps : List (Nat × Nat × Opd)) (K : S → Prop) (s : S) : Prop := onCells (fill s.env ((List.replicate n zero).flatten) ps) (bslK d sz n K s)
theorem bslS_eq (d sz n : Nat) (zero : List V) (ps : List (Nat × Nat × Opd)) (K : S → Prop) (e : List V) (b : List (Option (Nat × List V))) (h : Heap) : bslS d sz n zero ps K ⟨e, b, h⟩ = onCells (fill e ((List.replicate n zero).flatten) ps) (bslK d sz n K ⟨e, b, h⟩) := rfl
theorem run_bsl (C : Call) (K : S → Prop) (s : S) (g : Option (Nat × Bool)) (d sz n : Nat) (zero : List V) (ps : List (Nat × Nat × Opd)) : (AOp.bsl g d sz n zero ps).run C s K = bslS d sz n zero ps K s := by
 simp only [AOp.run, bslS, onCells]
 cases fill s.env ((List.replicate n zero).flatten) ps <;> rfl
theorem bsl_g (C : Call) (K : S → Prop) (s : S) (t : Nat) (w : Bool) (d sz n : Nat) (zero : List V) (ps : List (Nat × Nat × Opd)) : (AOp.bsl (some (t, w)) d sz n zero ps).step C s K = onGuard (ev s.env (.t t)) w (bslS d sz n zero ps K) (skipK (some d) K) s :=
 step_guard C K s _ t w rfl _ (run_bsl C K s _ d sz n zero ps)

def onInts (v u : V) (K : Int → Int → Prop) : Prop :=
 match v, u with
 | .int _ a, .int _ b => K a b
 | _, _ => False
theorem onInts_int (k k2 : IntKind) (a b : Int) (K : Int → Int → Prop) : onInts (.int k a) (.int k2 b) K = K a b := rfl
def mksK (d sz bytes : Nat) (zero : List V) (K : S → Prop) (s : S) (a b : Int) : Prop := 0 ≤ a ∧ a ≤ b ∧ b * bytes ≤ 140737488355328 ∧ b < 9223372036854775808 ∧
 ∀ id, s.h id = none → K { env := s.env.set d (.msl id 0 a.toNat), bx := s.bx, h := s.h.upd id (some (.arr sz (List.replicate a.toNat zero))) }
theorem mksK_eq (d sz bytes : Nat) (zero : List V) (K : S → Prop) (e : List V) (bx : List (Option (Nat × List V))) (h : Heap) (a b : Int) : mksK d sz bytes zero K ⟨e, bx, h⟩ a b = (0 ≤ a ∧ a ≤ b ∧ b * bytes ≤ 140737488355328 ∧ b < 9223372036854775808 ∧
 ∀ id, h id = none → K ⟨e.set d (.msl id 0 a.toNat), bx, h.upd id (some (.arr sz (List.replicate a.toNat zero)))⟩) := rfl
theorem mks_0 (C : Call) (K : S → Prop) (s : S) (d : Nat) (n c : Opd) (sz bytes : Nat) (zero : List V) : (AOp.mks none d n c sz bytes zero).step C s K = onInts (ev s.env n) (ev s.env c) (mksK d sz bytes zero K s) := by
 rw [step_plain _ _ _ _ rfl]
 simp only [AOp.run, onInts, mksK] <;> cases ev s.env n <;> cases ev s.env c <;> rfl

def appK (d sz bytes : Nat) (K : S → Prop) (s : S) (x : V) (new : List (List V)) : Prop := (∀ z ∈ new, z.length = sz) ∧ (match x with
   | .nsl => (0 < new.length ∧ new.length * bytes ≤ 70368744177664 ∧
     ∀ id, s.h id = none → K { env := s.env.set d (.msl id 0 new.length), bx := s.bx, h := s.h.upd id (some (.arr sz new)) }) ∨
    (new = [] ∧ K { env := s.env.set d .nsl, bx := s.bx, h := s.h })
   | .msl id off len => match s.h id with
    | some (.arr sz2 els) => sz2 = sz ∧ off + len ≤ els.length ∧ (len + new.length) * bytes ≤ 70368744177664 ∧
     ∀ id2, s.h id2 = none → id2 ≠ id → K { env := s.env.set d (.msl id2 0 (len + new.length)), bx := s.bx, h := (s.h.upd id none).upd id2 (some (.arr sz ((els.drop off).take len ++ new))) }
    | _ => False
   | _ => False)
def onEls (o : Option (List (List V))) (K : List (List V) → Prop) : Prop :=
 match o with
 | some x => K x
 | none => False
theorem onEls_some (x : List (List V)) (K : List (List V) → Prop) : onEls (some x) K = K x := rfl
theorem app_0 (C : Call) (K : S → Prop) (s : S) (d : Nat) (x y : Opd) (sz bytes : Nat) : (AOp.app none d x y sz bytes).step C s K = onEls (elemsOf s.h (ev s.env y)) (appK d sz bytes K s (ev s.env x)) := by
 rw [step_plain _ _ _ _ rfl]
 simp only [AOp.run, onEls, appK] <;> cases elemsOf s.h (ev s.env y) <;> rfl
theorem appK_nil {d sz bytes : Nat} {K : S → Prop} {e : List V} {b : List (Option (Nat × List V))} {h : Heap} {new : List (List V)} (h1 : ∀ z ∈ new, z.length = sz) (h2 : 0 < new.length) (h3 : new.length * bytes ≤ 70368744177664)
  (hK : ∀ id, h id = none → K ⟨e.set d (.msl id 0 new.length), b, h.upd id (some (.arr sz new))⟩) : appK d sz bytes K ⟨e, b, h⟩ .nsl new := ⟨h1, .inl ⟨h2, h3, hK⟩⟩
theorem appK_msl {d sz bytes : Nat} {K : S → Prop} {e : List V} {b : List (Option (Nat × List V))} {h : Heap} {new els : List (List V)} {id off len : Nat} (hh : h id = some (.arr sz els)) (h1 : ∀ z ∈ new, z.length = sz) (h2 : off + len ≤ els.length)
  (h3 : (len + new.length) * bytes ≤ 70368744177664)
  (hK : ∀ id2, h id2 = none → id2 ≠ id → K ⟨e.set d (.msl id2 0 (len + new.length)), b, (h.upd id none).upd id2 (some (.arr sz ((els.drop off).take len ++ new)))⟩) : appK d sz bytes K ⟨e, b, h⟩ (.msl id off len) new := by
 refine ⟨h1, ?_⟩
 simp only [hh]
 exact ⟨trivial, h2, h3, hK⟩
def cpyK (d : Option Nat) (sz : Nat) (K : S → Prop) (s : S) (x y : V) : Prop := match x with
  | .msl id off len => match s.h id with
   | some (.arr sz2 els) => sz2 = sz ∧ off + len ≤ els.length ∧ (match elemsOf s.h y with
    | some new => (∀ z ∈ new, z.length = sz) ∧ K ({ s with h := s.h.upd id (some (.arr sz (els.take off ++ new.take len ++ els.drop (off + min new.length len)))) }.put d (.int .i64 (min new.length len : Nat)))
    | none => False)
   | _ => False
  | .nsl => match elemsOf s.h y with
   | some new => (∀ z ∈ new, z.length = sz) ∧ K (s.put d (.int .i64 0))
   | none => False
  | _ => False
theorem cpy_0 (C : Call) (K : S → Prop) (s : S) (d : Option Nat) (x y : Opd) (sz : Nat) : (AOp.cpy none d x y sz).step C s K = cpyK d sz K s (ev s.env x) (ev s.env y) := by
 rw [step_plain _ _ _ _ rfl]
 rfl
theorem cpyK_msl {d sz : Nat} {K : S → Prop} {e : List V} {b : List (Option (Nat × List V))} {h : Heap} {new els : List (List V)} {id off len : Nat} {y : V} (hh : h id = some (.arr sz els)) (hn : elemsOf h y = some new) (h1 : ∀ z ∈ new, z.length = sz) (h2 : off + len ≤ els.length)
  (hK : K ⟨e.set d (.int .i64 (min new.length len : Nat)), b, h.upd id (some (.arr sz (els.take off ++ new.take len ++ els.drop (off + min new.length len))))⟩) : cpyK (some d) sz K ⟨e, b, h⟩ (.msl id off len) y := by
 simp only [cpyK, hh, hn]
 exact ⟨trivial, h2, h1, hK⟩
def mkmK (d : Nat) (K : S → Prop) (s : S) : Prop := ∀ id, s.h id = none → K { s with env := s.env.set d (.map id), h := s.h.upd id (some (.map [])) }
theorem mkmK_eq (d : Nat) (K : S → Prop) (e : List V) (b : List (Option (Nat × List V))) (h : Heap) : mkmK d K ⟨e, b, h⟩ = (∀ id, h id = none → K ⟨e.set d (.map id), b, h.upd id (some (.map []))⟩) := rfl
theorem mkm_0 (C : Call) (K : S → Prop) (s : S) (d : Nat) : (AOp.mkm none d).step C s K = mkmK d K s := by
 rw [step_plain _ _ _ _ rfl]; rfl
def menK (d ks : Nat) (zero : V) (K : S → Prop) (s : S) (m key : V) : Prop := match m with
  | .map id => match s.h id with
   | some (.map es) => keyIs ks key = true ∧ (match findKey key es with
    | some (some i) => match es[i]? with
     | some x => K { s with env := s.env.set d (.tup [x.2, .stamp id i]) }
     | none => False
    | some none => K { s with env := s.env.set d (.tup [zero, .stamp id es.length]), h := s.h.upd id (some (.map (es ++ [(key, zero)]))) }
    | none => False)
   | _ => False
  | _ => False
theorem men_0 (C : Call) (K : S → Prop) (s : S) (d ks : Nat) (m key : Opd) (zero : V) : (AOp.men none d ks m key zero).step C s K = menK d ks zero K s (ev s.env m) (ev s.env key) := by
 rw [step_plain _ _ _ _ rfl]; rfl
theorem menK_new {d ks : Nat} {zero key : V} {K : S → Prop} {e : List V} {b : List (Option (Nat × List V))} {h : Heap} {id : Nat} {es : List (V × V)} (hh : h id = some (.map es)) (hk : keyIs ks key = true) (hf : findKey key es = some none)
  (hK : K ⟨e.set d (.tup [zero, .stamp id es.length]), b, h.upd id (some (.map (es ++ [(key, zero)])))⟩) : menK d ks zero K ⟨e, b, h⟩ (.map id) key := by
 simp only [menK, hh, hf]
 exact ⟨hk, hK⟩
def mstK (K : S → Prop) (s : S) (m stp v : V) : Prop := match m, stp with
  | .map id, .stamp id2 i => id = id2 ∧ (match s.h id with
   | some (.map es) => match es[i]? with
    | some x => K { s with h := s.h.upd id (some (.map (es.set i (x.1, v)))) }
    | none => False
   | _ => False)
  | _, _ => False
theorem mst_0 (C : Call) (K : S → Prop) (s : S) (m st v : Opd) : (AOp.mst none m st v).step C s K = mstK K s (ev s.env m) (ev s.env st) (ev s.env v) := by
 rw [step_plain _ _ _ _ rfl]
 rfl
theorem mstK_at {v : V} {K : S → Prop} {e : List V} {b : List (Option (Nat × List V))} {h : Heap} {id i : Nat} {es : List (V × V)} {x : V × V} (hh : h id = some (.map es)) (hx : es[i]? = some x)
  (hK : K ⟨e, b, h.upd id (some (.map (es.set i (x.1, v))))⟩) : mstK K ⟨e, b, h⟩ (.map id) (.stamp id i) v := by
 simp only [mstK, hh, hx]
 exact ⟨trivial, hK⟩
theorem upd_other (h : Heap) {i j : Nat} (b : Option Blk) (hn : j ≠ i) : (h.upd i b) j = h j := by simp [Heap.upd, hn]
theorem upd_upd (h : Heap) (i : Nat) (a b : Option Blk) : (h.upd i a).upd i b = h.upd i b := by
 funext j; simp only [Heap.upd]; split <;> rfl
theorem ne_of_some {h : Heap} {i j : Nat} {b : Blk} (h1 : h i = some b) (h2 : h j = none) : i ≠ j := by
 intro e; subst e; rw [h1] at h2; cases h2
theorem range_one : List.range 1 = [0] := rfl
theorem rep_one (z : List V) : (List.replicate 1 z).flatten = z := by simp
theorem rep_two (z : List V) : (List.replicate 2 z).flatten = z ++ z := by simp [List.replicate]

def onFn (v : V) (K : Nat → List V → Prop) : Prop :=
 match v with
 | .fn k caps => K k caps
 | _ => False
theorem onFn_fn (k : Nat) (caps : List V) (K : Nat → List V → Prop) : onFn (.fn k caps) K = K k caps := rfl
def callvK (C : Call) (d : Option Nat) (as : List Opd) (K : S → Prop) (s : S) (k : Nat) (caps : List V) : Prop := callOk C k (as.map (ev s.env) ++ caps) s.h (retK d K s)
theorem callvK_eq (C : Call) (d : Option Nat) (as : List Opd) (K : S → Prop) (e : List V) (b : List (Option (Nat × List V))) (h : Heap) (k : Nat) (caps : List V) : callvK C d as K ⟨e, b, h⟩ k caps = callOk C k (as.map (ev e) ++ caps) h (retK d K ⟨e, b, h⟩) := rfl
theorem callv_0 (C : Call) (K : S → Prop) (s : S) (d : Option Nat) (f : Opd) (as : List Opd) : (AOp.callv none d f as).step C s K = onFn (ev s.env f) (callvK C d as K s) := by
 rw [step_plain _ _ _ _ rfl]
 simp only [AOp.run, onFn]
 cases ev s.env f <;> rfl

theorem callOk_pure {A : Prog} {f : Nat} {vs : List V} {r : V} {h : Heap} {R : V → Heap → Prop} (hc : Ret A f vs Heap.none fun u _ => u = r) (hR : R r h) : callOk (Ret A) f vs h R :=
 .inr (.inl ⟨fun _ => False, vs, rfl, fun i a b h1 h2 => by rw [h1] at h2; injection h2 with h2; rw [h2]; exact .same _, Ret.mono _ _ _ _ _ (fun v _ e => ⟨.inl fun _ h => h, by rw [e]; exact hR⟩) hc⟩)
theorem callOk_of {A : Prog} {f : Nat} {vs : List V} {P : V → Prop} {h : Heap} {R : V → Heap → Prop} (hc : Ret A f vs Heap.none fun u _ => P u) (hR : ∀ u, P u → R u h) : callOk (Ret A) f vs h R :=
 .inr (.inl ⟨fun _ => False, vs, rfl, fun i a b h1 h2 => by rw [h1] at h2; injection h2 with h2; rw [h2]; exact .same _, Ret.mono _ _ _ _ _ (fun v _ e => ⟨.inl fun _ h => h, hR v e⟩) hc⟩)
theorem callPure_of {A : Prog} {f : Nat} {vs : List V} {P : V → Prop} {h : Heap} {R : V → Heap → Prop} (hc : Ret A f vs Heap.none fun u _ => P u) (hR : ∀ u, P u → R u h) : callPure (Ret A) f vs h R :=
 ⟨fun _ => False, vs, rfl, fun i a b h1 h2 => by rw [h1] at h2; injection h2 with h2; rw [h2]; exact .same _, Ret.mono _ _ _ _ _ (fun v _ e => ⟨.inl fun _ h => h, hR v e⟩) hc⟩
theorem callPure_pure {A : Prog} {f : Nat} {vs : List V} {r : V} {h : Heap} {R : V → Heap → Prop} (hc : Ret A f vs Heap.none fun u _ => u = r) (hR : R r h) : callPure (Ret A) f vs h R :=
 ⟨fun _ => False, vs, rfl, fun i a b h1 h2 => by rw [h1] at h2; injection h2 with h2; rw [h2]; exact .same _, Ret.mono _ _ _ _ _ (fun v _ e => ⟨.inl fun _ h => h, by rw [e]; exact hR⟩) hc⟩

theorem Frz.whole {h : Heap} {ids : Nat → Prop} {id sz n : Nat} {els : List (List V)} (hid : ids id) (hb : h id = some (.arr sz els)) (hn : els.length = n) : Frz h ids (.msl id 0 n) (.fsl sz els) := by
 subst hn
 exact .msl id 0 els.length sz els els hid hb (by omega) rfl (fun i x y h1 h2 => by rw [Nat.zero_add] at h1; rw [h1] at h2; injection h2 with h2; rw [h2])
  (fun i x y j a b h1 h2 h3 h4 => by rw [Nat.zero_add] at h1; rw [h1] at h2; injection h2 with h2; subst h2; rw [h3] at h4; injection h4 with h4; subst h4; exact .same _)

theorem upd_self (h : Heap) (i : Nat) (b : Option Blk) : (h.upd i b) i = b := by simp [Heap.upd]

inductive FrzL (h : Heap) (ids : Nat → Prop) : List V → List V → Prop
 | nil : FrzL h ids [] []
 | cons {v u : V} {l k : List V} (h1 : Frz h ids v u) (h2 : FrzL h ids l k) : FrzL h ids (v :: l) (u :: k)
theorem FrzL.spec {h : Heap} {ids : Nat → Prop} {vs us : List V} (hf : FrzL h ids vs us) : us.length = vs.length ∧ ∀ (i : Nat) (a b : V), vs[i]? = some a → us[i]? = some b → Frz h ids a b := by
 induction hf with
 | nil => exact ⟨rfl, fun i a b h => by simp at h⟩
 | cons h1 _ ih =>
  refine ⟨by simp [ih.1], fun i a b ha hb => ?_⟩
  cases i with
  | zero => simp at ha hb; subst ha; subst hb; exact h1
  | succ i => exact ih.2 i a b (by simpa using ha) (by simpa using hb)

theorem Frz.aggL {h : Heap} {ids : Nat → Prop} {vs us : List V} (hf : FrzL h ids vs us) : Frz h ids (.agg vs) (.agg us) := .agg _ _ hf.spec.1.symm hf.spec.2

theorem callOk_frz {A : Prog} {f : Nat} {vs us : List V} {P : V → Prop} {h : Heap} {R : V → Heap → Prop} (ids : Nat → Prop) (hf : FrzL h ids vs us) (hc : Ret A f us Heap.none fun u _ => P u) (hR : ∀ u, P u → Flat u ∧ R u h) : callOk (Ret A) f vs h R :=
 .inr (.inl ⟨ids, us, hf.spec.1, hf.spec.2, Ret.mono _ _ _ _ _ (fun v _ e => ⟨.inr (hR v e).1, (hR v e).2⟩) hc⟩)

theorem callOk_froze {A : Prog} {f : Nat} {vs us : List V} {P : V → Prop} {h : Heap} {R : V → Heap → Prop} (ids : Nat → Prop) (h2 : Heap) (hf : FrzL h ids vs us) (hle : h2.le h) (hids : ∀ i, ids i → h2 i = none) (hc : Ret A f us h2 R) : callOk (Ret A) f vs h R :=
 .inr (.inr ⟨ids, us, h2, hf.spec.1, hf.spec.2, hle, hids, hc⟩)
theorem post_ret {rs : List ARes} {R : V → Heap → Prop} {s : S} {v : V} (hv : resultOf rs s = some v) (hR : R v s.h) : post rs R .ret s := by
 show match resultOf rs s with | some v => _ | none => False
 rw [hv]
 exact ⟨fun _ => False, v, s.h, .same v, fun _ _ h => h, fun _ h => h.elim, hR⟩

theorem postC {t n : Nat} {agg : Bool} {R : V → Heap → Prop} {s : S} {v : V} (hv : loadOf s.bx s.h (ev s.env (.t t)) n agg = some v) (hR : R v s.h) : post [.cell t n agg] R .ret s :=
 post_ret (v := v) (by simp only [resultOf, mapM?, ARes.val, hv]) hR
theorem post_frz {rs : List ARes} {R : V → Heap → Prop} {s : S} {v u : V} {h2 : Heap} (ids : Nat → Prop) (hv : resultOf rs s = some v) (hf : Frz s.h ids v u) (hle : h2.le s.h) (hids : ∀ i, ids i → h2 i = none) (hR : R u h2) : post rs R .ret s := by
 show match resultOf rs s with | some v => _ | none => False
 rw [hv]
 exact ⟨ids, u, h2, hf, hle, hids, hR⟩
theorem postCF {t n : Nat} {agg : Bool} {R : V → Heap → Prop} {s : S} {v u : V} {h2 : Heap} (ids : Nat → Prop) (hv : loadOf s.bx s.h (ev s.env (.t t)) n agg = some v) (hf : Frz s.h ids v u) (hle : h2.le s.h) (hids : ∀ i, ids i → h2 i = none) (hR : R u h2) : post [.cell t n agg] R .ret s :=
 post_frz ids (by simp only [resultOf, mapM?, ARes.val, hv]) hf hle hids hR

def Met (J : S → Prop) (o : Out) (s : S) : Prop := o = .normal ∧ J s
theorem Met_normal (J : S → Prop) (s : S) : Met J .normal s = J s := by simp [Met]
theorem W_meet {A : Prog} {c : ACode} {Q : Out → S → Prop} {s : S} (J : S → Prop) (h1 : W (Ret A) c (Met J) s) (h2 : ∀ s2, J s2 → Q .normal s2) : W (Ret A) c Q s :=
 W_mono Ret.mono c s (fun o s2 ⟨e, hj⟩ => by subst e; exact h2 s2 hj) h1

theorem Loop.rec {α : Type} {A : Prog} {live boxes : List Nat} {x : ACode} {Q : Out → S → Prop} (m : α → Nat) (st : α → S) (p : α → Prop)
  (hs : ∀ a, p a → (∀ b, m b < m a → p b → Loop (Ret A) live boxes x Q (st b)) → W (Ret A) x (Again (Ret A) live boxes x Q) (st a))
  (a : α) (ha : p a) {s : S} (he : s = st a) : Loop (Ret A) live boxes x Q s := by
 subst he
 have : ∀ n a, m a = n → p a → Loop (Ret A) live boxes x Q (st a) := by
  intro n
  induction n using Nat.strongRecOn with
  | ind n ih =>
   intro a hn hp
   subst hn
   exact Loop.step (hs a hp fun b hb hpb => ih _ hb b rfl hpb)
 exact this _ a rfl ha

theorem cellsOf_agg (cs : List V) : cellsOf (.agg cs) = some cs := rfl
theorem cellsOf_int (k : IntKind) (n : Int) : cellsOf (.int k n) = some [.int k n] := rfl
theorem cellsOf_bool (b : Bool) : cellsOf (.bool b) = some [.bool b] := rfl
theorem cellsOf_str (b : ByteArray) : cellsOf (.str b) = some [.str b] := rfl
theorem cellsOf_fsl (n : Nat) (l : List (List V)) : cellsOf (.fsl n l) = some [.fsl n l] := rfl
theorem cellsOf_msl (i o n : Nat) : cellsOf (.msl i o n) = some [.msl i o n] := rfl
theorem cellsOf_fn (i : Nat) (l : List V) : cellsOf (.fn i l) = some [.fn i l] := rfl

theorem wrap_succ {k : Nat} (h : k < 9223372036854775807) : IntKind.i64.wrap ((k : Int) + 1) = ((k + 1 : Nat) : Int) := by
 rw [IntWalk.i64_in _ ⟨by omega, by omega⟩]; omega
theorem wrap_nat {k : Nat} (h : k < 9223372036854775808) : IntKind.i64.wrap (k : Int) = (k : Int) := IntWalk.i64_in _ ⟨by omega, by omega⟩
theorem wrap_pred {k : Nat} (h : k < 9223372036854775807) : IntKind.i64.wrap (((k + 1 : Nat) : Int) - 1) = (k : Int) := by
 rw [IntWalk.i64_in _ ⟨by omega, by omega⟩]; omega
theorem wrap_in {n : Int} (h : -9223372036854775808 ≤ n ∧ n ≤ 9223372036854775807) : IntKind.i64.wrap n = n := IntWalk.i64_in n h
theorem dec_true (i : Decidable True) : @decide True i = true := by
 cases i with
 | isTrue _ => rfl
 | isFalse h => exact (h trivial).elim
theorem dec_false (i : Decidable False) : @decide False i = false := by
 cases i with
 | isTrue h => exact h.elim
 | isFalse _ => rfl
theorem nat_le (k : Nat) : (0 ≤ (k : Int)) = True := by simp
theorem post1 {k : Nat} {R : V → Heap → Prop} {s : S} (hR : R (ev s.env (.t k)) s.h) : post [.tmp k] R .ret s := post_ret (v := ev s.env (.t k)) rfl hR
theorem post2 {k m : Nat} {R : V → Heap → Prop} {s : S} (hR : R (.tup [ev s.env (.t k), ev s.env (.t m)]) s.h) : post [.tmp k, .tmp m] R .ret s := post_ret (v := .tup [ev s.env (.t k), ev s.env (.t m)]) rfl hR

theorem Ret.by_text {A : Prog} {f : Nat} {fn : AFn} {vs : List V} {h : Heap} {R : V → Heap → Prop} (hf : A f = some fn) (hn : Nat.ble vs.length fn.ntmps = true)
  (hb : W (Ret A) fn.body (post fn.results R) ⟨E fn.ntmps (number 0 vs), B fn.ntmps [], h⟩) : Ret A f vs h R :=
 Ret.intro hf (Nat.le_of_ble_eq_true hn) (by rw [start_E _ _ _ (Nat.le_of_ble_eq_true hn)]; exact hb)

end Go.Abs
namespace Go.Abs
open Go

def Det (A : Prog) (f : Nat) (vs : List V) (P : V → Prop) : Prop := ∃ r, P r ∧ Ret A f vs Heap.none fun u _ => u = r

section
variable {A : Prog} {ι : Type} {P : V → Prop}
theorem Det.by_text {f : Nat} {fn : AFn} {vs : List V} (hf : A f = some fn) (hn : Nat.ble vs.length fn.ntmps = true)
  (hb : ∃ r, P r ∧ ∀ _ : Unit, W (Ret A) fn.body (post fn.results fun u _ => u = r) ⟨E fn.ntmps (number 0 vs), B fn.ntmps [], Heap.none⟩) : Det A f vs P := by
 obtain ⟨r, h1, h2⟩ := hb
 exact ⟨r, h1, Ret.by_text hf hn (h2 ())⟩
theorem Det.mono {f : Nat} {vs : List V} {P2 : V → Prop} (h : ∀ r, P r → P2 r) (hd : Det A f vs P) : Det A f vs P2 := by
 obtain ⟨r, h1, h2⟩ := hd
 exact ⟨r, h r h1, h2⟩
theorem dx_all {X : V → ι → Nat → Prop} (h : ∃ r, P r ∧ ∀ i : ι × Nat, X r i.1 i.2) : ∃ r, P r ∧ ∀ (i : ι) (g : Nat), X r i g := by
 obtain ⟨r, h1, h2⟩ := h
 exact ⟨r, h1, fun i g => h2 (i, g)⟩
theorem dx_br {b : Bool} {p q : V → ι → S → Prop} {s : ι → S} (h1 : b = true → ∃ r, P r ∧ ∀ i, p r i (s i)) (h2 : b = false → ∃ r, P r ∧ ∀ i, q r i (s i)) : ∃ r, P r ∧ ∀ i, br b (p r i) (q r i) (s i) := by
 cases b
 ·obtain ⟨r, a, c⟩ := h2 rfl
  exact ⟨r, a, fun i => by rw [br_false]; exact c i⟩
 ·obtain ⟨r, a, c⟩ := h1 rfl
  exact ⟨r, a, fun i => by rw [br_true]; exact c i⟩
theorem dx_call {f : Nat} {vs : List V} {h : ι → Heap} {Pc : V → Prop} {K : V → ι → V → Heap → Prop} (hc : Det A f vs Pc) (hk : ∀ u, Pc u → ∃ r, P r ∧ ∀ i, K r i u (h i)) : ∃ r, P r ∧ ∀ i, callOk (Ret A) f vs (h i) (K r i) := by
 obtain ⟨u, hu, hr⟩ := hc
 obtain ⟨r, h1, h2⟩ := hk u hu
 exact ⟨r, h1, fun i => callOk_pure hr (h2 i)⟩
theorem dx_pcall {f : Nat} {vs : List V} {h : ι → Heap} {Pc : V → Prop} {K : V → ι → V → Heap → Prop} (hc : Det A f vs Pc) (hk : ∀ u, Pc u → ∃ r, P r ∧ ∀ i, K r i u (h i)) : ∃ r, P r ∧ ∀ i, callPure (Ret A) f vs (h i) (K r i) := by
 obtain ⟨u, hu, hr⟩ := hc
 obtain ⟨r, h1, h2⟩ := hk u hu
 exact ⟨r, h1, fun i => callPure_pure hr (h2 i)⟩
theorem dx_post {rs : List ARes} {s : ι → S} (v : V) (hv : ∀ i, resultOf rs (s i) = some v) (hP : P v) : ∃ r, P r ∧ ∀ i, post rs (fun u _ => u = r) .ret (s i) :=
 ⟨v, hP, fun i => post_ret (v := v) (hv i) rfl⟩
theorem dx_loop {α : Type} {live boxes : List Nat} {x : ACode} {Q : V → ι → Out → S → Prop} (m : α → Nat) (st : α → ι → S) (p : α → Prop)
  (hs : ∀ a, p a → (∀ b, m b < m a → p b → ∃ r, P r ∧ ∀ i, Loop (Ret A) live boxes x (Q r i) (st b i)) → ∃ r, P r ∧ ∀ i, W (Ret A) x (Again (Ret A) live boxes x (Q r i)) (st a i))
  (a : α) (ha : p a) {s : ι → S} (he : ∀ i, s i = st a i) : ∃ r, P r ∧ ∀ i, Loop (Ret A) live boxes x (Q r i) (s i) := by
 have : ∀ n a, m a = n → p a → ∃ r, P r ∧ ∀ i, Loop (Ret A) live boxes x (Q r i) (st a i) := by
  intro n
  induction n using Nat.strongRecOn with
  | ind n ih =>
   intro a hn hp
   subst hn
   obtain ⟨r, h1, h2⟩ := hs a hp fun b hb hpb => ih _ hb b rfl hpb
   exact ⟨r, h1, fun i => Loop.step (h2 i)⟩
 obtain ⟨r, h1, h2⟩ := this _ a rfl ha
 exact ⟨r, h1, fun i => by rw [he i]; exact h2 i⟩
end
def IsInt (v : V) : Prop := ∃ n : Int, v = .int .i64 n
def IsBool (v : V) : Prop := ∃ b : Bool, v = .bool b
end Go.Abs
namespace Go.Abs
open Go
theorem Det.ret {A : Prog} {f : Nat} {vs : List V} {P : V → Prop} (h : Det A f vs P) : Ret A f vs Heap.none fun u _ => P u := by
 obtain ⟨r, h1, h2⟩ := h
 exact Ret.mono _ _ _ (fun u _ => u = r) _ (fun u _ e => by rw [e]; exact h1) h2
theorem callOk_det {A : Prog} {f : Nat} {vs : List V} {P : V → Prop} {h : Heap} {R : V → Heap → Prop} (hc : Det A f vs P) (hR : ∀ u, P u → R u h) : callOk (Ret A) f vs h R := callOk_of hc.ret hR
end Go.Abs
namespace Go.Abs
open Go
def SlH (sz : Nat) (h : Heap) (v : V) (els : List (List V)) : Prop := (els = [] ∧ v = .nsl) ∨ ∃ id, v = .msl id 0 els.length ∧ h id = some (.arr sz els)
def SlH.own (v : V) (i : Nat) : Prop := ∃ n, v = .msl i 0 n
theorem SlH.nil (sz : Nat) (h : Heap) : SlH sz h .nsl [] := .inl ⟨rfl, rfl⟩
theorem SlH.mk {sz : Nat} {h : Heap} {id n : Nat} {els : List (List V)} (hh : h id = some (.arr sz els)) (hn : n = els.length) : SlH sz h (.msl id 0 n) els := .inr ⟨id, by rw [hn], hh⟩
theorem SlH.mono {sz : Nat} {h h2 : Heap} {v : V} {els : List (List V)} (hs : SlH sz h v els) (hm : ∀ i b, h i = some b → SlH.own v i → h2 i = some b) : SlH sz h2 v els := by
 rcases hs with hs | ⟨id, hv, hid⟩
 ·exact .inl hs
 ·exact .inr ⟨id, hv, hm _ _ hid ⟨_, hv⟩⟩
theorem SlH.alloc {sz : Nat} {h : Heap} {v : V} {els : List (List V)} {j : Nat} {b : Option Blk} (hs : SlH sz h v els) (hj : h j = none) : SlH sz (h.upd j b) v els :=
 hs.mono fun i c hi _ => by rw [upd_other _ _ (ne_of_some hi hj)]; exact hi
theorem SlH.cells {sz : Nat} {h : Heap} {v : V} {els : List (List V)} (hs : SlH sz h v els) : cellsOf v = some [v] := by
 rcases hs with ⟨_, rfl⟩ | ⟨id, rfl, _⟩ <;> rfl
theorem appK_sl {d sz bytes : Nat} {K : S → Prop} {e : List V} {b : List (Option (Nat × List V))} {h : Heap} {v : V} {els new : List (List V)} (hs : SlH sz h v els) (h1 : ∀ z ∈ new, z.length = sz) (h2 : 0 < new.length) (h3 : (els.length + new.length) * bytes ≤ 70368744177664)
  (hK : ∀ id2 h2, h id2 = none → h2 id2 = some (.arr sz (els ++ new)) → (∀ j c, h j = some c → ¬ SlH.own v j → h2 j = some c) → K ⟨e.set d (.msl id2 0 (els.length + new.length)), b, h2⟩) : appK d sz bytes K ⟨e, b, h⟩ v new := by
 rcases hs with ⟨rfl, rfl⟩ | ⟨id, rfl, hid⟩
 ·refine appK_nil h1 h2 (by simpa using h3) fun id2 hn => ?_
  have := hK id2 (h.upd id2 (some (.arr sz new))) hn (by rw [upd_self]; rfl) (fun j c hj _ => by rw [upd_other _ _ (ne_of_some hj hn)]; exact hj)
  simpa using this
 ·refine appK_msl hid h1 (by omega) h3 fun id2 hn hne => ?_
  refine hK id2 _ hn (by rw [upd_self]; simp) (fun j c hj ho => ?_)
  rw [upd_other _ _ (ne_of_some hj hn), upd_other _ _ (fun e => ho (by rw [e]; exact ⟨_, rfl⟩))]
  exact hj
theorem appK_sl0 {d sz bytes : Nat} {K : S → Prop} {e : List V} {b : List (Option (Nat × List V))} {h : Heap} {v : V} {els new : List (List V)} (hs : SlH sz h v els) (h1 : ∀ z ∈ new, z.length = sz) (h3 : (els.length + new.length) * bytes ≤ 70368744177664)
  (hK : ∀ u h2, SlH sz h2 u (els ++ new) → (∀ j, SlH.own u j → h j = none ∨ SlH.own v j) → (∀ j c, h j = some c → ¬ SlH.own v j → h2 j = some c) → K ⟨e.set d u, b, h2⟩) : appK d sz bytes K ⟨e, b, h⟩ v new := by
 rcases Nat.eq_zero_or_pos new.length with h0 | h0
 ·have hn : new = [] := List.eq_nil_of_length_eq_zero h0
  subst hn
  rcases hs with ⟨rfl, rfl⟩ | ⟨id, rfl, hid⟩
  ·exact ⟨h1, .inr ⟨rfl, hK _ _ (SlH.nil _ _) (fun j ⟨n, e⟩ => by cases e) (fun j c hj _ => hj)⟩⟩
  ·refine appK_msl hid h1 (by omega) h3 fun id2 hn hne => ?_
   refine hK _ _ (.mk (by rw [upd_self]; simp) (by simp)) (fun j ⟨n, e⟩ => by injection e with e; subst e; exact .inl hn) (fun j c hj ho => ?_)
   rw [upd_other _ _ (ne_of_some hj hn), upd_other _ _ (fun e => ho (by rw [e]; exact ⟨_, rfl⟩))]
   exact hj
 ·refine appK_sl hs h1 h0 h3 fun id2 h2 hn hi hm => hK _ _ (.mk hi (by simp)) (fun j ⟨n, e⟩ => by injection e with e; subst e; exact .inl hn) hm
theorem SlH.frz {sz : Nat} {h : Heap} {ids : Nat → Prop} {v : V} {els out : List (List V)} (hs : SlH sz h v els) (hi : ∀ i, SlH.own v i → ids i) (ho : out.length = els.length) (hw : ∀ (i : Nat) (x y : List V), els[i]? = some x → out[i]? = some y → x.length = y.length ∧ ∀ (j : Nat) (a b : V), x[j]? = some a → y[j]? = some b → Frz h ids a b) : Frz h ids v (.fsl sz out) := by
 rcases hs with ⟨rfl, rfl⟩ | ⟨id, rfl, hid⟩
 ·rw [List.eq_nil_of_length_eq_zero (l := out) (by simpa using ho)]
  exact .nsl sz
 ·exact .msl id 0 els.length sz els out (hi _ ⟨_, rfl⟩) hid (by omega) ho (fun i x y h1 h2 => by rw [Nat.zero_add] at h1; exact (hw i x y h1 h2).1.symm)
   (fun i x y j a b h1 h2 h3 h4 => by rw [Nat.zero_add] at h1; exact (hw i x y h1 h2).2 j a b h3 h4)
theorem SlH.frz_self {sz : Nat} {h : Heap} {ids : Nat → Prop} {v : V} {els : List (List V)} (hs : SlH sz h v els) (hi : ∀ i, SlH.own v i → ids i) : Frz h ids v (.fsl sz els) :=
 hs.frz hi rfl fun i x y h1 h2 => by
  rw [h1] at h2; injection h2 with h2; subst h2
  exact ⟨rfl, fun j a b h3 h4 => by rw [h3] at h4; injection h4 with h4; subst h4; exact .same _⟩
theorem Frz.mono {h h2 : Heap} {ids ids2 : Nat → Prop} (hm : ∀ i b, ids i → h i = some b → h2 i = some b) (hi : ∀ i, ids i → ids2 i) {v u : V} (hf : Frz h ids v u) : Frz h2 ids2 v u := by
 induction hf with
 | same v => exact .same v
 | nsl sz => exact .nsl sz
 | agg cs ds hl _ ih => exact .agg cs ds hl ih
 | tup cs ds hl _ ih => exact .tup cs ds hl ih
 | fsl sz els out ho hw _ ih => exact .fsl sz els out ho hw ih
 | msl id off len sz els out hid hb hl ho hw _ ih => exact .msl id off len sz els out (hi _ hid) (hm _ _ hid hb) hl ho hw ih
def ElsH (h : Heap) (A : Nat → Prop) (els outs : List (List V)) : Prop := els.length = outs.length ∧ ∀ (i : Nat) (z y : List V), els[i]? = some z → outs[i]? = some y → z.length = y.length ∧ ∀ (j : Nat) (a b : V), z[j]? = some a → y[j]? = some b → Frz h A a b
theorem ElsH.nil (h : Heap) (A : Nat → Prop) : ElsH h A [] [] := ⟨rfl, fun i z y h => by simp at h⟩
theorem ElsH.mono {h h2 : Heap} {A A2 : Nat → Prop} {els outs : List (List V)} (he : ElsH h A els outs) (hm : ∀ i b, A i → h i = some b → h2 i = some b) (hi : ∀ i, A i → A2 i) : ElsH h2 A2 els outs :=
 ⟨he.1, fun i z y h1 h3 => ⟨(he.2 i z y h1 h3).1, fun j a b h4 h5 => ((he.2 i z y h1 h3).2 j a b h4 h5).mono hm hi⟩⟩
theorem ElsH.push {h : Heap} {A : Nat → Prop} {els outs : List (List V)} {z y : List V} (he : ElsH h A els outs) (hz : FrzL h A z y) : ElsH h A (els ++ [z]) (outs ++ [y]) := by
 obtain ⟨h1, h2⟩ := hz.spec
 refine ⟨by simp [he.1], fun i a b ha hb => ?_⟩
 by_cases hi : i < els.length
 ·rw [List.getElem?_append_left hi] at ha
  rw [List.getElem?_append_left (by rw [← he.1]; exact hi)] at hb
  exact he.2 i a b ha hb
 ·have e : i = els.length := by have := (List.getElem?_eq_some_iff.1 ha).1; simp at this; omega
  subst e
  rw [List.getElem?_append_right (by omega)] at ha
  rw [List.getElem?_append_right (by have := he.1; omega), ← he.1] at hb
  simp at ha hb
  subst ha; subst hb
  exact ⟨h1.symm, h2⟩
structure Grow (A : Nat → Prop) (sz : Nat) (h : Heap) (v : V) (els outs : List (List V)) : Prop where
 sl : SlH sz h v els
 el : ElsH h A els outs
 own : ∀ i, A i → (∃ b, h i = some b) ∧ ¬ SlH.own v i
theorem Grow.nil (sz : Nat) (h : Heap) : Grow (fun _ => False) sz h .nsl [] [] := ⟨.nil _ _, .nil _ _, fun _ h => h.elim⟩
theorem Grow.mono {A : Nat → Prop} {sz : Nat} {h h2 : Heap} {v : V} {els outs : List (List V)} (hg : Grow A sz h v els outs) (hm : ∀ i b, h i = some b → A i ∨ SlH.own v i → h2 i = some b) : Grow A sz h2 v els outs :=
 ⟨hg.sl.mono fun i b h1 h2 => hm i b h1 (.inr h2), hg.el.mono (fun i b h1 h2 => hm i b h2 (.inl h1)) fun _ h => h, fun i hi => by
  obtain ⟨⟨b, hb⟩, h3⟩ := hg.own i hi
  exact ⟨⟨b, hm i b hb (.inl hi)⟩, h3⟩⟩
theorem Grow.alloc {A : Nat → Prop} {sz : Nat} {h : Heap} {v : V} {els outs : List (List V)} {j : Nat} {b : Option Blk} (hg : Grow A sz h v els outs) (hj : h j = none) : Grow A sz (h.upd j b) v els outs :=
 hg.mono fun i c hi _ => by rw [upd_other _ _ (ne_of_some hi hj)]; exact hi
theorem Grow.push {A B : Nat → Prop} {sz : Nat} {h h2 : Heap} {v : V} {els outs : List (List V)} {z y : List V} {id2 : Nat} (hg : Grow A sz h v els outs) (hz : FrzL h B z y) (hB : ∀ i, B i → (∃ b, h i = some b) ∧ ¬ SlH.own v i)
  (hn : h id2 = none) (hi : h2 id2 = some (.arr sz (els ++ [z]))) (hm : ∀ j c, h j = some c → ¬ SlH.own v j → h2 j = some c) : Grow (fun i => A i ∨ B i) sz h2 (.msl id2 0 (els.length + 1)) (els ++ [z]) (outs ++ [y]) := by
 have key : ∀ i, A i ∨ B i → (∃ b, h i = some b) ∧ ¬ SlH.own v i := fun i hi => by
  rcases hi with hi | hi
  ·exact hg.own i hi
  ·exact hB i hi
 refine ⟨.mk hi (by simp), ElsH.mono (h := h) (A := fun i => A i ∨ B i) (.push (hg.el.mono (fun i b _ h => h) fun i h => .inl h) ?_) (fun i b hi hb => hm i b hb (key i hi).2) fun _ h => h, fun i hi => ?_⟩
 ·have : ∀ {z y : List V}, FrzL h B z y → FrzL h (fun i => A i ∨ B i) z y := by
   intro z y hf
   induction hf with
   | nil => exact .nil
   | cons hf _ ih => exact .cons (hf.mono (fun i b _ h => h) fun i h => .inr h) ih
  exact this hz
 ·obtain ⟨⟨b, hb⟩, h3⟩ := key i hi
  refine ⟨⟨b, hm i b hb h3⟩, fun ⟨n, e⟩ => ?_⟩
  injection e with e
  subst e
  rw [hn] at hb; cases hb
theorem Grow.frz {A : Nat → Prop} {sz : Nat} {h : Heap} {v : V} {els outs : List (List V)} (hg : Grow A sz h v els outs) : Frz h (fun _ => True) v (.fsl sz outs) :=
 hg.sl.frz (fun _ _ => trivial) hg.el.1.symm fun i x y h1 h2 => ⟨(hg.el.2 i x y h1 h2).1, fun j a b h3 h4 => ((hg.el.2 i x y h1 h2).2 j a b h3 h4).mono (fun _ _ _ h => h) fun _ _ => trivial⟩
end Go.Abs
namespace Go.Abs
open Go
theorem rng0 : List.range 0 = ([] : List Nat) := rfl
attribute [go_sem] rng0 number W_skip W_region W_seq W_cond W_block W_exit W_ret W_loop Again_normal Again_exit Again_ret keep_eq Thn_normal Thn_exit Thn_ret Bl_normal Bl_exit Bl_ret Met_normal wOps_nil wOps_cons val_0 val_g valK_eq onPut_some onGuard_bool onGuard_skip onBool_bool br_true br_false br_not beq_true' beq_false' skipK_some box_0 onCells_some boxK_eq st_0 stK_eq onS_some call_0 callK_eq call_g pcall_0 pcallK_eq retK_some onFn_fn callv_0 callvK_eq hbox_0 hboxK_eq bsl_0 bslK_eq bsl_g bslS_eq fill range_one rep_one rep_two onInts_int mksK_eq mks_0 mkm_0 mkmK_eq men_0 mst_0 onEls_some app_0 cpy_0 ev_E ev_c set_E set_B getD_B look_cons lookB_cons look_nil lookB_nil cond_true cond_false if_true if_false ite_true ite_false storeOf storeCells over List.append_nil eq_self_iff_true Bool.false_eq_true Bool.not_true Bool.not_false true_and and_true and_self List.getElem?_cons_zero List.getElem?_cons_succ List.length_cons List.length_nil List.drop_succ_cons List.drop_zero List.take_succ_cons List.take_zero List.take_nil List.drop_nil List.set_cons_zero List.set_cons_succ List.map_cons List.map_nil List.nil_append List.cons_append AVal.eval cellsOf_agg cellsOf_int cellsOf_bool cellsOf_str cellsOf_fsl cellsOf_msl cellsOf_fn nat_le dec_true dec_false Int.toNat_natCast List.getElem?_map List.length_map Option.map_some Option.map_none loadOf cellsAt boxOf partOf binOf intOf unOf
end Go.Abs
namespace Go.Abs
open Go

structure Maps where
 sg : Nat → Option (Nat × Nat × Nat × Nat)
 bt : Nat → Nat → Option Nat
 bo : Nat → Nat → Option Nat

structure Maps.le (m n : Maps) : Prop where
 sg : ∀ i x, m.sg i = some x → n.sg i = some x
 bt : ∀ t g b, m.bt t g = some b → n.bt t g = some b
 bo : ∀ i k b, m.bo i k = some b → n.bo i k = some b

theorem Maps.le.refl (m : Maps) : m.le m := ⟨fun _ _ h => h, fun _ _ _ h => h, fun _ _ _ h => h⟩
theorem Maps.le.trans {a b c : Maps} (h : a.le b) (k : b.le c) : a.le c := ⟨fun i x e => k.sg i x (h.sg i x e), fun t g x e => k.bt t g x (h.bt t g x e), fun i x y e => k.bo i x y (h.bo i x y e)⟩

abbrev Reads := Nat → Nat → Value → Prop

inductive VR (rd : Reads) (m : Maps) : V → Value → Prop
 | undef (u : Value) : VR rd m .undef u
 | skip : VR rd m .skip Go.undef
 | int (k : IntKind) (n : Int) : VR rd m (.int k n) (.int k n)
 | bool (b : Bool) : VR rd m (.bool b) (.bool b)
 | str (s : ByteArray) : VR rd m (.str s) (.string s)
 | agg (cs : List V) (us : Array Value) (hl : us.size = cs.length) (h1 : ∀ (i : Nat) (u : Value), us[i]? = some u → u.oneCell' = true)
   (hf : ∀ (i : Nat) (c : V) (u : Value), cs[i]? = some c → us[i]? = some u → VR rd m c u) : VR rd m (.agg cs) (.agg us)
 | tup (cs : List V) (us : Array Value) (hl : us.size = cs.length)
   (hf : ∀ (i : Nat) (c : V) (u : Value), cs[i]? = some c → us[i]? = some u → VR rd m c u) : VR rd m (.tup cs) (.tuple us)
 | nsl : VR rd m .nsl (.slice none 0 0)
 | fsl0 (sz : Nat) (a : Option Addr) (cap : Nat) : VR rd m (.fsl sz []) (.slice a 0 cap)
 | fsl (sz : Nat) (els : List (List V)) (b off cap : Nat) (u : Nat → Nat → Value) (hc : els.length ≤ cap) (hw : ∀ (i : Nat) (x : List V), els[i]? = some x → x.length = sz)
   (hr : ∀ (i : Nat) (x : List V) (j : Nat) (c : V), els[i]? = some x → x[j]? = some c → rd b (off + i * sz + j) (u i j))
   (h1 : ∀ (i : Nat) (x : List V) (j : Nat) (c : V), els[i]? = some x → x[j]? = some c → (u i j).oneCell' = true)
   (hf : ∀ (i : Nat) (x : List V) (j : Nat) (c : V), els[i]? = some x → x[j]? = some c → VR rd m c (u i j)) :
   VR rd m (.fsl sz els) (.slice (some ⟨b, off, none⟩) els.length cap)
 | msl (id off ln b o sz C : Nat) (a : Addr) (cap : Nat) (hs : m.sg id = some (b, o, sz, C))
   (h : (ln = 0 ∧ cap = 0) ∨ (a = ⟨b, o + off * sz, none⟩ ∧ off + cap = C ∧ ln ≤ cap)) : VR rd m (.msl id off ln) (.slice (some a) ln cap)
 | lp (t g off b : Nat) (h : m.bt t g = some b) : VR rd m (.lp t g off) (.pointer (some ⟨b, off, none⟩))
 | ep (id i off b o sz C : Nat) (hs : m.sg id = some (b, o, sz, C)) : VR rd m (.ep id i off) (.pointer (some ⟨b, o + i * sz + off, none⟩))
 | fp (cs : List V) (off b o : Nat) (u : Nat → Value) (hr : ∀ (j : Nat) (c : V), cs[j]? = some c → rd b (o + j) (u j))
   (h1 : ∀ (j : Nat) (c : V), cs[j]? = some c → (u j).oneCell' = true)
   (hf : ∀ (j : Nat) (c : V), cs[j]? = some c → VR rd m c (u j)) : VR rd m (.fp cs off) (.pointer (some ⟨b, o + off, none⟩))
 | nilp : VR rd m .nilp (.pointer none)
 | map (id b o sz C : Nat) (hs : m.sg id = some (b, o, sz, C)) : VR rd m (.map id) (.map (some b))
 | stamp (id i n : Nat) (hs : m.bo id i = some n) : VR rd m (.stamp id i) (.int .i64 n)
 | fn (f : Nat) (cs : List V) (us : Array Value) (hl : us.size = cs.length)
   (hf : ∀ (i : Nat) (c : V) (u : Value), cs[i]? = some c → us[i]? = some u → VR rd m c u) : VR rd m (.fn f cs) (.func (.func f) #[] us)

theorem VR.mono {rd rd' : Reads} {m m' : Maps} (hr : ∀ b o u, rd b o u → rd' b o u) (hm : m.le m') {v : V} {u : Value} (h : VR rd m v u) : VR rd' m' v u := by
 induction h with
 | undef u => exact .undef u
 | skip => exact .skip
 | int k n => exact .int k n
 | bool b => exact .bool b
 | str s => exact .str s
 | agg cs us hl h1 _ ih => exact .agg cs us hl h1 ih
 | tup cs us hl _ ih => exact .tup cs us hl ih
 | nsl => exact .nsl
 | fsl0 sz a cap => exact .fsl0 sz a cap
 | fsl sz els b off cap u hc hw hrd h1 _ ih => exact .fsl sz els b off cap u hc hw (fun i x j c e1 e2 => hr _ _ _ (hrd i x j c e1 e2)) h1 ih
 | msl id off ln b o sz C a cap hs h => exact .msl id off ln b o sz C a cap (hm.sg _ _ hs) h
 | lp t g off b h => exact .lp t g off b (hm.bt _ _ _ h)
 | ep id i off b o sz C hs => exact .ep id i off b o sz C (hm.sg _ _ hs)
 | fp cs off b o u hrd h1 _ ih => exact .fp cs off b o u (fun j c e => hr _ _ _ (hrd j c e)) h1 ih
 | nilp => exact .nilp
 | map id b o sz C hs => exact .map id b o sz C (hm.sg _ _ hs)
 | stamp id i n hs => exact .stamp id i n (hm.bo _ _ _ hs)
 | fn f cs us hl _ ih => exact .fn f cs us hl ih

def Rd (own : Nat → Prop) (w : World) : Reads := fun b o u => ¬ own b ∧ w.cell? ⟨b, o, none⟩ = some u

def CR (rd : Reads) (m : Maps) (c : V) (u : Value) : Prop := VR rd m c u ∧ u.oneCell' = true

theorem CR.mono {rd rd' : Reads} {m m' : Maps} (hr : ∀ b o u, rd b o u → rd' b o u) (hm : m.le m') {v : V} {u : Value} (h : CR rd m v u) : CR rd' m' v u := ⟨h.1.mono hr hm, h.2⟩

def ArrAt (rd : Reads) (m : Maps) (w : World) (b o sz C : Nat) (els : List (List V)) : Prop :=
 ∃ arr ty, w.heap[b]? = some (.cells arr ty (0, 0)) ∧ arr.size = o + C * sz ∧ els.length ≤ C ∧
  (∀ (i : Nat) (x : List V), els[i]? = some x → x.length = sz) ∧
  (∀ (i : Nat) (x : List V) (j : Nat) (c : V), els[i]? = some x → x[j]? = some c → ∃ u, arr[o + i * sz + j]? = some u ∧ CR rd m c u)

def MapAt (rd : Reads) (m : Maps) (w : World) (id b : Nat) (es : List (V × V)) : Prop :=
 ∃ ents clock, w.heap[b]? = some (.map ents clock) ∧ ents.size = es.length ∧
  (∀ (i : Nat) (e : V × V) (x : MapEntry), es[i]? = some e → ents[i]? = some x → VR rd m e.1 x.key ∧ VR rd m e.2 x.val ∧ m.bo id i = some x.born ∧ x.born < clock) ∧
  (∀ (i j : Nat) (x y : MapEntry), ents[i]? = some x → ents[j]? = some y → x.born = y.born → i = j) ∧
  (∀ i n, es.length ≤ i → m.bo id i = some n → False)

def BlkAt (rd : Reads) (m : Maps) (w : World) (id b o sz C : Nat) : Blk → Prop
 | .arr sz2 els => sz2 = sz ∧ ArrAt rd m w b o sz C els
 | .map es => MapAt rd m w id b es

structure HRel (own : Nat → Prop) (m : Maps) (h : Heap) (w : World) : Prop where
 blk : ∀ id x, h id = some x → ∃ b o sz C, m.sg id = some (b, o, sz, C) ∧ own b ∧ BlkAt (Rd own w) m w id b o sz C x
 inj : ∀ id id2 x y b r r2, h id = some x → h id2 = some y → m.sg id = some (b, r) → m.sg id2 = some (b, r2) → id = id2

theorem HRel.arr {own : Nat → Prop} {m : Maps} {h : Heap} {w : World} (hr : HRel own m h w) (id sz : Nat) (els : List (List V)) (hh : h id = some (.arr sz els)) :
  ∃ b o C, m.sg id = some (b, o, sz, C) ∧ own b ∧ ArrAt (Rd own w) m w b o sz C els := by
 obtain ⟨b, o, sz2, C, h1, h2, rfl, h3⟩ := hr.blk id _ hh
 exact ⟨b, o, C, h1, h2, h3⟩

theorem HRel.map {own : Nat → Prop} {m : Maps} {h : Heap} {w : World} (hr : HRel own m h w) (id : Nat) (es : List (V × V)) (hh : h id = some (.map es)) :
  ∃ b r, m.sg id = some (b, r) ∧ own b ∧ MapAt (Rd own w) m w id b es := by
 obtain ⟨b, o, sz2, C, h1, h2, h3⟩ := hr.blk id _ hh
 exact ⟨b, _, h1, h2, h3⟩

def BoxAt (rd : Reads) (m : Maps) (w : World) (b : Nat) (cs : List V) : Prop :=
 ∃ arr ty, w.heap[b]? = some (.cells arr ty (0, 0)) ∧ arr.size = cs.length ∧ ∀ (j : Nat) (c : V), cs[j]? = some c → ∃ u, arr[j]? = some u ∧ CR rd m c u

structure FRel (own : Nat → Prop) (m : Maps) (s : S) (tmps : Array Value) (w : World) : Prop where
 size : tmps.size = s.env.length
 env : ∀ (t : Nat) (v : V), s.env[t]? = some v → ∃ u, tmps[t]? = some u ∧ VR (Rd own w) m v u
 box : ∀ (t g : Nat) (cs : List V), s.bx[t]? = some (some (g, cs)) → ∃ b, m.bt t g = some b ∧ own b ∧ BoxAt (Rd own w) m w b cs
 binj : ∀ (t g : Nat) (cs : List V) (t2 g2 : Nat) (cs2 : List V) (b : Nat), s.bx[t]? = some (some (g, cs)) → s.bx[t2]? = some (some (g2, cs2)) → m.bt t g = some b → m.bt t2 g2 = some b → t = t2
 bh : ∀ (t g : Nat) (cs : List V) (id : Nat) (x : Blk) (b : Nat) (r : Nat × Nat × Nat), s.bx[t]? = some (some (g, cs)) → s.h id = some x → m.bt t g = some b → m.sg id = some (b, r) → False
 heap : HRel own m s.h w
 fin : ∃ N, (∀ i, N ≤ i → m.sg i = none) ∧ (∀ t g, N ≤ g → m.bt t g = none) ∧ (∀ i k, N ≤ i → m.bo i k = none)

def BoKeeps (m m2 : Maps) (id : Nat) : Prop := ∀ i n, m2.bo id i = some n → m.bo id i = some n

structure Cx where
 w0 : World
 m0 : Maps
 own0 : Nat → Prop
 h0 : Nat → Prop
 fr : Nat → Prop
 dom : Nat → Prop

structure Io (w w2 : World) : Prop where
 os : w2.os = w.os
 tape : w2.tape = w.tape
 output : w2.output = w.output
theorem Io.refl (w : World) : Io w w := ⟨rfl, rfl, rfl⟩
theorem Io.trans {a b c : World} (h : Io a b) (k : Io b c) : Io a c := ⟨k.os.trans h.os, k.tape.trans h.tape, k.output.trans h.output⟩

structure Keeps (cx : Cx) (own : Nat → Prop) (m : Maps) (s : S) (w : World) : Prop where
 io : Io cx.w0 w
 size : cx.w0.heap.size ≤ w.heap.size
 same : ∀ b, b < cx.w0.heap.size → ¬ cx.h0 b → w.heap[b]? = cx.w0.heap[b]?
 old : ∀ b, b < cx.w0.heap.size → own b → cx.own0 b
 maps : cx.m0.le m
 fr : ∀ b, cx.fr b → own b
 ids : ∀ id x b r, s.h id = some x → m.sg id = some (b, r) → ¬ cx.fr b ∧ (b < cx.w0.heap.size → cx.h0 b)
 bxs : ∀ (t g : Nat) (cs : List V) (b : Nat), s.bx[t]? = some (some (g, cs)) → m.bt t g = some b → cx.w0.heap.size ≤ b
 live : ∀ id x, s.h id = some x → cx.m0.sg id = none ∨ cx.dom id
 bo : ∀ id x, cx.m0.sg id = some x → ¬ cx.dom id → BoKeeps cx.m0 m id

structure Rel (cx : Cx) (own : Nat → Prop) (m : Maps) (s : S) (tmps : Array Value) (w : World) : Prop where
 f : FRel own m s tmps w
 k : Keeps cx own m s w
 frlt : ∀ b, cx.fr b → b < cx.w0.heap.size

end Go.Abs
namespace Go.Abs
open Go

/-! ### What the checker asks of operands and types -/

def constCell : V → Value → Bool
 | .int k n, .int k2 n2 => k == k2 && n == n2
 | .bool a, .bool b => a == b
 | .str a, .string b => decide (a.data.toList = b.data.toList)
 | .nsl, .slice none 0 0 => true
 | .nilp, .pointer none => true
 | .undef, u => u.oneCell'
 | _, _ => false

def constOk : V → Value → Bool
 | .agg cs, .agg us => us.size == cs.length && (cs.zip us.toList).all fun x => constCell x.1 x.2
 | v, u => constCell v u

def chkOpd : Opd → Operand → Bool
 | .t n, .tmp m => n == m
 | .c v, .const u => constOk v u
 | .c (.fn f []), .func g => f == g
 | _, _ => false

def aggB (P : Program) (t : TypeId) : Option Bool :=
 match P.underlying t with
 | some (.struct _) | some (.array _ _) => some true
 | some _ => some false
 | none => none

def sizeB (P : Program) (t : TypeId) : Option Nat := (P.info? t).map (·.size)

def tyOk (P : Program) (t : TypeId) (n : Nat) (agg : Bool) : Bool := aggB P t == some agg && sizeB P t == some n && (agg || n == 1)

section
variable {P : Program} {w : World}

theorem run_isAggB {t : TypeId} {b : Bool} (h : aggB P t = some b) : (isAgg t).run P w = .ok b w := by
 unfold aggB at h
 unfold isAgg Go.underlying
 cases hu : P.underlying t with
 | none => simp [hu] at h
 | some d => cases d <;> simp_all

theorem run_sizeB {t : TypeId} {n : Nat} (h : sizeB P t = some n) : (sizeOf t).run P w = .ok n w := by
 unfold sizeB at h
 cases hi : P.info? t with
 | none => simp [hi] at h
 | some i => simp [hi] at h; simp [sizeOf, typeInfo, hi, h]

theorem add_none (b o j : Nat) : (⟨b, o, none⟩ : Addr).add j = ⟨b, o + j, none⟩ := by unfold Addr.add; split <;> simp_all

theorem constCell_ok {rd : Reads} {m : Maps} {v : V} {u : Value} (h : constCell v u = true) : VR rd m v u ∧ u.oneCell' = true := by
 unfold constCell at h
 split at h <;> (try simp at h)
 ·obtain ⟨rfl, rfl⟩ := h; exact ⟨.int _ _, rfl⟩
 ·subst h; exact ⟨.bool _, rfl⟩
 ·rename_i a b
  have : a = b := by
   cases a; cases b; simp at h; simp [h]
  subst this; exact ⟨.str _, rfl⟩
 ·exact ⟨.nsl, rfl⟩
 ·exact ⟨.nilp, rfl⟩
 ·exact ⟨.undef _, h⟩

theorem constOk_ok {rd : Reads} {m : Maps} {v : V} {u : Value} (h : constOk v u = true) : VR rd m v u := by
 unfold constOk at h
 split at h
 ·rename_i cs us
  simp only [Bool.and_eq_true, beq_iff_eq, List.all_eq_true] at h
  obtain ⟨hl, ha⟩ := h
  have key : ∀ (i : Nat) (c : V) (u : Value), cs[i]? = some c → us[i]? = some u → constCell c u = true := by
   intro i c u hc hu
   refine ha (c, u) (List.mem_of_getElem? (i := i) ?_)
   rw [List.getElem?_zip_eq_some]
   exact ⟨hc, by simpa using hu⟩
  refine .agg cs us hl ?_ ?_
  ·intro i u hu
   have hi : i < cs.length := by
    have := (Array.getElem?_eq_some_iff.1 hu).1; omega
   exact (constCell_ok (rd := rd) (m := m) (key i cs[i] u (List.getElem?_eq_getElem hi) hu)).2
  ·exact fun i c u hc hu => (constCell_ok (key i c u hc hu)).1
 ·exact (constCell_ok h).1

end

theorem opd_ok {own : Nat → Prop} {m : Maps} {s : S} {a : Act} {w : World} (hf : FRel own m s a.tmps w) {x : Opd} {y : Operand} (h : chkOpd x y = true) :
  VR (Rd own w) m (ev s.env x) (a.eval y) := by
 unfold chkOpd at h
 split at h
 ·rename_i n k
  simp at h; subst h
  simp only [ev, Act.eval]
  by_cases hn : n < s.env.length
  ·obtain ⟨u, hu, hv⟩ := hf.env n s.env[n] (List.getElem?_eq_getElem hn)
   rw [List.getD_eq_getElem?_getD, List.getElem?_eq_getElem hn]
   simp only [Array.getD_eq_getD_getElem?, hu]
   exact hv
  ·rw [List.getD_eq_getElem?_getD, List.getElem?_eq_none (by omega)]
   exact .undef _
 ·exact constOk_ok h
 ·rename_i f g
  simp at h; subst h
  exact .fn f [] #[] rfl (by simp)
 ·cases h

theorem exists_cells {α β : Type} {p : Nat → α → β → Prop} : ∀ (l : List α) (k : Nat), (∀ j c, l[j]? = some c → ∃ u, p (k + j) c u) → ∃ us : List β, us.length = l.length ∧ ∀ j c u, l[j]? = some c → us[j]? = some u → p (k + j) c u
 | [], _, _ => ⟨[], rfl, by simp⟩
 | c :: l, k, h => by
  obtain ⟨u, hu⟩ := h 0 c rfl
  obtain ⟨us, hl, hus⟩ := exists_cells l (k + 1) (fun j c hj => by have := h (j + 1) c hj; rwa [show k + 1 + j = k + (j + 1) by omega])
  refine ⟨u :: us, by simp [hl], ?_⟩
  intro j c2 u2 h1 h2
  cases j with
  | zero => simp at h1 h2; subst h1; subst h2; exact hu
  | succ j => simp at h1 h2; have := hus j c2 u2 h1 h2; rwa [show k + (j + 1) = k + 1 + j by omega]

theorem reach {own : Nat → Prop} {m : Maps} {s : S} {tmps : Array Value} {w : World} (hf : FRel own m s tmps w) {p : V} {u : Value} (hv : VR (Rd own w) m p u) {cs : List V} {off : Nat}
  (h : cellsAt s.bx s.h p = some (cs, off)) :
  ∃ b o, u = .pointer (some ⟨b, o + off, none⟩) ∧ ∀ j c, cs[j]? = some c → ∃ x, w.cell? ⟨b, o + j, none⟩ = some x ∧ CR (Rd own w) m c x := by
 unfold cellsAt at h
 split at h
 ·rename_i t g o
  unfold boxOf at h
  split at h
  ·rename_i cs' hb
   simp at h
   obtain ⟨rfl, rfl⟩ := h
   split at hb
   ·rename_i g2 cs2 hg
    split at hb
    ·rename_i e; subst e
     simp at hb; subst hb
     have hbx : s.bx[t]? = some (some (g, cs2)) := by
      rw [List.getD_eq_getElem?_getD] at hg
      cases hh : s.bx[t]? with
      | none => simp [hh] at hg
      | some y => simp [hh] at hg; rw [hg]
     obtain ⟨b, hbt, _, arr, ty, hw, hsz, hc⟩ := hf.box t g cs2 hbx
     cases hv with
     | lp _ _ _ b' h' =>
      rw [hbt] at h'; simp at h'; subst h'
      refine ⟨b, 0, by simp, fun j c hj => ?_⟩
      obtain ⟨x, hx, hcx⟩ := hc j c hj
      exact ⟨x, by simp [World.cell?, hw, hx], hcx⟩
    ·cases hb
   ·cases hb
  ·cases h
 ·rename_i id i o
  split at h
  ·rename_i sz els hh
   split at h
   ·rename_i cs' hel
    simp at h
    obtain ⟨rfl, rfl⟩ := h
    obtain ⟨b, ob, C, hsg, _, arr, ty, hw, hsz, hle, hwd, hc⟩ := hf.heap.arr id sz els hh
    cases hv with
    | ep _ _ _ b' o' sz' C' h' =>
     rw [hsg] at h'; simp at h'; obtain ⟨rfl, rfl, rfl, rfl⟩ := h'
     refine ⟨b, ob + i * sz, by simp, fun j c hj => ?_⟩
     obtain ⟨x, hx, hcx⟩ := hc i cs' j c hel hj
     exact ⟨x, by simp [World.cell?, hw, hx], hcx⟩
   ·cases h
  ·cases h
 ·rename_i cs' o
  simp at h
  obtain ⟨rfl, rfl⟩ := h
  cases hv with
  | fp _ _ b o' u' hr h1 hf' =>
   exact ⟨b, o', rfl, fun j c hj => ⟨u' j, (hr j c hj).2, hf' j c hj, h1 j c hj⟩⟩
 ·cases h

theorem part_cells {rd : Reads} {m : Maps} {cs : List V} {us : List Value} (hl : us.length = cs.length) (hc : ∀ (j : Nat) (c : V) (u : Value), cs[j]? = some c → us[j]? = some u → CR rd m c u) {off n : Nat} {v : V}
  (h : partOf cs off n true = some v) : off + n ≤ us.length ∧ VR rd m v (.agg ((us.drop off).take n).toArray) := by
 unfold partOf at h
 split at h
 ·rename_i hle
  simp at h
  subst h
  refine ⟨by omega, .agg _ _ (by simp; omega) ?_ ?_⟩
  ·intro i u hu
   simp [List.getElem?_take] at hu
   obtain ⟨hi, hu⟩ := hu
   have hlt : off + i < cs.length := by omega
   exact (hc (off + i) cs[off + i] u (List.getElem?_eq_getElem hlt) hu).2
  ·intro i c u hci hu
   simp [List.getElem?_take] at hu hci
   exact (hc (off + i) c u hci.2 hu.2).1
 ·cases h

theorem part_cell {rd : Reads} {m : Maps} {cs : List V} {us : List Value} (hl : us.length = cs.length) (hc : ∀ (j : Nat) (c : V) (u : Value), cs[j]? = some c → us[j]? = some u → CR rd m c u) {off n : Nat} {v : V}
  (h : partOf cs off n false = some v) : ∃ u, us[off]? = some u ∧ CR rd m v u := by
 unfold partOf at h
 split at h
 ·simp at h
  have hlt : off < us.length := by
   have := (List.getElem?_eq_some_iff.1 h).1; omega
  exact ⟨us[off], List.getElem?_eq_getElem hlt, hc off v us[off] h (List.getElem?_eq_getElem hlt)⟩
 ·cases h

theorem load_ok {P : Program} {own : Nat → Prop} {m : Maps} {s : S} {tmps : Array Value} {w : World} (hf : FRel own m s tmps w) {p : V} {u : Value} (hv : VR (Rd own w) m p u) {t n : Nat} {agg : Bool}
  (ht : tyOk P t n agg = true) {v : V} (h : loadOf s.bx s.h p n agg = some v) : ∃ x, (Instr.loadAt t u).run P w = .ok x w ∧ VR (Rd own w) m v x := by
 unfold loadOf at h
 split at h
 ·rename_i cs off hca
  obtain ⟨b, o, rfl, hcell⟩ := reach hf hv hca
  obtain ⟨us, hl, hus⟩ := exists_cells (p := fun j c x => w.cell? ⟨b, o + j, none⟩ = some x ∧ CR (Rd own w) m c x) cs 0 (fun j c hj => by simpa using hcell j c hj)
  simp only [tyOk, Bool.and_eq_true, beq_iff_eq] at ht
  obtain ⟨⟨ha, hs⟩, hn⟩ := ht
  cases agg with
  | true =>
   obtain ⟨hle, hvr⟩ := part_cells (rd := Rd own w) (m := m) hl (fun j c u h1 h2 => (hus j c u h1 h2).2) h
   refine ⟨_, ?_, hvr⟩
   have hlc := run_loadCells_list (P := P) (w := w) ⟨b, o + off, none⟩ ((us.drop off).take n) (fun j x hj => by
    rw [add_none]
    simp [List.getElem?_take] at hj
    obtain ⟨hjn, hj⟩ := hj
    have hlt : off + j < cs.length := by omega
    have := (hus (off + j) cs[off + j] x (List.getElem?_eq_getElem hlt) hj).1
    rwa [show o + (0 + (off + j)) = o + off + j by omega] at this)
   rw [show ((us.drop off).take n).length = n by simp; omega] at hlc
   simp [Instr.loadAt, Instr.sureAddr, loadVar, run_isAggB ha, run_sizeB hs, hlc]
  | false =>
   obtain ⟨x, hx, hcx⟩ := part_cell (rd := Rd own w) (m := m) hl (fun j c u h1 h2 => (hus j c u h1 h2).2) h
   refine ⟨x, ?_, hcx.1⟩
   have hlt : off < cs.length := by
    have := (List.getElem?_eq_some_iff.1 hx).1; omega
   have := (hus off cs[off] x (List.getElem?_eq_getElem hlt) hx).1
   rw [show o + (0 + off) = o + off by omega] at this
   simp [Instr.loadAt, Instr.sureAddr, loadVar, run_isAggB ha, this]
 ·cases h

end Go.Abs
namespace Go.Abs
open Go

def undB (P : Program) (t : TypeId) (f : TypeDesc → Bool) : Bool :=
 match P.underlying t with
 | some d => f d
 | none => false

def isSliceOf (P : Program) (t : TypeId) (n : Nat) : Bool := undB P t fun d => match d with | .slice e => sizeB P e == some n | _ => false
def isArrayOf (P : Program) (t : TypeId) (k n : Nat) : Bool := undB P t fun d => match d with | .array m e => m == k && sizeB P e == some n | _ => false
def isArrayTy (P : Program) (t : TypeId) (k n : Nat) (agg : Bool) : Bool := undB P t fun d => match d with | .array m e => m == k && tyOk P e n agg | _ => false
def isString (P : Program) (t : TypeId) : Bool := undB P t fun d => match d with | .string => true | _ => false
def isBoolTy (P : Program) (t : TypeId) : Bool := undB P t fun d => match d with | .bool => true | _ => false
def isIntTy (P : Program) (t : TypeId) (k : IntKind) : Bool := undB P t fun d => match d with | .int j => j == k | _ => false
def fieldOk (P : Program) (t : TypeId) (f off : Nat) (g : TypeId → Bool) : Bool := undB P t fun d => match d with
 | .struct fs => match fs[f]? with
  | some x => x.offset == off && g x.type
  | none => false
 | _ => false
def zeroOk (P : Program) (t : TypeId) (zero : List V) : Bool :=
 match P.info? t with
 | some i => match i.zero with
  | some z => z.cells.size == zero.length && (zero.zip z.cells.toList).all fun x => constCell x.1 x.2
  | none => false
 | none => false

def chkOpdO : Option Opd → Option Operand → Bool
 | none, none => true
 | some x, some y => chkOpd x y
 | _, _ => false
def chkOpds : List Opd → List Operand → Bool
 | [], [] => true
 | x :: l, y :: r => chkOpd x y && chkOpds l r
 | _, _ => false

def partsOk (P : Program) (t : TypeId) : List (Nat × Nat × Opd) → List (Nat × Operand) → Bool
 | [], [] => true
 | (off, n, x) :: l, (i, y) :: r => chkOpd x y && (undB P t fun d => match d with
  | .struct fs => match fs[i]? with
   | some f => f.offset == off && sizeB P f.type == some n
   | none => false
  | .array _ e => off == i * n && sizeB P e == some n
  | _ => false) && partsOk P t l r
 | _, _ => false

def fieldsSized (P : Program) (t : TypeId) : Bool := undB P t fun d => match d with
 | .struct fs => fs.toList.all fun f => (sizeB P f.type).isSome
 | .array _ e => (sizeB P e).isSome
 | _ => false

def AVal.base : AVal → AVal
 | .ldf x n agg => .ld x n agg
 | .ldl x n agg => .ld x n agg
 | .ldh x n agg => .ld x n agg
 | .iaf x i esz => .ia x i esz
 | v => v

theorem AVal.base_eval {e : List V} {bx : List (Option (Nat × List V))} {h : Heap} {x : AVal} {v : V} (hv : x.eval e bx h = some v) : x.base.eval e bx h = some v := by
 cases x <;> simp only [AVal.base] <;> try exact hv
 case ldf x n agg =>
  simp only [AVal.eval] at hv ⊢
  split at hv
  ·rename_i hx; rw [hx]; exact hv
  ·cases hv
 case ldh x n agg =>
  simp only [AVal.eval] at hv ⊢
  split at hv
  ·rename_i hx; rw [hx]; exact hv
  ·rename_i hx; rw [hx]; exact hv
  ·cases hv
 case ldl x n agg =>
  simp only [AVal.eval] at hv ⊢
  split at hv
  ·rename_i hx; rw [hx]
   split at hv
   ·rename_i hb; simp only [loadOf, cellsAt, hb]; exact hv
   ·cases hv
  ·rename_i hx; rw [hx]; exact hv
  ·cases hv
 case iaf x i esz =>
  simp only [AVal.eval] at hv ⊢
  split at hv
  ·rename_i hi
   split at hv
   ·rename_i hx; rw [hx]; exact hv
   ·cases hv
  ·cases hv

def keyOk (P : Program) (t : TypeId) (ks : Nat) : Bool := undB P t fun d => match ks, d with
 | 0, .int _ => true
 | 1, .string => true
 | 2, .array n e => n == 2 && tyOk P e 1 false && undB P e fun d => match d with | .int _ => true | _ => false
 | _, _ => false

def zero1Ok (P : Program) (t : TypeId) (z : V) : Bool := match P.info? t with
 | some i => match i.zero with
  | some u => constCell z u
  | none => false
 | none => false
def mapOk (P : Program) (t : TypeId) (ks : Nat) (z : V) : Bool := undB P t fun d => match d with
 | .map kt et => keyOk P kt ks && zero1Ok P et z
 | _ => false

def mapKeyOk (P : Program) (t : TypeId) (ks : Nat) : Bool := undB P t fun d => match d with
 | .map kt _ => keyOk P kt ks
 | _ => false

def eqTyOk (P : Program) (t : TypeId) (n : Nat) : Bool := undB P t fun d => match d with
 | .struct fs => match fs.toList with
  | [f] => f.name != "_" && f.offset == 0 && tyOk P f.type n true && (undB P f.type fun d => match d with | .array m e => m == n && tyOk P e 1 false && isIntTy P e .i64 | _ => false) && !P.stoodInHeld t && !P.eqGuardType P.depth t
  | _ => false
 | _ => false

def chkVal0 (P : Program) : AVal → Op → Bool
 | .mv x, .move y => chkOpd x y
 | .mv x, .assign y => chkOpd x y
 | .pick c a b, .pick c2 a2 b2 => chkOpd c c2 && chkOpd a a2 && chkOpd b b2
 | .bin op x y, .binOp op2 _ x2 y2 _ => op == op2 && chkOpd x x2 && chkOpd y y2
 | .beq neg x y, .binOp op2 t x2 y2 _ => op2 == (if neg then .neq else .eql) && isBoolTy P t && chkOpd x x2 && chkOpd y y2
 | .aeq n neg x y, .binOp op2 t x2 y2 _ => op2 == (if neg then .neq else .eql) && eqTyOk P t n && chkOpd x x2 && chkOpd y y2
 | .un op x, .unOp op2 _ x2 => op == op2 && chkOpd x x2
 | .build zero parts, .build t ps => zeroOk P t zero && fieldsSized P t && partsOk P t parts ps.toList
 | .fld x off n agg, .field t x2 f => chkOpd x x2 && fieldOk P t f off fun u => tyOk P u n agg
 | .fa x off, .fieldAddr t x2 f => chkOpd x x2 && fieldOk P t f off fun u => match sizeB P u with | some n => n != 0 | none => false
 | .ia x i esz, .indexAddr t x2 i2 => chkOpd x x2 && chkOpd i i2 && isSliceOf P t esz
 | .iaa x i n esz, .indexAddr t x2 i2 => chkOpd x x2 && chkOpd i i2 && isArrayOf P t n esz
 | .ix x i n esz agg, .index t x2 i2 => chkOpd x x2 && chkOpd i i2 && isArrayTy P t n esz agg
 | .ixs x i, .index t x2 i2 => chkOpd x x2 && chkOpd i i2 && isString P t
 | .ld x n agg, .load t x2 => chkOpd x x2 && tyOk P t n agg
 | .nc x, .nilCheck x2 => chkOpd x x2
 | .ext x k, .extract x2 k2 => chkOpd x x2 && k == k2
 | .mkf f caps, .makeFunc (.func f2) first caps2 => f == f2 && first.isEmpty && chkOpds caps caps2.toList
 | .slc x lo hi esz, .slice t x2 lo2 hi2 none => chkOpd x x2 && chkOpdO lo lo2 && chkOpdO hi hi2 && isSliceOf P t esz
 | .slcs x lo hi, .slice t x2 lo2 hi2 none => chkOpd x x2 && chkOpdO lo lo2 && chkOpdO hi hi2 && isString P t
 | .conv k x, .convert s t x2 => chkOpd x x2 && isIntTy P t k && undB P s fun _ => true
 | .len x, .call { callee := .builtin .len, args := as, argTypes := ts } => match as.toList, ts.toList with
  | [y], [t] => chkOpd x y && undB P t fun d => match d with | .slice _ => true | _ => false
  | _, _ => false
 | .lens x, .call { callee := .builtin .len, args := as, argTypes := ts } => match as.toList, ts.toList with
  | [y], [t] => chkOpd x y && isString P t
  | _, _ => false
 | .mx x y, .call { callee := .builtin .max, args := as, argTypes := _ } => match as.toList with
  | [a, b] => chkOpd x a && chkOpd y b
  | _ => false
 | .mn x y, .call { callee := .builtin .min, args := as, argTypes := _ } => match as.toList with
  | [a, b] => chkOpd x a && chkOpd y b
  | _ => false
 | .lookup ks m k z, .lookup t m2 k2 false => chkOpd m m2 && chkOpd k k2 && mapOk P t ks z
 | .lookupOk ks m k z, .lookup t m2 k2 true => chkOpd m m2 && chkOpd k k2 && mapOk P t ks z
 | _, _ => false

def chkVal (P : Program) (x : AVal) (op : Op) : Bool := chkVal0 P x.base op

section
variable {P : Program}

theorem run_und {w : World} {t : TypeId} {d : TypeDesc} (h : P.underlying t = some d) : (Go.underlying t).run P w = .ok d w := by
 simp [Go.underlying, h]

theorem undB_some {t : TypeId} {f : TypeDesc → Bool} (h : undB P t f = true) : ∃ d, P.underlying t = some d ∧ f d = true := by
 unfold undB at h
 split at h
 ·rename_i d hd; exact ⟨d, hd, h⟩
 ·cases h

theorem zero_run {w : World} {t : TypeId} {zero : List V} (h : zeroOk P t zero = true) {rd : Reads} {m : Maps} : ∃ z, (zeroValue t).run P w = .ok z w ∧ z.cells.size = zero.length ∧
  ∀ (i : Nat) (c : V) (u : Value), zero[i]? = some c → z.cells[i]? = some u → CR rd m c u := by
 unfold zeroOk at h
 split at h
 ·rename_i inf hi
  split at h
  ·rename_i z hz
   simp only [Bool.and_eq_true, beq_iff_eq, List.all_eq_true] at h
   refine ⟨z, by simp [zeroValue, typeInfo, hi, hz], h.1, ?_⟩
   intro i c u hc hu
   refine constCell_ok (h.2 (c, u) (List.mem_of_getElem? (i := i) ?_))
   rw [List.getElem?_zip_eq_some]
   exact ⟨hc, by simpa using hu⟩
  ·cases h
 ·cases h

theorem opdO_ok {own : Nat → Prop} {m : Maps} {s : S} {a : Act} {w : World} (hf : FRel own m s a.tmps w) {x : Option Opd} {y : Option Operand} (h : chkOpdO x y = true) :
  (x = none ∧ y = none) ∨ ∃ p q, x = some p ∧ y = some q ∧ VR (Rd own w) m (ev s.env p) (a.eval q) := by
 unfold chkOpdO at h
 split at h
 ·exact .inl ⟨rfl, rfl⟩
 ·exact .inr ⟨_, _, rfl, rfl, opd_ok hf h⟩
 ·cases h

theorem opds_ok {own : Nat → Prop} {m : Maps} {s : S} {a : Act} {w : World} (hf : FRel own m s a.tmps w) : ∀ {xs : List Opd} {ys : List Operand}, chkOpds xs ys = true →
  ys.length = xs.length ∧ ∀ (i : Nat) (v : V) (u : Value), (xs.map (ev s.env))[i]? = some v → (ys.map a.eval)[i]? = some u → VR (Rd own w) m v u
 | [], [], _ => ⟨rfl, by simp⟩
 | x :: xs, y :: ys, h => by
  simp only [chkOpds, Bool.and_eq_true] at h
  obtain ⟨hl, hr⟩ := opds_ok hf h.2
  refine ⟨by simp [hl], ?_⟩
  intro i v u hv hu
  cases i with
  | zero => simp at hv hu; subst hv; subst hu; exact opd_ok hf h.1
  | succ i => exact hr i v u (by simpa using hv) (by simpa using hu)
 | [], _ :: _, h => by simp [chkOpds] at h
 | _ :: _, [], h => by simp [chkOpds] at h

theorem bits_ok {rd : Reads} {m : Maps} {w : World} {op : BinOp} {k : IntKind} {x y : Int} {v : V} (h : bitsOf op k x y = some v) : ∃ u, (Op.intBits op k x y).run P w = .ok u w ∧ VR rd m v u := by
 unfold bitsOf at h
 split at h <;> simp at h <;> subst h <;> exact ⟨_, by simp [Op.intBits], .int _ _⟩

theorem int_ok {rd : Reads} {m : Maps} {w : World} {op : BinOp} {t : TypeId} {k : IntKind} {x y : Int} {v : V} (h1 : op ≠ .shl) (h2 : op ≠ .shr) (h : intOf op k x y = some v) :
  ∃ u, (Go.binOp op t (.int k x) (.int k y)).run P w = .ok u w ∧ VR rd m v u := by
 cases op <;> simp only [intOf] at h
 case shl => exact absurd rfl h1
 case shr => exact absurd rfl h2
 case quo | rem =>
  split at h
  ·cases h
  ·rename_i hy; simp at h; subst h; exact ⟨_, by simp [Go.binOp, Op.intDiv, hy], .int _ _⟩
 case and | or | xor | andNot =>
  obtain ⟨u, hu, hv⟩ := bits_ok (P := P) (w := w) (rd := rd) (m := m) h
  exact ⟨u, by simpa only [Go.binOp, ne_eq, not_true_eq_false, if_false] using hu, hv⟩
 case add | sub | mul => simp at h; subst h; exact ⟨_, by simp [Go.binOp, Op.intArith], .int _ _⟩
 all_goals (simp at h; subst h; exact ⟨_, by simp [Go.binOp, Op.intCmp], .bool _⟩)

theorem bin_ok {rd : Reads} {m : Maps} {w : World} {op : BinOp} {t : TypeId} {x y : V} {a b : Value} (ha : VR rd m x a) (hb : VR rd m y b) {v : V} (h : binOf op x y = some v) :
  ∃ u, (Go.binOp op t a b).run P w = .ok u w ∧ VR rd m v u ∧ (∀ p q, (Go.eqGuard op t p q a b).run P w = .ok () w) := by
 unfold binOf at h
 split at h
 ·rename_i k x k2 y
  cases ha; cases hb
  have hg : ∀ p q, (Go.eqGuard op t p q (.int k x) (.int k2 y)).run P w = .ok () w := fun p q => by unfold Go.eqGuard; cases op <;> simp
  split at h
  ·unfold shiftOf at h
   split at h
   ·cases h
   ·rename_i hy
    simp at h; subst h
    exact ⟨_, by simp [Go.binOp, Op.shift, hy], .int _ _, hg⟩
  ·unfold shiftOf at h
   split at h
   ·cases h
   ·rename_i hy
    simp at h; subst h
    exact ⟨_, by simp [Go.binOp, Op.shift, hy], .int _ _, hg⟩
  ·rename_i op h1 h2
   split at h
   ·rename_i hk; subst hk
    obtain ⟨u, hu, hv⟩ := int_ok (P := P) (w := w) (rd := rd) (m := m) (t := t) h1 h2 h
    exact ⟨u, hu, hv, hg⟩
   ·cases h
 ·rename_i x y
  cases ha; cases hb
  have hg : ∀ p q, (Go.eqGuard op t p q (.string x) (.string y)).run P w = .ok () w := fun p q => by unfold Go.eqGuard; cases op <;> simp
  cases op <;> simp only [strOf] at h
  case add =>
   split at h
   ·rename_i hle
    simp at h; subst h
    refine ⟨_, ?_, .str _, hg⟩
    have : ¬ (((x.size + y.size : Nat) : Int) > IntKind.i64.max) := by
     have : IntKind.i64.max = 9223372036854775807 := by decide
     omega
    simp only [Go.binOp, Op.stringOp, this, if_false, Sem.run_pure]
   ·cases h
  all_goals first | (simp at h; done) | (simp at h; subst h; exact ⟨_, by simp [Go.binOp, Op.stringOp], .bool _, hg⟩)
 ·cases h

theorem un_ok {rd : Reads} {m : Maps} {w : World} {op : UnOp} {x : V} {a : Value} (ha : VR rd m x a) {v : V} (h : unOf op x = some v) : ∃ u, (Op.unary op a).run P w = .ok u w ∧ VR rd m v u := by
 unfold unOf at h
 split at h
 ·cases ha
  split at h
  ·simp at h; subst h; exact ⟨_, by simp [Op.unary, Op.intArith], .int _ _⟩
  ·obtain ⟨u, hu, hv⟩ := bits_ok (P := P) (w := w) (rd := rd) (m := m) h
   exact ⟨u, by simpa [Op.unary] using hu, hv⟩
  ·cases h
 ·cases ha
  split at h
  ·simp at h; subst h; exact ⟨_, by simp [Op.unary], .bool _⟩
  ·cases h
 ·cases h

end
end Go.Abs
namespace Go.Abs
open Go
section
variable {P : Program}

theorem fieldOk_some {t : TypeId} {f off : Nat} {g : TypeId → Bool} (h : fieldOk P t f off g = true) : ∃ fs x, P.underlying t = some (.struct fs) ∧ fs[f]? = some x ∧ x.offset = off ∧ g x.type = true := by
 obtain ⟨d, hd, h⟩ := undB_some h
 cases d <;> simp at h
 rename_i fs
 split at h
 ·rename_i x hx
  simp at h
  exact ⟨fs, x, hd, hx, h.1, h.2⟩
 ·cases h

theorem slice_some {t : TypeId} {n : Nat} (h : isSliceOf P t n = true) : ∃ e, P.underlying t = some (.slice e) ∧ sizeB P e = some n := by
 obtain ⟨d, hd, h⟩ := undB_some h
 cases d <;> simp at h
 exact ⟨_, hd, h⟩

theorem array_some {t : TypeId} {k n : Nat} (h : isArrayOf P t k n = true) : ∃ e, P.underlying t = some (.array k e) ∧ sizeB P e = some n := by
 obtain ⟨d, hd, h⟩ := undB_some h
 cases d <;> simp at h
 obtain ⟨rfl, h2⟩ := h
 exact ⟨_, hd, h2⟩

theorem tyOk_some {t : TypeId} {n : Nat} {agg : Bool} (h : tyOk P t n agg = true) : aggB P t = some agg ∧ sizeB P t = some n ∧ (agg = false → n = 1) := by
 simp only [tyOk, Bool.and_eq_true, beq_iff_eq, Bool.or_eq_true] at h
 exact ⟨h.1.1, h.1.2, fun e => by simpa [e] using h.2⟩

theorem part_ok {rd : Reads} {m : Maps} {w : World} {cs : List V} {us : Array Value} (hl : us.size = cs.length) (hc : ∀ (j : Nat) (c : V) (u : Value), cs[j]? = some c → us[j]? = some u → CR rd m c u)
  {t off n : Nat} {agg : Bool} (ht : tyOk P t n agg = true) {v : V} (h : partOf cs off n agg = some v) : ∃ u, (part t us off).run P w = .ok u w ∧ VR rd m v u := by
 obtain ⟨ha, hs, _⟩ := tyOk_some ht
 cases agg with
 | true =>
  obtain ⟨hle, hv⟩ := part_cells (rd := rd) (m := m) (us := us.toList) (by simpa using hl) (fun j c u h1 h2 => hc j c u h1 (by simpa using h2)) h
  refine ⟨_, ?_, hv⟩
  simp only [part, Sem.run_bind, run_isAggB ha, Result.andThen_ok, if_true, run_sizeB hs, Sem.run_pure]
  congr 2
  apply Array.ext'
  simp
 | false =>
  obtain ⟨u, hu, hv⟩ := part_cell (rd := rd) (m := m) (us := us.toList) (by simpa using hl) (fun j c u h1 h2 => hc j c u h1 (by simpa using h2)) h
  refine ⟨u, ?_, hv.1⟩
  have hu' : us[off]? = some u := by simpa using hu
  simp [part, run_isAggB ha, hu']

theorem int_inv {rd : Reads} {m : Maps} {k : IntKind} {n : Int} {u : Value} (h : VR rd m (.int k n) u) : u = .int k n := by cases h; rfl

theorem fieldAt_ok {w : World} {t f off : Nat} (h : fieldOk P t f off (fun u => match sizeB P u with | some n => n != 0 | none => false) = true) (b o : Nat) :
  (Instr.fieldAt t (.pointer (some ⟨b, o, none⟩)) f).run P w = .ok (.pointer (some ⟨b, o + off, none⟩)) w := by
 obtain ⟨fs, x, hu, hx, rfl, hg⟩ := fieldOk_some h
 split at hg
 ·rename_i n hn
  have hn0 : n ≠ 0 := by simpa using hg
  simp [Instr.fieldAt, run_und hu, hx, Instr.sureAddr, fieldPlace, run_sizeB hn, hn0, add_none]
 ·cases hg

theorem indexAt_slice {w : World} {t e n : Nat} (hu : P.underlying t = some (.slice e)) (hs : sizeB P e = some n) {k : IntKind} {i : Int} {b o len cap : Nat} (h0 : 0 ≤ i) (h1 : i < len) :
  (Instr.indexAt t (.slice (some ⟨b, o, none⟩) len cap) (.int k i)).run P w = .ok (.pointer (some ⟨b, o + i.toNat * n, none⟩)) w := by
 simp [Instr.indexAt, asIntOf, run_und hu, h0, h1, run_sizeB hs, add_none]

theorem indexAt_array {w : World} {t e n len : Nat} (hu : P.underlying t = some (.array len e)) (hs : sizeB P e = some n) {k : IntKind} {i : Int} {b o : Nat} (h0 : 0 ≤ i) (h1 : i < len) :
  (Instr.indexAt t (.pointer (some ⟨b, o, none⟩)) (.int k i)).run P w = .ok (.pointer (some ⟨b, o + i.toNat * n, none⟩)) w := by
 simp [Instr.indexAt, asIntOf, run_und hu, Instr.sureAddr, h0, h1, run_sizeB hs, add_none]

theorem over_get (cs ds : List V) (off i : Nat) (h : off + ds.length ≤ cs.length) : (over cs off ds)[i]? = if off ≤ i ∧ i < off + ds.length then ds[i - off]? else cs[i]? := by
 unfold over
 rw [List.append_assoc, List.getElem?_append]
 simp only [List.length_take, show min off cs.length = off by omega]
 split
 ·rename_i hi
  rw [if_neg (by omega), List.getElem?_take, if_pos hi]
 ·rename_i hi
  rw [List.getElem?_append]
  split
  ·rename_i h2; rw [if_pos (by omega)]
  ·rename_i h2
   rw [if_neg (by omega), List.getElem?_drop]
   congr 1; omega

theorem over_length (cs ds : List V) (off : Nat) (h : off + ds.length ≤ cs.length) : (over cs off ds).length = cs.length := by
 unfold over; simp; omega

theorem cells_ok {rd : Reads} {m : Maps} {v : V} {u : Value} (hv : VR rd m v u) {cs : List V} (h : cellsOf v = some cs) : u.cells.size = cs.length ∧
  ∀ (i : Nat) (c : V) (x : Value), cs[i]? = some c → u.cells[i]? = some x → CR rd m c x := by
 have hv' := hv
 cases hv <;> simp [cellsOf] at h <;> (try subst h)
 case agg us hl h1 hf => exact ⟨hl, fun i c x hc hx => ⟨hf i c x hc hx, h1 i x hx⟩⟩
 all_goals
  refine ⟨rfl, ?_⟩
  intro i c x hc hx
  cases i with
  | succ i => simp at hc
  | zero =>
   simp [Value.cells] at hc hx
   subst hc; subst hx
   exact ⟨hv', rfl⟩

theorem foldl_set (n : Nat) : ∀ (l : List Value) (k off : Nat) (cells : Array Value), l.length = n → ∀ i, ((l.zipIdx k).foldl (fun cs (x : Value × Nat) => cs.setIfInBounds (off + x.2) x.1) cells)[i]? =
  if off + k ≤ i ∧ i < off + k + l.length ∧ i < cells.size then l[i - (off + k)]? else cells[i]? := by
 induction n with
 | zero =>
  intro l k off cells hl i
  have : l = [] := List.eq_nil_of_length_eq_zero hl
  subst this
  simp
  omega
 | succ n ih =>
  intro l k off cells hl i
  cases l with
  | nil => simp at hl
  | cons v l =>
   simp only [List.length_cons, Nat.add_right_cancel_iff] at hl
   simp only [List.zipIdx_cons, List.foldl_cons]
   rw [ih l (k + 1) off _ hl i]
   simp only [Array.size_setIfInBounds, List.length_cons]
   by_cases h1 : off + (k + 1) ≤ i ∧ i < off + (k + 1) + l.length ∧ i < cells.size
   ·rw [if_pos h1, if_pos (by omega)]
    rw [show i - (off + k) = (i - (off + (k + 1))) + 1 by omega, List.getElem?_cons_succ]
   ·rw [if_neg h1]
    by_cases h2 : i = off + k
    ·subst h2
     by_cases h3 : off + k < cells.size
     ·rw [if_pos (by omega)]; simp [h3]
     ·rw [if_neg (by omega)]; simp [h3]
    ·rw [if_neg (by omega), Array.getElem?_setIfInBounds_ne (by omega)]

theorem fold_size (l : List (Value × Nat)) : ∀ (cells : Array Value) (off : Nat), (l.foldl (fun cs (x : Value × Nat) => cs.setIfInBounds (off + x.2) x.1) cells).size = cells.size := by
 induction l with
 | nil => intro cells off; rfl
 | cons x l ih => intro cells off; simp [ih]

theorem fill_ok {own : Nat → Prop} {m : Maps} {s : S} {a : Act} {w : World} (hf : FRel own m s a.tmps w) (place : Nat → Option (Nat × Nat)) :
  ∀ (ps : List (Nat × Nat × Opd)) (qs : List (Nat × Operand)) (cs : List V) (us : Array Value) (out : List V), ps.length = qs.length →
   (∀ (i off n : Nat) (x : Opd) (j : Nat) (y : Operand), ps[i]? = some (off, n, x) → qs[i]? = some (j, y) → chkOpd x y = true ∧ place j = some (off, n)) →
   us.size = cs.length → (∀ (i : Nat) (c : V) (u : Value), cs[i]? = some c → us[i]? = some u → CR (Rd own w) m c u) → Abs.fill s.env cs ps = some out →
   ∃ res, Instr.fill place us (qs.map fun x => (x.1, a.eval x.2)) = some res ∧ res.size = out.length ∧ ∀ (i : Nat) (c : V) (u : Value), out[i]? = some c → res[i]? = some u → CR (Rd own w) m c u
 | [], qs, cs, us, out, hl, _, hs, hc, h => by
  have : qs = [] := List.eq_nil_of_length_eq_zero hl.symm
  subst this
  simp [Abs.fill] at h; subst h
  exact ⟨us, rfl, hs, hc⟩
 | (off, n, x) :: ps, [], _, _, _, hl, _, _, _, _ => by simp at hl
 | (off, n, x) :: ps, (j, y) :: qs, cs, us, out, hl, hp, hs, hc, h => by
  obtain ⟨hxy, hpl⟩ := hp 0 off n x j y rfl rfl
  simp only [Abs.fill] at h
  split at h
  ·rename_i ds hds
   split at h
   ·rename_i hle
    obtain ⟨hdn, hle⟩ := hle
    obtain ⟨hsz, hcs⟩ := cells_ok (opd_ok hf hxy) hds
    have hsz2 : ((a.eval y).cells.toList.zipIdx.foldl (fun cs (x : Value × Nat) => cs.setIfInBounds (off + x.2) x.1) us).size = us.size := fold_size _ us off
    have hget : ∀ i, ((a.eval y).cells.toList.zipIdx.foldl (fun cs (x : Value × Nat) => cs.setIfInBounds (off + x.2) x.1) us)[i]? = if off ≤ i ∧ i < off + ds.length then (a.eval y).cells[i - off]? else us[i]? := by
     intro i
     rw [foldl_set _ _ 0 off us rfl i]
     simp only [Nat.add_zero, Array.length_toList, hsz, Array.getElem?_toList]
     by_cases h1 : off ≤ i ∧ i < off + ds.length
     ·rw [if_pos (by omega), if_pos h1]
     ·rw [if_neg (by omega), if_neg h1]
    obtain ⟨res, hr, hrs, hrc⟩ := fill_ok hf place ps qs (over cs off ds) ((a.eval y).cells.toList.zipIdx.foldl (fun cs (x : Value × Nat) => cs.setIfInBounds (off + x.2) x.1) us) out (by simpa using hl)
     (fun i off n x j y h1 h2 => hp (i + 1) off n x j y (by simpa using h1) (by simpa using h2))
     (by rw [hsz2, over_length _ _ _ (by omega)]; exact hs)
     (by
      intro i c u hci hui
      rw [hget] at hui
      rw [over_get _ _ _ _ (by omega)] at hci
      split at hci
      ·rename_i hi; rw [if_pos hi] at hui; exact hcs _ c u hci hui
      ·rename_i hi; rw [if_neg hi] at hui; exact hc _ c u hci hui) h
    refine ⟨res, ?_, hrs, hrc⟩
    simp only [List.map_cons, Instr.fill, hpl]
    rw [if_neg (by simp; omega)]
    rw [← hr]
    congr 1
    rw [← Array.foldl_toList, Array.toList_zipIdx]
   ·cases h
  ·cases h
end
end Go.Abs
namespace Go.Abs
open Go

def keyVal : V → Value
 | .int k n => .int k n
 | .str s => .string s
 | .agg [.int k a, .int k2 b] => .agg #[.int k a, .int k2 b]
 | _ => Go.undef

theorem keyVal_of {rd : Reads} {m : Maps} {ks : Nat} {v : V} {u : Value} (hk : keyIs ks v = true) (hv : VR rd m v u) : u = keyVal v := by
 unfold keyIs at hk
 split at hk
 ·cases hv; rfl
 ·cases hv; rfl
 ·rename_i k a k2 b
  cases hv with
  | agg _ us hl h1 hf =>
   obtain ⟨l⟩ := us
   match l, hl with
   | [u1, u2], _ =>
    have e1 := hf 0 _ u1 rfl rfl
    have e2 := hf 1 _ u2 rfl rfl
    cases e1; cases e2; rfl
 ·cases hk

variable {P : Program} {w : World}

theorem part_run {t : TypeId} {us : Array Value} {i : Nat} {u : Value} (ht : tyOk P t 1 false = true) (hu : us[i]? = some u) : (part t us i).run P w = .ok u w := by
 simp only [tyOk, Bool.and_eq_true, beq_iff_eq] at ht
 simp [part, run_isAggB ht.1.1, hu]

theorem keyIs_same {ks : Nat} {k k2 : V} {b : Bool} (hk : keyIs ks k = true) (he : keyEq k k2 = some b) : keyIs ks k2 = true := by
 unfold keyEq at he
 split at he
 ·unfold keyIs at hk ⊢; split at hk <;> simp_all
 ·unfold keyIs at hk ⊢; split at hk <;> simp_all
 ·unfold keyIs at hk ⊢; split at hk <;> simp_all
 ·cases he

theorem checkKey_run {t : TypeId} {ks : Nat} {k : V} {empty : Bool} (ht : keyOk P t ks = true) (hk : keyIs ks k = true) (n : Nat) : (Instr.checkKey empty (n + 2) t (keyVal k)).run P w = .ok () w := by
 obtain ⟨d, hd, hm⟩ := undB_some ht
 unfold keyIs at hk
 split at hk
 ·cases d <;> simp at hm
  simp [Instr.checkKey, run_und hd, keyVal]
 ·cases d <;> simp at hm
  simp [Instr.checkKey, run_und hd, keyVal]
 ·rename_i k1 a k2 b
  cases d <;> simp at hm
  rename_i n2 e
  obtain ⟨⟨rfl, he⟩, hu⟩ := hm
  obtain ⟨d2, hd2, hm2⟩ := undB_some hu
  cases d2 <;> simp at hm2
  have hs : sizeB P e = some 1 := by simp only [tyOk, Bool.and_eq_true, beq_iff_eq] at he; exact he.1.2
  simp only [keyVal]
  unfold Instr.checkKey
  have p0 : (part e #[Value.int k1 a, Value.int k2 b] 0).run P w = .ok (.int k1 a) w := part_run he rfl
  have p1 : (part e #[Value.int k1 a, Value.int k2 b] 1).run P w = .ok (.int k2 b) w := part_run he rfl
  have c : ∀ (n : Nat) (k : IntKind) (x : Int), (Instr.checkKey empty (n + 1) e (.int k x)).run P w = .ok () w := by
   intro n k x; simp [Instr.checkKey, run_und hd2]
  simp [run_und hd, run_sizeB hs, p0, p1, c, Std.Legacy.Range.forIn_eq_forIn_range', Std.Legacy.Range.size, List.range']
 ·cases hk

theorem equal_run {t : TypeId} {ks : Nat} {k k2 : V} {b : Bool} (ht : keyOk P t ks = true) (hk : keyIs ks k = true) (he : keyEq k k2 = some b) (n : Nat) : (Op.equalIn (n + 2) t (keyVal k) (keyVal k2)).run P w = .ok b w := by
 obtain ⟨d, hd, hm⟩ := undB_some ht
 unfold keyEq at he
 split at he
 ·split at he
  ·rename_i hkk
   subst hkk
   unfold keyIs at hk; split at hk <;> simp at *
   cases d <;> simp at hm
   simp [Op.equalIn, run_und hd, keyVal, he]
  ·cases he
 ·rename_i s1 s2
  unfold keyIs at hk; split at hk <;> simp at *
  cases d <;> simp at hm
  simp [Op.equalIn, run_und hd, keyVal, he]
 ·rename_i k1 a k2 b k3 c k4 d2
  split at he
  ·rename_i hkk
   obtain ⟨rfl, rfl⟩ := hkk
   unfold keyIs at hk; split at hk <;> simp at *
   cases d <;> simp at hm
   rename_i n2 e
   obtain ⟨⟨rfl, hte⟩, hu⟩ := hm
   obtain ⟨d3, hd3, hm3⟩ := undB_some hu
   cases d3 <;> simp at hm3
   have hs : sizeB P e = some 1 := by simp only [tyOk, Bool.and_eq_true, beq_iff_eq] at hte; exact hte.1.2
   have p0 : (part e #[Value.int k1 a, Value.int k2 b] 0).run P w = .ok (.int k1 a) w := part_run hte rfl
   have p1 : (part e #[Value.int k1 a, Value.int k2 b] 1).run P w = .ok (.int k2 b) w := part_run hte rfl
   have q0 : (part e #[Value.int k1 c, Value.int k2 d2] 0).run P w = .ok (.int k1 c) w := part_run hte rfl
   have q1 : (part e #[Value.int k1 c, Value.int k2 d2] 1).run P w = .ok (.int k2 d2) w := part_run hte rfl
   have c0 : ∀ (n : Nat) (k : IntKind) (x y : Int), (Op.equalIn (n + 1) e (.int k x) (.int k y)).run P w = .ok (x == y) w := by
    intro n k x y; simp [Op.equalIn, run_und hd3]
   simp only [keyVal]
   unfold Op.equalIn
   subst he
   simp only [Sem.run_bind, run_und hd, Result.andThen_ok, run_sizeB hs, Std.Legacy.Range.forIn_eq_forIn_range', Std.Legacy.Range.size, Nat.sub_zero, Nat.add_sub_cancel, Nat.div_one, List.range'_succ, List.range'_zero, List.forIn_cons, List.forIn_nil, Nat.zero_mul, Nat.zero_add, Nat.one_mul, p0, q0, c0]
   cases hac : (a == c) <;> cases hbd : (b == d2) <;> simp [p1, q1, c0, hbd]
  ·cases he
 ·cases he

theorem sameNow_run {d : TypeDesc} {k k2 : V} {b : Bool} (he : keyEq k k2 = some b) (hd : (∃ kk, d = .int kk) ∧ (∃ k1 a, k = .int k1 a) ∨ d = .string ∧ ∃ s, k = .str s) : Instr.sameNow d (keyVal k) (keyVal k2) = some b := by
 unfold keyEq at he
 split at he
 ·split at he
  ·rename_i hkk; subst hkk
   rcases hd with ⟨⟨kk, rfl⟩, _⟩ | ⟨_, s, hs⟩
   ·simpa [keyVal, Instr.sameNow] using he
   ·cases hs
  ·cases he
 ·rcases hd with ⟨_, _, _, hs⟩ | ⟨rfl, _⟩
  ·cases hs
  ·simpa [keyVal, Instr.sameNow] using he
 ·rcases hd with ⟨_, _, _, hs⟩ | ⟨_, _, hs⟩ <;> cases hs
 ·cases he

def EntsOf (es : List (V × V)) (ents : List MapEntry) : Prop := ents.length = es.length ∧ ∀ (i : Nat) (e : V × V) (x : MapEntry), es[i]? = some e → ents[i]? = some x → ∀ ks, keyIs ks e.1 = true → x.key = keyVal e.1

def Found (ents : List MapEntry) (o : Nat) (q : Option (Nat × Value)) : Option Nat → Prop
 | none => q = none
 | some i => ∃ x, ents[i]? = some x ∧ q = some (i + o, x.val)

theorem findNow_run {d : TypeDesc} {ks : Nat} {k : V} (hk : keyIs ks k = true) (hd : (∃ kk, d = .int kk) ∧ (∃ k1 a, k = .int k1 a) ∨ d = .string ∧ ∃ s, k = .str s) : ∀ (es : List (V × V)) (ents : List MapEntry) (o : Nat) (r : Option Nat), EntsOf es ents → findKey k es = some r →
  ∃ q, Instr.findNow d (keyVal k) ents o = some q ∧ Found ents o q r
 | [], ents, o, r, he, hf => by
  have : ents = [] := List.eq_nil_of_length_eq_zero he.1
  subst this
  simp [findKey] at hf; subst hf
  exact ⟨none, rfl, rfl⟩
 | e :: es, [], _, _, he, _ => by cases he.1
 | e :: es, x :: ents, o, r, he, hf => by
  have he2 : EntsOf es ents := ⟨by simpa using he.1, fun i e x a b => he.2 (i + 1) e x a b⟩
  simp only [findKey] at hf
  have hx : ∀ b, keyEq k e.1 = some b → x.key = keyVal e.1 := fun b hb => he.2 0 e x rfl rfl ks (keyIs_same hk hb)
  cases hq : keyEq k e.1 with
  | none => rw [hq] at hf; cases hf
  | some b =>
   rw [hq] at hf
   have hs := sameNow_run hq hd
   cases b with
   | true =>
    simp at hf; subst hf
    refine ⟨some (o, x.val), by simp only [Instr.findNow, hx _ hq, hs], x, rfl, by simp⟩
   | false =>
    simp only [Option.map_eq_some_iff] at hf
    obtain ⟨r2, h2, rfl⟩ := hf
    obtain ⟨q, e1, e2⟩ := findNow_run hk hd es ents (o + 1) r2 he2 h2
    refine ⟨q, by simp only [Instr.findNow, hx _ hq, hs, e1], ?_⟩
    cases r2 with
    | none => exact e2
    | some i => obtain ⟨y, h3, h4⟩ := e2; exact ⟨y, by simpa using h3, by rw [h4]; simp; omega⟩

theorem findAsking_run {t : TypeId} {ks : Nat} {k : V} (ht : keyOk P t ks = true) (hk : keyIs ks k = true) : ∀ (es : List (V × V)) (ents : List MapEntry) (o : Nat) (r : Option Nat), EntsOf es ents → findKey k es = some r →
  ∃ q, (Instr.findAsking t (keyVal k) ents o).run P w = .ok q w ∧ Found ents o q r
 | [], ents, o, r, he, hf => by
  have : ents = [] := List.eq_nil_of_length_eq_zero he.1
  subst this
  simp [findKey] at hf; subst hf
  exact ⟨none, by simp [Instr.findAsking], rfl⟩
 | e :: es, [], _, _, he, _ => by cases he.1
 | e :: es, x :: ents, o, r, he, hf => by
  have he2 : EntsOf es ents := ⟨by simpa using he.1, fun i e x a b => he.2 (i + 1) e x a b⟩
  simp only [findKey] at hf
  have hx : ∀ b, keyEq k e.1 = some b → x.key = keyVal e.1 := fun b hb => he.2 0 e x rfl rfl ks (keyIs_same hk hb)
  cases hq : keyEq k e.1 with
  | none => rw [hq] at hf; cases hf
  | some b =>
   rw [hq] at hf
   have hs : (Op.equal t (keyVal k) (keyVal e.1)).run P w = .ok b w := equal_run ht hk hq 9998
   cases b with
   | true =>
    simp at hf; subst hf
    exact ⟨some (o, x.val), by simp [Instr.findAsking, hx _ hq, hs], x, rfl, by simp⟩
   | false =>
    simp only [Option.map_eq_some_iff] at hf
    obtain ⟨r2, h2, rfl⟩ := hf
    obtain ⟨q, e1, e2⟩ := findAsking_run ht hk es ents (o + 1) r2 he2 h2
    refine ⟨q, by simp [Instr.findAsking, hx _ hq, hs, e1], ?_⟩
    cases r2 with
    | none => exact e2
    | some i => obtain ⟨y, h3, h4⟩ := e2; exact ⟨y, by simpa using h3, by rw [h4]; simp; omega⟩

theorem findKey_run {t : TypeId} {ks : Nat} {k : V} (ht : keyOk P t ks = true) (hk : keyIs ks k = true) {es : List (V × V)} {ents : List MapEntry} {r : Option Nat} (he : EntsOf es ents) (hf : findKey k es = some r) :
  ∃ q, (Instr.findKey t (keyVal k) ents).run P w = .ok q w ∧ Found ents 0 q r := by
 obtain ⟨d, hd, hm⟩ := undB_some ht
 unfold keyIs at hk
 split at hk
 ·cases d <;> simp at hm
  rename_i kk
  obtain ⟨q, e1, e2⟩ := findNow_run (d := .int kk) (ks := 0) rfl (.inl ⟨⟨_, rfl⟩, _, _, rfl⟩) es ents 0 r he hf
  exact ⟨q, by simp [Instr.findKey, run_und hd, e1], e2⟩
 ·cases d <;> simp at hm
  obtain ⟨q, e1, e2⟩ := findNow_run (ks := 1) rfl (.inr ⟨rfl, _, rfl⟩) es ents 0 r he hf
  exact ⟨q, by simp [Instr.findKey, run_und hd, e1], e2⟩
 ·rename_i k1 a k2 b
  cases d <;> simp at hm
  obtain ⟨q, e1, e2⟩ := findAsking_run (P := P) (w := w) (ks := 2) ht (k := .agg [.int k1 a, .int k2 b]) rfl es ents 0 r he hf
  cases ents with
  | nil =>
   have hes : es = [] := List.eq_nil_of_length_eq_zero he.1.symm
   subst hes
   simp [findKey] at hf; subst hf
   exact ⟨none, by simp [Instr.findKey, run_und hd, Instr.findNow], rfl⟩
  | cons x ents =>
   refine ⟨q, ?_, e2⟩
   have hn : ∀ d n, Instr.findNow (.array d n) (keyVal (.agg [.int k1 a, .int k2 b])) (x :: ents) 0 = none := by
    intro d n
    simp [Instr.findNow, Instr.sameNow, keyVal]
   simp [Instr.findKey, run_und hd, hn, e1]
 ·cases hk

theorem map_inv {rd : Reads} {m : Maps} {id : Nat} {u : Value} (h : VR rd m (.map id) u) : ∃ b r, m.sg id = some (b, r) ∧ u = .map (some b) := by
 cases h with
 | map _ b o sz C hs => exact ⟨b, _, hs, rfl⟩

theorem ents_of {rd : Reads} {m : Maps} {id b : Nat} {es : List (V × V)} {ents : Array MapEntry} (hl : ents.size = es.length)
  (h : ∀ (i : Nat) (e : V × V) (x : MapEntry), es[i]? = some e → ents[i]? = some x → VR rd m e.1 x.key ∧ VR rd m e.2 x.val ∧ m.bo id i = some x.born ∧ x.born < b) : EntsOf es ents.toList :=
 ⟨by simpa using hl, fun i e x h1 h2 ks hk => keyVal_of hk (h i e x h1 (by simpa using h2)).1⟩

theorem mapOk_some {t : TypeId} {ks : Nat} {z : V} (h : mapOk P t ks z = true) : ∃ kt et u, P.underlying t = some (.map kt et) ∧ keyOk P kt ks = true ∧ (zeroValue et).run P w = .ok u w ∧ ∀ rd m, VR rd m z u ∧ u.oneCell' = true := by
 obtain ⟨d, hd, hm⟩ := undB_some h
 cases d <;> simp at hm
 rename_i kt et
 refine ⟨kt, et, ?_⟩
 have hz := hm.2
 unfold zero1Ok at hz
 split at hz
 ·rename_i i hi
  split at hz
  ·rename_i u hu
   exact ⟨u, hd, hm.1, by simp [zeroValue, typeInfo, hi, hu], fun rd m => constCell_ok hz⟩
  ·cases hz
 ·cases hz

def picked (es : List (V × V)) (z : V) : Option Nat → Option V
 | some i => (es[i]?).map (·.2)
 | none => some z

theorem lookup_run {own : Nat → Prop} {m : Maps} {h : Heap} (hr : HRel own m h w) {t : TypeId} {ks : Nat} {z k : V} {uk um : Value} {id : Nat} {es : List (V × V)} {r : Option Nat} (hm : mapOk P t ks z = true)
  (hvm : VR (Rd own w) m (.map id) um) (hvk : VR (Rd own w) m k uk) (hh : h id = some (.map es)) (hk : keyIs ks k = true) (hf : findKey k es = some r) :
  ∃ u, (∀ ok, (Instr.lookup t um uk ok).run P w = .ok (if ok then .tuple #[u, .bool r.isSome] else u) w) ∧ (∀ v, picked es z r = some v → VR (Rd own w) m v u) := by
 obtain ⟨b, r0, h1, rfl⟩ := map_inv hvm
 obtain ⟨b2, r2, h2, _, ents, clock, hw, hl, he, _⟩ := hr.map id es hh
 rw [h1] at h2; simp at h2; obtain ⟨rfl, _⟩ := h2
 obtain ⟨kt, et, uz, hd, hko, hz, hvz⟩ := mapOk_some (w := w) hm
 have hkv := keyVal_of hk hvk
 subst hkv
 have hc : (Instr.checkKey ents.isEmpty 10000 kt (keyVal k)).run P w = .ok () w := checkKey_run hko hk 9998
 obtain ⟨q, hq, hfd⟩ := findKey_run (P := P) (w := w) hko hk (ents_of (b := clock) hl he) hf
 have hg : (getObj b).run P w = .ok (.map ents clock) w := by simp [getObj, Sem.run, hw]
 cases r with
 | none =>
  simp only [Found] at hfd; subst hfd
  refine ⟨uz, fun ok => ?_, fun v hv => ?_⟩
  ·simp [Instr.lookup, run_und hd, hg, hc, hq, hz]
  ·simp [picked] at hv; subst hv; exact (hvz _ _).1
 | some i =>
  obtain ⟨x, hx, rfl⟩ := hfd
  refine ⟨x.val, fun ok => ?_, fun v hv => ?_⟩
  ·simp [Instr.lookup, run_und hd, hg, hc, hq]
  ·simp only [picked, Option.map_eq_some_iff] at hv
   obtain ⟨e, h3, rfl⟩ := hv
   exact (he i e x h3 (by simpa using hx)).2.1

end Go.Abs
