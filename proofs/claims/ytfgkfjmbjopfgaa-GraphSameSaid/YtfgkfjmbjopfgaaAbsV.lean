/-
  The abstract machine: Go's code over values that are trees (frozen memory), over local boxes, and over a heap of named blocks. What it says of a call holds of the model's run (AbsSound).
-/
import GoSem.Dispatch
set_option linter.unusedVariables false
set_option linter.unusedSimpArgs false
namespace Go.Abs
open Go

/-- A value of the abstract machine. 'undef': not known. 'skip': what an operation leaves that was not carried out. 'nsl': the nil slice. 'fsl': a slice whose array nobody writes any more: element by element, its cells. 'msl': a slice of a block of our own. 'lp': an address in a local box; 'ep': in a block of our own; 'fp': in frozen cells. -/
inductive V where
  | undef
  | skip
  | int (k : IntKind) (n : Int)
  | bool (b : Bool)
  | str (s : ByteArray)
  | agg (cs : List V)
  | tup (vs : List V)
  | nsl
  | fsl (sz : Nat) (els : List (List V))
  | msl (id off len : Nat)
  | lp (t g off : Nat)
  | ep (id i off : Nat)
  | fp (cs : List V) (off : Nat)
  | nilp
  | map (id : Nat)
  | stamp (id i : Nat)
  | fn (f : Nat) (caps : List V)
  deriving Inhabited

inductive Blk where
  | arr (sz : Nat) (els : List (List V))
  | map (es : List (V × V))

abbrev Heap := Nat → Option Blk
def Heap.none : Heap := fun _ => Option.none
def Heap.upd (h : Heap) (i : Nat) (b : Option Blk) : Heap := fun j => if j = i then b else h j
/-- 'h' holds no more than 'h2' does. -/
def Heap.le (h h2 : Heap) : Prop := ∀ i b, h i = some b → h2 i = some b

structure S where
  env : List V
  bx : List (Option (Nat × List V))
  h : Heap

inductive Opd where
  | t (n : Nat)
  | c (v : V)

def ev (e : List V) : Opd → V
  | .t n => e.getD n .undef
  | .c v => v

/-- What reads: the value that an operation makes of its operands, and of memory. -/
inductive AVal where
  | mv (x : Opd)
  | pick (c a b : Opd)
  | bin (op : BinOp) (x y : Opd)
  | beq (neg : Bool) (x y : Opd)
  | un (op : UnOp) (x : Opd)
  | build (zero : List V) (parts : List (Nat × Nat × Opd))
  | fld (x : Opd) (off n : Nat) (agg : Bool)
  | fa (x : Opd) (off : Nat)
  | ia (x i : Opd) (esz : Nat)
  | iaa (x i : Opd) (n esz : Nat)
  | ix (x i : Opd) (n esz : Nat) (agg : Bool)
  | ixs (x i : Opd)
  | ld (x : Opd) (n : Nat) (agg : Bool)
  | ldf (x : Opd) (n : Nat) (agg : Bool)
  | ldl (x : Opd) (n : Nat) (agg : Bool)
  | iaf (x i : Opd) (esz : Nat)
  | nc (x : Opd)
  | len (x : Opd)
  | lens (x : Opd)
  | mx (x y : Opd)
  | mn (x y : Opd)
  | ext (x : Opd) (k : Nat)
  | mkf (f : Nat) (caps : List Opd)
  | slc (x : Opd) (lo hi : Option Opd) (esz : Nat)
  | slcs (x : Opd) (lo hi : Option Opd)
  | conv (k : IntKind) (x : Opd)
  | lookup (ks : Nat) (m key : Opd) (zero : V)
  | lookupOk (ks : Nat) (m key : Opd) (zero : V)
  | mlen (m : Opd)

/-- A value's cells, as memory holds them; none of what memory cannot hold. -/
def cellsOf : V → Option (List V)
  | .agg cs => some cs
  | .undef | .skip | .tup _ => none
  | v => some [v]

def shiftOf (op : BinOp) (k : IntKind) (x y : Int) : Option V :=
  if y < 0 then none else
  match op with
  | .shl => some (.int k (k.wrap (x * 2 ^ (min y.toNat k.bits))))
  | .shr => some (.int k (x.fdiv (2 ^ (min y.toNat k.bits))))
  | _ => none

def bitsOf (op : BinOp) (k : IntKind) (x y : Int) : Option V :=
  match op with
  | .and => some (.int k (k.wrap (BitVec.ofInt k.bits x &&& BitVec.ofInt k.bits y).toNat))
  | .or => some (.int k (k.wrap (BitVec.ofInt k.bits x ||| BitVec.ofInt k.bits y).toNat))
  | .xor => some (.int k (k.wrap (BitVec.ofInt k.bits x ^^^ BitVec.ofInt k.bits y).toNat))
  | .andNot => some (.int k (k.wrap (BitVec.ofInt k.bits x &&& ~~~ BitVec.ofInt k.bits y).toNat))
  | _ => none

def intOf (op : BinOp) (k : IntKind) (x y : Int) : Option V :=
  match op with
  | .add => some (.int k (k.wrap (x + y)))
  | .sub => some (.int k (k.wrap (x - y)))
  | .mul => some (.int k (k.wrap (x * y)))
  | .quo => if y = 0 then none else some (.int k (k.wrap (x.tdiv y)))
  | .rem => if y = 0 then none else some (.int k (x.tmod y))
  | .eql => some (.bool (x == y))
  | .neq => some (.bool (x != y))
  | .lss => some (.bool (decide (x < y)))
  | .leq => some (.bool (decide (x ≤ y)))
  | .gtr => some (.bool (decide (x > y)))
  | .geq => some (.bool (decide (x ≥ y)))
  | op => bitsOf op k x y

def strOf (op : BinOp) (x y : ByteArray) : Option V :=
  match op with
  | .add => if x.size + y.size ≤ 140737488355328 then some (.str (x ++ y)) else none
  | .eql => some (.bool (x.toList == y.toList))
  | .neq => some (.bool !(x.toList == y.toList))
  | .lss => some (.bool (Op.bytesLess x.toList y.toList))
  | .leq => some (.bool (Op.bytesLess x.toList y.toList || x.toList == y.toList))
  | .gtr => some (.bool !(Op.bytesLess x.toList y.toList || x.toList == y.toList))
  | .geq => some (.bool !(Op.bytesLess x.toList y.toList))
  | _ => none

def binOf (op : BinOp) : V → V → Option V
  | .int k x, .int k2 y =>
    match op with
    | .shl => shiftOf .shl k x y
    | .shr => shiftOf .shr k x y
    | op => if k = k2 then intOf op k x y else none
  | .str x, .str y => strOf op x y
  | _, _ => none

def unOf (op : UnOp) : V → Option V
  | .int k n =>
    match op with
    | .neg => some (.int k (k.wrap (0 - n)))
    | .xor => bitsOf .xor k (if k.signed then -1 else k.max) n
    | _ => none
  | .bool b =>
    match op with
    | .not => some (.bool !b)
    | _ => none
  | _ => none

/-- Cells laid over others, from a place on. -/
def over (cs : List V) (off : Nat) (new : List V) : List V := cs.take off ++ new ++ cs.drop (off + new.length)

def fill (e : List V) : List V → List (Nat × Nat × Opd) → Option (List V)
  | cs, [] => some cs
  | cs, (off, n, x) :: r => match cellsOf (ev e x) with
    | some ds => if ds.length = n ∧ off + n ≤ cs.length then fill e (over cs off ds) r else none
    | none => none

def partOf (cs : List V) (off n : Nat) (agg : Bool) : Option V :=
  if off + n ≤ cs.length then (if agg then some (.agg ((cs.drop off).take n)) else cs[off]?) else none

def boxOf (bx : List (Option (Nat × List V))) (t g : Nat) : Option (List V) :=
  match bx.getD t none with
  | some (g2, cs) => if g = g2 then some cs else none
  | none => none

/-- The cells that an address lies among, and where. -/
def cellsAt (bx : List (Option (Nat × List V))) (h : Heap) (p : V) : Option (List V × Nat) :=
  match p with
  | .lp t g off => match boxOf bx t g with
    | some cs => some (cs, off)
    | none => none
  | .ep id i off => match h id with
    | some (.arr _ els) => match els[i]? with
      | some cs => some (cs, off)
      | none => none
    | _ => none
  | .fp cs off => some (cs, off)
  | _ => none

def loadOf (bx : List (Option (Nat × List V))) (h : Heap) (p : V) (n : Nat) (agg : Bool) : Option V :=
  match cellsAt bx h p with
  | some (cs, off) => partOf cs off n agg
  | none => none

def bound (e : List V) (o : Option Opd) (d : Nat) : Option Nat :=
  match o with
  | none => some d
  | some x => match ev e x with
    | .int _ n => if 0 ≤ n then some n.toNat else none
    | _ => none

/-- The keys of a map: numbers, strings, pairs of numbers. -/
def keyIs : Nat → V → Bool
  | 0, .int _ _ => true
  | 1, .str _ => true
  | 2, .agg [.int _ _, .int _ _] => true
  | _, _ => false

def keyEq : V → V → Option Bool
  | .int k a, .int k2 b => if k = k2 then some (a == b) else none
  | .str a, .str b => some (a == b)
  | .agg [.int k a, .int k2 b], .agg [.int k3 c, .int k4 d] => if k = k3 ∧ k2 = k4 then some (a == c && b == d) else none
  | _, _ => none

def findKey (k : V) : List (V × V) → Option (Option Nat)
  | [] => some none
  | e :: es => match keyEq k e.1 with
    | some true => some (some 0)
    | some false => (findKey k es).map fun r => r.map (· + 1)
    | none => none

def AVal.eval (e : List V) (bx : List (Option (Nat × List V))) (h : Heap) : AVal → Option V
  | .mv x => some (ev e x)
  | .pick c a b => match ev e c with
    | .bool t => some (if t then ev e a else ev e b)
    | _ => none
  | .bin op x y => binOf op (ev e x) (ev e y)
  | .beq neg x y => match ev e x, ev e y with
    | .bool a, .bool b => some (.bool (if neg then !(a == b) else a == b))
    | _, _ => none
  | .un op x => unOf op (ev e x)
  | .build zero parts => (fill e zero parts).map .agg
  | .fld x off n agg => match ev e x with
    | .agg cs => partOf cs off n agg
    | _ => none
  | .fa x off => match ev e x with
    | .lp t g o => some (.lp t g (o + off))
    | .ep id i o => some (.ep id i (o + off))
    | .fp cs o => some (.fp cs (o + off))
    | _ => none
  | .ia x i esz => match ev e i with
    | .int _ n => match ev e x with
      | .fsl sz els => if 0 ≤ n ∧ sz = esz then (els[n.toNat]?).map fun cs => .fp cs 0 else none
      | .msl id off ln => if 0 ≤ n ∧ n < ln then (match h id with
          | some (.arr sz _) => if sz = esz then some (.ep id (off + n.toNat) 0) else none
          | _ => none) else none
      | _ => none
    | _ => none
  | .iaa x i n esz => match ev e i with
    | .int _ k => if 0 ≤ k ∧ k < n then (match ev e x with
      | .lp t g o => some (.lp t g (o + k.toNat * esz))
      | .ep id j o => some (.ep id j (o + k.toNat * esz))
      | .fp cs o => some (.fp cs (o + k.toNat * esz))
      | _ => none) else none
    | _ => none
  | .ix x i n esz agg => match ev e i with
    | .int _ k => match ev e x with
      | .agg cs => if 0 ≤ k ∧ k < n then partOf cs (k.toNat * esz) esz agg else none
      | _ => none
    | _ => none
  | .ixs x i => match ev e i with
    | .int _ k => match ev e x with
      | .str s => if 0 ≤ k then (s.data.toList[k.toNat]?).map fun b => .int .u8 b.toNat else none
      | _ => none
    | _ => none
  | .ld x n agg => loadOf bx h (ev e x) n agg
  | .ldf x n agg => match ev e x with
    | .fp cs off => partOf cs off n agg
    | _ => none
  | .ldl x n agg => match ev e x with
    | .lp t g off => match boxOf bx t g with
      | some cs => partOf cs off n agg
      | none => none
    | .fp cs off => partOf cs off n agg
    | _ => none
  | .iaf x i esz => match ev e i with
    | .int _ n => match ev e x with
      | .fsl sz els => if 0 ≤ n ∧ sz = esz then (els[n.toNat]?).map fun cs => .fp cs 0 else none
      | _ => none
    | _ => none
  | .nc x => match ev e x with
    | .lp t g o => some (.lp t g o)
    | .ep id i o => some (.ep id i o)
    | .fp cs o => some (.fp cs o)
    | .fn f cs => some (.fn f cs)
    | _ => none
  | .len x => match ev e x with
    | .nsl => some (.int .i64 0)
    | .fsl _ els => some (.int .i64 els.length)
    | .msl _ _ ln => some (.int .i64 ln)
    | _ => none
  | .lens x => match ev e x with
    | .str s => some (.int .i64 s.size)
    | _ => none
  | .mx x y => match ev e x, ev e y with
    | .int k a, .int _ b => some (.int k (if b > a then b else a))
    | _, _ => none
  | .mn x y => match ev e x, ev e y with
    | .int k a, .int _ b => some (.int k (if b < a then b else a))
    | _, _ => none
  | .ext x k => match ev e x with
    | .tup vs => vs[k]?
    | _ => none
  | .mkf f caps => some (.fn f (caps.map (ev e)))
  | .slc x lo hi esz => match ev e x with
    | .nsl => match bound e hi 0 with
      | some b => match bound e lo 0 with
        | some a => if a ≤ b ∧ b ≤ 0 then some .nsl else none
        | none => none
      | none => none
    | .fsl sz els => match bound e hi els.length with
      | some b => match bound e lo 0 with
        | some a => if a ≤ b ∧ b ≤ els.length ∧ sz = esz then some (.fsl sz ((els.drop a).take (b - a))) else none
        | none => none
      | none => none
    | .msl id off ln => match h id with
      | some (.arr sz _) => match bound e hi ln with
        | some b => match bound e lo 0 with
          | some a => if a ≤ b ∧ b ≤ ln ∧ sz = esz then some (.msl id (off + a) (b - a)) else none
          | none => none
        | none => none
      | _ => none
    | _ => none
  | .slcs x lo hi => match ev e x with
    | .str s => match bound e hi s.size with
      | some b => match bound e lo 0 with
        | some a => if a ≤ b ∧ b ≤ s.size then some (.str (s.extract a b)) else none
        | none => none
      | none => none
    | _ => none
  | .conv k x => match ev e x with
    | .int _ n => some (.int k (k.wrap n))
    | _ => none
  | .lookup ks m key zero => match ev e m with
    | .map id => match h id with
      | some (.map es) => if keyIs ks (ev e key) then (match findKey (ev e key) es with
        | some (some i) => (es[i]?).map (·.2)
        | some none => some zero
        | none => none) else none
      | _ => none
    | _ => none
  | .lookupOk ks m key zero => match ev e m with
    | .map id => match h id with
      | some (.map es) => if keyIs ks (ev e key) then (match findKey (ev e key) es with
        | some (some i) => (es[i]?).map fun x => .tup [x.2, .bool true]
        | some none => some (.tup [zero, .bool false])
        | none => none) else none
      | _ => none
    | _ => none
  | .mlen m => match ev e m with
    | .map id => match h id with
      | some (.map es) => some (.int .i64 es.length)
      | _ => none
    | _ => none

/-- An operation. 'g': carried out only if that slot holds that truth. -/
inductive AOp where
  | val (g : Option (Nat × Bool)) (d : Option Nat) (x : AVal)
  | box (g : Option (Nat × Bool)) (d : Nat) (x : Opd) (n : Nat)
  | hbox (g : Option (Nat × Bool)) (d : Nat) (x : Opd) (n : Nat)
  | bsl (g : Option (Nat × Bool)) (d : Nat) (sz len : Nat) (zero : List V) (parts : List (Nat × Nat × Opd))
  | mks (g : Option (Nat × Bool)) (d : Nat) (n c : Opd) (sz bytes : Nat) (zero : List V)
  | st (g : Option (Nat × Bool)) (x v : Opd) (n : Nat)
  | app (g : Option (Nat × Bool)) (d : Nat) (x y : Opd) (sz bytes : Nat)
  | cpy (g : Option (Nat × Bool)) (d : Option Nat) (x y : Opd) (sz : Nat)
  | mkm (g : Option (Nat × Bool)) (d : Nat)
  | mup (g : Option (Nat × Bool)) (ks : Nat) (m key v : Opd)
  | men (g : Option (Nat × Bool)) (d ks : Nat) (m key : Opd) (zero : V)
  | mst (g : Option (Nat × Bool)) (m st v : Opd)
  | call (g : Option (Nat × Bool)) (d : Option Nat) (f : Nat) (args : List Opd)
  | callv (g : Option (Nat × Bool)) (d : Option Nat) (f : Opd) (args : List Opd)
  | pcall (g : Option (Nat × Bool)) (d : Option Nat) (f : Nat) (args : List Opd)

def AOp.guard : AOp → Option (Nat × Bool)
  | .val g .. | .box g .. | .hbox g .. | .bsl g .. | .mks g .. | .st g .. | .app g .. | .cpy g .. | .mkm g .. | .mup g .. | .men g .. | .mst g .. | .call g .. | .callv g .. | .pcall g .. => g
def AOp.dst : AOp → Option Nat
  | .val _ d _ | .cpy _ d .. | .call _ d .. | .callv _ d .. | .pcall _ d .. => d
  | .box _ d .. | .hbox _ d .. | .bsl _ d .. | .mks _ d .. | .app _ d .. | .mkm _ d | .men _ d .. => some d
  | .st .. | .mup .. | .mst .. => none

inductive ACode where
  | skip
  | region (draw : Bool) (ops : List AOp)
  | seq (a b : ACode)
  | cond (c : Opd) (x y : ACode)
  | block (id : Nat) (x : ACode)
  | loop (live boxes : List Nat) (x : ACode)
  | exit (id : Nat)
  | ret

inductive Out where
  | normal | exit (id : Nat) | ret

/-- What a call comes to: of function, arguments, heap: what holds of the result, and of the heap behind it. -/
abbrev Call := Nat → List V → Heap → (V → Heap → Prop) → Prop

/-- A value, frozen: blocks that 'ids' names become trees. -/
inductive Frz (h : Heap) (ids : Nat → Prop) : V → V → Prop
  | same (v : V) : Frz h ids v v
  | nsl (sz : Nat) : Frz h ids .nsl (.fsl sz [])
  | agg (cs ds : List V) (hl : cs.length = ds.length) (hf : ∀ (i : Nat) (a b : V), cs[i]? = some a → ds[i]? = some b → Frz h ids a b) : Frz h ids (.agg cs) (.agg ds)
  | tup (cs ds : List V) (hl : cs.length = ds.length) (hf : ∀ (i : Nat) (a b : V), cs[i]? = some a → ds[i]? = some b → Frz h ids a b) : Frz h ids (.tup cs) (.tup ds)
  | fsl (sz : Nat) (els out : List (List V)) (ho : out.length = els.length)
      (hw : ∀ (i : Nat) (x y : List V), els[i]? = some x → out[i]? = some y → y.length = x.length)
      (hf : ∀ (i : Nat) (x y : List V) (j : Nat) (a b : V), els[i]? = some x → out[i]? = some y → x[j]? = some a → y[j]? = some b → Frz h ids a b) :
      Frz h ids (.fsl sz els) (.fsl sz out)
  | msl (id off len sz : Nat) (els out : List (List V)) (hid : ids id) (hb : h id = some (.arr sz els)) (hl : off + len ≤ els.length) (ho : out.length = len)
      (hw : ∀ (i : Nat) (x y : List V), els[off + i]? = some x → out[i]? = some y → y.length = x.length)
      (hf : ∀ (i : Nat) (x y : List V) (j : Nat) (a b : V), els[off + i]? = some x → out[i]? = some y → x[j]? = some a → y[j]? = some b → Frz h ids a b) :
      Frz h ids (.msl id off len) (.fsl sz out)

/-- A value with no address in it. -/
inductive Flat : V → Prop
  | int k n : Flat (.int k n)
  | bool b : Flat (.bool b)
  | str s : Flat (.str s)
  | tup (vs : List V) (h : ∀ v ∈ vs, Flat v) : Flat (.tup vs)

/-- A call, as it stands; or of frozen arguments, with a heap of its own. -/
def callPure (C : Call) (f : Nat) (vs : List V) (h : Heap) (R : V → Heap → Prop) : Prop :=
  (∃ (ids : Nat → Prop) (us : List V), us.length = vs.length ∧ (∀ (i : Nat) (a b : V), vs[i]? = some a → us[i]? = some b → Frz h ids a b) ∧
    C f us Heap.none fun r _ => ((∀ i, ¬ ids i) ∨ Flat r) ∧ R r h)

/-- A call behind which what its arguments hold stays frozen: with what else there is of the heap. -/
def callFrz (C : Call) (f : Nat) (vs : List V) (h : Heap) (R : V → Heap → Prop) : Prop :=
  ∃ (ids : Nat → Prop) (us : List V) (h2 : Heap), us.length = vs.length ∧ (∀ (i : Nat) (a b : V), vs[i]? = some a → us[i]? = some b → Frz h ids a b) ∧
    h2.le h ∧ (∀ i, ids i → h2 i = none) ∧ C f us h2 R

def callOk (C : Call) (f : Nat) (vs : List V) (h : Heap) (R : V → Heap → Prop) : Prop := C f vs h R ∨ callPure C f vs h R ∨ callFrz C f vs h R

def S.put (s : S) (d : Option Nat) (v : V) : S :=
  match d with
  | some d => { s with env := s.env.set d v }
  | none => s

def storeCells (cs : List V) (off : Nat) (v : V) (n : Nat) : Option (List V) :=
  match cellsOf v with
  | some ds => if ds.length = n ∧ off + n ≤ cs.length then some (over cs off ds) else none
  | none => none

def storeOf (s : S) (p v : V) (n : Nat) : Option S :=
  match p with
  | .lp t g off => match boxOf s.bx t g with
    | some cs => match storeCells cs off v n with
      | some ds => some { s with bx := s.bx.set t (some (g, ds)) }
      | none => none
    | none => none
  | .ep id i off => match s.h id with
    | some (.arr sz els) => match els[i]? with
      | some cs => match storeCells cs off v n with
        | some ds => some { s with h := s.h.upd id (some (.arr sz (els.set i ds))) }
        | none => none
      | none => none
    | _ => none
  | _ => none

/-- The elements that a slice (or a string, as bytes) holds. -/
def elemsOf (h : Heap) : V → Option (List (List V))
  | .nsl => some []
  | .fsl _ els => some els
  | .msl id off len => match h id with
    | some (.arr _ els) => if off + len ≤ els.length then some ((els.drop off).take len) else none
    | _ => none
  | .str s => some (s.data.toList.map fun b => [.int .u8 b.toNat])
  | _ => none

def AOp.run (C : Call) (o : AOp) (s : S) (Q : S → Prop) : Prop :=
  match o with
  | .val _ d x => match x.eval s.env s.bx s.h with
    | some v => Q (s.put d v)
    | none => False
  | .box _ d x n => match cellsOf (ev s.env x) with
    | some cs => cs.length = n ∧ s.bx.getD d none = none ∧ ∀ g, Q { s with env := s.env.set d (.lp d g 0), bx := s.bx.set d (some (g, cs)) }
    | none => False
  | .hbox _ d x n => match cellsOf (ev s.env x) with
    | some cs => cs.length = n ∧ ∀ id, s.h id = none → Q { s with env := s.env.set d (.ep id 0 0), h := s.h.upd id (some (.arr n [cs])) }
    | none => False
  | .bsl _ d sz len zero parts => match fill s.env ((List.replicate len zero).flatten) parts with
    | some cs => ∀ id, s.h id = none → Q { s with env := s.env.set d (.msl id 0 len), h := s.h.upd id (some (.arr sz ((List.range len).map fun i => (cs.drop (i * sz)).take sz))) }
    | none => False
  | .mks _ d n c sz bytes zero => match ev s.env n, ev s.env c with
    | .int _ a, .int _ b => 0 ≤ a ∧ a ≤ b ∧ b * bytes ≤ 140737488355328 ∧ b < 9223372036854775808 ∧
      ∀ id, s.h id = none → Q { s with env := s.env.set d (.msl id 0 a.toNat), h := s.h.upd id (some (.arr sz (List.replicate a.toNat zero))) }
    | _, _ => False
  | .st _ x v n => match storeOf s (ev s.env x) (ev s.env v) n with
    | some s2 => Q s2
    | none => False
  | .app _ d x y sz bytes => match elemsOf s.h (ev s.env y) with
    | some new => (∀ z ∈ new, z.length = sz) ∧ (match ev s.env x with
      | .nsl => (0 < new.length ∧ new.length * bytes ≤ 70368744177664 ∧
          ∀ id, s.h id = none → Q { s with env := s.env.set d (.msl id 0 new.length), h := s.h.upd id (some (.arr sz new)) }) ∨
        (new = [] ∧ Q { s with env := s.env.set d .nsl })
      | .msl id off len => match s.h id with
        | some (.arr sz2 els) => sz2 = sz ∧ off + len ≤ els.length ∧ (len + new.length) * bytes ≤ 70368744177664 ∧
          ∀ id2, s.h id2 = none → id2 ≠ id → Q { s with env := s.env.set d (.msl id2 0 (len + new.length)), h := (s.h.upd id none).upd id2 (some (.arr sz ((els.drop off).take len ++ new))) }
        | _ => False
      | _ => False)
    | none => False
  | .cpy _ d x y sz => match ev s.env x with
    | .msl id off len => match s.h id with
      | some (.arr sz2 els) => sz2 = sz ∧ off + len ≤ els.length ∧ (match elemsOf s.h (ev s.env y) with
        | some new => (∀ z ∈ new, z.length = sz) ∧ Q ({ s with h := s.h.upd id (some (.arr sz (els.take off ++ new.take len ++ els.drop (off + min new.length len)))) }.put d (.int .i64 (min new.length len : Nat)))
        | none => False)
      | _ => False
    | .nsl => match elemsOf s.h (ev s.env y) with
      | some new => (∀ z ∈ new, z.length = sz) ∧ Q (s.put d (.int .i64 0))
      | none => False
    | _ => False
  | .mkm _ d => ∀ id, s.h id = none → Q { s with env := s.env.set d (.map id), h := s.h.upd id (some (.map [])) }
  | .mup _ ks m key v => match ev s.env m with
    | .map id => match s.h id with
      | some (.map es) => keyIs ks (ev s.env key) = true ∧ (match findKey (ev s.env key) es with
        | some (some i) => Q { s with h := s.h.upd id (some (.map (es.set i (ev s.env key, ev s.env v)))) }
        | some none => Q { s with h := s.h.upd id (some (.map (es ++ [(ev s.env key, ev s.env v)]))) }
        | none => False)
      | _ => False
    | _ => False
  | .men _ d ks m key zero => match ev s.env m with
    | .map id => match s.h id with
      | some (.map es) => keyIs ks (ev s.env key) = true ∧ (match findKey (ev s.env key) es with
        | some (some i) => match es[i]? with
          | some x => Q { s with env := s.env.set d (.tup [x.2, .stamp id i]) }
          | none => False
        | some none => Q { s with env := s.env.set d (.tup [zero, .stamp id es.length]), h := s.h.upd id (some (.map (es ++ [(ev s.env key, zero)]))) }
        | none => False)
      | _ => False
    | _ => False
  | .mst _ m stp v => match ev s.env m, ev s.env stp with
    | .map id, .stamp id2 i => id = id2 ∧ (match s.h id with
      | some (.map es) => match es[i]? with
        | some x => Q { s with h := s.h.upd id (some (.map (es.set i (x.1, ev s.env v)))) }
        | none => False
      | _ => False)
    | _, _ => False
  | .call _ d f args => callOk C f (args.map (ev s.env)) s.h fun r h => Q ({ s with h := h }.put d r)
  | .pcall _ d f args => callPure C f (args.map (ev s.env)) s.h fun r h => Q ({ s with h := h }.put d r)
  | .callv _ d f args => match ev s.env f with
    | .fn k caps => callOk C k (args.map (ev s.env) ++ caps) s.h fun r h => Q ({ s with h := h }.put d r)
    | _ => False

def AOp.step (C : Call) (o : AOp) (s : S) (Q : S → Prop) : Prop :=
  match o.guard with
  | none => o.run C s Q
  | some (t, want) => match ev s.env (.t t) with
    | .bool b => if b = want then o.run C s Q else Q (s.put o.dst .skip)
    | .skip => Q (s.put o.dst .skip)
    | _ => False

def wOps (C : Call) : List AOp → (S → Prop) → S → Prop
  | [], Q, s => Q s
  | o :: l, Q, s => o.step C s (wOps C l Q)

def keepOnly {α : Type} (live : List Nat) (d : α) (l : List α) : List α := l.zipIdx.map fun x => if live.contains x.2 then x.1 else d

def S.keep (s : S) (live boxes : List Nat) : S := { s with env := keepOnly live .undef s.env, bx := keepOnly boxes none s.bx }

/-- The least of what a loop's round gives. -/
def Lp (F : (S → Prop) → S → Prop) (s : S) : Prop := ∀ X : S → Prop, (∀ s, F X s → X s) → X s

def W (C : Call) : ACode → (Out → S → Prop) → S → Prop
  | .skip, Q, s => Q .normal s
  | .region _ ops, Q, s => wOps C ops (Q .normal) s
  | .seq a b, Q, s => W C a (fun o s2 => match o with | .normal => W C b Q s2 | .exit i => Q (.exit i) s2 | .ret => Q .ret s2) s
  | .cond c x y, Q, s => match ev s.env c with
    | .bool t => if t then W C x Q s else W C y Q s
    | _ => False
  | .block id x, Q, s => W C x (fun o s2 => match o with | .normal => Q .normal s2 | .exit i => if i = id then Q .normal s2 else Q (.exit i) s2 | .ret => Q .ret s2) s
  | .loop live boxes x, Q, s => Lp (fun X s => W C x (fun o s2 => match o with | .normal => X (s2.keep live boxes) | .exit i => Q (.exit i) s2 | .ret => Q .ret s2) s) (s.keep live boxes)
  | .exit id, Q, s => Q (.exit id) s
  | .ret, Q, s => Q .ret s

inductive ARes where
  | tmp (t : Nat)
  | cell (t n : Nat) (agg : Bool)

def ARes.val (s : S) : ARes → Option V
  | .tmp t => some (ev s.env (.t t))
  | .cell t n agg => loadOf s.bx s.h (ev s.env (.t t)) n agg

def mapM? {α β : Type} (f : α → Option β) : List α → Option (List β)
  | [] => some []
  | a :: l => match f a, mapM? f l with
    | some b, some r => some (b :: r)
    | _, _ => none

def resultOf (rs : List ARes) (s : S) : Option V :=
  match mapM? (ARes.val s) rs with
  | some [v] => some v
  | some vs => some (.tup vs)
  | none => none

structure AFn where
  ntmps : Nat
  results : List ARes
  body : ACode

/-- Behind the body: the result, frozen as far as one likes, and the heap, or less of it. -/
def post (rs : List ARes) (R : V → Heap → Prop) : Out → S → Prop
  | .exit _, _ => False
  | _, s => match resultOf rs s with
    | some v => ∃ (ids : Nat → Prop) (u : V) (h : Heap), Frz s.h ids v u ∧ h.le s.h ∧ (∀ i, ids i → h i = none) ∧ R u h
    | none => False

def start (fn : AFn) (vs : List V) (h : Heap) : S := { env := vs ++ List.replicate (fn.ntmps - vs.length) .undef, bx := List.replicate fn.ntmps none, h := h }

abbrev Prog := Nat → Option AFn

def bodyOf (A : Prog) (C : Call) (f : Nat) (vs : List V) (h : Heap) (R : V → Heap → Prop) : Prop :=
  match A f with
  | some fn => vs.length ≤ fn.ntmps ∧ W C fn.body (post fn.results R) (start fn vs h)
  | none => False

/-- The least call: what a function's body comes to. -/
def Ret (A : Prog) : Call := fun f vs h R => ∀ X : Call, (∀ f vs h R, bodyOf A X f vs h R → X f vs h R) → X f vs h R

end Go.Abs
