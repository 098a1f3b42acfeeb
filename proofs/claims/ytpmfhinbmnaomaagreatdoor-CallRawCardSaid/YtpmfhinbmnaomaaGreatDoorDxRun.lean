/-
  A deterministic semantics ('Dx') of the model's code: values and memory with names in the place of block numbers; what a draw decides (the order within a region, a new array's capacity) is left open.
  This text: the data, and what each operation does, as plain functions.
-/
import Derived.Calls
set_option linter.unusedSimpArgs false
set_option linter.unusedVariables false
set_option linter.unusedSectionVars false
namespace Go.Dx

/-- A name of a block; also a key of a tree. -/
inductive Pos where
  | h
  | o (p : Pos)
  | i (p : Pos)
  deriving DecidableEq, Repr, Inhabited

def Pos.succ : Pos → Pos
  | .h => .o .h
  | .o p => .i p
  | .i p => .o p.succ

def Pos.num : Pos → Nat
  | .h => 1
  | .o p => 2 * p.num
  | .i p => 2 * p.num + 1

/-- The key of a number: that of n is n + 1. -/
def Pos.ofFuel : Nat → Nat → Pos
  | 0, _ => .h
  | f + 1, n => if n ≤ 1 then .h else if n % 2 = 0 then .o (Pos.ofFuel f (n / 2)) else .i (Pos.ofFuel f (n / 2))

def key (n : Nat) : Pos := Pos.ofFuel (n + 1) (n + 1)

/-- Trees by keys. -/
inductive Tr (α : Type) where
  | leaf
  | nod (l r : Tr α)
  | val (l : Tr α) (x : α) (r : Tr α)
  deriving Inhabited

namespace Tr
variable {α : Type}
def get : Pos → Tr α → Option α
  | .h, .val _ x _ => some x
  | .h, _ => none
  | .o p, .nod l _ => get p l
  | .o p, .val l _ _ => get p l
  | .o _, .leaf => none
  | .i p, .nod _ r => get p r
  | .i p, .val _ _ r => get p r
  | .i _, .leaf => none
def set : Pos → α → Tr α → Tr α
  | .h, x, .leaf => .val .leaf x .leaf
  | .h, x, .nod l r => .val l x r
  | .h, x, .val l _ r => .val l x r
  | .o p, x, .leaf => .nod (set p x .leaf) .leaf
  | .o p, x, .nod l r => .nod (set p x l) r
  | .o p, x, .val l y r => .val (set p x l) y r
  | .i p, x, .leaf => .nod .leaf (set p x .leaf)
  | .i p, x, .nod l r => .nod l (set p x r)
  | .i p, x, .val l y r => .val l y (set p x r)
end Tr

/-- The kinds of integers, by number. -/
def kindOf : Nat → IntKind
  | 0 => .i8 | 1 => .i16 | 2 => .i32 | 3 => .i64 | 4 => .u8 | 5 => .u16 | 6 => .u32 | _ => .u64
def codeOf : IntKind → Nat
  | .i8 => 0 | .i16 => 1 | .i32 => 2 | .i64 => 3 | .u8 => 4 | .u16 => 5 | .u32 => 6 | .u64 => 7

/-- Values. A text is its length and a number (its bytes, the first one lowest). 'open' slices reach to their array's end, wherever that is. Lists of values are values too. -/
inductive AV where
  -- an integer of sort 3 that is not known: what is known is between which bounds it lies
  | sym (p : Pos) (lo hi : Int)
  -- any value at all
  | any
  | bool (b : Bool)
  | int (c : Nat) (n : Int)
  | str (len n : Nat)
  | ptr (p : Pos) (off : Nat)
  | nilptr
  | slice (p : Pos) (off len cap : Nat)
  | oslice (p : Pos) (off len size : Nat)
  | nilslice
  | map (p : Pos)
  | nilmap
  | func (fn : Fn) (first captured : AV)
  | nilfunc
  | iface (t : Nat) (v : AV)
  | niliface
  | agg (cs : AV)
  | tuple (vs : AV)
  | nil
  | cons (a r : AV)
  -- what a round of a range over a function is called by
  | yield (p : Pos)
  deriving Inhabited

/-- A map's entries. -/
inductive ME where
  | nil
  | cons (k v : AV) (born : Nat) (r : ME)
  deriving Inhabited

inductive Opd where
  | loc (j : Nat)
  | var (p : Pos)
  | lit (v : AV)
  deriving Inhabited

/-- A leaf's kind: what is compared by its bits. -/
inductive LK where
  | int | str | bool
  deriving DecidableEq, Inhabited

/-- How two values of a type are compared. -/
inductive EK where
  | leaf (k : LK)
  | ptr
  | slice
  | map
  | func
  | iface
  -- neither of the two is the literal nil: one of them at most is nil
  | ifaces
  | flat (ks : List LK)
  deriving Inhabited

inductive Opds where
  | nil
  | cons (x : Opd) (r : Opds)
  deriving Inhabited

/-- Parts of what is built: a place, how many cells, what. -/
inductive Parts where
  | nil
  | cons (off size : Nat) (x : Opd) (r : Parts)
  deriving Inhabited

inductive CI where
  | mov (x : Opd)
  | pick (c a b : Opd)
  | alloc (zero : AV) (n : Nat)
  -- a text that is to be built (a strings.Builder): its type, its bytes' type
  | bld (t e : Nat)
  | box (x : Opd)
  | build (zero : AV) (parts : Parts)
  | buildSlice (zero : AV) (n len : Nat) (parts : Parts)
  | load1 (a : Opd)
  | loadN (n : Nat) (a : Opd)
  | store (n : Nat) (a x : Opd)
  | nilCheck (x : Opd)
  | arith (op : BinOp) (c : Nat) (x y : Opd)
  | shift (op : BinOp) (c : Nat) (x y : Opd)
  | cmp (op : BinOp) (x y : Opd)
  | cat (x y : Opd)
  | scmp (op : BinOp) (x y : Opd)
  | eq (k : EK) (ne : Bool) (x y : Opd)
  | neg (x : Opd)
  | compl (x : Opd)
  | not (x : Opd)
  | convInt (c : Nat) (x : Opd)
  | same (x : Opd)
  | toBytes (x : Opd)
  | ofBytes (x : Opd)
  | mkIface (t : Nat) (x : Opd)
  | mkFunc (fn : Fn) (first captured : Opds)
  | mkMap
  | makeSlice (zero : AV) (size : Nat) (len cap : Opd)
  | sliceStr (x : Opd) (lo hi : Option Opd)
  | sliceSl (size : Nat) (x : Opd) (lo hi mx : Option Opd)
  | sliceArr (size n : Nat) (x : Opd) (lo hi mx : Option Opd)
  | fieldAddr (off : Nat) (x : Opd)
  | field1 (off : Nat) (x : Opd)
  | fieldN (off n : Nat) (x : Opd)
  | idxSl (size : Nat) (x i : Opd)
  | idxArr (size n : Nat) (x i : Opd)
  | idxAgg1 (n : Nat) (x i : Opd)
  | idxAggN (size n : Nat) (x i : Opd)
  | idxStr (x i : Opd)
  | lookup (k : EK) (zero : AV) (ok : Bool) (m x : Opd)
  | update (k : EK) (m x v : Opd)
  | assert (t : Nat) (zero : AV) (ok : Bool) (x : Opd)
  | extract (j : Nat) (x : Opd)
  | append (zero : AV) (size : Nat) (x y : Opd)
  | appendZ (zero : AV) (size : Nat) (x y : Opd)
  | clear (zero : AV) (size : Nat) (x : Opd)
  | lenStr (x : Opd)
  | lenSl (x : Opd)
  | lenMap (x : Opd)
  | capSl (x : Opd)
  | lit (v : AV)
  | copy (size : Nat) (x y : Opd)
  | delete (k : EK) (m x : Opd)
  | min (x y : Opd)
  | max (x y : Opd)
  -- maps whose keys are pointers
  | lookupP (zero : AV) (ok : Bool) (m x : Opd)
  | updateP (m x v : Opd)
  -- the first place of a byte in a text
  | idxByte (x c : Opd)
  -- these are done by whoever runs the code
  | callF (f : Nat) (args : Opds)
  | callV (f : Opd) (args : Opds)
  | panic (x : Opd)
  -- its value: what is deferred then, the newest call first
  | defer (f : Opd) (args : Opds)
  deriving Inhabited

/-- A region's instructions: a guard (a place among the values so far, and what must stand there); what it does; the slot that is read elsewhere, if it is. -/
inductive CIs where
  | nil
  | cons (g : Option (Nat × Bool)) (ci : CI) (dst : Option Pos) (r : CIs)
  deriving Inhabited

/-- How an instruction of a region that draws stands to the others: it may change memory (these stand in one row); or it reads, and must answer the same in so many elder states of memory besides; or it makes a block, whenever that is. -/
inductive Kd where
  | heavy
  | light (bk : Nat)
  | float
  deriving Inhabited, DecidableEq

/-- The instructions of a region that draws, in one of its orders. -/
inductive DIs where
  | nil
  | cons (g : Option (Nat × Bool)) (ci : CI) (dst : Option Pos) (k : Kd) (r : DIs)
  deriving Inhabited

inductive CCode where
  | skip
  | region (cs : CIs)
  | draw (ds : DIs) (nf : Nat)
  | seq (a b : CCode)
  | cond (c : Opd) (a b : CCode)
  | block (id : Nat) (c : CCode)
  | loop (c : CCode)
  | exit (id : Nat)
  | scope (rest c : CCode)
  | label (l : Nat)
  | goto (l : Nat)
  | ret
  -- a range over a function: the function, the loop's record
  | rangeFunc (g : Opd) (ps : List Tmp) (assign body : CCode) (srcA srcB : Code) (n : Nat) (far : Nat → Bool)
  deriving Inhabited

def CI.isDefer : CI → Bool
  | .defer _ _ => true
  | _ => false
/-- Does it defer nothing? -/
def CIs.noDef : CIs → Bool
  | .nil => true
  | .cons _ ci _ r => !ci.isDefer && noDef r
def CCode.noDef : CCode → Bool
  | .region cs => cs.noDef
  | .seq a b => noDef a && noDef b
  | .cond _ a b => noDef a && noDef b
  | .scope a b => noDef a && noDef b
  | .block _ c => noDef c
  | .loop c => noDef c
  | _ => true

/-- Code without a range over a function, that defers nothing. -/
def CCode.plain : CCode → Bool
  | .region cs => cs.noDef
  | .seq a b => plain a && plain b
  | .cond _ a b => plain a && plain b
  | .scope a b => plain a && plain b
  | .block _ c => plain c
  | .loop c => plain c
  | .rangeFunc .. => false
  | _ => true

/-- What a range over a function keeps for its rounds: the slots of the loop's variables, the code; and what these were made of (this is looked at in proofs alone). -/
structure LoopK where
  ps : List Tmp
  assign : CCode
  body : CCode
  srcA : Code
  srcB : Code
  n : Nat
  far : Nat → Bool

/-- What lies in memory. 'cells': so many cells; of an open one there may be more. 'ro': some cells that are read alone (an argument's). -/
inductive AO where
  | cells (t : Tr AV) (n : Nat) (opn : Bool)
  | map (es : ME) (clock : Nat)
  | dead
  | ro (t : Tr AV)
  -- a range over a function that is under way: 0 ready, 1 busy, 2 done, 3 exhausted; how its last round was left
  | loop (st : Nat) (pend : AV) (fr : Tr AV) (k : LoopK)
  -- a text that is being built: its type, its bytes' type, was it used, where its bytes lie and how many they are; and its bytes
  | bld (t e : Nat) (u : Bool) (q : Option (Pos × Nat))
  | buf (e l m : Nat)
  deriving Inhabited

structure Heap where
  next : Pos
  t : Tr AO
  deriving Inhabited

def Heap.get (H : Heap) (p : Pos) : Option AO := H.t.get p
def Heap.put (H : Heap) (p : Pos) (o : AO) : Heap := ⟨H.next, H.t.set p o⟩
def Heap.new (H : Heap) (o : AO) : Pos × Heap := (H.next, ⟨H.next.succ, H.t.set H.next o⟩)

namespace AV
def app : AV → AV → AV
  | .nil, y => y
  | .cons a r, y => .cons a (app r y)
  | x, _ => x
def len : AV → Nat
  | .cons _ r => len r + 1
  | _ => 0
/-- The cells of a value: a list. -/
def cells : AV → AV
  | .any => .any
  | .agg cs => cs
  | .nil => .nilptr
  | .cons _ _ => .nilptr
  | v => .cons v .nil
def nth : AV → Nat → Option AV
  | .cons a _, 0 => some a
  | .cons _ r, n + 1 => nth r n
  | _, _ => none
def drop : AV → Nat → AV
  | l, 0 => l
  | .cons _ r, n + 1 => drop r n
  | l, _ => l
def take : AV → Nat → AV
  | _, 0 => .nil
  | .cons a r, n + 1 => .cons a (take r n)
  | _, _ => .nil
/-- Are all its parts there, and is it a list? -/
def isList : AV → Bool
  | .nil => true
  | .cons _ r => isList r
  | _ => false
end AV

def undefA : AV := .tuple .nil

/-- Cells of a tree, from one on, so many. -/
def cellsFrom (t : Tr AV) : Nat → Nat → Option AV
  | _, 0 => some .nil
  | o, n + 1 => do
    let v ← t.get (key o)
    let r ← cellsFrom t (o + 1) n
    some (.cons v r)

/-- Cells put into a tree, from one on; each must be a cell's value. -/
def isCell : AV → Bool
  | .any => false
  | .agg _ => false
  | .tuple _ => false
  | .nil => false
  | .cons _ _ => false
  | _ => true
def putCells (t : Tr AV) : Nat → AV → Option (Tr AV)
  | _, .nil => some t
  | o, .cons v r => if isCell v then putCells (t.set (key o) v) (o + 1) r else none
  | _, _ => none

/-- A new tree of a list's cells. -/
def treeOf (l : AV) : Option (Tr AV) := putCells .leaf 0 l

end Go.Dx
set_option linter.unusedSimpArgs false
set_option linter.unusedVariables false
set_option linter.unusedSectionVars false
namespace Go.Dx

def Opd.ev (ls : AV) (fr : Tr AV) : Opd → Option AV
  | .loc j => ls.nth j
  | .var p => fr.get p
  | .lit v => some v

def Opds.ev (ls : AV) (fr : Tr AV) : Opds → Option AV
  | .nil => some .nil
  | .cons x r => do
    let v ← x.ev ls fr
    let vs ← r.ev ls fr
    some (.cons v vs)

def asInt : AV → Option (Nat × Int)
  | .int c n => some (c, n)
  | _ => none
def asBool : AV → Option Bool
  | .bool b => some b
  | _ => none
def asNat : AV → Option Nat
  | .int _ (.ofNat n) => some n
  | _ => none
def optNat (ls : AV) (fr : Tr AV) (d : Nat) : Option Opd → Option Nat
  | none => some d
  | some x => (x.ev ls fr).bind asNat

def Parts.fill (ls : AV) (fr : Tr AV) (t : AV) : Parts → Option AV
  | .nil => some t
  | .cons off size x r => do
    let v ← x.ev ls fr
    let cs := v.cells
    if cs.len = size ∧ off + size ≤ t.len ∧ cs.isList then Parts.fill ls fr (AV.app (t.take off) (AV.app cs (t.drop (off + size)))) r
    else none

def repl (z : AV) : Nat → AV
  | 0 => .nil
  | n + 1 => AV.app z (repl z n)

def arithI (op : BinOp) (c : Nat) (x y : Int) : Option AV :=
  let k := kindOf c
  match op with
  | .add => some (.int c (k.wrap (x + y)))
  | .sub => some (.int c (k.wrap (x - y)))
  | .mul => some (.int c (k.wrap (x * y)))
  | .quo => if y = 0 then none else some (.int c (k.wrap (x.tdiv y)))
  | .rem => if y = 0 then none else some (.int c (x.tmod y))
  | .and => some (.int c (k.wrap ((BitVec.ofInt k.bits x &&& BitVec.ofInt k.bits y).toNat)))
  | .or => some (.int c (k.wrap ((BitVec.ofInt k.bits x ||| BitVec.ofInt k.bits y).toNat)))
  | .xor => some (.int c (k.wrap ((BitVec.ofInt k.bits x ^^^ BitVec.ofInt k.bits y).toNat)))
  | .andNot => some (.int c (k.wrap ((BitVec.ofInt k.bits x &&& ~~~BitVec.ofInt k.bits y).toNat)))
  | _ => none

def shiftI (op : BinOp) (c : Nat) (x y : Int) : Option AV :=
  let k := kindOf c
  if y < 0 then none else
  let n := Nat.min y.toNat k.bits
  match op with
  | .shl => some (.int c (k.wrap (x * 2 ^ n)))
  | .shr => some (.int c (x.fdiv (2 ^ n)))
  | _ => none

def cmpI (op : BinOp) (x y : Int) : Option Bool :=
  match op with
  | .eql => some (x == y)
  | .neq => some (x != y)
  | .lss => some (decide (x < y))
  | .leq => some (decide (x ≤ y))
  | .gtr => some (decide (y < x))
  | .geq => some (decide (y ≤ x))
  | _ => none

/-- The same where of the first one bounds alone are known. -/
def symCmp (op : BinOp) (lo hi b : Int) : Option Bool :=
  match op with
  | .lss => if hi < b then some true else if b ≤ lo then some false else none
  | .leq => if hi ≤ b then some true else if b < lo then some false else none
  | .gtr => if b < lo then some true else if hi ≤ b then some false else none
  | .geq => if b ≤ lo then some true else if hi < b then some false else none
  | _ => none
/-- Two integers compared. -/
def cmpV (op : BinOp) : AV → AV → Option Bool
  | .int j a, .int k b => if j = k then cmpI op a b else none
  | .sym _ lo hi, .int k b => if k = 3 then symCmp op lo hi b else none
  | _, _ => none

/-- Byte i of a text. -/
def byteAt (n i : Nat) : Nat := n / 256 ^ i % 256

/-- Is the first text less? From byte i on; 'd': how many bytes are left of the second one, and more. -/
def strLess (l1 n1 l2 n2 : Nat) : Nat → Nat → Bool
  | 0, _ => false
  | d + 1, i =>
    if i ≥ l2 then false
    else if i ≥ l1 then true
    else
      let a := byteAt n1 i
      let b := byteAt n2 i
      if a < b then true else if a = b then strLess l1 n1 l2 n2 d (i + 1) else false

def cmpS (op : BinOp) (l1 n1 l2 n2 : Nat) : Option Bool :=
  let eq := l1 == l2 && n1 == n2
  match op with
  | .eql => some eq
  | .neq => some (!eq)
  | .lss => some (strLess l1 n1 l2 n2 (l2 + 1) 0)
  | .leq => some (strLess l1 n1 l2 n2 (l2 + 1) 0 || eq)
  | .gtr => some (!(strLess l1 n1 l2 n2 (l2 + 1) 0 || eq))
  | .geq => some (!strLess l1 n1 l2 n2 (l2 + 1) 0)
  | _ => none

def eqLeaf : LK → AV → AV → Option Bool
  | .int, .int c a, .int d b => if c = d then some (a == b) else none
  | .str, .str l n, .str k m => some (l == k && n == m)
  | .bool, .bool a, .bool b => some (a == b)
  | .int, .sym p _ _, .sym q _ _ => if p = q then some true else none
  | _, _, _ => none

def eqFlat : List LK → AV → AV → Option Bool
  | [], .nil, .nil => some true
  | k :: ks, .cons a r, .cons b s =>
    match eqLeaf k a b with
    | some true => eqFlat ks r s
    | some false => some false
    | none => none
  | _, _, _ => none

def Heap.live (H : Heap) (p : Pos) : Bool :=
  match H.get p with
  | some .dead => false
  | some _ => true
  | none => false

/-- Is it a row of cells none of which is frozen? -/
def Heap.closed (H : Heap) (p : Pos) : Bool :=
  match H.get p with
  | some (.cells _ _ false) => true
  | _ => false

def eqA (H : Heap) : EK → AV → AV → Option Bool
  | .leaf k, a, b => eqLeaf k a b
  | .flat ks, .agg a, .agg b => eqFlat ks a b
  | .ptr, .nilptr, .nilptr => some true
  | .ptr, .nilptr, .ptr _ _ => some false
  | .ptr, .ptr _ _, .nilptr => some false
  | .ptr, .ptr p o, .ptr q u => if p = q then some (o == u) else if H.closed p && H.closed q then some false else none
  | .slice, .nilslice, .nilslice => some true
  | .slice, .nilslice, .slice _ _ _ _ => some false
  | .slice, .nilslice, .oslice _ _ _ _ => some false
  | .slice, .slice _ _ _ _, .nilslice => some false
  | .slice, .oslice _ _ _ _, .nilslice => some false
  | .map, .nilmap, .nilmap => some true
  | .map, .nilmap, .map _ => some false
  | .map, .map _, .nilmap => some false
  | .func, .nilfunc, .nilfunc => some true
  | .func, .nilfunc, .func _ _ _ => some false
  | .func, .func _ _ _, .nilfunc => some false
  | .iface, .niliface, .niliface => some true
  | .iface, .niliface, .iface _ _ => some false
  | .iface, .iface _ _, .niliface => some false
  | .ifaces, .niliface, .iface _ _ => some false
  | .ifaces, .iface _ _, .niliface => some false
  | _, _, _ => none

/-- A key's kind: none but leaves and flat structs. -/
def eqKey (k : EK) (a b : AV) : Option Bool :=
  match k with
  | .leaf l => eqLeaf l a b
  | .flat ks => match a, b with
    | .agg x, .agg y => eqFlat ks x y
    | _, _ => none
  | _ => none

/-- Is a value of a key's kind? -/
def okKey (k : EK) (a : AV) : Bool := (eqKey k a a).isSome

def ME.find (k : EK) (x : AV) : ME → Option (Option AV)
  | .nil => some none
  | .cons y v _ r =>
    match eqKey k x y with
    | some true => some (some v)
    | some false => ME.find k x r
    | none => none

def ME.put (k : EK) (x v : AV) (clock : Nat) : ME → Option (ME × Bool)
  | .nil => some (.cons x v clock .nil, true)
  | .cons y u b r =>
    match eqKey k x y with
    | some true => some (.cons x v b r, false)
    | some false => (ME.put k x v clock r).map fun (m, fresh) => (.cons y u b m, fresh)
    | none => none

def ME.del (k : EK) (x : AV) : ME → Option ME
  | .nil => some .nil
  | .cons y u b r =>
    match eqKey k x y with
    | some true => some r
    | some false => (ME.del k x r).map fun m => .cons y u b m
    | none => none

def ME.size : ME → Nat
  | .nil => 0
  | .cons _ _ _ r => r.size + 1

/-- A cell of an object. -/
def Heap.cell (H : Heap) (p : Pos) (off : Nat) : Option AV :=
  match H.get p with
  | some (.cells t _ _) => t.get (key off)
  | some (.ro t) => t.get (key off)
  | _ => none

def Heap.cellsAt (H : Heap) (p : Pos) (off n : Nat) : Option AV :=
  match H.get p with
  | some (.cells t _ _) => cellsFrom t off n
  | some (.ro t) => cellsFrom t off n
  | _ => none

/-- Cells of an object written, one behind the other; all of them must be its own. -/
def Heap.store (H : Heap) (p : Pos) (off : Nat) (vs : AV) : Option Heap :=
  match H.get p with
  | some (.cells t n op) =>
    if off + vs.len ≤ n then (putCells t off vs).map fun t' => H.put p (.cells t' n op) else none
  | _ => none

/-- A new object of these cells. -/
def Heap.row (H : Heap) (cs : AV) (op : Bool) : Option (Pos × Heap) :=
  (treeOf cs).map fun t => H.new (.cells t cs.len op)

/-- The cells of the first n elements of a slice, or of a text. -/
def firstCells (H : Heap) (size n : Nat) : AV → Option AV
  | .nilslice => some .nil
  | .slice p off _ _ => if n * size = 0 then some .nil else H.cellsAt p off (n * size)
  | .oslice p off _ _ => if n * size = 0 then some .nil else H.cellsAt p off (n * size)
  | _ => none

def bytesFrom (m : Nat) : Nat → Nat → AV
  | _, 0 => .nil
  | i, n + 1 => .cons (.int 4 (byteAt m i)) (bytesFrom m (i + 1) n)

def lenOf : AV → Option Nat
  | .nilslice => some 0
  | .slice _ _ n _ => some n
  | .oslice _ _ n _ => some n
  | .str n _ => some n
  | _ => none

/-- What is appended or copied: so many elements' cells. -/
def srcCells (H : Heap) (size n : Nat) : AV → Option AV
  | .str l m => if n ≤ l ∧ size = 1 then some (bytesFrom m 0 n) else none
  | v => firstCells H size n v

/-- Most elements of a slice: more than any program here makes; a new array of so many is none that the model refuses. -/
def most : Nat := 17179869184

/-- n elements, of these cells, behind a slice's. -/
def appendC (H : Heap) (size n : Nat) (new : AV) (x : AV) : Option (AV × Heap) :=
  match x with
  | .nilslice =>
    if n = 0 then some (.nilslice, H)
    else if n ≤ most then do
      let (p, H') ← H.row new true
      some (.oslice p 0 n size, H')
    else none
  | .slice p off len cap =>
    if len + n ≤ cap then
      if new.len = 0 then some (.slice p off (len + n) cap, H)
      else (H.store p (off + len * size) new).map fun H' => (.slice p off (len + n) cap, H')
    else if len + n ≤ most then do
      let old ← firstCells H size len (.slice p off len cap)
      let (q, H') ← H.row (old.app new) true
      some (.oslice q 0 (len + n) size, H')
    else none
  | .oslice p off len s =>
    if s ≠ size then none else
    match H.get p with
    | some (.cells t m true) =>
      if off + (len + n) * size ≤ m then
        if new.len = 0 then some (.oslice p off (len + n) size, H)
        else (H.store p (off + len * size) new).map fun H' => (.oslice p off (len + n) size, H')
      else if len + n ≤ most ∧ off + len * size ≤ m then do
        let old ← cellsFrom t off (len * size)
        let (q, H') ← (H.put p .dead).row (old.app new) true
        some (.oslice q 0 (len + n) size, H')
      else none
    | _ => none
  | _ => none

def appendA (H : Heap) (size : Nat) (x y : AV) : Option (AV × Heap) := do
  let n ← lenOf y
  let new ← srcCells H size n y
  appendC H size n new x

/-- slices.Insert of one-celled things (a row of its own, at most what is there): at the end they are appended; ahead of something (in a row that grew) it is as if they were appended, and then all from there on laid anew. -/
def insertF (as : AV) (H : Heap) : Option (AV × Heap) :=
  match as with
  | .cons s (.cons (.int 3 (.ofNat i)) (.cons (.slice q vo m vc) .nil)) =>
    match lenOf s, H.get q with
    | some n, some (.cells tq _ false) =>
      if i ≤ n ∧ 0 < m ∧ n + m ≤ most then
        match cellsFrom tq vo m with
        | some new =>
          if i = n then appendC H 1 m new s
          else
            match s with
            | .oslice p off _ _ =>
              match H.get p with
              | some (.cells t _ true) =>
                match cellsFrom t off n with
                | some old =>
                  match appendC H 1 m new s with
                  | some (.oslice p1 off1 l1 z1, H1) => (H1.store p1 (off1 + i) (new.app (old.drop i))).map fun H2 => (.oslice p1 off1 l1 z1, H2)
                  | _ => none
                | none => none
              | _ => none
            | _ => none
        | none => none
      else none
    | _, _ => none
  | _ => none

/-- Bytes put behind a text that is being built. -/
def bldPut (T : Nat) (H : Heap) (p : Pos) (k x : Nat) : Option Heap :=
  match H.get p with
  | some (.bld t e _ q) =>
    if t = T then
    let H1 := H.put p (.bld t e true q)
    if k = 0 then some (H1.put p (.bld t e true q))
    else
      match q with
      | none =>
        if k ≤ most then
          let r := H1.new (.buf e k x)
          some (r.2.put p (.bld t e true (some (r.1, k))))
        else none
      | some (q, l) =>
        match H1.get q with
        | some (.buf e' l' m) =>
          if e' = e ∧ l' = l ∧ l + k ≤ most then
            let r := (H1.put q .dead).new (.buf e (l + k) (m + x * 256 ^ l))
            some (r.2.put p (.bld t e true (some (r.1, l + k))))
          else none
        | _ => none
    else none
  | _ => none

/-- What is done with a text that is being built (of type T): 0 WriteString, 1 WriteByte, 2 String, 3 Len. -/
def bldF (T k : Nat) (as : AV) (H : Heap) : Option (AV × Heap) :=
  match k with
  | 0 =>
    match as with
    | .cons (.ptr p 0) (.cons (.str l x) .nil) => (bldPut T H p l x).map fun H' => (.tuple (.cons (.int 3 l) (.cons .niliface .nil)), H')
    | _ => none
  | 1 =>
    match as with
    | .cons (.ptr p 0) (.cons (.int 4 (.ofNat b)) .nil) => if b < 256 then (bldPut T H p 1 b).map fun H' => (.niliface, H') else none
    | _ => none
  | 2 =>
    match as with
    | .cons (.ptr p 0) .nil =>
      match H.get p with
      | some (.bld t _ _ none) => if t = T then some (.str 0 0, H.put p .dead) else none
      | some (.bld t e _ (some (q, l))) =>
        match H.get q with
        | some (.buf e' l' m) => if t = T ∧ e' = e ∧ l' = l ∧ l' ≤ 17179869184 then some (.str l m, (H.put q .dead).put p .dead) else none
        | _ => none
      | _ => none
    | _ => none
  | 3 =>
    match as with
    | .cons (.ptr p 0) .nil =>
      match H.get p with
      | some (.bld _ _ _ none) => some (.int 3 0, H)
      | some (.bld _ _ _ (some (_, l))) => some (.int 3 l, H)
      | _ => none
    | _ => none
  | _ => none

/-- errors.As and errors.Is of errors of two types: a (a pointer to a row whose first cell is of type c) and c (an integer). The digits of k: what (0 As, 1 Is), a, b (pointer to a), c, d (pointer to c), reflectlite's type, the block of handles, the type error, the variable that holds its handle. -/
def errF (k : Nat) (as : AV) (H : Heap) : Option (AV × Heap) :=
  match as with
  | .cons (.iface t v) (.cons (.iface t' u) .nil) =>
    match Nat.beq (k % 1024) 0 with
    | true =>
      match H.get (key (k / 1024 ^ 8 % 1024)), u with
      | some (.ro tr), .ptr q off =>
        match tr.get (key 0) with
        | some (.iface rt (.agg (.cons (.ptr n e) .nil))) =>
          if rt = k / 1024 ^ 5 % 1024 ∧ n = key (k / 1024 ^ 6 % 1024) ∧ e = k / 1024 ^ 7 % 1024 then
            match v with
            | .ptr _ _ => if t = k / 1024 % 1024 ∧ t' = k / 1024 ^ 2 % 1024 then (H.store q off (.cons v .nil)).map fun H' => (.bool true, H') else none
            | .int 3 _ =>
              if t = k / 1024 ^ 3 % 1024 ∧ t' = k / 1024 ^ 4 % 1024 then (H.store q off (.cons v .nil)).map fun H' => (.bool true, H')
              else if t = k / 1024 ^ 3 % 1024 ∧ t' = k / 1024 ^ 2 % 1024 then some (.bool false, H) else none
            | _ => none
          else none
        | _ => none
      | _, _ => none
    | false =>
      match v, u with
      | .ptr p off, .int 3 n =>
        match H.cell p off with
        | some (.int 3 m) => if t = k / 1024 % 1024 ∧ t' = k / 1024 ^ 3 % 1024 then some (.bool (decide (m = n)), H) else none
        | _ => none
      | .int 3 m, .int 3 n => if t = k / 1024 ^ 3 % 1024 ∧ t' = k / 1024 ^ 3 % 1024 then some (.bool (decide (m = n)), H) else none
      | _, _ => none
  | .cons .niliface (.cons (.iface _ _) .nil) => some (.bool false, H)
  | _ => none

/-- What changes memory and is known: 0 slices.Insert, small ones strings.Builder's, the others those of errors. -/
def actF (k : Nat) (as : AV) (H : Heap) : Option (AV × Heap) :=
  match k with
  | 0 => insertF as H
  | k + 1 =>
    match Nat.ble 1048576 k with
    | true => errF (k - 1048576) as H
    | false => bldF (k / 4) (k % 4) as H

/-- The bytes of a list of cells as a number. -/
def numOf : AV → Option Nat
  | .nil => some 0
  | .cons (.int 4 (.ofNat b)) r => if b < 256 then (numOf r).map fun m => b + 256 * m else none
  | _ => none

def sliceBounds (len cap : Nat) (lo hi mx : Option Nat) : Option (Nat × Nat × Nat) :=
  let m := mx.getD cap
  let h := hi.getD len
  let l := lo.getD 0
  if m ≤ cap ∧ h ≤ m ∧ l ≤ h then some (l, h, m) else none

def optN (ls : AV) (fr : Tr AV) : Option Opd → Option (Option Nat)
  | none => some none
  | some x => do
    let v ← x.ev ls fr
    let n ← asNat v
    some (some n)

/-- Cells laid over a slice's first ones. -/
def putAt (H : Heap) (dst cs : AV) : Option Heap :=
  if cs.len = 0 then (match dst with | .nilslice => some H | .slice _ _ _ _ => some H | .oslice _ _ _ _ => some H | _ => none) else
  match dst with
  | .slice p off _ _ => H.store p off cs
  | .oslice p off n _ => if n = 0 then none else H.store p off cs
  | _ => none

/-- What a map has under a key. -/
def mapLook (H : Heap) (k : EK) (key : AV) : AV → Option (Option AV)
  | .nilmap => some none
  | .map p =>
    match H.get p with
    | some (.map es _) => es.find k key
    | _ => none
  | _ => none
def lookRes (z : AV) (ok : Bool) : Option AV → AV
  | some v => if ok then .tuple (.cons v (.cons (.bool true) .nil)) else v
  | none => if ok then .tuple (.cons z (.cons (.bool false) .nil)) else z
/-- Are all keys integers of sort 3? -/
def ME.ints : ME → Bool
  | .nil => true
  | .cons (.int 3 _) _ _ r => r.ints
  | _ => false
/-- A look into a map of integers at one that is not known: what comes is not known. -/
def symLook (H : Heap) (k : EK) : AV → AV → Bool
  | .sym _ _ _, .map p => match k, H.get p with
    | .leaf .int, some (.map es _) => es.ints
    | _, _ => false
  | _, _ => false
def mapPut (H : Heap) (k : EK) (key v : AV) : AV → Option Heap
  | .map p =>
    match H.get p with
    | some (.map es clock) => (es.put k key v clock).map fun (es', fresh) => H.put p (.map es' (if fresh then clock + 1 else clock))
    | _ => none
  | _ => none
def mapDel (H : Heap) (k : EK) (key : AV) : AV → Option Heap
  | .nilmap => some H
  | .map p =>
    match H.get p with
    | some (.map es clock) => (es.del k key).map fun es' => H.put p (.map es' clock)
    | _ => none
  | _ => none

/-- Is a map's key this pointer? (Of variables of their own alone.) -/
def ptrIs (H : Heap) (p : Pos) (off : Nat) : AV → Option Bool
  | .ptr q u => if p = q then some (off == u) else if H.closed q then some false else none
  | _ => none
def ME.findBy (c : AV → Option Bool) : ME → Option (Option AV)
  | .nil => some none
  | .cons y v _ r =>
    match c y with
    | some true => some (some v)
    | some false => ME.findBy c r
    | none => none
def ME.putBy (c : AV → Option Bool) (x v : AV) (clock : Nat) : ME → Option (ME × Bool)
  | .nil => some (.cons x v clock .nil, true)
  | .cons y u b r =>
    match c y with
    | some true => some (.cons x v b r, false)
    | some false => (ME.putBy c x v clock r).map fun (m, fresh) => (.cons y u b m, fresh)
    | none => none
def mapLookP (H : Heap) (p : Pos) (off : Nat) : AV → Option (Option AV)
  | .nilmap => some none
  | .map q =>
    match H.get q with
    | some (.map es _) => es.findBy (ptrIs H p off)
    | _ => none
  | _ => none
def mapPutP (H : Heap) (p : Pos) (off : Nat) (v : AV) : AV → Option Heap
  | .map q =>
    match H.get q with
    | some (.map es clock) => (es.putBy (ptrIs H p off) (.ptr p off) v clock).map fun (es', fresh) => H.put q (.map es' (if fresh then clock + 1 else clock))
    | _ => none
  | _ => none
/-- The first place of a byte. -/
def idxByteF (n c : Nat) : Nat → Nat → Int
  | 0, _ => -1
  | d + 1, i => if byteAt n i = c then i else idxByteF n c d (i + 1)

/-- One instruction that is no call and no panic: its value, and the memory behind it. -/
def CI.ev (ls : AV) (fr : Tr AV) (H : Heap) : CI → Option (AV × Heap)
  | .mov x => do some (← x.ev ls fr, H)
  | .pick c a b => do
    match ← c.ev ls fr with
    | .bool true => some (← a.ev ls fr, H)
    | .bool false => some (← b.ev ls fr, H)
    | _ => none
  | .alloc z n => do
    if z.len ≠ n then none else
    let (p, H') ← H.row z false
    some (.ptr p 0, H')
  | .bld t e => let r := H.new (.bld t e false none); some (.ptr r.1 0, r.2)
  | .box x => do
    let v ← x.ev ls fr
    let (p, H') ← H.row v.cells false
    some (.ptr p 0, H')
  | .build z ps => do some (.agg (← ps.fill ls fr z), H)
  | .buildSlice z n len ps => do
    let cs ← ps.fill ls fr (repl z len)
    if cs.len ≠ n then none else
    let (p, H') ← H.row cs false
    some (.slice p 0 len len, H')
  | .load1 a => do
    match ← a.ev ls fr with
    | .ptr p off => some (← H.cell p off, H)
    | _ => none
  | .loadN n a => do
    match ← a.ev ls fr with
    | .ptr p off => some (.agg (← H.cellsAt p off n), H)
    | _ => none
  | .store n a x => do
    match ← a.ev ls fr with
    | .ptr p off =>
      let cs := (← x.ev ls fr).cells
      if cs.len = n then some (undefA, ← H.store p off cs) else none
    | _ => none
  | .nilCheck x => do
    match ← x.ev ls fr with
    | .ptr p off => some (.ptr p off, H)
    | .func (.func f) a b => some (.func (.func f) a b, H)
    | .iface t v => some (.iface t v, H)
    | _ => none
  | .arith op c x y => do
    let (j, a) ← (← x.ev ls fr) |> asInt
    let (k, b) ← (← y.ev ls fr) |> asInt
    if j = c ∧ k = c then some (← arithI op c a b, H) else none
  | .shift op c x y => do
    let (j, a) ← (← x.ev ls fr) |> asInt
    let (_, b) ← (← y.ev ls fr) |> asInt
    if j = c then some (← shiftI op c a b, H) else none
  | .cmp op x y => do
    let u ← x.ev ls fr
    let v ← y.ev ls fr
    some (.bool (← cmpV op u v), H)
  | .cat x y => do
    match ← x.ev ls fr, ← y.ev ls fr with
    | .str l n, .str k m => if l + k ≤ most then some (.str (l + k) (n + m * 256 ^ l), H) else none
    | _, _ => none
  | .scmp op x y => do
    match ← x.ev ls fr, ← y.ev ls fr with
    | .str l n, .str k m => some (.bool (← cmpS op l n k m), H)
    | _, _ => none
  | .eq k ne x y => do
    let b ← eqA H k (← x.ev ls fr) (← y.ev ls fr)
    some (.bool (b != ne), H)
  | .neg x => do
    let (c, a) ← (← x.ev ls fr) |> asInt
    some (← arithI .sub c 0 a, H)
  | .compl x => do
    let (c, a) ← (← x.ev ls fr) |> asInt
    some (← arithI .xor c (if (kindOf c).signed then -1 else (kindOf c).max) a, H)
  | .not x => do some (.bool (!(← (← x.ev ls fr) |> asBool)), H)
  | .convInt c x => do
    let (_, a) ← (← x.ev ls fr) |> asInt
    some (.int c ((kindOf c).wrap a), H)
  | .same x => do
    match ← x.ev ls fr with
    | .str l n => some (.str l n, H)
    | _ => none
  | .toBytes x => do
    match ← x.ev ls fr with
    | .str l n =>
      let (p, H') ← H.row (bytesFrom n 0 l) true
      some (.oslice p 0 l 1, H')
    | _ => none
  | .ofBytes x => do
    let v ← x.ev ls fr
    let l ← lenOf v
    let cs ← firstCells H 1 l v
    some (.str l (← numOf cs), H)
  | .mkIface t x => do some (.iface t (← x.ev ls fr), H)
  | .mkFunc fn a b => do some (.func fn (← a.ev ls fr) (← b.ev ls fr), H)
  | .mkMap => do
    let (p, H') := H.new (.map .nil 0)
    some (.map p, H')
  | .makeSlice z size len cap => do
    let l ← (← len.ev ls fr) |> asNat
    let c ← (← cap.ev ls fr) |> asNat
    if l ≤ c ∧ c ≤ most ∧ z.len = size then
      let (p, H') ← H.row (repl z c) false
      some (.slice p 0 l c, H')
    else none
  | .sliceStr x lo hi => do
    match ← x.ev ls fr with
    | .str len n =>
      let (l, h, _) ← sliceBounds len len (← optN ls fr lo) (← optN ls fr hi) none
      some (.str (h - l) (n / 256 ^ l % 256 ^ (h - l)), H)
    | _ => none
  | .sliceSl size x lo hi mx => do
    let l ← optN ls fr lo
    let h ← optN ls fr hi
    let m ← optN ls fr mx
    match ← x.ev ls fr with
    | .nilslice =>
      let _ ← sliceBounds 0 0 l h m
      some (.nilslice, H)
    | .slice p off len cap =>
      let (l, h, m) ← sliceBounds len cap l h m
      some (if m = l then .slice p off 0 0 else .slice p (off + l * size) (h - l) (m - l), H)
    | .oslice p off len s =>
      if s ≠ size then none else
      match H.get p with
      | some (.cells _ n true) =>
        -- at least so many elements are there
        let cap := (n - off) / size
        match m with
        | some _ =>
          let (l, h, m) ← sliceBounds len cap l h m
          if m = l then (if len = 0 then none else some (.slice p off 0 0, H)) else some (.slice p (off + l * size) (h - l) (m - l), H)
        | none =>
          let (l, h, _) ← sliceBounds len cap l h none
          some (.oslice p (off + l * size) (h - l) size, H)
      | _ => none
    | _ => none
  | .sliceArr size n x lo hi mx => do
    let l ← optN ls fr lo
    let h ← optN ls fr hi
    let m ← optN ls fr mx
    match ← x.ev ls fr with
    | .ptr p off =>
      let (l, h, m) ← sliceBounds n n l h m
      some (if m = l then .slice p off 0 0 else .slice p (off + l * size) (h - l) (m - l), H)
    | _ => none
  | .fieldAddr off x => do
    match ← x.ev ls fr with
    | .ptr p o => some (.ptr p (o + off), H)
    | _ => none
  | .field1 off x => do
    match ← x.ev ls fr with
    | .agg cs => some (← cs.nth off, H)
    | _ => none
  | .fieldN off n x => do
    match ← x.ev ls fr with
    | .agg cs => if off + n ≤ cs.len then some (.agg ((cs.drop off).take n), H) else none
    | _ => none
  | .idxSl size x i => do
    let i ← (← i.ev ls fr) |> asNat
    match ← x.ev ls fr with
    | .slice p off len _ => if i < len then some (.ptr p (off + i * size), H) else none
    | .oslice p off len _ => if i < len then some (.ptr p (off + i * size), H) else none
    | _ => none
  | .idxArr size n x i => do
    let i ← (← i.ev ls fr) |> asNat
    match ← x.ev ls fr with
    | .ptr p off => if i < n then some (.ptr p (off + i * size), H) else none
    | _ => none
  | .idxAgg1 n x i => do
    let i ← (← i.ev ls fr) |> asNat
    match ← x.ev ls fr with
    | .agg cs => if i < n then some (← cs.nth i, H) else none
    | _ => none
  | .idxAggN size n x i => do
    let i ← (← i.ev ls fr) |> asNat
    match ← x.ev ls fr with
    | .agg cs => if i < n ∧ i * size + size ≤ cs.len then some (.agg ((cs.drop (i * size)).take size), H) else none
    | _ => none
  | .idxStr x i => do
    let i ← (← i.ev ls fr) |> asNat
    match ← x.ev ls fr with
    | .str len n => if i < len then some (.int 4 (byteAt n i), H) else none
    | _ => none
  | .lookup k z ok m x => do
    let key ← x.ev ls fr
    let mv ← m.ev ls fr
    if !okKey k key then none else
    match mapLook H k key mv with
    | some r => some (lookRes z ok r, H)
    | none => if !ok && symLook H k key mv then some (.any, H) else none
  | .update k m x v => do
    let key ← x.ev ls fr
    let v ← v.ev ls fr
    let mv ← m.ev ls fr
    if !okKey k key then none else do
    let H' ← mapPut H k key v mv
    some (undefA, H')
  | .assert t z ok x => do
    match ← x.ev ls fr with
    | .niliface => if ok then some (.tuple (.cons z (.cons (.bool false) .nil)), H) else none
    | .iface u v =>
      if u = t then some (if ok then .tuple (.cons v (.cons (.bool true) .nil)) else v, H)
      else if ok then some (.tuple (.cons z (.cons (.bool false) .nil)), H) else none
    | _ => none
  | .extract j x => do
    match ← x.ev ls fr with
    | .tuple vs => some (← vs.nth j, H)
    | _ => none
  | .append _ size x y => do appendA H size (← x.ev ls fr) (← y.ev ls fr)
  | .appendZ z size x y => do
    let n ← (← y.ev ls fr) |> asNat
    if n ≤ most ∧ z.len = size then appendC H size n (repl z n) (← x.ev ls fr) else none
  | .clear z size x => do
    let dst ← x.ev ls fr
    let n ← lenOf dst
    if z.len ≠ size then none else do
    let H' ← putAt H dst (repl z n)
    some (undefA, H')
  | .lenStr x => do
    match ← x.ev ls fr with
    | .str l _ => some (.int 3 l, H)
    | _ => none
  | .lenSl x => do
    match ← x.ev ls fr with
    | .nilslice => some (.int 3 0, H)
    | .slice _ _ n _ => some (.int 3 n, H)
    | .oslice _ _ n _ => some (.int 3 n, H)
    | _ => none
  | .lenMap x => do
    match ← x.ev ls fr with
    | .nilmap => some (.int 3 0, H)
    | .map p => match H.get p with
      | some (.map es _) => some (.int 3 es.size, H)
      | _ => none
    | _ => none
  | .capSl x => do
    match ← x.ev ls fr with
    | .nilslice => some (.int 3 0, H)
    | .slice _ _ _ c => some (.int 3 c, H)
    | _ => none
  | .lit v => some (v, H)
  | .copy size x y => do
    let dst ← x.ev ls fr
    let src ← y.ev ls fr
    let n ← lenOf src
    let m ← lenOf dst
    let cs ← srcCells H size (Nat.min n m) src
    let H' ← putAt H dst cs
    some (.int 3 (Nat.min n m), H')
  | .delete k m x => do
    let key ← x.ev ls fr
    let mv ← m.ev ls fr
    if !okKey k key then none else do
    let H' ← mapDel H k key mv
    some (undefA, H')
  | .min x y => do
    let (c, a) ← (← x.ev ls fr) |> asInt
    let (_, b) ← (← y.ev ls fr) |> asInt
    some (.int c (if b < a then b else a), H)
  | .max x y => do
    let (c, a) ← (← x.ev ls fr) |> asInt
    let (_, b) ← (← y.ev ls fr) |> asInt
    some (.int c (if b > a then b else a), H)
  | .lookupP z ok m x => do
    let key ← x.ev ls fr
    let mv ← m.ev ls fr
    match key with
    | .ptr p off =>
      if H.closed p then do
        let r ← mapLookP H p off mv
        some (lookRes z ok r, H)
      else none
    | _ => none
  | .updateP m x v => do
    let key ← x.ev ls fr
    let v ← v.ev ls fr
    let mv ← m.ev ls fr
    match key with
    | .ptr p off =>
      if H.closed p then do
        let H' ← mapPutP H p off v mv
        some (undefA, H')
      else none
    | _ => none
  | .idxByte x c => do
    match ← x.ev ls fr, ← c.ev ls fr with
    | .str l n, .int 4 (.ofNat b) => if b < 256 then some (.int 3 (idxByteF n b l 0), H) else none
    | _, _ => none
  | .callF _ _ | .callV _ _ | .panic _ | .defer _ _ => none

end Go.Dx
set_option linter.unusedSimpArgs false
set_option linter.unusedVariables false
set_option linter.unusedSectionVars false
namespace Go.Dx

inductive CRes where
  | tmp (p : Pos)
  | cell1 (p : Pos)
  | cellN (p : Pos) (n : Nat)
  deriving Inhabited

/-- What is known of a function that leaves memory as it was: what it answers without arguments; or what it answers to arguments and memory. -/
inductive Kn where
  | val (v : AV)
  | nat (g : AV → Heap → Option AV)
  -- one that changes memory, and is known (actF)
  | act (k : Nat)
  -- none of these: a function that defers; one that is deferred, and asks what was thrown
  | dfr
  | recov
  deriving Inhabited

/-- A function; or one of which it is known what it answers. -/
structure CFunc where
  body : CCode
  results : List CRes
  konst : Option Kn
  deriving Inhabited

inductive Ex where
  | normal
  | exit (id : Nat)
  | goto (l : Nat)
  | ret
  | pan (v : AV)
  deriving Inhabited

/-- How a call ends. -/
inductive CR where
  | ret (v : AV)
  | pan (v : AV)
  deriving Inhabited

inductive RO where
  | ok (ls : AV) (fr : Tr AV) (H : Heap)
  | pan (v : AV) (fr : Tr AV) (H : Heap)
  deriving Inhabited

def AV.beq : AV → AV → Bool
  | .sym p a b, .sym q c d => decide (p = q) && a == c && b == d
  | .any, .any => true
  | .bool a, .bool b => a == b
  | .int c n, .int d m => c == d && n == m
  | .str l n, .str k m => l == k && n == m
  | .ptr p o, .ptr q u => decide (p = q) && o == u
  | .nilptr, .nilptr => true
  | .slice p a b c, .slice q d e f => decide (p = q) && a == d && b == e && c == f
  | .oslice p a b c, .oslice q d e f => decide (p = q) && a == d && b == e && c == f
  | .nilslice, .nilslice => true
  | .map p, .map q => decide (p = q)
  | .yield p, .yield q => decide (p = q)
  | .nilmap, .nilmap => true
  | .func f a b, .func g c d => decide (f = g) && AV.beq a c && AV.beq b d
  | .nilfunc, .nilfunc => true
  | .iface t v, .iface u w => t == u && AV.beq v w
  | .niliface, .niliface => true
  | .agg a, .agg b => AV.beq a b
  | .tuple a, .tuple b => AV.beq a b
  | .nil, .nil => true
  | .cons a r, .cons b s => AV.beq a b && AV.beq r s
  | _, _ => false

/-- Does it answer the same in so many elder states of memory? -/
def backs (ci : CI) (ls : AV) (fr : Tr AV) (v : AV) : Nat → List Heap → Bool
  | 0, _ => true
  | n + 1, H :: Hs => (match ci.ev ls fr H with | some (u, _) => AV.beq u v | none => false) && backs ci ls fr v n Hs
  | _ + 1, [] => false

def setDst (fr : Tr AV) (dst : Option Pos) (v : AV) : Tr AV :=
  match dst with
  | some p => fr.set p v
  | none => fr

def wanted (ls : AV) : Option (Nat × Bool) → Option Bool
  | none => some true
  | some (j, b) =>
    match ls.nth j with
    | some (.bool c) => some (c == b)
    | some (.tuple .nil) => some false
    | _ => none

section
variable (call : Nat → AV → Heap → Option (CR × Heap)) (yld : Pos → AV → Heap → Option (CR × Heap))

/-- No round is called. -/
def noY : Pos → AV → Heap → Option (CR × Heap) := fun _ _ _ => none

/-- The call that an instruction is, if it is one: whom, and with what. -/
def callee (ls : AV) (fr : Tr AV) : CI → Option (Nat × AV)
  | .callF f args => do some (f, ← args.ev ls fr)
  | .callV g args => do
    match ← g.ev ls fr with
    | .func (.func f) a b => some (f, a.app ((← args.ev ls fr).app b))
    | _ => none
  | _ => none

/-- Does it read, at the most? -/
def CI.light : CI → Bool
  | .mov _ | .pick .. | .build .. | .load1 _ | .loadN .. | .nilCheck _ | .arith .. | .shift .. | .cmp .. | .cat .. | .scmp .. | .eq .. | .neg _ | .compl _ | .not _ | .convInt .. | .same _ | .ofBytes _ | .mkIface .. | .mkFunc .. | .sliceStr .. | .sliceSl .. | .sliceArr .. | .fieldAddr .. | .field1 .. | .fieldN .. | .idxSl .. | .idxArr .. | .idxAgg1 .. | .idxAggN .. | .idxStr .. | .lookup .. | .lookupP .. | .idxByte .. | .assert .. | .extract .. | .lenStr _ | .lenSl _ | .lenMap _ | .capSl _ | .lit _ | .min .. | .max .. => true
  | _ => false
/-- Does it make a block whose content does not hang on memory? -/
def CI.float : CI → Bool
  | .alloc .. | .box _ | .buildSlice .. => true
  | _ => false

def CI.isCall : CI → Bool
  | .callF _ _ => true
  | .callV _ _ => true
  | _ => false

/-- Does it neither call nor throw nor defer? -/
def CI.quiet : CI → Bool
  | .callF _ _ | .callV _ _ | .panic _ | .defer _ _ => false
  | _ => true

/-- One instruction that is wanted. -/
def CI.run (ls : AV) (fr : Tr AV) (H : Heap) (ci : CI) : Option (CR × Heap) :=
  match ci with
  | .callF f args => do
    let (f, as) ← callee ls fr (.callF f args)
    call f as H
  | .callV g args =>
    match g.ev ls fr with
    | some (.yield p) =>
      match args.ev ls fr with
      | some as => yld p as H
      | none => none
    | _ =>
      match callee ls fr (.callV g args) with
      | some (f, as) => call f as H
      | none => none
  | .panic x => do
    match ← x.ev ls fr with
    | .iface t v => some (.pan (.iface t v), H)
    | _ => none
  | .defer g args => do
    let (f, as) ← callee ls fr (.callV g args)
    some (.ret (.cons (.iface f as) ((fr.get .h).getD .nil)), H)
  | ci => do
    let (v, H') ← ci.ev ls fr H
    some (.ret v, H')

def CIs.run : CIs → AV → Tr AV → Heap → Option RO
  | .nil, ls, fr, H => some (.ok ls fr H)
  | .cons g ci dst r, ls, fr, H =>
    match wanted ls g with
    | none => none
    | some false => CIs.run r (.cons undefA ls) (setDst fr dst undefA) H
    | some true =>
      match CI.run call yld ls fr H ci with
      | some (.ret v, H') => CIs.run r (.cons v ls) (setDst fr dst v) H'
      | some (.pan v, H') => some (.pan v fr H')
      | none => none

/-- An object, put into each of some states of memory. -/
def putAll (p : Pos) (o : AO) : List Heap → List Heap
  | [] => []
  | H :: r => H.put p o :: putAll p o r

/-- So many names, kept. -/
def reserve : Nat → Heap → List Pos × Heap
  | 0, H => ([], H)
  | n + 1, H => let r := reserve n ⟨H.next.succ, H.t⟩; (H.next :: r.1, r.2)

/-- The elder states of memory, behind an instruction that was not wanted. -/
def Kd.elder : Kd → Heap → List Heap → List Heap
  | .heavy, H, Hs => H :: Hs
  | _, _, Hs => Hs

def DIs.run : DIs → List Pos → List Heap → AV → Tr AV → Heap → Option (Tr AV × Heap)
  | .nil, _, _, _, fr, H => some (fr, H)
  | .cons g ci dst k r, R, Hs, ls, fr, H =>
    match wanted ls g with
    | none => none
    | some false => DIs.run r R (k.elder H Hs) (.cons undefA ls) (setDst fr dst undefA) H
    | some true =>
      match k with
      | .heavy =>
        match CI.run call noY ls fr H ci with
        | some (.ret v, H') => DIs.run r R (H :: Hs) (.cons v ls) (setDst fr dst v) H'
        | _ => none
      | .light bk =>
        match ci.ev ls fr H with
        | some (v, _) => if backs ci ls fr v bk Hs then DIs.run r R Hs (.cons v ls) (setDst fr dst v) H else none
        | none => none
      | .float =>
        match R with
        | [] => none
        | p :: R =>
          match ci.ev ls fr ⟨p, .leaf⟩ with
          | some (v, F) =>
            match F.get p with
            | some o => DIs.run r R (putAll p o Hs) (.cons v ls) (setDst fr dst v) (H.put p o)
            | none => none
          | none => none

/-- Is nothing in a slot? -/
def slotFree (fr : Tr AV) : Option Pos → Bool
  | none => true
  | some p => (fr.get p).isNone

/-- What is left behind one that threw: it comes behind that, or it can be done, whenever that is, and is not seen. 'c': so many heavy ones that are not done, the one that threw the last of them. -/
def DIs.tail : DIs → Nat → List Pos → List Heap → AV → Tr AV → Heap → Bool
  | .nil, _, _, _, _, _, _ => true
  | .cons g ci dst k r, c, R, Hs, ls, fr, H =>
    match k with
    | .heavy => DIs.tail r (c + 1) R (H :: Hs) (.cons undefA ls) (setDst fr dst undefA) H
    | .light bk =>
      if bk < c then DIs.tail r c R Hs (.cons undefA ls) (setDst fr dst undefA) H
      else slotFree fr dst &&
        match wanted ls g with
        | some false => DIs.tail r c R Hs (.cons undefA ls) (setDst fr dst undefA) H
        | some true =>
          match ci.ev ls fr H with
          | some (v, _) => backs ci ls fr v bk Hs && DIs.tail r c R Hs (.cons v ls) (setDst fr dst v) H
          | none => false
        | none => false
    | .float => slotFree fr dst &&
        match wanted ls g with
        | some false => DIs.tail r c R Hs (.cons undefA ls) (setDst fr dst undefA) H
        | some true =>
          match R with
          | [] => false
          | p :: R =>
            match ci.ev ls fr ⟨p, .leaf⟩ with
            | some (v, F) =>
              match F.get p with
              | some o => DIs.tail r c R (putAll p o Hs) (.cons v ls) (setDst fr dst v) (H.put p o)
              | none => false
            | none => false
        | none => false

/-- A region that draws and throws. -/
def DIs.pan : DIs → List Pos → List Heap → AV → Tr AV → Heap → Option (AV × Tr AV × Heap)
  | .nil, _, _, _, _, _ => none
  | .cons g ci dst k r, R, Hs, ls, fr, H =>
    match wanted ls g with
    | none => none
    | some false => DIs.pan r R (k.elder H Hs) (.cons undefA ls) (setDst fr dst undefA) H
    | some true =>
      match k with
      | .heavy =>
        match CI.run call noY ls fr H ci with
        | some (.ret v, H') => DIs.pan r R (H :: Hs) (.cons v ls) (setDst fr dst v) H'
        | some (.pan v, H') => if DIs.tail r 1 R (H :: Hs) (.cons undefA ls) (setDst fr dst undefA) H then some (v, fr, H') else none
        | none => none
      | .light bk =>
        match ci.ev ls fr H with
        | some (v, _) => if backs ci ls fr v bk Hs then DIs.pan r R Hs (.cons v ls) (setDst fr dst v) H else none
        | none => none
      | .float =>
        match R with
        | [] => none
        | p :: R =>
          match ci.ev ls fr ⟨p, .leaf⟩ with
          | some (v, F) =>
            match F.get p with
            | some o => DIs.pan r R (putAll p o Hs) (.cons v ls) (setDst fr dst v) (H.put p o)
            | none => none
          | none => none

end

/-- What stands behind a label. -/
def findLabelC : CCode → Nat → Option CCode
  | .seq a b, l =>
    match findLabelC a l with
    | some rest => some (.seq rest b)
    | none => findLabelC b l
  | .label l', l => if l' = l then some .skip else none
  | _, _ => none

def condV (fr : Tr AV) (c : Opd) : Option Bool :=
  match c.ev .nil fr with
  | some (.bool b) => some b
  | _ => none

/-- What comes of an 'exit' at its block. -/
def atBlock (id : Nat) : Ex → Ex
  | .exit i => if i = id then .normal else .exit i
  | e => e

def CRes.ev (fr : Tr AV) (H : Heap) : CRes → Option AV
  | .tmp p => fr.get p
  | .cell1 p => do
    match ← fr.get p with
    | .ptr q off => H.cell q off
    | _ => none
  | .cellN p n => do
    match ← fr.get p with
    | .ptr q off => some (.agg (← H.cellsAt q off n))
    | _ => none

def resultsL (fr : Tr AV) (H : Heap) : List CRes → Option AV
  | [] => some .nil
  | r :: rs => do
    let v ← r.ev fr H
    let vs ← resultsL fr H rs
    some (.cons v vs)

def resultsA (fr : Tr AV) (H : Heap) (rs : List CRes) : Option AV := do
  let vs ← resultsL fr H rs
  match vs with
  | .cons v .nil => some v
  | vs => some (.tuple vs)

/-- The frame of a call: its arguments in the first slots. -/
def enterFr : AV → Nat → Tr AV → Option (Tr AV)
  | .nil, _, t => some t
  | .cons v r, i, t => enterFr r (i + 1) (t.set (key (i + 1)) v)
  | _, _, _ => none

def finish (cf : CFunc) : Option (Ex × Tr AV × Heap) → Option (CR × Heap)
  | some (.normal, fr, H) | some (.ret, fr, H) => (resultsA fr H cf.results).map fun v => (.ret v, H)
  | some (.pan v, _, H) => some (.pan v, H)
  | _ => none

/-- A deferred call: what was thrown ahead of it (if nothing was: 'niliface'); and so behind it. -/
def doCallD (tbl : Nat → Option CFunc) (rec : CCode → Tr AV → Heap → Option (Ex × Tr AV × Heap)) (f : Nat) (args m : AV) (H : Heap) : Option (AV × Heap) :=
  match tbl f with
  | none => none
  | some cf =>
    match cf.konst with
    | none =>
      if cf.body.plain then
        match enterFr args 0 .leaf with
        | none => none
        | some fr =>
          match finish cf (rec cf.body fr H) with
          | some (.ret _, H') => some (m, H')
          | _ => none
      else none
    | some .recov =>
      match enterFr args 0 .leaf with
      | none => none
      | some fr =>
        match rec cf.body (fr.set .h m) H with
        | some (.normal, fr', H') | some (.ret, fr', H') =>
          match resultsA fr' H' cf.results, fr'.get .h with
          | some _, some m' => some (m', H')
          | _, _ => none
        | _ => none
    | _ => none

/-- A function leaves: its deferred calls, then its results. -/
def leave (callD : Nat → AV → AV → Heap → Option (AV × Heap)) (rs : List CRes) (fr : Tr AV) : AV → AV → Heap → Option (CR × Heap)
  | .nil, m, H =>
    match m with
    | .niliface => (resultsA fr H rs).map fun v => (.ret v, H)
    | .iface t v => some (.pan (.iface t v), H)
    | _ => none
  | .cons (.iface f as) L, m, H =>
    match callD f as m H with
    | some (m', H') => leave callD rs fr L m' H'
    | none => none
  | _, _, _ => none
def finishD (callD : Nat → AV → AV → Heap → Option (AV × Heap)) (cf : CFunc) : Option (Ex × Tr AV × Heap) → Option (CR × Heap)
  | some (.normal, fr, H) | some (.ret, fr, H) => leave callD cf.results fr ((fr.get .h).getD .nil) .niliface H
  | some (.pan v, fr, H) => match v with
    | .iface t x => leave callD cf.results fr ((fr.get .h).getD .nil) (.iface t x) H
    | _ => none
  | _ => none

def doCall (tbl : Nat → Option CFunc) (rec : CCode → Tr AV → Heap → Option (Ex × Tr AV × Heap)) (f : Nat) (args : AV) (H : Heap) : Option (CR × Heap) :=
  match tbl f with
  | none => none
  | some cf =>
    match cf.konst with
    | some (.val v) => (match args with | .nil => some (.ret v, H) | _ => none)
    | some (.nat g) => (match g args H with | some v => some (.ret v, H) | none => none)
    | some (.act k) => (match actF k args H with | some (v, H') => some (.ret v, H') | none => none)
    | some .dfr =>
      match enterFr args 0 .leaf with
      | none => none
      | some fr => finishD (doCallD tbl rec) cf (rec cf.body fr H)
    | some .recov => none
    | none =>
      match enterFr args 0 .leaf with
      | none => none
      | some fr => finish cf (rec cf.body fr H)

/-- How a round was left. -/
def pendOf : Ex → Option AV
  | .normal => some .nil
  | .exit i => some (.int 0 i)
  | .goto l => some (.int 1 l)
  | .ret => some (.bool true)
  | .pan _ => none
def exOf : AV → Option Ex
  | .nil => some .normal
  | .int 0 (.ofNat i) => some (.exit i)
  | .int 1 (.ofNat l) => some (.goto l)
  | .bool true => some .ret
  | _ => none

/-- A round's slots. -/
def setParams : List Tmp → AV → Tr AV → Option (Tr AV)
  | [], .nil, fr => some fr
  | t :: ts, .cons v r, fr => setParams ts r (fr.set (key (t + 1)) v)
  | _, _, _ => none

/-- A frame's first n temporaries, laid anew: what a round begins with. -/
def canonF (fr : Tr AV) : Nat → Tr AV
  | 0 => .leaf
  | n + 1 =>
    match fr.get (key (n + 1)) with
    | some v => (canonF fr n).set (key (n + 1)) v
    | none => canonF fr n

/-- A round of a range over a function. -/
def doYield (rec : CCode → Tr AV → Heap → Option (Ex × Tr AV × Heap)) (p : Pos) (args : AV) (H : Heap) : Option (CR × Heap) :=
  match H.get p with
  | some (.loop 0 _ fr k) =>
    match setParams k.ps args (canonF fr k.n) with
    | none => none
    | some fr1 =>
      match rec k.assign fr1 H with
      | some (.normal, fr2, H2) =>
        match H2.get p with
        | some (.loop 0 pe fr3 k3) =>
          match rec k.body fr2 (H2.put p (.loop 1 pe fr3 k3)) with
          | some (e, _, H3) =>
            match pendOf e, H3.get p with
            | some pe', some (.loop _ _ fr4 k4) =>
              match pe' with
              | .nil => some (.ret (.bool true), H3.put p (.loop 0 .nil fr4 k4))
              | _ => some (.ret (.bool false), H3.put p (.loop 2 pe' fr4 k4))
            | _, _ => none
          | none => none
        | _ => none
      | _ => none
  | _ => none

def stepC (tbl : Nat → Option CFunc) (rec : CCode → Tr AV → Heap → Option (Ex × Tr AV × Heap)) (c : CCode) (fr : Tr AV) (H : Heap) : Option (Ex × Tr AV × Heap) :=
  match c with
  | .rangeFunc g ps asg body sa sb n far =>
    match g.ev .nil fr with
    | some (.func (.func f) a b) =>
      match doCall tbl rec f (a.app (.cons (.yield H.next) b)) (H.new (.loop 0 .nil (canonF fr n) ⟨ps, asg, body, sa, sb, n, far⟩)).2 with
      | some (.ret _, H2) =>
        match H2.get H.next with
        | some (.loop st pe fr' k') =>
          if st = 1 then none else
          match exOf pe with
          | some e => some (e, fr, H2.put H.next (.loop 3 pe fr' k'))
          | none => none
        | _ => none
      | some (.pan v, H2) => some (.pan v, fr, H2)
      | none => none
    | _ => none
  | .skip => some (.normal, fr, H)
  | .region cs =>
    match cs.run (doCall tbl rec) (doYield rec) .nil fr H with
    | some (.ok _ fr' H') => some (.normal, fr', H')
    | some (.pan v fr' H') => some (.pan v, fr', H')
    | none => none
  | .draw ds nf =>
    match ds.run (doCall tbl rec) (reserve nf H).1 [] .nil fr (reserve nf H).2 with
    | some (fr', H') => some (.normal, fr', H')
    | none =>
      match ds.pan (doCall tbl rec) (reserve nf H).1 [] .nil fr (reserve nf H).2 with
      | some (v, fr', H') => some (.pan v, fr', H')
      | none => none
  | .seq a b =>
    match rec a fr H with
    | some (.normal, fr', H') => rec b fr' H'
    | r => r
  | .cond c a b =>
    match condV fr c with
    | some true => rec a fr H
    | some false => rec b fr H
    | none => none
  | .block id c =>
    match rec c fr H with
    | some (e, fr', H') => some (atBlock id e, fr', H')
    | none => none
  | .loop c =>
    match rec c fr H with
    | some (.normal, fr', H') => rec (.loop c) fr' H'
    | r => r
  | .exit id => some (.exit id, fr, H)
  | .scope rest c =>
    match rec rest fr H with
    | some (.goto l, fr', H') =>
      match findLabelC c l with
      | some rest' => rec (.scope rest' c) fr' H'
      | none => some (.goto l, fr', H')
    | r => r
  | .label _ => some (.normal, fr, H)
  | .goto l => some (.goto l, fr, H)
  | .ret => some (.ret, fr, H)

def run (tbl : Nat → Option CFunc) : Nat → CCode → Tr AV → Heap → Option (Ex × Tr AV × Heap)
  | 0 => fun _ _ _ => none
  | n + 1 => stepC tbl (run tbl n)

/-- A call, by fuel. -/
def callN (tbl : Nat → Option CFunc) (n : Nat) (f : Nat) (args : AV) (H : Heap) : Option (CR × Heap) := doCall tbl (run tbl n) f args H

end Go.Dx
