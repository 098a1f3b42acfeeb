/-
  A deterministic semantics ('Dx') of the model's code: values and memory with names in the place of block numbers; what a draw decides (the order within a region, a new array's capacity) is left open.
  This text: the data, and what each operation does, as plain functions.
-/
import Derived.Calls
set_option linter.unusedSimpArgs false
set_option linter.unusedVariables false
set_option linter.unusedSectionVars false
namespace Go.Dx

/-- A name of a block; also a key of a tree. -/
inductive Pos where
  | h
  | o (p : Pos)
  | i (p : Pos)
  deriving DecidableEq, Repr, Inhabited

def Pos.succ : Pos → Pos
  | .h => .o .h
  | .o p => .i p
  | .i p => .o p.succ

def Pos.num : Pos → Nat
  | .h => 1
  | .o p => 2 * p.num
  | .i p => 2 * p.num + 1

/-- The key of a number: that of n is n + 1. -/
def Pos.ofFuel : Nat → Nat → Pos
  | 0, _ => .h
  | f + 1, n => if n ≤ 1 then .h else if n % 2 = 0 then .o (Pos.ofFuel f (n / 2)) else .i (Pos.ofFuel f (n / 2))

def key (n : Nat) : Pos := Pos.ofFuel (n + 1) (n + 1)

/-- Trees by keys. -/
inductive Tr (α : Type) where
  | leaf
  | nod (l r : Tr α)
  | val (l : Tr α) (x : α) (r : Tr α)
  deriving Inhabited

namespace Tr
variable {α : Type}
def get : Pos → Tr α → Option α
  | .h, .val _ x _ => some x
  | .h, _ => none
  | .o p, .nod l _ => get p l
  | .o p, .val l _ _ => get p l
  | .o _, .leaf => none
  | .i p, .nod _ r => get p r
  | .i p, .val _ _ r => get p r
  | .i _, .leaf => none
def set : Pos → α → Tr α → Tr α
  | .h, x, .leaf => .val .leaf x .leaf
  | .h, x, .nod l r => .val l x r
  | .h, x, .val l _ r => .val l x r
  | .o p, x, .leaf => .nod (set p x .leaf) .leaf
  | .o p, x, .nod l r => .nod (set p x l) r
  | .o p, x, .val l y r => .val (set p x l) y r
  | .i p, x, .leaf => .nod .leaf (set p x .leaf)
  | .i p, x, .nod l r => .nod l (set p x r)
  | .i p, x, .val l y r => .val l y (set p x r)
end Tr

/-- The kinds of integers, by number. -/
def kindOf : Nat → IntKind
  | 0 => .i8 | 1 => .i16 | 2 => .i32 | 3 => .i64 | 4 => .u8 | 5 => .u16 | 6 => .u32 | _ => .u64
def codeOf : IntKind → Nat
  | .i8 => 0 | .i16 => 1 | .i32 => 2 | .i64 => 3 | .u8 => 4 | .u16 => 5 | .u32 => 6 | .u64 => 7

/-- Values. A text is its length and a number (its bytes, the first one lowest). 'open' slices reach to their array's end, wherever that is. Lists of values are values too. -/
inductive AV where
  | bool (b : Bool)
  | int (c : Nat) (n : Int)
  | str (len n : Nat)
  | ptr (p : Pos) (off : Nat)
  | nilptr
  | slice (p : Pos) (off len cap : Nat)
  | oslice (p : Pos) (off len size : Nat)
  | nilslice
  | map (p : Pos)
  | nilmap
  | func (fn : Fn) (first captured : AV)
  | nilfunc
  | iface (t : Nat) (v : AV)
  | niliface
  | agg (cs : AV)
  | tuple (vs : AV)
  | nil
  | cons (a r : AV)
  -- what a round of a range over a function is called by
  | yield (p : Pos)
  deriving Inhabited

/-- A map's entries. -/
inductive ME where
  | nil
  | cons (k v : AV) (born : Nat) (r : ME)
  deriving Inhabited

inductive Opd where
  | loc (j : Nat)
  | var (p : Pos)
  | lit (v : AV)
  deriving Inhabited

/-- A leaf's kind: what is compared by its bits. -/
inductive LK where
  | int | str | bool
  deriving DecidableEq, Inhabited

/-- How two values of a type are compared. -/
inductive EK where
  | leaf (k : LK)
  | ptr
  | slice
  | map
  | func
  | iface
  | flat (ks : List LK)
  deriving Inhabited

inductive Opds where
  | nil
  | cons (x : Opd) (r : Opds)
  deriving Inhabited

/-- Parts of what is built: a place, how many cells, what. -/
inductive Parts where
  | nil
  | cons (off size : Nat) (x : Opd) (r : Parts)
  deriving Inhabited

inductive CI where
  | mov (x : Opd)
  | pick (c a b : Opd)
  | alloc (zero : AV) (n : Nat)
  | box (x : Opd)
  | build (zero : AV) (parts : Parts)
  | buildSlice (zero : AV) (n len : Nat) (parts : Parts)
  | load1 (a : Opd)
  | loadN (n : Nat) (a : Opd)
  | store (n : Nat) (a x : Opd)
  | nilCheck (x : Opd)
  | arith (op : BinOp) (c : Nat) (x y : Opd)
  | shift (op : BinOp) (c : Nat) (x y : Opd)
  | cmp (op : BinOp) (x y : Opd)
  | cat (x y : Opd)
  | scmp (op : BinOp) (x y : Opd)
  | eq (k : EK) (ne : Bool) (x y : Opd)
  | neg (x : Opd)
  | compl (x : Opd)
  | not (x : Opd)
  | convInt (c : Nat) (x : Opd)
  | same (x : Opd)
  | toBytes (x : Opd)
  | ofBytes (x : Opd)
  | mkIface (t : Nat) (x : Opd)
  | mkFunc (fn : Fn) (first captured : Opds)
  | mkMap
  | makeSlice (zero : AV) (size : Nat) (len cap : Opd)
  | sliceStr (x : Opd) (lo hi : Option Opd)
  | sliceSl (size : Nat) (x : Opd) (lo hi mx : Option Opd)
  | sliceArr (size n : Nat) (x : Opd) (lo hi mx : Option Opd)
  | fieldAddr (off : Nat) (x : Opd)
  | field1 (off : Nat) (x : Opd)
  | fieldN (off n : Nat) (x : Opd)
  | idxSl (size : Nat) (x i : Opd)
  | idxArr (size n : Nat) (x i : Opd)
  | idxAgg1 (n : Nat) (x i : Opd)
  | idxAggN (size n : Nat) (x i : Opd)
  | idxStr (x i : Opd)
  | lookup (k : EK) (zero : AV) (ok : Bool) (m x : Opd)
  | update (k : EK) (m x v : Opd)
  | assert (t : Nat) (zero : AV) (ok : Bool) (x : Opd)
  | extract (j : Nat) (x : Opd)
  | append (zero : AV) (size : Nat) (x y : Opd)
  | appendZ (zero : AV) (size : Nat) (x y : Opd)
  | clear (zero : AV) (size : Nat) (x : Opd)
  | lenStr (x : Opd)
  | lenSl (x : Opd)
  | lenMap (x : Opd)
  | capSl (x : Opd)
  | lit (v : AV)
  | copy (size : Nat) (x y : Opd)
  | delete (k : EK) (m x : Opd)
  | min (x y : Opd)
  | max (x y : Opd)
  -- these are done by whoever runs the code
  | callF (f : Nat) (args : Opds)
  | callV (f : Opd) (args : Opds)
  | panic (x : Opd)
  -- its value: what is deferred then, the newest call first
  | defer (f : Opd) (args : Opds)
  deriving Inhabited

/-- A region's instructions: a guard (a place among the values so far, and what must stand there); what it does; the slot that is read elsewhere, if it is. -/
inductive CIs where
  | nil
  | cons (g : Option (Nat × Bool)) (ci : CI) (dst : Option Pos) (r : CIs)
  deriving Inhabited

/-- How an instruction of a region that draws stands to the others: it may change memory (these stand in one row); or it reads, and must answer the same in so many elder states of memory besides; or it makes a block, whenever that is. -/
inductive Kd where
  | heavy
  | light (bk : Nat)
  | float
  deriving Inhabited, DecidableEq

/-- The instructions of a region that draws, in one of its orders. -/
inductive DIs where
  | nil
  | cons (g : Option (Nat × Bool)) (ci : CI) (dst : Option Pos) (k : Kd) (r : DIs)
  deriving Inhabited

inductive CCode where
  | skip
  | region (cs : CIs)
  | draw (ds : DIs) (nf : Nat)
  | seq (a b : CCode)
  | cond (c : Opd) (a b : CCode)
  | block (id : Nat) (c : CCode)
  | loop (c : CCode)
  | exit (id : Nat)
  | scope (rest c : CCode)
  | label (l : Nat)
  | goto (l : Nat)
  | ret
  -- a range over a function: the function, the loop's record
  | rangeFunc (g : Opd) (ps : List Tmp) (assign body : CCode) (srcA srcB : Code) (n : Nat) (far : Nat → Bool)
  deriving Inhabited

def CI.isDefer : CI → Bool
  | .defer _ _ => true
  | _ => false
/-- Does it defer nothing? -/
def CIs.noDef : CIs → Bool
  | .nil => true
  | .cons _ ci _ r => !ci.isDefer && noDef r
def CCode.noDef : CCode → Bool
  | .region cs => cs.noDef
  | .seq a b => noDef a && noDef b
  | .cond _ a b => noDef a && noDef b
  | .scope a b => noDef a && noDef b
  | .block _ c => noDef c
  | .loop c => noDef c
  | _ => true

/-- Code without a range over a function, that defers nothing. -/
def CCode.plain : CCode → Bool
  | .region cs => cs.noDef
  | .seq a b => plain a && plain b
  | .cond _ a b => plain a && plain b
  | .scope a b => plain a && plain b
  | .block _ c => plain c
  | .loop c => plain c
  | .rangeFunc .. => false
  | _ => true

/-- What a range over a function keeps for its rounds: the slots of the loop's variables, the code; and what these were made of (this is looked at in proofs alone). -/
structure LoopK where
  ps : List Tmp
  assign : CCode
  body : CCode
  srcA : Code
  srcB : Code
  n : Nat
  far : Nat → Bool

/-- What lies in memory. 'cells': so many cells; of an open one there may be more. 'ro': some cells that are read alone (an argument's). -/
inductive AO where
  | cells (t : Tr AV) (n : Nat) (opn : Bool)
  | map (es : ME) (clock : Nat)
  | dead
  | ro (t : Tr AV)
  -- a range over a function that is under way: 0 ready, 1 busy, 2 done, 3 exhausted; how its last round was left
  | loop (st : Nat) (pend : AV) (fr : Tr AV) (k : LoopK)
  deriving Inhabited

structure Heap where
  next : Pos
  t : Tr AO
  deriving Inhabited

def Heap.get (H : Heap) (p : Pos) : Option AO := H.t.get p
def Heap.put (H : Heap) (p : Pos) (o : AO) : Heap := ⟨H.next, H.t.set p o⟩
def Heap.new (H : Heap) (o : AO) : Pos × Heap := (H.next, ⟨H.next.succ, H.t.set H.next o⟩)

namespace AV
def app : AV → AV → AV
  | .nil, y => y
  | .cons a r, y => .cons a (app r y)
  | x, _ => x
def len : AV → Nat
  | .cons _ r => len r + 1
  | _ => 0
/-- The cells of a value: a list. -/
def cells : AV → AV
  | .agg cs => cs
  | .nil => .nilptr
  | .cons _ _ => .nilptr
  | v => .cons v .nil
def nth : AV → Nat → Option AV
  | .cons a _, 0 => some a
  | .cons _ r, n + 1 => nth r n
  | _, _ => none
def drop : AV → Nat → AV
  | l, 0 => l
  | .cons _ r, n + 1 => drop r n
  | l, _ => l
def take : AV → Nat → AV
  | _, 0 => .nil
  | .cons a r, n + 1 => .cons a (take r n)
  | _, _ => .nil
/-- Are all its parts there, and is it a list? -/
def isList : AV → Bool
  | .nil => true
  | .cons _ r => isList r
  | _ => false
end AV

def undefA : AV := .tuple .nil

/-- Cells of a tree, from one on, so many. -/
def cellsFrom (t : Tr AV) : Nat → Nat → Option AV
  | _, 0 => some .nil
  | o, n + 1 => do
    let v ← t.get (key o)
    let r ← cellsFrom t (o + 1) n
    some (.cons v r)

/-- Cells put into a tree, from one on; each must be a cell's value. -/
def isCell : AV → Bool
  | .agg _ => false
  | .tuple _ => false
  | .nil => false
  | .cons _ _ => false
  | _ => true
def putCells (t : Tr AV) : Nat → AV → Option (Tr AV)
  | _, .nil => some t
  | o, .cons v r => if isCell v then putCells (t.set (key o) v) (o + 1) r else none
  | _, _ => none

/-- A new tree of a list's cells. -/
def treeOf (l : AV) : Option (Tr AV) := putCells .leaf 0 l

end Go.Dx
