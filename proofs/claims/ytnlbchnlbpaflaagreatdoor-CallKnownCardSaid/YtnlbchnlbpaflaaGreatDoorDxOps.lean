/-
  The deterministic semantics: what each instruction does. Nothing of the model's machine is in sight here.
-/
import Derived.Test.YtnlbchnlbpaflaaGreatDoorDxCore
set_option linter.unusedSimpArgs false
set_option linter.unusedVariables false
set_option linter.unusedSectionVars false
namespace Go.Dx

def Opd.ev (ls : AV) (fr : Tr AV) : Opd → Option AV
  | .loc j => ls.nth j
  | .var p => fr.get p
  | .lit v => some v

def Opds.ev (ls : AV) (fr : Tr AV) : Opds → Option AV
  | .nil => some .nil
  | .cons x r => do
    let v ← x.ev ls fr
    let vs ← r.ev ls fr
    some (.cons v vs)

def asInt : AV → Option (Nat × Int)
  | .int c n => some (c, n)
  | _ => none
def asBool : AV → Option Bool
  | .bool b => some b
  | _ => none
def asNat : AV → Option Nat
  | .int _ (.ofNat n) => some n
  | _ => none
def optNat (ls : AV) (fr : Tr AV) (d : Nat) : Option Opd → Option Nat
  | none => some d
  | some x => (x.ev ls fr).bind asNat

def Parts.fill (ls : AV) (fr : Tr AV) (t : AV) : Parts → Option AV
  | .nil => some t
  | .cons off size x r => do
    let v ← x.ev ls fr
    let cs := v.cells
    if cs.len = size ∧ off + size ≤ t.len ∧ cs.isList then Parts.fill ls fr (AV.app (t.take off) (AV.app cs (t.drop (off + size)))) r
    else none

def repl (z : AV) : Nat → AV
  | 0 => .nil
  | n + 1 => AV.app z (repl z n)

def arithI (op : BinOp) (c : Nat) (x y : Int) : Option AV :=
  let k := kindOf c
  match op with
  | .add => some (.int c (k.wrap (x + y)))
  | .sub => some (.int c (k.wrap (x - y)))
  | .mul => some (.int c (k.wrap (x * y)))
  | .quo => if y = 0 then none else some (.int c (k.wrap (x.tdiv y)))
  | .rem => if y = 0 then none else some (.int c (x.tmod y))
  | .and => some (.int c (k.wrap ((BitVec.ofInt k.bits x &&& BitVec.ofInt k.bits y).toNat)))
  | .or => some (.int c (k.wrap ((BitVec.ofInt k.bits x ||| BitVec.ofInt k.bits y).toNat)))
  | .xor => some (.int c (k.wrap ((BitVec.ofInt k.bits x ^^^ BitVec.ofInt k.bits y).toNat)))
  | .andNot => some (.int c (k.wrap ((BitVec.ofInt k.bits x &&& ~~~BitVec.ofInt k.bits y).toNat)))
  | _ => none

def shiftI (op : BinOp) (c : Nat) (x y : Int) : Option AV :=
  let k := kindOf c
  if y < 0 then none else
  let n := Nat.min y.toNat k.bits
  match op with
  | .shl => some (.int c (k.wrap (x * 2 ^ n)))
  | .shr => some (.int c (x.fdiv (2 ^ n)))
  | _ => none

def cmpI (op : BinOp) (x y : Int) : Option Bool :=
  match op with
  | .eql => some (x == y)
  | .neq => some (x != y)
  | .lss => some (decide (x < y))
  | .leq => some (decide (x ≤ y))
  | .gtr => some (decide (y < x))
  | .geq => some (decide (y ≤ x))
  | _ => none

/-- Byte i of a text. -/
def byteAt (n i : Nat) : Nat := n / 256 ^ i % 256

/-- Is the first text less? From byte i on; 'd': how many bytes are left of the second one, and more. -/
def strLess (l1 n1 l2 n2 : Nat) : Nat → Nat → Bool
  | 0, _ => false
  | d + 1, i =>
    if i ≥ l2 then false
    else if i ≥ l1 then true
    else
      let a := byteAt n1 i
      let b := byteAt n2 i
      if a < b then true else if a = b then strLess l1 n1 l2 n2 d (i + 1) else false

def cmpS (op : BinOp) (l1 n1 l2 n2 : Nat) : Option Bool :=
  let eq := l1 == l2 && n1 == n2
  match op with
  | .eql => some eq
  | .neq => some (!eq)
  | .lss => some (strLess l1 n1 l2 n2 (l2 + 1) 0)
  | .leq => some (strLess l1 n1 l2 n2 (l2 + 1) 0 || eq)
  | .gtr => some (!(strLess l1 n1 l2 n2 (l2 + 1) 0 || eq))
  | .geq => some (!strLess l1 n1 l2 n2 (l2 + 1) 0)
  | _ => none

def eqLeaf : LK → AV → AV → Option Bool
  | .int, .int c a, .int d b => if c = d then some (a == b) else none
  | .str, .str l n, .str k m => some (l == k && n == m)
  | .bool, .bool a, .bool b => some (a == b)
  | _, _, _ => none

def eqFlat : List LK → AV → AV → Option Bool
  | [], .nil, .nil => some true
  | k :: ks, .cons a r, .cons b s =>
    match eqLeaf k a b with
    | some true => eqFlat ks r s
    | some false => some false
    | none => none
  | _, _, _ => none

def Heap.live (H : Heap) (p : Pos) : Bool :=
  match H.get p with
  | some .dead => false
  | some _ => true
  | none => false

/-- Is it a row of cells none of which is frozen? -/
def Heap.closed (H : Heap) (p : Pos) : Bool :=
  match H.get p with
  | some (.cells _ _ false) => true
  | _ => false

def eqA (H : Heap) : EK → AV → AV → Option Bool
  | .leaf k, a, b => eqLeaf k a b
  | .flat ks, .agg a, .agg b => eqFlat ks a b
  | .ptr, .nilptr, .nilptr => some true
  | .ptr, .nilptr, .ptr _ _ => some false
  | .ptr, .ptr _ _, .nilptr => some false
  | .ptr, .ptr p o, .ptr q u => if p = q then some (o == u) else if H.closed p && H.closed q then some false else none
  | .slice, .nilslice, .nilslice => some true
  | .slice, .nilslice, .slice _ _ _ _ => some false
  | .slice, .nilslice, .oslice _ _ _ _ => some false
  | .slice, .slice _ _ _ _, .nilslice => some false
  | .slice, .oslice _ _ _ _, .nilslice => some false
  | .map, .nilmap, .nilmap => some true
  | .map, .nilmap, .map _ => some false
  | .map, .map _, .nilmap => some false
  | .func, .nilfunc, .nilfunc => some true
  | .func, .nilfunc, .func _ _ _ => some false
  | .func, .func _ _ _, .nilfunc => some false
  | .iface, .niliface, .niliface => some true
  | .iface, .niliface, .iface _ _ => some false
  | .iface, .iface _ _, .niliface => some false
  | _, _, _ => none

/-- A key's kind: none but leaves and flat structs. -/
def eqKey (k : EK) (a b : AV) : Option Bool :=
  match k with
  | .leaf l => eqLeaf l a b
  | .flat ks => match a, b with
    | .agg x, .agg y => eqFlat ks x y
    | _, _ => none
  | _ => none

/-- Is a value of a key's kind? -/
def okKey (k : EK) (a : AV) : Bool := (eqKey k a a).isSome

def ME.find (k : EK) (x : AV) : ME → Option (Option AV)
  | .nil => some none
  | .cons y v _ r =>
    match eqKey k x y with
    | some true => some (some v)
    | some false => ME.find k x r
    | none => none

def ME.put (k : EK) (x v : AV) (clock : Nat) : ME → Option (ME × Bool)
  | .nil => some (.cons x v clock .nil, true)
  | .cons y u b r =>
    match eqKey k x y with
    | some true => some (.cons x v b r, false)
    | some false => (ME.put k x v clock r).map fun (m, fresh) => (.cons y u b m, fresh)
    | none => none

def ME.del (k : EK) (x : AV) : ME → Option ME
  | .nil => some .nil
  | .cons y u b r =>
    match eqKey k x y with
    | some true => some r
    | some false => (ME.del k x r).map fun m => .cons y u b m
    | none => none

def ME.size : ME → Nat
  | .nil => 0
  | .cons _ _ _ r => r.size + 1

/-- A cell of an object. -/
def Heap.cell (H : Heap) (p : Pos) (off : Nat) : Option AV :=
  match H.get p with
  | some (.cells t _ _) => t.get (key off)
  | some (.ro t) => t.get (key off)
  | _ => none

def Heap.cellsAt (H : Heap) (p : Pos) (off n : Nat) : Option AV :=
  match H.get p with
  | some (.cells t _ _) => cellsFrom t off n
  | some (.ro t) => cellsFrom t off n
  | _ => none

/-- Cells of an object written, one behind the other; all of them must be its own. -/
def Heap.store (H : Heap) (p : Pos) (off : Nat) (vs : AV) : Option Heap :=
  match H.get p with
  | some (.cells t n op) =>
    if off + vs.len ≤ n then (putCells t off vs).map fun t' => H.put p (.cells t' n op) else none
  | _ => none

/-- A new object of these cells. -/
def Heap.row (H : Heap) (cs : AV) (op : Bool) : Option (Pos × Heap) :=
  (treeOf cs).map fun t => H.new (.cells t cs.len op)

/-- The cells of the first n elements of a slice, or of a text. -/
def firstCells (H : Heap) (size n : Nat) : AV → Option AV
  | .nilslice => some .nil
  | .slice p off _ _ => if n * size = 0 then some .nil else H.cellsAt p off (n * size)
  | .oslice p off _ _ => if n * size = 0 then some .nil else H.cellsAt p off (n * size)
  | _ => none

def bytesFrom (m : Nat) : Nat → Nat → AV
  | _, 0 => .nil
  | i, n + 1 => .cons (.int 4 (byteAt m i)) (bytesFrom m (i + 1) n)

def lenOf : AV → Option Nat
  | .nilslice => some 0
  | .slice _ _ n _ => some n
  | .oslice _ _ n _ => some n
  | .str n _ => some n
  | _ => none

/-- What is appended or copied: so many elements' cells. -/
def srcCells (H : Heap) (size n : Nat) : AV → Option AV
  | .str l m => if n ≤ l ∧ size = 1 then some (bytesFrom m 0 n) else none
  | v => firstCells H size n v

/-- Most elements of a slice: more than any program here makes; a new array of so many is none that the model refuses. -/
def most : Nat := 17179869184

/-- n elements, of these cells, behind a slice's. -/
def appendC (H : Heap) (size n : Nat) (new : AV) (x : AV) : Option (AV × Heap) :=
  match x with
  | .nilslice =>
    if n = 0 then some (.nilslice, H)
    else if n ≤ most then do
      let (p, H') ← H.row new true
      some (.oslice p 0 n size, H')
    else none
  | .slice p off len cap =>
    if len + n ≤ cap then
      if new.len = 0 then some (.slice p off (len + n) cap, H)
      else (H.store p (off + len * size) new).map fun H' => (.slice p off (len + n) cap, H')
    else if len + n ≤ most then do
      let old ← firstCells H size len (.slice p off len cap)
      let (q, H') ← H.row (old.app new) true
      some (.oslice q 0 (len + n) size, H')
    else none
  | .oslice p off len s =>
    if s ≠ size then none else
    match H.get p with
    | some (.cells t m true) =>
      if off + (len + n) * size ≤ m then
        if new.len = 0 then some (.oslice p off (len + n) size, H)
        else (H.store p (off + len * size) new).map fun H' => (.oslice p off (len + n) size, H')
      else if len + n ≤ most ∧ off + len * size ≤ m then do
        let old ← cellsFrom t off (len * size)
        let (q, H') ← (H.put p .dead).row (old.app new) true
        some (.oslice q 0 (len + n) size, H')
      else none
    | _ => none
  | _ => none

def appendA (H : Heap) (size : Nat) (x y : AV) : Option (AV × Heap) := do
  let n ← lenOf y
  let new ← srcCells H size n y
  appendC H size n new x

/-- The bytes of a list of cells as a number. -/
def numOf : AV → Option Nat
  | .nil => some 0
  | .cons (.int 4 (.ofNat b)) r => if b < 256 then (numOf r).map fun m => b + 256 * m else none
  | _ => none

def sliceBounds (len cap : Nat) (lo hi mx : Option Nat) : Option (Nat × Nat × Nat) :=
  let m := mx.getD cap
  let h := hi.getD len
  let l := lo.getD 0
  if m ≤ cap ∧ h ≤ m ∧ l ≤ h then some (l, h, m) else none

def optN (ls : AV) (fr : Tr AV) : Option Opd → Option (Option Nat)
  | none => some none
  | some x => do
    let v ← x.ev ls fr
    let n ← asNat v
    some (some n)

/-- Cells laid over a slice's first ones. -/
def putAt (H : Heap) (dst cs : AV) : Option Heap :=
  if cs.len = 0 then (match dst with | .nilslice => some H | .slice _ _ _ _ => some H | .oslice _ _ _ _ => some H | _ => none) else
  match dst with
  | .slice p off _ _ => H.store p off cs
  | .oslice p off n _ => if n = 0 then none else H.store p off cs
  | _ => none

/-- What a map has under a key. -/
def mapLook (H : Heap) (k : EK) (key : AV) : AV → Option (Option AV)
  | .nilmap => some none
  | .map p =>
    match H.get p with
    | some (.map es _) => es.find k key
    | _ => none
  | _ => none
def lookRes (z : AV) (ok : Bool) : Option AV → AV
  | some v => if ok then .tuple (.cons v (.cons (.bool true) .nil)) else v
  | none => if ok then .tuple (.cons z (.cons (.bool false) .nil)) else z
def mapPut (H : Heap) (k : EK) (key v : AV) : AV → Option Heap
  | .map p =>
    match H.get p with
    | some (.map es clock) => (es.put k key v clock).map fun (es', fresh) => H.put p (.map es' (if fresh then clock + 1 else clock))
    | _ => none
  | _ => none
def mapDel (H : Heap) (k : EK) (key : AV) : AV → Option Heap
  | .nilmap => some H
  | .map p =>
    match H.get p with
    | some (.map es clock) => (es.del k key).map fun es' => H.put p (.map es' clock)
    | _ => none
  | _ => none

/-- One instruction that is no call and no panic: its value, and the memory behind it. -/
def CI.ev (ls : AV) (fr : Tr AV) (H : Heap) : CI → Option (AV × Heap)
  | .mov x => do some (← x.ev ls fr, H)
  | .pick c a b => do
    match ← c.ev ls fr with
    | .bool true => some (← a.ev ls fr, H)
    | .bool false => some (← b.ev ls fr, H)
    | _ => none
  | .alloc z n => do
    if z.len ≠ n then none else
    let (p, H') ← H.row z false
    some (.ptr p 0, H')
  | .box x => do
    let v ← x.ev ls fr
    let (p, H') ← H.row v.cells false
    some (.ptr p 0, H')
  | .build z ps => do some (.agg (← ps.fill ls fr z), H)
  | .buildSlice z n len ps => do
    let cs ← ps.fill ls fr (repl z len)
    if cs.len ≠ n then none else
    let (p, H') ← H.row cs false
    some (.slice p 0 len len, H')
  | .load1 a => do
    match ← a.ev ls fr with
    | .ptr p off => some (← H.cell p off, H)
    | _ => none
  | .loadN n a => do
    match ← a.ev ls fr with
    | .ptr p off => some (.agg (← H.cellsAt p off n), H)
    | _ => none
  | .store n a x => do
    match ← a.ev ls fr with
    | .ptr p off =>
      let cs := (← x.ev ls fr).cells
      if cs.len = n then some (undefA, ← H.store p off cs) else none
    | _ => none
  | .nilCheck x => do
    match ← x.ev ls fr with
    | .ptr p off => some (.ptr p off, H)
    | .func (.func f) a b => some (.func (.func f) a b, H)
    | .iface t v => some (.iface t v, H)
    | _ => none
  | .arith op c x y => do
    let (j, a) ← (← x.ev ls fr) |> asInt
    let (k, b) ← (← y.ev ls fr) |> asInt
    if j = c ∧ k = c then some (← arithI op c a b, H) else none
  | .shift op c x y => do
    let (j, a) ← (← x.ev ls fr) |> asInt
    let (_, b) ← (← y.ev ls fr) |> asInt
    if j = c then some (← shiftI op c a b, H) else none
  | .cmp op x y => do
    let (j, a) ← (← x.ev ls fr) |> asInt
    let (k, b) ← (← y.ev ls fr) |> asInt
    if j = k then some (.bool (← cmpI op a b), H) else none
  | .cat x y => do
    match ← x.ev ls fr, ← y.ev ls fr with
    | .str l n, .str k m => if l + k ≤ most then some (.str (l + k) (n + m * 256 ^ l), H) else none
    | _, _ => none
  | .scmp op x y => do
    match ← x.ev ls fr, ← y.ev ls fr with
    | .str l n, .str k m => some (.bool (← cmpS op l n k m), H)
    | _, _ => none
  | .eq k ne x y => do
    let b ← eqA H k (← x.ev ls fr) (← y.ev ls fr)
    some (.bool (b != ne), H)
  | .neg x => do
    let (c, a) ← (← x.ev ls fr) |> asInt
    some (← arithI .sub c 0 a, H)
  | .compl x => do
    let (c, a) ← (← x.ev ls fr) |> asInt
    some (← arithI .xor c (if (kindOf c).signed then -1 else (kindOf c).max) a, H)
  | .not x => do some (.bool (!(← (← x.ev ls fr) |> asBool)), H)
  | .convInt c x => do
    let (_, a) ← (← x.ev ls fr) |> asInt
    some (.int c ((kindOf c).wrap a), H)
  | .same x => do
    match ← x.ev ls fr with
    | .str l n => some (.str l n, H)
    | _ => none
  | .toBytes x => do
    match ← x.ev ls fr with
    | .str l n =>
      let (p, H') ← H.row (bytesFrom n 0 l) true
      some (.oslice p 0 l 1, H')
    | _ => none
  | .ofBytes x => do
    let v ← x.ev ls fr
    let l ← lenOf v
    let cs ← firstCells H 1 l v
    some (.str l (← numOf cs), H)
  | .mkIface t x => do some (.iface t (← x.ev ls fr), H)
  | .mkFunc fn a b => do some (.func fn (← a.ev ls fr) (← b.ev ls fr), H)
  | .mkMap => do
    let (p, H') := H.new (.map .nil 0)
    some (.map p, H')
  | .makeSlice z size len cap => do
    let l ← (← len.ev ls fr) |> asNat
    let c ← (← cap.ev ls fr) |> asNat
    if l ≤ c ∧ c ≤ most ∧ z.len = size then
      let (p, H') ← H.row (repl z c) false
      some (.slice p 0 l c, H')
    else none
  | .sliceStr x lo hi => do
    match ← x.ev ls fr with
    | .str len n =>
      let (l, h, _) ← sliceBounds len len (← optN ls fr lo) (← optN ls fr hi) none
      some (.str (h - l) (n / 256 ^ l % 256 ^ (h - l)), H)
    | _ => none
  | .sliceSl size x lo hi mx => do
    let l ← optN ls fr lo
    let h ← optN ls fr hi
    let m ← optN ls fr mx
    match ← x.ev ls fr with
    | .nilslice =>
      let _ ← sliceBounds 0 0 l h m
      some (.nilslice, H)
    | .slice p off len cap =>
      let (l, h, m) ← sliceBounds len cap l h m
      some (if m = l then .slice p off 0 0 else .slice p (off + l * size) (h - l) (m - l), H)
    | .oslice p off len s =>
      if s ≠ size then none else
      match H.get p with
      | some (.cells _ n true) =>
        -- at least so many elements are there
        let cap := (n - off) / size
        match m with
        | some _ =>
          let (l, h, m) ← sliceBounds len cap l h m
          if m = l then (if len = 0 then none else some (.slice p off 0 0, H)) else some (.slice p (off + l * size) (h - l) (m - l), H)
        | none =>
          let (l, h, _) ← sliceBounds len cap l h none
          some (.oslice p (off + l * size) (h - l) size, H)
      | _ => none
    | _ => none
  | .sliceArr size n x lo hi mx => do
    let l ← optN ls fr lo
    let h ← optN ls fr hi
    let m ← optN ls fr mx
    match ← x.ev ls fr with
    | .ptr p off =>
      let (l, h, m) ← sliceBounds n n l h m
      some (if m = l then .slice p off 0 0 else .slice p (off + l * size) (h - l) (m - l), H)
    | _ => none
  | .fieldAddr off x => do
    match ← x.ev ls fr with
    | .ptr p o => some (.ptr p (o + off), H)
    | _ => none
  | .field1 off x => do
    match ← x.ev ls fr with
    | .agg cs => some (← cs.nth off, H)
    | _ => none
  | .fieldN off n x => do
    match ← x.ev ls fr with
    | .agg cs => if off + n ≤ cs.len then some (.agg ((cs.drop off).take n), H) else none
    | _ => none
  | .idxSl size x i => do
    let i ← (← i.ev ls fr) |> asNat
    match ← x.ev ls fr with
    | .slice p off len _ => if i < len then some (.ptr p (off + i * size), H) else none
    | .oslice p off len _ => if i < len then some (.ptr p (off + i * size), H) else none
    | _ => none
  | .idxArr size n x i => do
    let i ← (← i.ev ls fr) |> asNat
    match ← x.ev ls fr with
    | .ptr p off => if i < n then some (.ptr p (off + i * size), H) else none
    | _ => none
  | .idxAgg1 n x i => do
    let i ← (← i.ev ls fr) |> asNat
    match ← x.ev ls fr with
    | .agg cs => if i < n then some (← cs.nth i, H) else none
    | _ => none
  | .idxAggN size n x i => do
    let i ← (← i.ev ls fr) |> asNat
    match ← x.ev ls fr with
    | .agg cs => if i < n ∧ i * size + size ≤ cs.len then some (.agg ((cs.drop (i * size)).take size), H) else none
    | _ => none
  | .idxStr x i => do
    let i ← (← i.ev ls fr) |> asNat
    match ← x.ev ls fr with
    | .str len n => if i < len then some (.int 4 (byteAt n i), H) else none
    | _ => none
  | .lookup k z ok m x => do
    let key ← x.ev ls fr
    let mv ← m.ev ls fr
    if !okKey k key then none else do
    let r ← mapLook H k key mv
    some (lookRes z ok r, H)
  | .update k m x v => do
    let key ← x.ev ls fr
    let v ← v.ev ls fr
    let mv ← m.ev ls fr
    if !okKey k key then none else do
    let H' ← mapPut H k key v mv
    some (undefA, H')
  | .assert t z ok x => do
    match ← x.ev ls fr with
    | .niliface => if ok then some (.tuple (.cons z (.cons (.bool false) .nil)), H) else none
    | .iface u v =>
      if u = t then some (if ok then .tuple (.cons v (.cons (.bool true) .nil)) else v, H)
      else if ok then some (.tuple (.cons z (.cons (.bool false) .nil)), H) else none
    | _ => none
  | .extract j x => do
    match ← x.ev ls fr with
    | .tuple vs => some (← vs.nth j, H)
    | _ => none
  | .append _ size x y => do appendA H size (← x.ev ls fr) (← y.ev ls fr)
  | .appendZ z size x y => do
    let n ← (← y.ev ls fr) |> asNat
    if n ≤ most ∧ z.len = size then appendC H size n (repl z n) (← x.ev ls fr) else none
  | .clear z size x => do
    let dst ← x.ev ls fr
    let n ← lenOf dst
    if z.len ≠ size then none else do
    let H' ← putAt H dst (repl z n)
    some (undefA, H')
  | .lenStr x => do
    match ← x.ev ls fr with
    | .str l _ => some (.int 3 l, H)
    | _ => none
  | .lenSl x => do
    match ← x.ev ls fr with
    | .nilslice => some (.int 3 0, H)
    | .slice _ _ n _ => some (.int 3 n, H)
    | .oslice _ _ n _ => some (.int 3 n, H)
    | _ => none
  | .lenMap x => do
    match ← x.ev ls fr with
    | .nilmap => some (.int 3 0, H)
    | .map p => match H.get p with
      | some (.map es _) => some (.int 3 es.size, H)
      | _ => none
    | _ => none
  | .capSl x => do
    match ← x.ev ls fr with
    | .nilslice => some (.int 3 0, H)
    | .slice _ _ _ c => some (.int 3 c, H)
    | _ => none
  | .lit v => some (v, H)
  | .copy size x y => do
    let dst ← x.ev ls fr
    let src ← y.ev ls fr
    let n ← lenOf src
    let m ← lenOf dst
    let cs ← srcCells H size (Nat.min n m) src
    let H' ← putAt H dst cs
    some (.int 3 (Nat.min n m), H')
  | .delete k m x => do
    let key ← x.ev ls fr
    let mv ← m.ev ls fr
    if !okKey k key then none else do
    let H' ← mapDel H k key mv
    some (undefA, H')
  | .min x y => do
    let (c, a) ← (← x.ev ls fr) |> asInt
    let (_, b) ← (← y.ev ls fr) |> asInt
    some (.int c (if b < a then b else a), H)
  | .max x y => do
    let (c, a) ← (← x.ev ls fr) |> asInt
    let (_, b) ← (← y.ev ls fr) |> asInt
    some (.int c (if b > a then b else a), H)
  | .callF _ _ | .callV _ _ | .panic _ | .defer _ _ => none

end Go.Dx
