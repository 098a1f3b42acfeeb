/-
  From the model's code to compiled code.
-/
import Derived.Test.YtpmfhinbmnaomaaGreatDoorDxRun
import Derived.Orders
set_option linter.unusedSimpArgs false
set_option linter.unusedVariables false
set_option linter.unusedSectionVars false
namespace Go.Dx

/-- A text as a number. -/
def numOfBytes : List UInt8 → Nat
  | [] => 0
  | b :: r => b.toNat + 256 * numOfBytes r

def listA : List AV → AV
  | [] => .nil
  | v :: r => .cons v (listA r)

def mapO {α β : Type} (f : α → Option β) : List α → Option (List β)
  | [] => some []
  | a :: r =>
    match f a with
    | none => none
    | some b => match mapO f r with
      | none => none
      | some bs => some (b :: bs)

/-- A constant's value; fuel for its depth. -/
def ofValue : Nat → Value → Option AV
  | 0, _ => none
  | d + 1, v =>
    match v with
    | .bool b => some (.bool b)
    | .int k n => some (.int (codeOf k) n)
    | .string s => some (.str s.size (numOfBytes s.data.toList))
    | .pointer none => some .nilptr
    | .slice none 0 0 => some .nilslice
    | .map none => some .nilmap
    | .func (.func fn) a b =>
      match mapO (ofValue d) a.toList, mapO (ofValue d) b.toList with
      | some x, some y => some (.func (.func fn) (listA x) (listA y))
      | _, _ => none
    | .nilFunc => some .nilfunc
    | .iface t x => (ofValue d x).map (.iface t)
    | .nilIface => some .niliface
    | .agg cs => (mapO (ofValue d) cs.toList).map fun l => .agg (listA l)
    | .tuple cs => (mapO (ofValue d) cs.toList).map fun l => .tuple (listA l)
    | _ => none

def constA (v : Value) : Option AV := ofValue 8 v

section
variable (P : Program)

def sizeP (t : TypeId) : Option Nat := (P.info? t).map (·.size)

def isAggP (t : TypeId) : Option Bool :=
  match P.underlying t with
  | some (.struct _) => some true
  | some (.array _ _) => some true
  | some _ => some false
  | none => none

/-- A type's zero. -/
def zeroP (t : TypeId) : Option AV :=
  match P.info? t with
  | some i => match i.zero with
    | some v => constA v
    | none => none
  | none => none

/-- Its cells, as a list; they are as many as its size says. -/
def zeroCellsP (t : TypeId) : Option AV :=
  match zeroP P t, sizeP P t with
  | some z, some n => if z.cells.len = n ∧ z.cells.isList then some z.cells else none
  | _, _ => none

/-- Is it made as a strings.Builder is (a pointer to such a one, a slice of bytes)? What its bytes' type is. -/
def bldP (t : TypeId) : Option TypeId :=
  match P.underlying t with
  | some (.struct fs) =>
    match fs[0]?, fs[1]? with
    | some f, some g =>
      match P.underlying f.type, P.underlying g.type with
      | some (.pointer u), some (.slice e) =>
        if u = t then
          match P.underlying e, zeroCellsP P t with
          | some (.int .u8), some (.cons .nilptr (.cons .nilslice .nil)) => some e
          | _, _ => none
        else none
      | _, _ => none
    | _, _ => none
  | _ => none
theorem bldP_zero {P : Program} {t e : TypeId} (h : bldP P t = some e) : zeroCellsP P t = some (.cons .nilptr (.cons .nilslice .nil)) := by
  unfold bldP at h
  split at h <;> first | (cases h; done) | skip
  split at h <;> first | (cases h; done) | skip
  split at h <;> first | (cases h; done) | skip
  split at h <;> first | (cases h; done) | skip
  split at h <;> first | (cases h; done) | skip
  assumption

/-- Are its bytes few? -/
def fewP (t : TypeId) : Bool := match P.info? t with | some i => decide (i.bytes ≤ 4096) | none => false

def leafP (t : TypeId) : Option LK :=
  match P.underlying t with
  | some (.int _) => some .int
  | some .string => some .str
  | some .bool => some .bool
  | _ => none

/-- The fields of a struct, each a leaf that lies where the one before ends. -/
def flatP : List Field → Nat → Option (List LK)
  | [], _ => some []
  | f :: r, off =>
    if f.name = "_" ∨ f.offset ≠ off ∨ sizeP P f.type ≠ some 1 then none else
    match leafP P f.type with
    | none => none
    | some k => match flatP r (off + 1) with
      | none => none
      | some ks => some (k :: ks)

def flatT (t : TypeId) : Option (List LK) :=
  match P.underlying t with
  | some (.struct fs) => if P.stoodInHeld t ∨ P.eqGuardType P.depth t then none else flatP P fs.toList 0
  | _ => none

def eqP (t : TypeId) : Option EK :=
  match leafP P t with
  | some k => some (.leaf k)
  | none =>
    match P.underlying t with
    | some (.pointer e) => if (sizeP P e).getD 0 = 0 then none else some .ptr
    | some (.slice _) => some .slice
    | some (.map _ _) => some .map
    | some (.func _ _ _) => some .func
    | some (.interface _) => some .iface
    | some (.struct _) => (flatT P t).map .flat
    | _ => none

def keyP (t : TypeId) : Option EK :=
  match leafP P t with
  | some k => some (.leaf k)
  | none => (flatT P t).map .flat

/-- Is it a pointer to something? -/
def ptrP (t : TypeId) : Bool :=
  match P.underlying t with
  | some (.pointer e) => (sizeP P e).getD 0 != 0
  | _ => false

/-- The compiling of a function: which slots are read from afar. -/
structure Ctx where
  far : Nat → Bool
  n : Nat
  ng : Nat

variable (C : Ctx)

def nameAt (ns : List (Option Tmp)) (t : Tmp) : Option Nat := ns.idxOf? (some t)

def opd (ns : List (Option Tmp)) : Operand → Option Opd
  | .tmp t =>
    match nameAt ns t with
    | some j => some (.loc j)
    | none => if C.far t then some (.var (key (t + 1))) else none
  | .const v => (constA v).map .lit
  | .global g => if g < C.ng then some (.lit (.ptr (key g) 0)) else none
  | .func f => some (.lit (.func (.func f) .nil .nil))

def opds (ns : List (Option Tmp)) : List Operand → Option Opds
  | [] => some .nil
  | x :: r =>
    match opd C ns x, opds ns r with
    | some a, some b => some (.cons a b)
    | _, _ => none

def opdO (ns : List (Option Tmp)) : Option Operand → Option (Option Opd)
  | none => some none
  | some x => (opd C ns x).map some

def fieldsAt (fs : List Field) (j : Nat) : Option (Nat × Nat) :=
  match fs[j]? with
  | some f => match sizeP P f.type with
    | some n => some (f.offset, n)
    | none => none
  | none => none

def partsP (place : Nat → Option (Nat × Nat)) (ns : List (Option Tmp)) : List (Nat × Operand) → Option Parts
  | [] => some .nil
  | (i, x) :: r =>
    match place i, opd C ns x, partsP place ns r with
    | some (off, n), some a, some b => some (.cons off n a b)
    | _, _, _ => none

def isIntOp : BinOp → Bool
  | .add | .sub | .mul | .quo | .rem | .and | .or | .xor | .andNot => true
  | _ => false
def isCmp : BinOp → Bool
  | .eql | .neq | .lss | .leq | .gtr | .geq => true
  | _ => false

def binP (op : BinOp) (t : TypeId) (x y : Opd) : Option CI :=
  match P.underlying t with
  | some (.int k) =>
    if isIntOp op then some (.arith op (codeOf k) x y)
    else if isCmp op then some (.cmp op x y)
    else some (.shift op (codeOf k) x y)
  | some .string =>
    if op = .add then some (.cat x y)
    else if isCmp op then some (.scmp op x y)
    else none
  | _ =>
    match eqP P t with
    | none => none
    | some k =>
      if op = .eql then some (.eq k false x y)
      else if op = .neq then some (.eq k true x y)
      else none

/-- Is it the literal nil? (Two nil values of an interface type with methods are compared where one is.) -/
def nilLit : Operand → Bool
  | .const .nilIface => true
  | _ => false

def ifaceOk (t : TypeId) (x y : Operand) : Bool :=
  match P.underlying t with
  | some (.interface ms) => ms.isEmpty || nilLit x || nilLit y
  | _ => true

/-- Two values of an interface type with methods, neither of them the literal nil. -/
def ifacesP (op : BinOp) : Option Opd → Option Opd → Option CI
  | some a, some b => if op = .eql then some (.eq .ifaces false a b) else if op = .neq then some (.eq .ifaces true a b) else none
  | _, _ => none

def callP (ns : List (Option Tmp)) (c : Call) : Option CI :=
  match c.callee with
  | .value (.func f) =>
    match P.funcs[f]? with
    | some fn =>
      if fn.body.isSome ∧ fn.name ≠ "runtime.NumGoroutine" then (opds C ns c.args.toList).map (.callF f)
      else if fn.body.isNone ∧ fn.name = "internal/bytealg.IndexByteString" ∧ (Extern.findNext fn).isNone then
        match c.args.toList with
        | [x, y] => match opd C ns x, opd C ns y with
          | some a, some b => some (.idxByte a b)
          | _, _ => none
        | _ => none
      else none
    | none => none
  | .value g =>
    match opd C ns g, opds C ns c.args.toList with
    | some a, some b => some (.callV a b)
    | _, _ => none
  | .invoke _ _ => none
  | .builtin b =>
    match b, c.args.toList, c.argTypes.toList with
    | .append, [x, y], t :: u :: _ =>
      match P.underlying t, P.underlying u with
      | some (.slice e), some d =>
        match zeroCellsP P e, sizeP P e, opd C ns x, opd C ns y with
        | some z, some n, some a, some b =>
          if n = 0 ∨ !fewP P e then none else
          match d with
          | .slice _ => some (.append z n a b)
          | .string => if n = 1 then some (.append z n a b) else none
          | .int _ => some (.appendZ z n a b)
          | _ => none
        | _, _, _, _ => none
      | _, _ => none
    | .len, [x], t :: _ =>
      match P.underlying t, opd C ns x with
      | some .string, some a => some (.lenStr a)
      | some (.slice _), some a => some (.lenSl a)
      | some (.map _ _), some a => some (.lenMap a)
      | some (.array n _), some _ => some (.lit (.int 3 n))
      | _, _ => none
    | .cap, [x], t :: _ =>
      match P.underlying t, opd C ns x with
      | some (.slice _), some a => some (.capSl a)
      | _, _ => none
    | .copy, [x, y], t :: u :: _ =>
      match P.underlying t, P.underlying u with
      | some (.slice e), some d =>
        match sizeP P e, opd C ns x, opd C ns y with
        | some n, some a, some b =>
          if n = 0 then none else
          match d with
          | .slice _ => some (.copy n a b)
          | .string => if n = 1 then some (.copy n a b) else none
          | _ => none
        | _, _, _ => none
      | _, _ => none
    | .clear, [x], t :: _ =>
      match P.underlying t with
      | some (.slice e) =>
        match zeroCellsP P e, sizeP P e, opd C ns x with
        | some z, some n, some a => if n = 0 then none else some (.clear z n a)
        | _, _, _ => none
      | _ => none
    | .delete, [m, x], t :: _ =>
      match P.underlying t with
      | some (.map k _) =>
        match keyP P k, opd C ns m, opd C ns x with
        | some kk, some a, some b => some (.delete kk a b)
        | _, _, _ => none
      | _ => none
    | .min, [x, y], t :: _ =>
      match P.underlying t, opd C ns x, opd C ns y with
      | some (.int _), some a, some b => some (.min a b)
      | _, _, _ => none
    | .max, [x, y], t :: _ =>
      match P.underlying t, opd C ns x, opd C ns y with
      | some (.int _), some a, some b => some (.max a b)
      | _, _, _ => none
    | _, _, _ => none

def opP (ns : List (Option Tmp)) : Op → Option CI
  | .move x => (opd C ns x).map .mov
  | .assign x => (opd C ns x).map .mov
  | .pick c a b =>
    match opd C ns c, opd C ns a, opd C ns b with
    | some c, some a, some b => some (.pick c a b)
    | _, _, _ => none
  | .alloc t =>
    match bldP P t with
    | some e => some (.bld t e)
    | none =>
      match zeroCellsP P t with
      | some z => some (.alloc z z.len)
      | none => none
  | .box _ x => (opd C ns x).map .box
  | .build t ps =>
    match zeroCellsP P t, P.underlying t with
    | some z, some (.struct fs) => if fs.toList.all fun f => (sizeP P f.type).isSome then (partsP C (fieldsAt P fs.toList) ns ps.toList).map (.build z) else none
    | some z, some (.array _ e) =>
      match sizeP P e with
      | some n => (partsP C (fun i => some (i * n, n)) ns ps.toList).map (.build z)
      | none => none
    | _, _ => none
  | .buildSlice t len ps =>
    match P.underlying t with
    | some (.slice e) =>
      match zeroCellsP P e, sizeP P e with
      | some z, some n =>
        if n = 0 ∨ len * n > 2 ^ 24 then none else
        (partsP C (fun i => some (i * n, n)) ns ps.toList).map (.buildSlice z (len * n) len)
      | _, _ => none
    | _ => none
  | .load t a =>
    match isAggP P t, sizeP P t, opd C ns a with
    | some true, some n, some a => some (.loadN n a)
    | some false, some _, some a => some (.load1 a)
    | _, _, _ => none
  | .store t a x =>
    match sizeP P t, opd C ns a, opd C ns x with
    | some n, some a, some x => some (.store n a x)
    | _, _, _ => none
  | .nilCheck x => (opd C ns x).map .nilCheck
  | .binOp op t x y _ =>
    if !ifaceOk P t x y then ifacesP op (opd C ns x) (opd C ns y) else
    match opd C ns x, opd C ns y with
    | some a, some b => binP P op t a b
    | _, _ => none
  | .unOp op _ x =>
    match op, opd C ns x with
    | .neg, some a => some (.neg a)
    | .xor, some a => some (.compl a)
    | .not, some a => some (.not a)
    | _, _ => none
  | .convert s d x =>
    match P.underlying s, P.underlying d, opd C ns x with
    | some (.int _), some (.int k), some a => some (.convInt (codeOf k) a)
    | some .string, some .string, some a => some (.same a)
    | some .string, some (.slice e), some a => if P.underlying e matches some (.int .u8) then some (.toBytes a) else none
    | some (.slice e), some .string, some a => if P.underlying e matches some (.int .u8) then some (.ofBytes a) else none
    | _, _, _ => none
  | .makeInterface t x =>
    match P.underlying t, opd C ns x with
    | some (.interface _), _ => none
    | some _, some a => some (.mkIface t a)
    | _, _ => none
  | .makeFunc fn a b =>
    match fn, opds C ns a.toList, opds C ns b.toList with
    | .func f, some x, some y => some (.mkFunc (.func f) x y)
    | _, _, _ => none
  | .makeMap t r =>
    match r, P.underlying t with
    | none, _ => some .mkMap
    | some (.const (.int _ _)), some (.map _ _) => some .mkMap
    | _, _ => none
  | .makeSlice t l c =>
    match P.underlying t with
    | some (.slice e) =>
      match zeroCellsP P e, sizeP P e, opd C ns l, opd C ns c with
      | some z, some n, some a, some b => if n = 0 ∨ !fewP P e then none else some (.makeSlice z n a b)
      | _, _, _, _ => none
    | _ => none
  | .slice t x lo hi mx =>
    if mx.isSome && hi.isNone then none else
    match opd C ns x, opdO C ns lo, opdO C ns hi, opdO C ns mx with
    | some a, some l, some h, some m =>
      match P.underlying t with
      | some .string => if mx.isSome then none else some (.sliceStr a l h)
      | some (.slice e) =>
        match sizeP P e with
        | some n => if n = 0 then none else some (.sliceSl n a l h m)
        | none => none
      | some (.array k e) =>
        match sizeP P e with
        | some n => some (.sliceArr n k a l h m)
        | none => none
      | _ => none
    | _, _, _, _ => none
  | .fieldAddr s x j =>
    match P.underlying s with
    | some (.struct fs) =>
      match fieldsAt P fs.toList j, opd C ns x with
      | some (off, n), some a => if n = 0 then none else some (.fieldAddr off a)
      | _, _ => none
    | _ => none
  | .field s x j =>
    match P.underlying s with
    | some (.struct fs) =>
      match fs.toList[j]?, fieldsAt P fs.toList j, opd C ns x with
      | some f, some (off, n), some a =>
        match isAggP P f.type with
        | some true => some (.fieldN off n a)
        | some false => some (.field1 off a)
        | none => none
      | _, _, _ => none
    | _ => none
  | .indexAddr t x j =>
    match P.underlying t with
    | some (.slice e) =>
      match sizeP P e, opd C ns x, opd C ns j with
      | some n, some a, some b => if n = 0 then none else some (.idxSl n a b)
      | _, _, _ => none
    | some (.array k e) =>
      match sizeP P e, opd C ns x, opd C ns j with
      | some n, some a, some b => some (.idxArr n k a b)
      | _, _, _ => none
    | _ => none
  | .index t x j =>
    match P.underlying t with
    | some .string =>
      match opd C ns x, opd C ns j with
      | some a, some b => some (.idxStr a b)
      | _, _ => none
    | some (.array k e) =>
      match isAggP P e, sizeP P e, opd C ns x, opd C ns j with
      | some true, some n, some a, some b => some (.idxAggN n k a b)
      | some false, some 1, some a, some b => some (.idxAgg1 k a b)
      | _, _, _, _ => none
    | _ => none
  | .lookup t m x ok =>
    match P.underlying t with
    | some (.map k e) =>
      match keyP P k, zeroP P e, opd C ns m, opd C ns x with
      | some kk, some z, some a, some b => some (.lookup kk z ok a b)
      | none, some z, some a, some b => if ptrP P k then some (.lookupP z ok a b) else none
      | _, _, _, _ => none
    | _ => none
  | .mapUpdate t m x v | .insert t m x v =>
    match P.underlying t with
    | some (.map k _) =>
      match keyP P k, opd C ns m, opd C ns x, opd C ns v with
      | some kk, some a, some b, some c => some (.update kk a b c)
      | none, some a, some b, some c => if ptrP P k then some (.updateP a b c) else none
      | _, _, _, _ => none
    | _ => none
  | .typeAssert x _ t ok =>
    match P.underlying t with
    | some (.interface _) => none
    | some _ =>
      match zeroP P t, opd C ns x with
      | some z, some a => some (.assert t z ok a)
      | _, _ => none
    | none => none
  | .extract x j => (opd C ns x).map (.extract j)
  | .panic x => (opd C ns x).map .panic
  | .call c => callP P C ns c
  | _ => none

/-! The order of a region that draws. -/

/-- Does it change memory, or may it? (Else it reads, or makes a block whose content does not hang on memory. A guess.) -/
def heavyOp : Op → Bool
  | .alloc t => (bldP P t).isSome
  | .move _ | .assign _ | .pick .. | .box .. | .build .. | .buildSlice .. | .load .. | .nilCheck _ | .binOp .. | .unOp .. | .makeInterface .. | .makeFunc .. | .slice .. | .fieldAddr .. | .field .. | .indexAddr .. | .index .. | .lookup .. | .typeAssert .. | .extract .. => false
  | .convert _ d _ =>
    match P.underlying d with
    | some (.slice _) => true
    | _ => false
  | .call c =>
    match c.callee with
    | .builtin .len | .builtin .cap | .builtin .min | .builtin .max => false
    | _ => true
  | _ => true

/-- What each operation comes behind, closed. -/
def preds (ops : List Oper) : List (List Nat) :=
  ops.foldl (fun acc o =>
    let direct := (o.after.toList.filter (Region.binds .any)).map (·.on)
    acc ++ [(direct ++ direct.flatMap fun j => acc.getD j []).eraseDups]) []

/-- The order: ahead of each heavy one what it needs, in the listing's order; at the end what is left. -/
def lateOrder (pr : List (List Nat)) (n : Nat) : List Nat → List Nat → List Nat
  | [], done => (List.range n).filter fun i => !done.contains i
  | h :: hs, done =>
    let need := (List.range n).filter fun i => (i == h || (pr.getD h []).contains i) && !done.contains i
    need ++ lateOrder pr n hs (done ++ need)

/-- Where the value of a guard stands. -/
def guardP (ops : Array Oper) (ns : List (Option Tmp)) : Option (Nat × Bool) → Option (Option (Nat × Bool))
  | none => some none
  | some (j, b) =>
    match (ops[j]?).bind (·.dst) with
    | some d => (nameAt ns d).map fun k => some (k, b)
    | none => none

def farDst : Option Tmp → Option Pos
  | none => none
  | some d => if C.far d then some (key (d + 1)) else none

/-- The slot that an operation writes is one of the function's, and written once in its region. -/
def dstOk (ns : List (Option Tmp)) : Option Tmp → Bool
  | none => true
  | some d => decide (d < C.n) && (nameAt ns d).isNone

/-- The slots of what was done, the last one first. -/
def namesOf (ops : Array Oper) (done : List Nat) : List (Option Tmp) := done.map fun j => (ops[j]?).bind (·.dst)

/-- What is not taken: nothing comes of it where it is done. -/
def stuckCI : CI := .load1 (.lit .nilptr)
def stuckC : CCode := .cond (.lit .nilptr) .skip .skip

/-- A call that is deferred. -/
def deferP (ns : List (Option Tmp)) (c : Call) : Option CI :=
  match c.callee with
  | .value (.func f) => (opds C ns c.args.toList).map (.defer (.lit (.func (.func f) .nil .nil)))
  | .value g =>
    match opd C ns g, opds C ns c.args.toList with
    | some a, some b => some (.defer a b)
    | _, _ => none
  | _ => none

def opsP (ops : Array Oper) : List Nat → List Nat → Option CIs
  | [], _ => some .nil
  | i :: r, done =>
    match ops[i]? with
    | none => none
    | some o =>
      if !dstOk C (namesOf ops done) o.dst then none else
      match o.op with
      | .defer c =>
        if o.dst.isSome || o.guard.isSome then none else
        match deferP C (namesOf ops done) c, opsP ops r (i :: done) with
        | some ci, some cs => some (.cons none ci (some .h) cs)
        | _, _ => none
      | _ =>
        match guardP ops (namesOf ops done) o.guard, opsP ops r (i :: done) with
        | some g, some cs => some (.cons g ((opP P C (namesOf ops done) o.op).getD stuckCI) (farDst C o.dst) cs)
        | _, _ => none

/-- May an operation of a region that draws stand here? Its edges are among what it comes behind, and these are those edges' closure; all of that is done; what is done and is not ahead of it touches none of its slots. -/
def placed (ops : Array Oper) (pr : List (List Nat)) (i : Nat) (o : Oper) (done : List Nat) : Bool :=
  let p := pr.getD i []
  let direct := (o.after.toList.filter (Region.binds .any)).map (·.on)
  !done.contains i && direct.all p.contains && (p.all fun j => direct.contains j || direct.any fun d => (pr.getD d []).contains j) && p.all done.contains &&
    done.all fun j => p.contains j || match ops[j]? with
      | some x => x.apart ops o
      | none => false

/-- How many of the heavy ones that are done it may stand ahead of. -/
def backsOf (p : List Nat) : List Nat → Nat
  | [] => 0
  | h :: r => if p.contains h then 0 else backsOf p r + 1

def opsD (ops : Array Oper) (pr : List (List Nat)) : List Nat → List Nat → List Nat → Option DIs
  | [], done, _ => if (List.range ops.size).all done.contains then some .nil else none
  | i :: r, done, hvs =>
    match ops[i]? with
    | none => none
    | some o =>
      if !dstOk C (namesOf ops done) o.dst then none else
      if !placed ops pr i o done then none else
      match guardP ops (namesOf ops done) o.guard, opP P C (namesOf ops done) o.op with
      | some g, some ci =>
        if ci.light then (opsD ops pr r (i :: done) hvs).map (.cons g ci (farDst C o.dst) (.light (backsOf (pr.getD i []) hvs)))
        else if ci.float then (opsD ops pr r (i :: done) hvs).map (.cons g ci (farDst C o.dst) .float)
        else if done.all (pr.getD i []).contains then (opsD ops pr r (i :: done) (i :: hvs)).map (.cons g ci (farDst C o.dst) .heavy)
        else none
      | some g, none => (opsD ops pr r (i :: done) hvs).map (.cons g stuckCI (farDst C o.dst) (.light (backsOf (pr.getD i []) hvs)))
      | _, _ => none

def DIs.floats : DIs → Nat
  | .nil => 0
  | .cons _ _ _ .float r => floats r + 1
  | .cons _ _ _ _ r => floats r

def regionP (ops : Array Oper) (draw : Bool) : Option CCode :=
  if !draw then (opsP P C ops (List.range ops.size) []).map .region
  else
    let pr := preds ops.toList
    let hs := (List.range ops.size).filter fun i => match ops[i]? with | some o => heavyOp P o.op | none => true
    (opsD P C ops pr (lateOrder pr ops.size hs []) [] []).map fun ds => .draw ds ds.floats

def codeP : Code → Option CCode
  | .skip => some .skip
  | .region _ ops draw => regionP P C ops draw
  | .seq a b =>
    match codeP a, codeP b with
    | some x, some y => some (.seq x y)
    | _, _ => none
  | .cond c a b =>
    match opd C [] c with
    | some c => some (.cond c ((codeP a).getD stuckC) ((codeP b).getD stuckC))
    | none => none
  | .block id c => (codeP c).map (.block id)
  | .loop c => (codeP c).map .loop
  | .exit id => some (.exit id)
  | .scope c => (codeP c).map fun c => .scope c c
  | .label l => some (.label l)
  | .goto l => some (.goto l)
  | .ret => some .ret
  | .rangeFunc g ps a b =>
    match opd C [] g, codeP a, codeP b with
    | some g', some x, some y => if x.plain && y.plain && ps.toList.all (fun t => decide (t < C.n)) then some (.rangeFunc g' ps.toList x y a b C.n C.far) else none
    | _, _, _ => none
  | .refuse _ => none

def resP : ResultVar → Option CRes
  | .tmp t => if C.far t then some (.tmp (key (t + 1))) else none
  | .cell a t =>
    if !C.far a then none else
    match isAggP P t, sizeP P t with
    | some true, some n => some (.cellN (key (a + 1)) n)
    | some false, some _ => some (.cell1 (key (a + 1)))
    | _, _ => none

def funcP (fn : Func) : Option CFunc :=
  match fn.body with
  | none => none
  | some c =>
    match codeP P C c, mapO (resP P C) fn.results.toList with
    | some c, some rs => some ⟨c, rs, if c.noDef then none else some .dfr⟩
    | _, _ => none

/-! A function that is deferred, and asks what was thrown. -/
def isRecover : Op → Bool
  | .call c => (match c.callee with | .builtin .recover => c.args.isEmpty | _ => false)
  | _ => false
-- operations that neither call nor throw; and the question what was thrown: then nothing is thrown any more. -/
/-- Does it ask what was thrown? -/
def hasRecover : Code → Bool
  | .region _ ops _ => ops.any fun o => isRecover o.op
  | .seq a b => hasRecover a || hasRecover b
  | .cond _ a b => hasRecover a || hasRecover b
  | .block _ c => hasRecover c
  | .loop c => hasRecover c
  | .scope c => hasRecover c
  | _ => false
def quietOr : Option CI → CI
  | some ci => if ci.quiet then ci else stuckCI
  | none => stuckCI
def opsS (ops : Array Oper) : List Nat → List Nat → Option CIs
  | [], _ => some .nil
  | i :: r, done =>
    match ops[i]? with
    | none => none
    | some o =>
      if !dstOk C (namesOf ops done) o.dst then none else
      if isRecover o.op then
        if o.guard.isSome then none else
        (opsS ops r (ops.size :: i :: done)).map fun cs => .cons none (.mov (.var .h)) (farDst C o.dst) (.cons none (.lit .niliface) (some .h) cs)
      else
        match guardP ops (namesOf ops done) o.guard, opsS ops r (i :: done) with
        | some g, some cs => some (.cons g (quietOr (opP P C (namesOf ops done) o.op)) (farDst C o.dst) cs)
        | _, _ => none
def codeS : Code → Option CCode
  | .seq a b =>
    match codeS a, codeS b with
    | some x, some y => some (.seq x y)
    | _, _ => none
  | .cond c a b =>
    match opd C [] c with
    | some c => some (.cond c ((codeS a).getD stuckC) ((codeS b).getD stuckC))
    | none => none
  | .region _ ops draw =>
    if ops.any fun o => isRecover o.op then (if draw then none else (opsS P C ops (List.range ops.size) []).map .region)
    else (regionP P C ops draw).bind fun c => if c.plain then some c else none
  | c => (codeP P C c).bind fun c => if c.plain then some c else none
def funcS (fn : Func) : Option CFunc :=
  match fn.body with
  | none => none
  | some c =>
    match codeS P C c, mapO (resP P C) fn.results.toList with
    | some c, some rs => some ⟨c, rs, some .recov⟩
    | _, _ => none

end

/-! What is read from afar (a guess, that the compiling holds to). -/
def readsOf (ops : Array Oper) : List Tmp :=
  let rec go : List Oper → List Tmp → List Tmp → List Tmp
    | [], _, acc => acc
    | o :: r, seen, acc =>
      let rd := o.op.operands.toList.filterMap fun | .tmp t => if seen.contains t then none else some t | _ => none
      go r (o.dst.toList ++ seen) (rd ++ acc)
  go ops.toList [] []
def farOf : Code → List Tmp
  | .region _ ops _ => readsOf ops
  | .seq a b => farOf a ++ farOf b
  | .cond c a b => (match c with | .tmp t => [t] | _ => []) ++ farOf a ++ farOf b
  | .block _ c | .loop c | .scope c => farOf c
  | .rangeFunc f ps a b => (match f with | .tmp t => [t] | _ => []) ++ ps.toList ++ farOf a ++ farOf b
  | _ => []
def farFn (fn : Func) : List Tmp :=
  ((fn.body.map farOf).getD [] ++ fn.results.toList.map fun (r : ResultVar) => match r with | .tmp t => t | .cell a _ => a).eraseDups

/-- The loops' code of a function's ranges over functions, in order. -/
def rangesOf : Code → List (Code × Code)
  | .seq a b => rangesOf a ++ rangesOf b
  | .cond _ a b => rangesOf a ++ rangesOf b
  | .block _ c => rangesOf c
  | .loop c => rangesOf c
  | .scope c => rangesOf c
  | .rangeFunc _ _ a b => [(a, b)]
  | _ => []
def srcOf (f : Option Func) (i : Nat) : Code × Code :=
  match f with
  | some fn => match fn.body with
    | some c => ((rangesOf c)[i]?).getD (.skip, .skip)
    | none => (.skip, .skip)
  | none => (.skip, .skip)

def compFn (P : Program) (fn : Func) : Option CFunc := let l := farFn fn; funcP P ⟨fun t => l.contains t, fn.ntmps, P.globals.size⟩ fn

end Go.Dx
