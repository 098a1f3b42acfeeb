/-
  The deterministic semantics: how compiled code runs, by fuel.
-/
import Derived.Test.YtnlbchnlbpaflaaGreatDoorDxOps
set_option linter.unusedSimpArgs false
set_option linter.unusedVariables false
set_option linter.unusedSectionVars false
namespace Go.Dx

inductive CRes where
  | tmp (p : Pos)
  | cell1 (p : Pos)
  | cellN (p : Pos) (n : Nat)
  deriving Inhabited

/-- What is known of a function that leaves memory as it was: what it answers without arguments; or what it answers to arguments and memory. -/
inductive Kn where
  | val (v : AV)
  | nat (g : AV → Heap → Option AV)
  -- none of these: a function that defers; one that is deferred, and asks what was thrown
  | dfr
  | recov
  deriving Inhabited

/-- A function; or one of which it is known what it answers. -/
structure CFunc where
  body : CCode
  results : List CRes
  konst : Option Kn
  deriving Inhabited

inductive Ex where
  | normal
  | exit (id : Nat)
  | goto (l : Nat)
  | ret
  | pan (v : AV)
  deriving Inhabited

/-- How a call ends. -/
inductive CR where
  | ret (v : AV)
  | pan (v : AV)
  deriving Inhabited

inductive RO where
  | ok (ls : AV) (fr : Tr AV) (H : Heap)
  | pan (v : AV) (fr : Tr AV) (H : Heap)
  deriving Inhabited

def AV.beq : AV → AV → Bool
  | .bool a, .bool b => a == b
  | .int c n, .int d m => c == d && n == m
  | .str l n, .str k m => l == k && n == m
  | .ptr p o, .ptr q u => decide (p = q) && o == u
  | .nilptr, .nilptr => true
  | .slice p a b c, .slice q d e f => decide (p = q) && a == d && b == e && c == f
  | .oslice p a b c, .oslice q d e f => decide (p = q) && a == d && b == e && c == f
  | .nilslice, .nilslice => true
  | .map p, .map q => decide (p = q)
  | .yield p, .yield q => decide (p = q)
  | .nilmap, .nilmap => true
  | .func f a b, .func g c d => decide (f = g) && AV.beq a c && AV.beq b d
  | .nilfunc, .nilfunc => true
  | .iface t v, .iface u w => t == u && AV.beq v w
  | .niliface, .niliface => true
  | .agg a, .agg b => AV.beq a b
  | .tuple a, .tuple b => AV.beq a b
  | .nil, .nil => true
  | .cons a r, .cons b s => AV.beq a b && AV.beq r s
  | _, _ => false

/-- Does it answer the same in so many elder states of memory? -/
def backs (ci : CI) (ls : AV) (fr : Tr AV) (v : AV) : Nat → List Heap → Bool
  | 0, _ => true
  | n + 1, H :: Hs => (match ci.ev ls fr H with | some (u, _) => AV.beq u v | none => false) && backs ci ls fr v n Hs
  | _ + 1, [] => false

def setDst (fr : Tr AV) (dst : Option Pos) (v : AV) : Tr AV :=
  match dst with
  | some p => fr.set p v
  | none => fr

def wanted (ls : AV) : Option (Nat × Bool) → Option Bool
  | none => some true
  | some (j, b) =>
    match ls.nth j with
    | some (.bool c) => some (c == b)
    | some (.tuple .nil) => some false
    | _ => none

section
variable (call : Nat → AV → Heap → Option (CR × Heap)) (yld : Pos → AV → Heap → Option (CR × Heap))

/-- No round is called. -/
def noY : Pos → AV → Heap → Option (CR × Heap) := fun _ _ _ => none

/-- The call that an instruction is, if it is one: whom, and with what. -/
def callee (ls : AV) (fr : Tr AV) : CI → Option (Nat × AV)
  | .callF f args => do some (f, ← args.ev ls fr)
  | .callV g args => do
    match ← g.ev ls fr with
    | .func (.func f) a b => some (f, a.app ((← args.ev ls fr).app b))
    | _ => none
  | _ => none

/-- Does it read, at the most? -/
def CI.light : CI → Bool
  | .mov _ | .pick .. | .build .. | .load1 _ | .loadN .. | .nilCheck _ | .arith .. | .shift .. | .cmp .. | .cat .. | .scmp .. | .eq .. | .neg _ | .compl _ | .not _ | .convInt .. | .same _ | .ofBytes _ | .mkIface .. | .mkFunc .. | .sliceStr .. | .sliceSl .. | .sliceArr .. | .fieldAddr .. | .field1 .. | .fieldN .. | .idxSl .. | .idxArr .. | .idxAgg1 .. | .idxAggN .. | .idxStr .. | .lookup .. | .assert .. | .extract .. | .lenStr _ | .lenSl _ | .lenMap _ | .capSl _ | .lit _ | .min .. | .max .. => true
  | _ => false
/-- Does it make a block whose content does not hang on memory? -/
def CI.float : CI → Bool
  | .alloc .. | .box _ | .buildSlice .. => true
  | _ => false

def CI.isCall : CI → Bool
  | .callF _ _ => true
  | .callV _ _ => true
  | _ => false

/-- Does it neither call nor throw nor defer? -/
def CI.quiet : CI → Bool
  | .callF _ _ | .callV _ _ | .panic _ | .defer _ _ => false
  | _ => true

/-- One instruction that is wanted. -/
def CI.run (ls : AV) (fr : Tr AV) (H : Heap) (ci : CI) : Option (CR × Heap) :=
  match ci with
  | .callF f args => do
    let (f, as) ← callee ls fr (.callF f args)
    call f as H
  | .callV g args =>
    match g.ev ls fr with
    | some (.yield p) =>
      match args.ev ls fr with
      | some as => yld p as H
      | none => none
    | _ =>
      match callee ls fr (.callV g args) with
      | some (f, as) => call f as H
      | none => none
  | .panic x => do
    match ← x.ev ls fr with
    | .iface t v => some (.pan (.iface t v), H)
    | _ => none
  | .defer g args => do
    let (f, as) ← callee ls fr (.callV g args)
    some (.ret (.cons (.iface f as) ((fr.get .h).getD .nil)), H)
  | ci => do
    let (v, H') ← ci.ev ls fr H
    some (.ret v, H')

def CIs.run : CIs → AV → Tr AV → Heap → Option RO
  | .nil, ls, fr, H => some (.ok ls fr H)
  | .cons g ci dst r, ls, fr, H =>
    match wanted ls g with
    | none => none
    | some false => CIs.run r (.cons undefA ls) (setDst fr dst undefA) H
    | some true =>
      match CI.run call yld ls fr H ci with
      | some (.ret v, H') => CIs.run r (.cons v ls) (setDst fr dst v) H'
      | some (.pan v, H') => some (.pan v fr H')
      | none => none

/-- An object, put into each of some states of memory. -/
def putAll (p : Pos) (o : AO) : List Heap → List Heap
  | [] => []
  | H :: r => H.put p o :: putAll p o r

/-- So many names, kept. -/
def reserve : Nat → Heap → List Pos × Heap
  | 0, H => ([], H)
  | n + 1, H => let r := reserve n ⟨H.next.succ, H.t⟩; (H.next :: r.1, r.2)

/-- The elder states of memory, behind an instruction that was not wanted. -/
def Kd.elder : Kd → Heap → List Heap → List Heap
  | .heavy, H, Hs => H :: Hs
  | _, _, Hs => Hs

def DIs.run : DIs → List Pos → List Heap → AV → Tr AV → Heap → Option (Tr AV × Heap)
  | .nil, _, _, _, fr, H => some (fr, H)
  | .cons g ci dst k r, R, Hs, ls, fr, H =>
    match wanted ls g with
    | none => none
    | some false => DIs.run r R (k.elder H Hs) (.cons undefA ls) (setDst fr dst undefA) H
    | some true =>
      match k with
      | .heavy =>
        match CI.run call noY ls fr H ci with
        | some (.ret v, H') => DIs.run r R (H :: Hs) (.cons v ls) (setDst fr dst v) H'
        | _ => none
      | .light bk =>
        match ci.ev ls fr H with
        | some (v, _) => if backs ci ls fr v bk Hs then DIs.run r R Hs (.cons v ls) (setDst fr dst v) H else none
        | none => none
      | .float =>
        match R with
        | [] => none
        | p :: R =>
          match ci.ev ls fr ⟨p, .leaf⟩ with
          | some (v, F) =>
            match F.get p with
            | some o => DIs.run r R (putAll p o Hs) (.cons v ls) (setDst fr dst v) (H.put p o)
            | none => none
          | none => none

end

/-- What stands behind a label. -/
def findLabelC : CCode → Nat → Option CCode
  | .seq a b, l =>
    match findLabelC a l with
    | some rest => some (.seq rest b)
    | none => findLabelC b l
  | .label l', l => if l' = l then some .skip else none
  | _, _ => none

def condV (fr : Tr AV) (c : Opd) : Option Bool :=
  match c.ev .nil fr with
  | some (.bool b) => some b
  | _ => none

/-- What comes of an 'exit' at its block. -/
def atBlock (id : Nat) : Ex → Ex
  | .exit i => if i = id then .normal else .exit i
  | e => e

def CRes.ev (fr : Tr AV) (H : Heap) : CRes → Option AV
  | .tmp p => fr.get p
  | .cell1 p => do
    match ← fr.get p with
    | .ptr q off => H.cell q off
    | _ => none
  | .cellN p n => do
    match ← fr.get p with
    | .ptr q off => some (.agg (← H.cellsAt q off n))
    | _ => none

def resultsL (fr : Tr AV) (H : Heap) : List CRes → Option AV
  | [] => some .nil
  | r :: rs => do
    let v ← r.ev fr H
    let vs ← resultsL fr H rs
    some (.cons v vs)

def resultsA (fr : Tr AV) (H : Heap) (rs : List CRes) : Option AV := do
  let vs ← resultsL fr H rs
  match vs with
  | .cons v .nil => some v
  | vs => some (.tuple vs)

/-- The frame of a call: its arguments in the first slots. -/
def enterFr : AV → Nat → Tr AV → Option (Tr AV)
  | .nil, _, t => some t
  | .cons v r, i, t => enterFr r (i + 1) (t.set (key (i + 1)) v)
  | _, _, _ => none

def finish (cf : CFunc) : Option (Ex × Tr AV × Heap) → Option (CR × Heap)
  | some (.normal, fr, H) | some (.ret, fr, H) => (resultsA fr H cf.results).map fun v => (.ret v, H)
  | some (.pan v, _, H) => some (.pan v, H)
  | _ => none

/-- A deferred call: what was thrown ahead of it (if nothing was: 'niliface'); and so behind it. -/
def doCallD (tbl : Nat → Option CFunc) (rec : CCode → Tr AV → Heap → Option (Ex × Tr AV × Heap)) (f : Nat) (args m : AV) (H : Heap) : Option (AV × Heap) :=
  match tbl f with
  | none => none
  | some cf =>
    match cf.konst with
    | none =>
      if cf.body.plain then
        match enterFr args 0 .leaf with
        | none => none
        | some fr =>
          match finish cf (rec cf.body fr H) with
          | some (.ret _, H') => some (m, H')
          | _ => none
      else none
    | some .recov =>
      match enterFr args 0 .leaf with
      | none => none
      | some fr =>
        match rec cf.body (fr.set .h m) H with
        | some (.normal, fr', H') | some (.ret, fr', H') =>
          match resultsA fr' H' cf.results, fr'.get .h with
          | some _, some m' => some (m', H')
          | _, _ => none
        | _ => none
    | _ => none

/-- A function leaves: its deferred calls, then its results. -/
def leave (callD : Nat → AV → AV → Heap → Option (AV × Heap)) (rs : List CRes) (fr : Tr AV) : AV → AV → Heap → Option (CR × Heap)
  | .nil, m, H =>
    match m with
    | .niliface => (resultsA fr H rs).map fun v => (.ret v, H)
    | .iface t v => some (.pan (.iface t v), H)
    | _ => none
  | .cons (.iface f as) L, m, H =>
    match callD f as m H with
    | some (m', H') => leave callD rs fr L m' H'
    | none => none
  | _, _, _ => none
def finishD (callD : Nat → AV → AV → Heap → Option (AV × Heap)) (cf : CFunc) : Option (Ex × Tr AV × Heap) → Option (CR × Heap)
  | some (.normal, fr, H) | some (.ret, fr, H) => leave callD cf.results fr ((fr.get .h).getD .nil) .niliface H
  | some (.pan v, fr, H) => match v with
    | .iface t x => leave callD cf.results fr ((fr.get .h).getD .nil) (.iface t x) H
    | _ => none
  | _ => none

def doCall (tbl : Nat → Option CFunc) (rec : CCode → Tr AV → Heap → Option (Ex × Tr AV × Heap)) (f : Nat) (args : AV) (H : Heap) : Option (CR × Heap) :=
  match tbl f with
  | none => none
  | some cf =>
    match cf.konst with
    | some (.val v) => (match args with | .nil => some (.ret v, H) | _ => none)
    | some (.nat g) => (match g args H with | some v => some (.ret v, H) | none => none)
    | some .dfr =>
      match enterFr args 0 .leaf with
      | none => none
      | some fr => finishD (doCallD tbl rec) cf (rec cf.body fr H)
    | some .recov => none
    | none =>
      match enterFr args 0 .leaf with
      | none => none
      | some fr => finish cf (rec cf.body fr H)

/-- How a round was left. -/
def pendOf : Ex → Option AV
  | .normal => some .nil
  | .exit i => some (.int 0 i)
  | .goto l => some (.int 1 l)
  | .ret => some (.bool true)
  | .pan _ => none
def exOf : AV → Option Ex
  | .nil => some .normal
  | .int 0 (.ofNat i) => some (.exit i)
  | .int 1 (.ofNat l) => some (.goto l)
  | .bool true => some .ret
  | _ => none

/-- A round's slots. -/
def setParams : List Tmp → AV → Tr AV → Option (Tr AV)
  | [], .nil, fr => some fr
  | t :: ts, .cons v r, fr => setParams ts r (fr.set (key (t + 1)) v)
  | _, _, _ => none

/-- A frame's first n temporaries, laid anew: what a round begins with. -/
def canonF (fr : Tr AV) : Nat → Tr AV
  | 0 => .leaf
  | n + 1 =>
    match fr.get (key (n + 1)) with
    | some v => (canonF fr n).set (key (n + 1)) v
    | none => canonF fr n

/-- A round of a range over a function. -/
def doYield (rec : CCode → Tr AV → Heap → Option (Ex × Tr AV × Heap)) (p : Pos) (args : AV) (H : Heap) : Option (CR × Heap) :=
  match H.get p with
  | some (.loop 0 _ fr k) =>
    match setParams k.ps args (canonF fr k.n) with
    | none => none
    | some fr1 =>
      match rec k.assign fr1 H with
      | some (.normal, fr2, H2) =>
        match H2.get p with
        | some (.loop 0 pe fr3 k3) =>
          match rec k.body fr2 (H2.put p (.loop 1 pe fr3 k3)) with
          | some (e, _, H3) =>
            match pendOf e, H3.get p with
            | some pe', some (.loop _ _ fr4 k4) =>
              match pe' with
              | .nil => some (.ret (.bool true), H3.put p (.loop 0 .nil fr4 k4))
              | _ => some (.ret (.bool false), H3.put p (.loop 2 pe' fr4 k4))
            | _, _ => none
          | none => none
        | _ => none
      | _ => none
  | _ => none

def stepC (tbl : Nat → Option CFunc) (rec : CCode → Tr AV → Heap → Option (Ex × Tr AV × Heap)) (c : CCode) (fr : Tr AV) (H : Heap) : Option (Ex × Tr AV × Heap) :=
  match c with
  | .rangeFunc g ps asg body sa sb n far =>
    match g.ev .nil fr with
    | some (.func (.func f) a b) =>
      match doCall tbl rec f (a.app (.cons (.yield H.next) b)) (H.new (.loop 0 .nil (canonF fr n) ⟨ps, asg, body, sa, sb, n, far⟩)).2 with
      | some (.ret _, H2) =>
        match H2.get H.next with
        | some (.loop st pe fr' k') =>
          if st = 1 then none else
          match exOf pe with
          | some e => some (e, fr, H2.put H.next (.loop 3 pe fr' k'))
          | none => none
        | _ => none
      | some (.pan v, H2) => some (.pan v, fr, H2)
      | none => none
    | _ => none
  | .skip => some (.normal, fr, H)
  | .region cs =>
    match cs.run (doCall tbl rec) (doYield rec) .nil fr H with
    | some (.ok _ fr' H') => some (.normal, fr', H')
    | some (.pan v fr' H') => some (.pan v, fr', H')
    | none => none
  | .draw ds nf =>
    match ds.run (doCall tbl rec) (reserve nf H).1 [] .nil fr (reserve nf H).2 with
    | some (fr', H') => some (.normal, fr', H')
    | none => none
  | .seq a b =>
    match rec a fr H with
    | some (.normal, fr', H') => rec b fr' H'
    | r => r
  | .cond c a b =>
    match condV fr c with
    | some true => rec a fr H
    | some false => rec b fr H
    | none => none
  | .block id c =>
    match rec c fr H with
    | some (e, fr', H') => some (atBlock id e, fr', H')
    | none => none
  | .loop c =>
    match rec c fr H with
    | some (.normal, fr', H') => rec (.loop c) fr' H'
    | r => r
  | .exit id => some (.exit id, fr, H)
  | .scope rest c =>
    match rec rest fr H with
    | some (.goto l, fr', H') =>
      match findLabelC c l with
      | some rest' => rec (.scope rest' c) fr' H'
      | none => some (.goto l, fr', H')
    | r => r
  | .label _ => some (.normal, fr, H)
  | .goto l => some (.goto l, fr, H)
  | .ret => some (.ret, fr, H)

def run (tbl : Nat → Option CFunc) : Nat → CCode → Tr AV → Heap → Option (Ex × Tr AV × Heap)
  | 0 => fun _ _ _ => none
  | n + 1 => stepC tbl (run tbl n)

/-- A call, by fuel. -/
def callN (tbl : Nat → Option CFunc) (n : Nat) (f : Nat) (args : AV) (H : Heap) : Option (CR × Heap) := doCall tbl (run tbl n) f args H

end Go.Dx
