import Derived.Test.YthpnhdopheofcaaDxLi
import Derived.Test.YthpnhdopheofcaaDxLe
set_option linter.unusedSimpArgs false
set_option linter.unusedVariables false
namespace Go.Dx
def CallW (tbl : Nat → Option CFunc) (f : Nat) (as : AV) (M : Mem) (Q : CR → Mem → Prop) : Prop :=
 ∀ H, Sees H M → ∃ n r H' M', callN tbl n f as H = some (r, H') ∧ Sees H' M' ∧ Q r M'
def ExecW (tbl : Nat → Option CFunc) (c : CCode) (fr : Tr AV) (M : Mem) (Q : Ex → Tr AV → Mem → Prop) : Prop :=
 ∀ H, Sees H M → ∃ n e fr' H' M', run tbl n c fr H = some (e, fr', H') ∧ Sees H' M' ∧ Q e fr' M'
theorem CallW.mono {tbl : Nat → Option CFunc} {f : Nat} {as : AV} {M : Mem} {Q Q' : CR → Mem → Prop} (h : CallW tbl f as M Q) (hq : ∀ r M', Q r M' → Q' r M') : CallW tbl f as M Q' :=
 fun H hs => let ⟨n, r, H', M', a, b, c⟩ := h H hs; ⟨n, r, H', M', a, b, hq _ _ c⟩
theorem ExecW.mono {tbl : Nat → Option CFunc} {c : CCode} {fr : Tr AV} {M : Mem} {Q Q' : Ex → Tr AV → Mem → Prop} (h : ExecW tbl c fr M Q) (hq : ∀ e fr M', Q e fr M' → Q' e fr M') : ExecW tbl c fr M Q' :=
 fun H hs => let ⟨n, e, fr', H', M', a, b, c⟩ := h H hs; ⟨n, e, fr', H', M', a, b, hq _ _ _ c⟩
section
variable (tbl : Nat → Option CFunc)
def retK (k : AV → Mem → Prop) (kp : AV → Mem → Prop) : CR → Mem → Prop
 | .ret v, M => k v M
 | .pan v, M => kp v M
def calleeW (gv : AV) (k : Nat → AV → AV → Prop) : Prop := match gv with | .func (.func f) a b => k f a b | _ => False
def instW (ci : CI) (ls : AV) (fr : Tr AV) (M : Mem) (k kp : AV → Mem → Prop) : Prop :=
 match ci with
 | .callF f args => opsW ls fr args fun as => CallW tbl f as M (retK k kp)
 | .callV g args => opW ls fr g fun gv => calleeW gv fun f a b => opsW ls fr args fun as => CallW tbl f (a.app (as.app b)) M (retK k kp)
 | .panic x => opW ls fr x fun v => match v with | .iface t u => kp (.iface t u) M | _ => False
 | ci => ci.wp ls fr M k
def guardW (ls : AV) (g : Option (Nat × Bool)) (skip go : Prop) : Prop :=
 match g with
 | none => go
 | some (j, b) => match ls.nth j with
  | some (.bool c) => (c = b → go) ∧ (c ≠ b → skip)
  | some (.tuple .nil) => skip
  | _ => False
def CIs.wp : CIs → AV → Tr AV → Mem → (Ex → Tr AV → Mem → Prop) → Prop
 | .nil, _, fr, M, Q => Q .normal fr M
 | .cons g ci dst r, ls, fr, M, Q =>
  guardW ls g (CIs.wp r (.cons undefA ls) (setDst fr dst undefA) M Q)
   (instW tbl ci ls fr M (fun v M' => CIs.wp r (.cons v ls) (setDst fr dst v) M' Q) (fun v M' => Q (.pan v) fr M'))
def backW (ci : CI) (ls : AV) (fr : Tr AV) (v : AV) : Nat → List Mem → Prop
 | 0, _ => True
 | n + 1, M :: Ms => ci.wp ls fr M (fun u _ => AV.beq u v = true) ∧ backW ci ls fr v n Ms
 | _ + 1, [] => False
def Mem.reserve : Nat → Mem → List Pos × Mem
 | 0, M => ([], M)
 | n + 1, M => let r := Mem.reserve n ⟨M.next.succ, M.get⟩; (M.next :: r.1, r.2)
def floatW (ci : CI) (R : List Pos) (Ms : List Mem) (ls : AV) (fr : Tr AV) (M : Mem) (k : AV → MB → List Pos → List Mem → Mem → Prop) : Prop :=
 match R with
 | [] => False
 | p :: R => p.num < M.next.num ∧ (∀ M' ∈ Ms, p.num < M'.next.num) ∧ ci.wp ls fr ⟨p, fun _ => none⟩ (fun v F => someW (F.get p) fun b => k v b R (Ms.map fun M => M.put p b) (M.put p b))
def DIs.wp : DIs → List Pos → List Mem → AV → Tr AV → Mem → (Ex → Tr AV → Mem → Prop) → Prop
 | .nil, _, _, _, fr, M, Q => Q .normal fr M
 | .cons g ci dst .heavy r, R, Ms, ls, fr, M, Q =>
  guardW ls g (DIs.wp r R (M :: Ms) (.cons undefA ls) (setDst fr dst undefA) M Q)
   (instW tbl ci ls fr M (fun v M' => DIs.wp r R (M :: Ms) (.cons v ls) (setDst fr dst v) M' Q) (fun _ _ => False))
 | .cons g ci dst (.light bk) r, R, Ms, ls, fr, M, Q =>
  guardW ls g (DIs.wp r R Ms (.cons undefA ls) (setDst fr dst undefA) M Q)
   (ci.wp ls fr M (fun v _ => (if ci.free then bk ≤ Ms.length else backW ci ls fr v bk Ms) ∧ DIs.wp r R Ms (.cons v ls) (setDst fr dst v) M Q))
 | .cons g ci dst .float r, R, Ms, ls, fr, M, Q =>
  guardW ls g (DIs.wp r R Ms (.cons undefA ls) (setDst fr dst undefA) M Q)
   (floatW ci R Ms ls fr M fun v _ R Ms M => DIs.wp r R Ms (.cons v ls) (setDst fr dst v) M Q)
end
end Go.Dx
