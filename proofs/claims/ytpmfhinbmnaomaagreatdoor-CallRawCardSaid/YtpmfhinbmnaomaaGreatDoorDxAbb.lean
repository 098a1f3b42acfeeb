/-
  Short words for printed functions.
-/
import Derived.Test.YtpmfhinbmnaomaaGreatDoorDxRun
set_option linter.unusedSimpArgs false
set_option linter.unusedVariables false
set_option linter.unusedSectionVars false
namespace Go.Dx.P
open Go.Dx
def v (n : Nat) : Opd := .var (key n)
def l (n : Nat) : Opd := .loc n
def i (n : Int) : Opd := .lit (.int 3 n)
def c (x : CI) (r : CIs) : CIs := .cons none x none r
def e (n : Nat) (x : CI) (r : CIs) : CIs := .cons none x (some (key n)) r
def y (j : Nat) (b : Bool) (x : CI) (r : CIs) : CIs := .cons (some (j, b)) x none r
def t (j : Nat) (b : Bool) (n : Nat) (x : CI) (r : CIs) : CIs := .cons (some (j, b)) x (some (key n)) r
def dh (x : CI) (r : DIs) : DIs := .cons none x none .heavy r
def dl (k : Nat) (x : CI) (r : DIs) : DIs := .cons none x none (.light k) r
def df (x : CI) (r : DIs) : DIs := .cons none x none .float r
def eh (n : Nat) (x : CI) (r : DIs) : DIs := .cons none x (some (key n)) .heavy r
def el (n k : Nat) (x : CI) (r : DIs) : DIs := .cons none x (some (key n)) (.light k) r
def ef (n : Nat) (x : CI) (r : DIs) : DIs := .cons none x (some (key n)) .float r
def yh (j : Nat) (b : Bool) (x : CI) (r : DIs) : DIs := .cons (some (j, b)) x none .heavy r
def yl (j : Nat) (b : Bool) (k : Nat) (x : CI) (r : DIs) : DIs := .cons (some (j, b)) x none (.light k) r
def z : CIs := .nil
def dz : DIs := .nil
def s (a b : CCode) : CCode := .seq a b
def r (x : CIs) : CCode := .region x
def w (x : DIs) (n : Nat) : CCode := .draw x n
def k (x : Opd) (a b : CCode) : CCode := .cond x a b
def m (x : Opd) : CI := .mov x
def f (n : Nat) (xs : Opds) : CI := .callF n xs
def a0 : Opds := .nil
def a1 (x : Opd) : Opds := .cons x .nil
def a2 (x u : Opd) : Opds := .cons x (.cons u .nil)
def a3 (x u q : Opd) : Opds := .cons x (.cons u (.cons q .nil))
def a (x : Opd) (r : Opds) : Opds := .cons x r
def p (n : Nat) (x : Opd) : CI := .fieldAddr n x
def n (x : Opd) : CI := .nilCheck x
def o (x : Opd) : CI := .load1 x
def x (j : Nat) (q : Opd) : CI := .extract j q
def b (q : Bool) : Opd := .lit (.bool q)
def sm (q : Opd) : CIs → CCode := fun r => .region (.cons none (.mov q) none r)
def ri (x : CI) : CCode := .region (.cons none x none .nil)
def re (n : Nat) (x : CI) : CCode := .region (.cons none x (some (key n)) .nil)
def nl : AV := .nil
def q (a r : AV) : AV := .cons a r
def j (n : Int) : AV := .int 3 n
end Go.Dx.P
