/-
  Functions of which it is known what they answer.
-/
import Derived.Test.YtflbicbcphmgoaaGreatDoorDxComp
set_option linter.unusedSimpArgs false
set_option linter.unusedVariables false
set_option linter.unusedSectionVars false
namespace Go.Dx

/-- The greatest key, and none below a number; all of them are ints. -/
def maxKeys : ME → Int → Option Int
  | .nil, m => some m
  | .cons (.int c n) _ _ r, m => if c = 3 then maxKeys r (max m n) else none
  | _, _ => none
/-- Stamps that rise, below the clock. -/
def bornOk (clock : Nat) : ME → Nat → Bool
  | .nil, _ => true
  | .cons _ _ b r, lo => Nat.ble lo b && Nat.blt b clock && bornOk clock r (b + 1)
/-- What (*pool.Pool).Last answers. -/
def natLast (as : AV) (H : Heap) : Option AV :=
  match as with
  | .cons .nilptr .nil => some (.int 3 0)
  | .cons (.ptr p off) .nil =>
    match H.cell p off with
    | some .nilmap => some (.int 3 0)
    | some (.map q) =>
      match H.get q with
      | some (.map es clock) => if bornOk clock es 0 then (maxKeys es 0).map (.int 3) else none
      | _ => none
    | _ => none
  | _ => none

/-! A range over a map of three texts whose order does not matter: what stands for it. -/
/-- The parser's next token, read; is it a word, and which of the three? -/
def anyR (sz : Nat) (k : Int) (l1 n1 l2 n2 l3 n3 : Nat) : CIs :=
  .cons none (.load1 (.var (key 2))) none <| .cons none (.load1 (.loc 0)) none <| .cons none (.idxSl sz (.loc 0) (.lit (.int 3 0))) none <| .cons none (.load1 (.loc 0)) none <|
  .cons none (.fieldAddr 1 (.loc 1)) none <| .cons none (.load1 (.loc 0)) none <| .cons none (.fieldAddr 2 (.loc 3)) none <| .cons none (.load1 (.loc 0)) none <| .cons none (.cmp .eql (.loc 0) (.lit (.int 3 0))) none <|
  .cons none (.fieldAddr 3 (.loc 6)) none <| .cons none (.load1 (.loc 0)) none <| .cons none (.cmp .eql (.loc 0) (.lit (.int 3 0))) none <|
  .cons none (.cmp .eql (.loc 8) (.lit (.int 3 k))) (some (key 11)) <| .cons none (.scmp .eql (.loc 7) (.lit (.str l1 n1))) (some (key 13)) <| .cons none (.scmp .eql (.loc 8) (.lit (.str l2 n2))) (some (key 14)) <|
  .cons none (.scmp .eql (.loc 9) (.lit (.str l3 n3))) (some (key 15)) <| .nil
def leaveC (v : Int) (lv : CCode) : CCode := .seq (.region (.cons none (.mov (.lit (.int 3 v))) (some (key 5)) .nil)) (.seq lv stuckC)
def anyC (sz : Nat) (k : Int) (l1 n1 l2 n2 l3 n3 : Nat) (v1 v2 v3 : Int) (lv : CCode) : CCode :=
  .seq (.region (anyR sz k l1 n1 l2 n2 l3 n3)) (.cond (.var (key 11)) (.cond (.var (key 13)) (leaveC v1 lv) (.cond (.var (key 14)) (leaveC v2 lv) (.cond (.var (key 15)) (leaveC v3 lv) .skip))) .skip)

/-- The parts of (*parse.parser).signed's code, as it was compiled by rule. -/
def headOf : CCode → CCode
  | .seq a _ => a
  | c => c
def restOf : CCode → CCode
  | .seq _ (.seq _ c) => c
  | c => c
def csOf : CCode → CIs
  | .seq _ (.seq (.seq _ (.block _ (.loop (.seq _ (.seq _ (.block _ (.seq _ (.seq _ (.cond _ (.seq (.region cs) .ret) _))))))))) _) => cs
  | _ => .nil
def anyOf (sz : Nat) (c : CCode) : CCode := .seq (headOf c) (.seq (anyC sz 4 3 7104878 4 1702195828 5 435728179558 1 2 3 (.seq (.region (csOf c)) .ret)) (restOf c))

end Go.Dx
