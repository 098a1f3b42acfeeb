import Derived.Test.YthpnhdopheofcaaDxComp
set_option linter.unusedSimpArgs false
set_option linter.unusedVariables false
namespace Go.Dx
def maxKeys : ME → Int → Option Int
 | .nil, m => some m
 | .cons (.int c n) _ _ r, m => if c = 3 then maxKeys r (max m n) else none
 | _, _ => none
def bornOk (clock : Nat) : ME → Nat → Bool
 | .nil, _ => true
 | .cons _ _ b r, lo => Nat.ble lo b && Nat.blt b clock && bornOk clock r (b + 1)
def natLast (as : AV) (H : Heap) : Option AV :=
 match as with
 | .cons .nilptr .nil => some (.int 3 0)
 | .cons (.ptr p off) .nil =>
  match H.cell p off with
  | some .nilmap => some (.int 3 0)
  | some (.map q) =>
   match H.get q with
   | some (.map es clock) => if bornOk clock es 0 then (maxKeys es 0).map (.int 3) else none
   | _ => none
  | _ => none
 | _ => none
end Go.Dx
