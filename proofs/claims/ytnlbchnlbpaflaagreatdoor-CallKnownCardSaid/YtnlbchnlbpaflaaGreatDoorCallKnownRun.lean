/-
  The law CallKnown, run by the kernel's twin.
-/
import Derived.Test.YtnlbchnlbpaflaaGreatDoorFns
import Derived.Test.YtnlbchnlbpaflaaGreatDoorDxKh
import Derived.Test.YtnlbchnlbpaflaaGreatDoorDxGlob
namespace Go.Proofs.YtnlbchnlbpaflaaGreatDoor.callKnown
set_option linter.unusedVariables false
/-- The tables that the run reads. -/
def tabs : List (Nat × Nat × List Int) := [(0, 7, [1, 10, 100, 1000, 10000, 100000, 1000000, 10000000, 100000000, 1000000000, 10000000000, 100000000000, 1000000000000, 10000000000000, 100000000000000, 1000000000000000, 10000000000000000, 100000000000000000, 1000000000000000000, 10000000000000000000])]
def start : Dx.Heap := Dx.gHeap (tabs.map fun q => (q.1, Dx.tabTree q.2.1 q.2.2)) 3
set_option maxRecDepth 1000000
set_option maxHeartbeats 1000000000 in
theorem runs : Dx.K.holdsG (fun f => tree.get (Dx.key f)) 3 start = .yes := by kernel_rfl
end Go.Proofs.YtnlbchnlbpaflaaGreatDoor.callKnown
