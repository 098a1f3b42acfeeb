/-
  The law GenKnown, run by the kernel's twin.
-/
import Derived.Test.YtflbicbcphmgoaaGreatDoorFns
import Derived.Test.YtflbicbcphmgoaaGreatDoorDxKh
import Derived.Test.YtflbicbcphmgoaaGreatDoorDxGlob
namespace Go.Proofs.YtflbicbcphmgoaaGreatDoor.genKnown
set_option linter.unusedVariables false
/-- The tables that the run reads. -/
def tabs (m : Int) : List (Nat × Nat × List Int) := [(3, 3, [m]), (1, 4, [0, 0, 0, 0, 0, 0, 0, 0, 0, 1, 1, 1, 1, 1, 0, 0, 0, 0, 0, 0, 0, 0, 0, 0, 0, 0, 0, 0, 0, 0, 0, 0, 1, 0, 0, 0, 0, 0, 0, 0, 0, 0, 0, 0, 0, 0, 0, 0, 0, 0, 0, 0, 0, 0, 0, 0, 0, 0, 0, 0, 0, 0, 0, 0, 0, 0, 0, 0, 0, 0, 0, 0, 0, 0, 0, 0, 0, 0, 0, 0, 0, 0, 0, 0, 0, 0, 0, 0, 0, 0, 0, 0, 0, 0, 0, 0, 0, 0, 0, 0, 0, 0, 0, 0, 0, 0, 0, 0, 0, 0, 0, 0, 0, 0, 0, 0, 0, 0, 0, 0, 0, 0, 0, 0, 0, 0, 0, 0, 0, 0, 0, 0, 0, 0, 0, 0, 0, 0, 0, 0, 0, 0, 0, 0, 0, 0, 0, 0, 0, 0, 0, 0, 0, 0, 0, 0, 0, 0, 0, 0, 0, 0, 0, 0, 0, 0, 0, 0, 0, 0, 0, 0, 0, 0, 0, 0, 0, 0, 0, 0, 0, 0, 0, 0, 0, 0, 0, 0, 0, 0, 0, 0, 0, 0, 0, 0, 0, 0, 0, 0, 0, 0, 0, 0, 0, 0, 0, 0, 0, 0, 0, 0, 0, 0, 0, 0, 0, 0, 0, 0, 0, 0, 0, 0, 0, 0, 0, 0, 0, 0, 0, 0, 0, 0, 0, 0, 0, 0, 0, 0, 0, 0, 0, 0, 0, 0, 0, 0, 0, 0, 0, 0, 0, 0, 0, 0])]
def vars (m : Int) : List (Nat × Dx.Tr Dx.AV) := (0, Dx.Tr.set (Dx.key 0) (.iface 182 (.agg (.cons (.ptr (Dx.key 10) 36) .nil))) .leaf) :: (4, Dx.ifTree 296 11) :: (tabs m).map fun q => (q.1, Dx.tabTree q.2.1 q.2.2)
def start (m : Int) : Dx.Heap := Dx.gHeap (vars m) 12
set_option maxRecDepth 1000000
set_option maxHeartbeats 1000000000 in
theorem runs (m : Int) : Dx.K.holdsG (fun f => tree.get (Dx.key f)) 3 (start m) = .yes := by kernel_rfl
end Go.Proofs.YtflbicbcphmgoaaGreatDoor.genKnown
