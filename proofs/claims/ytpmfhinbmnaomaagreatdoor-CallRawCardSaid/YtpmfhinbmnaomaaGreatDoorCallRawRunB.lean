/-
  The same, with a metatable.
-/
import Derived.Test.YtpmfhinbmnaomaaGreatDoorCallRawRun
namespace Go.Proofs.YtpmfhinbmnaomaaGreatDoor.callRaw
set_option linter.unusedVariables false
set_option maxRecDepth 1000000
set_option maxHeartbeats 1000000000 in
theorem runsLoT : Dx.K.holdsA (fun f => tree.get (Dx.key f)) 3 (argsK kLo true) start = .yes := by kernel_rfl
set_option maxHeartbeats 1000000000 in
theorem runsOneT : Dx.K.holdsA (fun f => tree.get (Dx.key f)) 3 (argsK kOne true) start = .yes := by kernel_rfl
set_option maxHeartbeats 1000000000 in
theorem runsHiT : Dx.K.holdsA (fun f => tree.get (Dx.key f)) 3 (argsK kHi true) start = .yes := by kernel_rfl
end Go.Proofs.YtpmfhinbmnaomaaGreatDoor.callRaw
