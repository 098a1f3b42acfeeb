/-
  The law CallRaw, run by the kernel's twin.
-/
import Derived.Test.YtpmfhinbmnaomaaGreatDoorFns
import Derived.Test.YtpmfhinbmnaomaaGreatDoorDxKh
import Derived.Test.YtpmfhinbmnaomaaGreatDoorDxGlob
namespace Go.Proofs.YtpmfhinbmnaomaaGreatDoor.callRaw
set_option linter.unusedVariables false
/-- The tables that the run reads. -/
def tabs : List (Nat × Nat × List Int) := [(0, 7, [1, 10, 100, 1000, 10000, 100000, 1000000, 10000000, 100000000, 1000000000, 10000000000, 100000000000, 1000000000000, 10000000000000, 100000000000000, 1000000000000000, 10000000000000000, 100000000000000000, 1000000000000000000, 10000000000000000000])]
def vars : List (Nat × Dx.Tr Dx.AV) := (tabs).map fun q => (q.1, Dx.tabTree q.2.1 q.2.2)
def start : Dx.Heap := Dx.gHeap (vars) 5
/-- What comes in: a key of which the sort is known, and any value. -/
def argsK (k : Dx.AV) (m : Bool) : Dx.AV := .cons k (.cons (.sym (Dx.key 4) (.negSucc 9223372036854775807) (.ofNat 9223372036854775807)) (.cons (.bool m) .nil))
def kLo : Dx.AV := .sym (Dx.key 3) (.negSucc 9223372036854775807) (.ofNat 0)
def kOne : Dx.AV := .int 3 (.ofNat 1)
def kHi : Dx.AV := .sym (Dx.key 3) (.ofNat 2) (.ofNat 9223372036854775807)
set_option maxRecDepth 1000000
set_option maxHeartbeats 1000000000 in
theorem runsLoF : Dx.K.holdsA (fun f => tree.get (Dx.key f)) 3 (argsK kLo false) start = .yes := by kernel_rfl
set_option maxHeartbeats 1000000000 in
theorem runsOneF : Dx.K.holdsA (fun f => tree.get (Dx.key f)) 3 (argsK kOne false) start = .yes := by kernel_rfl
set_option maxHeartbeats 1000000000 in
theorem runsHiF : Dx.K.holdsA (fun f => tree.get (Dx.key f)) 3 (argsK kHi false) start = .yes := by kernel_rfl
end Go.Proofs.YtpmfhinbmnaomaaGreatDoor.callRaw
