/-
  strings.Index, as the program has it (internal/stringslite.Index), is what stands for it.
-/
import Derived.Shelf.Strings.Search2
import Derived.Test.YtflbicbcphmgoacGreatDoorProg
import Derived.Test.YtflbicbcphmgoacGreatDoorDxIdx
import Derived.KernelRfl
namespace Go.Proofs
open Go.Shelf
def Tryz.lays219_ren : Go.Shelf.Ren := ⟨fun | 219 => 225 | 217 => 75 | 225 => 266 | 224 => 267 | 267 => 268 | 266 => 160 | 314 => 288 | n => n, fun | 9 => 9 | 3 => 3 | 4 => 4 | 5 => 5 | 46 => 301 | 146 => 395 | 51 => 290 | n => n, fun | 1 => 3 | n => n⟩
theorem Tryz.lays219 : Go.Proofs.Lays.n219 Tryz.prog Tryz.lays219_ren := {
  mixed := by kernel_rfl
  f217 := Tryz.func75.trans (congrArg some (by kernel_rfl))
  f219 := Tryz.func225.trans (congrArg some (by kernel_rfl))
  f224 := Tryz.func267.trans (congrArg some (by kernel_rfl))
  f225 := Tryz.func266.trans (congrArg some (by kernel_rfl))
  f266 := Tryz.func160.trans (congrArg some (by kernel_rfl))
  f267 := Tryz.func268.trans (congrArg some (by kernel_rfl))
  f314 := Tryz.func288.trans (congrArg some (by kernel_rfl))
  t3 := Tryz.underlying3
  a3 := Tryz.isAgg3
  z3 := Tryz.sizeOf3
  v3 := Tryz.zeroValue3
  t4 := Tryz.underlying4
  a4 := Tryz.isAgg4
  z4 := Tryz.sizeOf4
  v4 := Tryz.zeroValue4
  t5 := Tryz.underlying5
  a5 := Tryz.isAgg5
  z5 := Tryz.sizeOf5
  v5 := Tryz.zeroValue5
  t9 := Tryz.underlying9
  a9 := Tryz.isAgg9
  z9 := Tryz.sizeOf9
  v9 := Tryz.zeroValue9
  t46 := Tryz.underlying301
  a46 := Tryz.isAgg301
  z46 := Tryz.sizeOf301
  v46 := Tryz.zeroValue301
  t51 := Tryz.underlying290
  a51 := Tryz.isAgg290
  z51 := Tryz.sizeOf290
  v51 := Tryz.zeroValue290
  t146 := Tryz.underlying395
  a146 := Tryz.isAgg395
  z146 := Tryz.sizeOf395
  v146 := Tryz.zeroValue395
  g1 := by kernel_rfl }
end Go.Proofs
namespace Go.Proofs.YtflbicbcphmgoacGreatDoor
open Go.Dx
def nf225 : CFunc := ⟨.skip, [], some (.nat (natIndex 3))⟩
theorem n225 : FnOk Tryz.prog 8 225 nf225 :=
  natIndex_ok Tryz.lays219 rfl rfl (by decide) ⟨_, Tryz.func225, by kernel_rfl, by decide⟩
end Go.Proofs.YtflbicbcphmgoacGreatDoor
