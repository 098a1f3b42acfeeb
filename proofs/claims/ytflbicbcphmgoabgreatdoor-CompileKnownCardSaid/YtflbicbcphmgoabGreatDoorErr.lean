/-
  errors.As and errors.Is, as the program has them, at its own two types of errors. After the kit's worked examples ToyasAs and SentryIs.
-/
import Derived.Test.YtflbicbcphmgoabGreatDoorProg
import Derived.Test.YtflbicbcphmgoabGreatDoorDxErr
import Derived.WalkKit
import Derived.LaidEql
import Derived.Stop.Asserts
import Derived.Lib.IfaceEq
import Derived.RowKitTokens
import Derived.KernelRfl
set_option linter.unusedVariables false
set_option linter.unusedSimpArgs false
namespace Go.Proofs.YtflbicbcphmgoabGreatDoor
open Go.RowKit Go.Extern.Stop Go.Stop Go.Extern Go.Dx
def cmpE : Array Value → Sem Value := ReflectliteType.method fun t => do Rtype.noPackHeld "Comparable" t; pure (.bool (← typeInfo t).comparable)
theorem rlm (z : Sem Value) (f : TypeId → Addr → Nat → Nat → Sem Value) (v : Value) :
    ReflectliteValue.method z f #[v] = (do match ← ReflectliteValue.parts v with | none => z | some (t, a, fl) => f t a fl (fl % 32)) := rfl
theorem rls (v x : Value) : ReflectliteValue.set #[v, x] = (do
    let (some (dst, a, fl), some (src, b, _)) := (← ReflectliteValue.parts v, ← ReflectliteValue.parts x)
      | unsupported (.noEntry "extern/(internal/reflectlite.Value).Set.zeroValue")
    if fl / ReflectliteValue.flagAddr % 2 == 0 then unsupported (.noEntry "extern/(internal/reflectlite.Value).Set.unaddressable")
    let val ← loadVar src b
    if ← Rtype.directlyAssignable dst src then storeVar dst a val
    else if ← Rtype.implements dst src then
      if (← Rtype.kind src) == 20 then
        match val with
        | .nilIface => unsupported (.noEntry "extern/reflectlite: a nil value of one interface type handed on as a value of another")
        | _ => storeVar dst a val
      else storeVar dst a (.iface src val)
    else panicString ("reflectlite.Set: value of type " ++ (← Rtype.spelt src) ++ " is not assignable to type " ++ (← Rtype.spelt dst))
    pure (.tuple #[])) := rfl
theorem Tryz.emKind (h : Value) (w : World) : (Go.method 493 148 (.agg #[h]) "Kind").run Tryz.prog w = .ok (276, h) w := by kernel_rfl
theorem Tryz.emElem (h : Value) (w : World) : (Go.method 493 148 (.agg #[h]) "Elem").run Tryz.prog w = .ok (288, .agg #[h]) w := by kernel_rfl
theorem Tryz.emImplements (h : Value) (w : World) : (Go.method 493 148 (.agg #[h]) "Implements").run Tryz.prog w = .ok (289, .agg #[h]) w := by kernel_rfl
theorem Tryz.emAssignableTo (h : Value) (w : World) : (Go.method 493 148 (.agg #[h]) "AssignableTo").run Tryz.prog w = .ok (286, .agg #[h]) w := by kernel_rfl
theorem Tryz.emComparable (h : Value) (w : World) : (Go.method 493 148 (.agg #[h]) "Comparable").run Tryz.prog w = .ok (287, .agg #[h]) w := by kernel_rfl
theorem Tryz.ek46 (w : World) : ((ReflectliteType.abiMethod fun t => (fun a : Nat => Value.int IntKind.u8 (a : Int)) <$> Rtype.kind t) #[.pointer (some ⟨10, 46, none⟩)]).run Tryz.prog w = .ok (.int .u8 22) w := by kernel_rfl
theorem Tryz.ek48 (w : World) : ((ReflectliteType.abiMethod fun t => (fun a : Nat => Value.int IntKind.u8 (a : Int)) <$> Rtype.kind t) #[.pointer (some ⟨10, 48, none⟩)]).run Tryz.prog w = .ok (.int .u8 22) w := by kernel_rfl
theorem Tryz.ek36 (w : World) : ((ReflectliteType.abiMethod fun t => (fun a : Nat => Value.int IntKind.u8 (a : Int)) <$> Rtype.kind t) #[.pointer (some ⟨10, 36, none⟩)]).run Tryz.prog w = .ok (.int .u8 2) w := by kernel_rfl
theorem Tryz.ek49 (w : World) : ((ReflectliteType.abiMethod fun t => (fun a : Nat => Value.int IntKind.u8 (a : Int)) <$> Rtype.kind t) #[.pointer (some ⟨10, 49, none⟩)]).run Tryz.prog w = .ok (.int .u8 22) w := by kernel_rfl
theorem Tryz.eV48 (t : Addr) (w : World) : (ReflectliteValue.unpack (.iface 48 (.pointer (some t)))).run Tryz.prog w = .ok (.agg #[.pointer (some ⟨10, 48, none⟩), .pointer (some ⟨w.heap.size, 0, none⟩), .int .u64 150]) (w.alloc (.cells #[.pointer (some t)] 48)) := by kernel_rfl
theorem Tryz.eT48 (a : Addr) (w : World) : (ReflectliteValue.methodAny (ReflectliteValue.valueError "reflectlite.Value.Type" 0) (fun t _ _ _ => ReflectliteType.toType t) #[.agg #[.pointer (some ⟨10, 48, none⟩), .pointer (some a), .int .u64 150]]).run Tryz.prog w = .ok (.iface 148 (.agg #[.pointer (some ⟨10, 48, none⟩)])) w := by kernel_rfl
theorem Tryz.ep48 (a : Addr) (w : World) : (ReflectliteValue.parts (.agg #[.pointer (some ⟨10, 48, none⟩), .pointer (some a), .int .u64 150])).run Tryz.prog w = .ok (some (48, a, 150)) w := by kernel_rfl
theorem Tryz.ee48 (w : World) : (ReflectliteType.method ReflectliteType.elem #[.agg #[.pointer (some ⟨10, 48, none⟩)]]).run Tryz.prog w = .ok (.iface 148 (.agg #[.pointer (some ⟨10, 46, none⟩)])) w := by kernel_rfl
theorem Tryz.eo48 (w : World) : (Rtype.elem? 48).run Tryz.prog w = .ok (some 46) w := by kernel_rfl
theorem Tryz.ei46 (w : World) : (ReflectliteType.relation "Implements" ReflectliteType.implements_ #[.agg #[.pointer (some ⟨10, 46, none⟩)], .iface 148 (.agg #[.pointer (some ⟨10, 26, none⟩)])]).run Tryz.prog w = .ok (.bool true) w := by kernel_rfl
theorem Tryz.et46 (v : Value) (w : World) : (ReflectliteType.typeOf #[.iface 46 v]).run Tryz.prog w = .ok (.iface 148 (.agg #[.pointer (some ⟨10, 46, none⟩)])) w := by kernel_rfl
theorem Tryz.eA46 (w : World) : (ReflectliteType.relation "AssignableTo" ReflectliteType.assignableTo #[.agg #[.pointer (some ⟨10, 46, none⟩)], .iface 148 (.agg #[.pointer (some ⟨10, 46, none⟩)])]).run Tryz.prog w = .ok (.bool true) w := by kernel_rfl
theorem Tryz.eV46 (e : Addr) (w : World) : (ReflectliteValue.unpack (.iface 46 (.pointer (some e)))).run Tryz.prog w = .ok (.agg #[.pointer (some ⟨10, 46, none⟩), .pointer (some ⟨w.heap.size, 0, none⟩), .int .u64 150]) (w.alloc (.cells #[.pointer (some e)] 46)) := by kernel_rfl
theorem Tryz.em46 (p : Addr) (w : World) : (ReflectliteValue.mk 46 p ReflectliteValue.flagAddr).run Tryz.prog w = .ok (.agg #[.pointer (some ⟨10, 46, none⟩), .pointer (some p), .int .u64 406]) w := by kernel_rfl
theorem Tryz.ep46 (a : Addr) (w : World) : (ReflectliteValue.parts (.agg #[.pointer (some ⟨10, 46, none⟩), .pointer (some a), .int .u64 150])).run Tryz.prog w = .ok (some (46, a, 150)) w := by kernel_rfl
theorem Tryz.eq46 (a : Addr) (w : World) : (ReflectliteValue.parts (.agg #[.pointer (some ⟨10, 46, none⟩), .pointer (some a), .int .u64 406])).run Tryz.prog w = .ok (some (46, a, 406)) w := by kernel_rfl
theorem Tryz.ed46 (w : World) : (Rtype.directlyAssignable 46 46).run Tryz.prog w = .ok true w := by kernel_rfl
theorem Tryz.es46 (w : World) : (sizeOf 46).run Tryz.prog w = .ok 1 w := by kernel_rfl
theorem Tryz.eN48 (a p : Addr) (W : World) (ha : W.cell? a = some (.pointer (some p))) :
    (ReflectliteValue.method (ReflectliteValue.valueError "reflectlite.Value.IsNil" 0) ReflectliteValue.isNil #[.agg #[.pointer (some ⟨10, 48, none⟩), .pointer (some a), .int .u64 150]]).run Tryz.prog W = .ok (.bool false) W := by
  rw [rlm]
  simp only [Sem.run_bind, Tryz.ep48, Result.andThen]
  simp [ReflectliteValue.isNil, loadVar, isAgg, underlying, Tryz.underlying48, ha, Result.andThen]
theorem Tryz.eE48 (a p : Addr) (W : World) (ha : W.cell? a = some (.pointer (some p))) :
    (ReflectliteValue.method (ReflectliteValue.valueError "reflectlite.Value.Elem" 0) ReflectliteValue.elem #[.agg #[.pointer (some ⟨10, 48, none⟩), .pointer (some a), .int .u64 150]]).run Tryz.prog W
      = .ok (.agg #[.pointer (some ⟨10, 46, none⟩), .pointer (some p), .int .u64 406]) W := by
  rw [rlm]
  simp only [Sem.run_bind, Tryz.ep48, Result.andThen]
  simp [ReflectliteValue.elem, loadVar, isAgg, underlying, Tryz.underlying48, ha, Result.andThen, Tryz.eo48, Tryz.em46]
theorem Tryz.eS46 (ta b : Addr) (e : Addr) (W W' : World) (hb : W.cell? b = some (.pointer (some e))) (hs : (storeCells ta [.pointer (some e)]).run Tryz.prog W = .ok () W') :
    (ReflectliteValue.set #[.agg #[.pointer (some ⟨10, 46, none⟩), .pointer (some ta), .int .u64 406], .agg #[.pointer (some ⟨10, 46, none⟩), .pointer (some b), .int .u64 150]]).run Tryz.prog W = .ok (.tuple #[]) W' := by
  rw [rls]
  simp only [Sem.run_bind, Tryz.eq46, Tryz.ep46, Result.andThen]
  simp [ReflectliteValue.flagAddr, loadVar, isAgg, underlying, Tryz.underlying46, hb, Result.andThen, Tryz.ed46, storeVar, Value.cells, Tryz.es46, hs]
theorem Tryz.eV49 (t : Addr) (w : World) : (ReflectliteValue.unpack (.iface 49 (.pointer (some t)))).run Tryz.prog w = .ok (.agg #[.pointer (some ⟨10, 49, none⟩), .pointer (some ⟨w.heap.size, 0, none⟩), .int .u64 150]) (w.alloc (.cells #[.pointer (some t)] 49)) := by kernel_rfl
theorem Tryz.eT49 (a : Addr) (w : World) : (ReflectliteValue.methodAny (ReflectliteValue.valueError "reflectlite.Value.Type" 0) (fun t _ _ _ => ReflectliteType.toType t) #[.agg #[.pointer (some ⟨10, 49, none⟩), .pointer (some a), .int .u64 150]]).run Tryz.prog w = .ok (.iface 148 (.agg #[.pointer (some ⟨10, 49, none⟩)])) w := by kernel_rfl
theorem Tryz.ep49 (a : Addr) (w : World) : (ReflectliteValue.parts (.agg #[.pointer (some ⟨10, 49, none⟩), .pointer (some a), .int .u64 150])).run Tryz.prog w = .ok (some (49, a, 150)) w := by kernel_rfl
theorem Tryz.ee49 (w : World) : (ReflectliteType.method ReflectliteType.elem #[.agg #[.pointer (some ⟨10, 49, none⟩)]]).run Tryz.prog w = .ok (.iface 148 (.agg #[.pointer (some ⟨10, 36, none⟩)])) w := by kernel_rfl
theorem Tryz.eo49 (w : World) : (Rtype.elem? 49).run Tryz.prog w = .ok (some 36) w := by kernel_rfl
theorem Tryz.ei36 (w : World) : (ReflectliteType.relation "Implements" ReflectliteType.implements_ #[.agg #[.pointer (some ⟨10, 36, none⟩)], .iface 148 (.agg #[.pointer (some ⟨10, 26, none⟩)])]).run Tryz.prog w = .ok (.bool true) w := by kernel_rfl
theorem Tryz.et36 (v : Value) (w : World) : (ReflectliteType.typeOf #[.iface 36 v]).run Tryz.prog w = .ok (.iface 148 (.agg #[.pointer (some ⟨10, 36, none⟩)])) w := by kernel_rfl
theorem Tryz.eA36 (w : World) : (ReflectliteType.relation "AssignableTo" ReflectliteType.assignableTo #[.agg #[.pointer (some ⟨10, 36, none⟩)], .iface 148 (.agg #[.pointer (some ⟨10, 36, none⟩)])]).run Tryz.prog w = .ok (.bool true) w := by kernel_rfl
theorem Tryz.eV36 (e : Int) (w : World) : (ReflectliteValue.unpack (.iface 36 (.int .i64 e))).run Tryz.prog w = .ok (.agg #[.pointer (some ⟨10, 36, none⟩), .pointer (some ⟨w.heap.size, 0, none⟩), .int .u64 130]) (w.alloc (.cells #[.int .i64 e] 36)) := by kernel_rfl
theorem Tryz.em36 (p : Addr) (w : World) : (ReflectliteValue.mk 36 p ReflectliteValue.flagAddr).run Tryz.prog w = .ok (.agg #[.pointer (some ⟨10, 36, none⟩), .pointer (some p), .int .u64 386]) w := by kernel_rfl
theorem Tryz.ep36 (a : Addr) (w : World) : (ReflectliteValue.parts (.agg #[.pointer (some ⟨10, 36, none⟩), .pointer (some a), .int .u64 130])).run Tryz.prog w = .ok (some (36, a, 130)) w := by kernel_rfl
theorem Tryz.eq36 (a : Addr) (w : World) : (ReflectliteValue.parts (.agg #[.pointer (some ⟨10, 36, none⟩), .pointer (some a), .int .u64 386])).run Tryz.prog w = .ok (some (36, a, 386)) w := by kernel_rfl
theorem Tryz.ed36 (w : World) : (Rtype.directlyAssignable 36 36).run Tryz.prog w = .ok true w := by kernel_rfl
theorem Tryz.es36 (w : World) : (sizeOf 36).run Tryz.prog w = .ok 1 w := by kernel_rfl
theorem Tryz.eN49 (a p : Addr) (W : World) (ha : W.cell? a = some (.pointer (some p))) :
    (ReflectliteValue.method (ReflectliteValue.valueError "reflectlite.Value.IsNil" 0) ReflectliteValue.isNil #[.agg #[.pointer (some ⟨10, 49, none⟩), .pointer (some a), .int .u64 150]]).run Tryz.prog W = .ok (.bool false) W := by
  rw [rlm]
  simp only [Sem.run_bind, Tryz.ep49, Result.andThen]
  simp [ReflectliteValue.isNil, loadVar, isAgg, underlying, Tryz.underlying49, ha, Result.andThen]
theorem Tryz.eE49 (a p : Addr) (W : World) (ha : W.cell? a = some (.pointer (some p))) :
    (ReflectliteValue.method (ReflectliteValue.valueError "reflectlite.Value.Elem" 0) ReflectliteValue.elem #[.agg #[.pointer (some ⟨10, 49, none⟩), .pointer (some a), .int .u64 150]]).run Tryz.prog W
      = .ok (.agg #[.pointer (some ⟨10, 36, none⟩), .pointer (some p), .int .u64 386]) W := by
  rw [rlm]
  simp only [Sem.run_bind, Tryz.ep49, Result.andThen]
  simp [ReflectliteValue.elem, loadVar, isAgg, underlying, Tryz.underlying49, ha, Result.andThen, Tryz.eo49, Tryz.em36]
theorem Tryz.eS36 (ta b : Addr) (e : Int) (W W' : World) (hb : W.cell? b = some (.int .i64 e)) (hs : (storeCells ta [.int .i64 e]).run Tryz.prog W = .ok () W') :
    (ReflectliteValue.set #[.agg #[.pointer (some ⟨10, 36, none⟩), .pointer (some ta), .int .u64 386], .agg #[.pointer (some ⟨10, 36, none⟩), .pointer (some b), .int .u64 130]]).run Tryz.prog W = .ok (.tuple #[]) W' := by
  rw [rls]
  simp only [Sem.run_bind, Tryz.eq36, Tryz.ep36, Result.andThen]
  simp [ReflectliteValue.flagAddr, loadVar, isAgg, underlying, Tryz.underlying36, hb, Result.andThen, Tryz.ed36, storeVar, Value.cells, Tryz.es36, hs]
theorem Tryz.eA36_46 (w : World) : (ReflectliteType.relation "AssignableTo" ReflectliteType.assignableTo #[.agg #[.pointer (some ⟨10, 36, none⟩)], .iface 148 (.agg #[.pointer (some ⟨10, 46, none⟩)])]).run Tryz.prog w = .ok (.bool false) w := by kernel_rfl
theorem Tryz.ehAs46 (v : Value) (xT : TypeId) (w : World) : (Instr.typeAssert (.iface 46 v) xT 152 true).run Tryz.prog w = .ok (.tuple #[.nilIface, .bool false]) w := run_typeAssert_lacksB Tryz.underlying152 (by kernel_rfl) (by kernel_rfl) v xT w
theorem Tryz.ehIs46 (v : Value) (xT : TypeId) (w : World) : (Instr.typeAssert (.iface 46 v) xT 174 true).run Tryz.prog w = .ok (.tuple #[.nilIface, .bool false]) w := run_typeAssert_lacksB Tryz.underlying174 (by kernel_rfl) (by kernel_rfl) v xT w
theorem Tryz.ehU46 (v : Value) (xT : TypeId) (w : World) : (Instr.typeAssert (.iface 46 v) xT 155 true).run Tryz.prog w = .ok (.tuple #[.iface 46 v, .bool true]) w := run_typeAssert_hasB Tryz.underlying155 (by kernel_rfl) v xT w
theorem Tryz.ehUs46 (v : Value) (xT : TypeId) (w : World) : (Instr.typeAssert (.iface 46 v) xT 156 true).run Tryz.prog w = .ok (.tuple #[.nilIface, .bool false]) w := run_typeAssert_lacksB Tryz.underlying156 (by kernel_rfl) (by kernel_rfl) v xT w
theorem Tryz.ehAs36 (v : Value) (xT : TypeId) (w : World) : (Instr.typeAssert (.iface 36 v) xT 152 true).run Tryz.prog w = .ok (.tuple #[.nilIface, .bool false]) w := run_typeAssert_lacksB Tryz.underlying152 (by kernel_rfl) (by kernel_rfl) v xT w
theorem Tryz.ehIs36 (v : Value) (xT : TypeId) (w : World) : (Instr.typeAssert (.iface 36 v) xT 174 true).run Tryz.prog w = .ok (.tuple #[.nilIface, .bool false]) w := run_typeAssert_lacksB Tryz.underlying174 (by kernel_rfl) (by kernel_rfl) v xT w
theorem Tryz.ehU36 (v : Value) (xT : TypeId) (w : World) : (Instr.typeAssert (.iface 36 v) xT 155 true).run Tryz.prog w = .ok (.tuple #[.nilIface, .bool false]) w := run_typeAssert_lacksB Tryz.underlying155 (by kernel_rfl) (by kernel_rfl) v xT w
theorem Tryz.ehUs36 (v : Value) (xT : TypeId) (w : World) : (Instr.typeAssert (.iface 36 v) xT 156 true).run Tryz.prog w = .ok (.tuple #[.nilIface, .bool false]) w := run_typeAssert_lacksB Tryz.underlying156 (by kernel_rfl) (by kernel_rfl) v xT w
theorem Tryz.emU (v : Value) (w : World) : (Go.method 493 46 v "Unwrap").run Tryz.prog w = .ok (281, v) w := by kernel_rfl
theorem Tryz.ecc (w : World) : (cmpE #[.agg #[.pointer (some ⟨10, 36, none⟩)]]).run Tryz.prog w = .ok (.bool true) w := by kernel_rfl
theorem Tryz.ecI : (Tryz.prog.info? 36).map (·.comparable) = some true := by kernel_rfl
set_option maxHeartbeats 4000000 in
theorem Tryz.as_hitA (e : Addr) (t : Addr) (w : World) (hg : w.cell? ⟨0, 0, none⟩ = some (.iface 148 (.agg #[.pointer (some ⟨10, 26, none⟩)]))) : ∃ w4, More w w4 ∧ ∀ w', (storeCells t [.pointer (some e)]).run Tryz.prog w4 = .ok () w' →
      Calls Tryz.prog 11 #[.iface 46 (.pointer (some e)), .iface 48 (.pointer (some t))] w fun ev w'' => ev = .returned (.bool true) ∧ w'' = w' := by
  refine ⟨((((w.alloc (.cells #[.pointer (some t)] 48)).alloc (.cells #[.pointer (some ⟨10, 48, none⟩), .pointer (some ⟨w.heap.size, 0, none⟩), .int .u64 150] 70)).alloc (.cells #[.pointer (some ⟨10, 48, none⟩), .pointer (some ⟨w.heap.size, 0, none⟩), .int .u64 150] 70)).alloc (.cells #[.pointer (some e)] 46)), ((((More.refl _).alloc _).alloc _).alloc _).alloc _, fun w' hs => ?_⟩
  have xVO := @run_callFunc_extern Tryz.prog 21 _ (fun args => ReflectliteValue.unpack (args.getD 0 (.tuple #[]))) Tryz.func21 (by kernel_rfl) (by kernel_rfl) (by kernel_rfl) (by kernel_rfl)
  have xVT := @run_callFunc_extern Tryz.prog 22 _ (ReflectliteValue.methodAny (ReflectliteValue.valueError "reflectlite.Value.Type" 0) (fun t _ _ _ => ReflectliteType.toType t)) Tryz.func22 (by kernel_rfl) (by kernel_rfl) (by kernel_rfl) (by kernel_rfl)
  have xVN := @run_callFunc_extern Tryz.prog 23 _ (ReflectliteValue.method (ReflectliteValue.valueError "reflectlite.Value.IsNil" 0) ReflectliteValue.isNil) Tryz.func23 (by kernel_rfl) (by kernel_rfl) (by kernel_rfl) (by kernel_rfl)
  have xKind := @run_callFunc_extern Tryz.prog 276 _ (ReflectliteType.abiMethod fun t => do pure (.int .u8 (← Rtype.kind t))) Tryz.func276 (by kernel_rfl) (by kernel_rfl) (by kernel_rfl) (by kernel_rfl)
  have xElem := @run_callFunc_extern Tryz.prog 288 _ (ReflectliteType.method ReflectliteType.elem) Tryz.func288 (by kernel_rfl) (by kernel_rfl) (by kernel_rfl) (by kernel_rfl)
  have xImp := @run_callFunc_extern Tryz.prog 289 _ (ReflectliteType.relation "Implements" ReflectliteType.implements_) Tryz.func289 (by kernel_rfl) (by kernel_rfl) (by kernel_rfl) (by kernel_rfl)
  have xTO := @run_callFunc_extern Tryz.prog 32 _ ReflectliteType.typeOf Tryz.func32 (by kernel_rfl) (by kernel_rfl) (by kernel_rfl) (by kernel_rfl)
  have xAsg := @run_callFunc_extern Tryz.prog 286 _ (ReflectliteType.relation "AssignableTo" ReflectliteType.assignableTo) Tryz.func286 (by kernel_rfl) (by kernel_rfl) (by kernel_rfl) (by kernel_rfl)
  have xVE := @run_callFunc_extern Tryz.prog 48 _ (ReflectliteValue.method (ReflectliteValue.valueError "reflectlite.Value.Elem" 0) ReflectliteValue.elem) Tryz.func48 (by kernel_rfl) (by kernel_rfl) (by kernel_rfl) (by kernel_rfl)
  have xVS := @run_callFunc_extern Tryz.prog 49 _ ReflectliteValue.set Tryz.func49 (by kernel_rfl) (by kernel_rfl) (by kernel_rfl) (by kernel_rfl)
  have y0 := Tryz.et46
  have y1 := Tryz.emAssignableTo
  have y2 := Tryz.eV48
  have y3 := Tryz.eT48
  have y4 := Tryz.emKind
  have y5 := Tryz.emElem
  have y6 := Tryz.emImplements
  have y7 := Tryz.ek48
  have y8 := Tryz.ek46
  have y9 := Tryz.ee48
  have y10 := Tryz.ei46
  have y11 := Tryz.eA46
  have y12 := Tryz.eV46
  have n8 := Tryz.eN48 ⟨w.heap.size, 0, none⟩ t ((w.alloc (.cells #[.pointer (some t)] 48)).alloc (.cells #[.pointer (some ⟨10, 48, none⟩), .pointer (some ⟨w.heap.size, 0, none⟩), .int .u64 150] 70)) (by simp)
  have hlt : 0 < w.heap.size := by
    rcases Nat.lt_or_ge 0 w.heap.size with h | h
    · exact h
    · simp [World.cell?, Array.getElem?_eq_none h] at hg
  have hg2 : ((w.alloc (.cells #[.pointer (some t)] 48)).alloc (.cells #[.pointer (some ⟨10, 48, none⟩), .pointer (some ⟨w.heap.size, 0, none⟩), .int .u64 150] 70)).cell? ⟨0, 0, none⟩ = some (.iface 148 (.agg #[.pointer (some ⟨10, 26, none⟩)])) := by
    rw [World.cell?_alloc_lt _ _ ⟨0, 0, none⟩ (by simp <;> omega), World.cell?_alloc_lt _ _ ⟨0, 0, none⟩ hlt]; exact hg
  have el := Tryz.eE48 ⟨w.heap.size, 0, none⟩ t (((w.alloc (.cells #[.pointer (some t)] 48)).alloc (.cells #[.pointer (some ⟨10, 48, none⟩), .pointer (some ⟨w.heap.size, 0, none⟩), .int .u64 150] 70)).alloc (.cells #[.pointer (some ⟨10, 48, none⟩), .pointer (some ⟨w.heap.size, 0, none⟩), .int .u64 150] 70)) (by rw [World.cell?_alloc_lt _ _ ⟨w.heap.size, 0, none⟩ (by simp; omega)]; simp)
  have st := Tryz.eS46 t ⟨w.heap.size + 1 + 1 + 1, 0, none⟩ e ((((w.alloc (.cells #[.pointer (some t)] 48)).alloc (.cells #[.pointer (some ⟨10, 48, none⟩), .pointer (some ⟨w.heap.size, 0, none⟩), .int .u64 150] 70)).alloc (.cells #[.pointer (some ⟨10, 48, none⟩), .pointer (some ⟨w.heap.size, 0, none⟩), .int .u64 150] 70)).alloc (.cells #[.pointer (some e)] 46)) w' (by rw [World.cell?_alloc_at _ _ _ _ (by simp)]; rfl) hs
  go_enter Tryz.func11, Tryz.ntmps11
  go_wp2
  refine wp_loop_rounds 1 ?_
  rw [rounds_succ]
  go_wp2
  go_ret
  exact ⟨rfl, rfl⟩
set_option maxHeartbeats 4000000 in
theorem Tryz.as_hitC (e : Int) (t : Addr) (w : World) (hg : w.cell? ⟨0, 0, none⟩ = some (.iface 148 (.agg #[.pointer (some ⟨10, 26, none⟩)]))) : ∃ w4, More w w4 ∧ ∀ w', (storeCells t [.int .i64 e]).run Tryz.prog w4 = .ok () w' →
      Calls Tryz.prog 11 #[.iface 36 (.int .i64 e), .iface 49 (.pointer (some t))] w fun ev w'' => ev = .returned (.bool true) ∧ w'' = w' := by
  refine ⟨((((w.alloc (.cells #[.pointer (some t)] 49)).alloc (.cells #[.pointer (some ⟨10, 49, none⟩), .pointer (some ⟨w.heap.size, 0, none⟩), .int .u64 150] 70)).alloc (.cells #[.pointer (some ⟨10, 49, none⟩), .pointer (some ⟨w.heap.size, 0, none⟩), .int .u64 150] 70)).alloc (.cells #[.int .i64 e] 36)), ((((More.refl _).alloc _).alloc _).alloc _).alloc _, fun w' hs => ?_⟩
  have xVO := @run_callFunc_extern Tryz.prog 21 _ (fun args => ReflectliteValue.unpack (args.getD 0 (.tuple #[]))) Tryz.func21 (by kernel_rfl) (by kernel_rfl) (by kernel_rfl) (by kernel_rfl)
  have xVT := @run_callFunc_extern Tryz.prog 22 _ (ReflectliteValue.methodAny (ReflectliteValue.valueError "reflectlite.Value.Type" 0) (fun t _ _ _ => ReflectliteType.toType t)) Tryz.func22 (by kernel_rfl) (by kernel_rfl) (by kernel_rfl) (by kernel_rfl)
  have xVN := @run_callFunc_extern Tryz.prog 23 _ (ReflectliteValue.method (ReflectliteValue.valueError "reflectlite.Value.IsNil" 0) ReflectliteValue.isNil) Tryz.func23 (by kernel_rfl) (by kernel_rfl) (by kernel_rfl) (by kernel_rfl)
  have xKind := @run_callFunc_extern Tryz.prog 276 _ (ReflectliteType.abiMethod fun t => do pure (.int .u8 (← Rtype.kind t))) Tryz.func276 (by kernel_rfl) (by kernel_rfl) (by kernel_rfl) (by kernel_rfl)
  have xElem := @run_callFunc_extern Tryz.prog 288 _ (ReflectliteType.method ReflectliteType.elem) Tryz.func288 (by kernel_rfl) (by kernel_rfl) (by kernel_rfl) (by kernel_rfl)
  have xImp := @run_callFunc_extern Tryz.prog 289 _ (ReflectliteType.relation "Implements" ReflectliteType.implements_) Tryz.func289 (by kernel_rfl) (by kernel_rfl) (by kernel_rfl) (by kernel_rfl)
  have xTO := @run_callFunc_extern Tryz.prog 32 _ ReflectliteType.typeOf Tryz.func32 (by kernel_rfl) (by kernel_rfl) (by kernel_rfl) (by kernel_rfl)
  have xAsg := @run_callFunc_extern Tryz.prog 286 _ (ReflectliteType.relation "AssignableTo" ReflectliteType.assignableTo) Tryz.func286 (by kernel_rfl) (by kernel_rfl) (by kernel_rfl) (by kernel_rfl)
  have xVE := @run_callFunc_extern Tryz.prog 48 _ (ReflectliteValue.method (ReflectliteValue.valueError "reflectlite.Value.Elem" 0) ReflectliteValue.elem) Tryz.func48 (by kernel_rfl) (by kernel_rfl) (by kernel_rfl) (by kernel_rfl)
  have xVS := @run_callFunc_extern Tryz.prog 49 _ ReflectliteValue.set Tryz.func49 (by kernel_rfl) (by kernel_rfl) (by kernel_rfl) (by kernel_rfl)
  have y0 := Tryz.et36
  have y1 := Tryz.emAssignableTo
  have y2 := Tryz.eV49
  have y3 := Tryz.eT49
  have y4 := Tryz.emKind
  have y5 := Tryz.emElem
  have y6 := Tryz.emImplements
  have y7 := Tryz.ek49
  have y8 := Tryz.ek36
  have y9 := Tryz.ee49
  have y10 := Tryz.ei36
  have y11 := Tryz.eA36
  have y12 := Tryz.eV36
  have n8 := Tryz.eN49 ⟨w.heap.size, 0, none⟩ t ((w.alloc (.cells #[.pointer (some t)] 49)).alloc (.cells #[.pointer (some ⟨10, 49, none⟩), .pointer (some ⟨w.heap.size, 0, none⟩), .int .u64 150] 70)) (by simp)
  have hlt : 0 < w.heap.size := by
    rcases Nat.lt_or_ge 0 w.heap.size with h | h
    · exact h
    · simp [World.cell?, Array.getElem?_eq_none h] at hg
  have hg2 : ((w.alloc (.cells #[.pointer (some t)] 49)).alloc (.cells #[.pointer (some ⟨10, 49, none⟩), .pointer (some ⟨w.heap.size, 0, none⟩), .int .u64 150] 70)).cell? ⟨0, 0, none⟩ = some (.iface 148 (.agg #[.pointer (some ⟨10, 26, none⟩)])) := by
    rw [World.cell?_alloc_lt _ _ ⟨0, 0, none⟩ (by simp <;> omega), World.cell?_alloc_lt _ _ ⟨0, 0, none⟩ hlt]; exact hg
  have el := Tryz.eE49 ⟨w.heap.size, 0, none⟩ t (((w.alloc (.cells #[.pointer (some t)] 49)).alloc (.cells #[.pointer (some ⟨10, 49, none⟩), .pointer (some ⟨w.heap.size, 0, none⟩), .int .u64 150] 70)).alloc (.cells #[.pointer (some ⟨10, 49, none⟩), .pointer (some ⟨w.heap.size, 0, none⟩), .int .u64 150] 70)) (by rw [World.cell?_alloc_lt _ _ ⟨w.heap.size, 0, none⟩ (by simp; omega)]; simp)
  have st := Tryz.eS36 t ⟨w.heap.size + 1 + 1 + 1, 0, none⟩ e ((((w.alloc (.cells #[.pointer (some t)] 49)).alloc (.cells #[.pointer (some ⟨10, 49, none⟩), .pointer (some ⟨w.heap.size, 0, none⟩), .int .u64 150] 70)).alloc (.cells #[.pointer (some ⟨10, 49, none⟩), .pointer (some ⟨w.heap.size, 0, none⟩), .int .u64 150] 70)).alloc (.cells #[.int .i64 e] 36)) w' (by rw [World.cell?_alloc_at _ _ _ _ (by simp)]; rfl) hs
  go_enter Tryz.func11, Tryz.ntmps11
  go_wp2
  refine wp_loop_rounds 1 ?_
  rw [rounds_succ]
  go_wp2
  go_ret
  exact ⟨rfl, rfl⟩
set_option maxHeartbeats 4000000 in
theorem Tryz.as_miss (e : Int) (t : Addr) (w : World) (hg : w.cell? ⟨0, 0, none⟩ = some (.iface 148 (.agg #[.pointer (some ⟨10, 26, none⟩)]))) : ∃ w4, More w w4 ∧ Calls Tryz.prog 11 #[.iface 36 (.int .i64 e), .iface 48 (.pointer (some t))] w fun ev w'' => ev = .returned (.bool false) ∧ w'' = w4 := by
  refine ⟨(((w.alloc (.cells #[.pointer (some t)] 48)).alloc (.cells #[.pointer (some ⟨10, 48, none⟩), .pointer (some ⟨w.heap.size, 0, none⟩), .int .u64 150] 70)).alloc (.cells #[.pointer (some ⟨10, 48, none⟩), .pointer (some ⟨w.heap.size, 0, none⟩), .int .u64 150] 70)), (((More.refl _).alloc _).alloc _).alloc _, ?_⟩
  have xVO := @run_callFunc_extern Tryz.prog 21 _ (fun args => ReflectliteValue.unpack (args.getD 0 (.tuple #[]))) Tryz.func21 (by kernel_rfl) (by kernel_rfl) (by kernel_rfl) (by kernel_rfl)
  have xVT := @run_callFunc_extern Tryz.prog 22 _ (ReflectliteValue.methodAny (ReflectliteValue.valueError "reflectlite.Value.Type" 0) (fun t _ _ _ => ReflectliteType.toType t)) Tryz.func22 (by kernel_rfl) (by kernel_rfl) (by kernel_rfl) (by kernel_rfl)
  have xVN := @run_callFunc_extern Tryz.prog 23 _ (ReflectliteValue.method (ReflectliteValue.valueError "reflectlite.Value.IsNil" 0) ReflectliteValue.isNil) Tryz.func23 (by kernel_rfl) (by kernel_rfl) (by kernel_rfl) (by kernel_rfl)
  have xKind := @run_callFunc_extern Tryz.prog 276 _ (ReflectliteType.abiMethod fun t => do pure (.int .u8 (← Rtype.kind t))) Tryz.func276 (by kernel_rfl) (by kernel_rfl) (by kernel_rfl) (by kernel_rfl)
  have xElem := @run_callFunc_extern Tryz.prog 288 _ (ReflectliteType.method ReflectliteType.elem) Tryz.func288 (by kernel_rfl) (by kernel_rfl) (by kernel_rfl) (by kernel_rfl)
  have xImp := @run_callFunc_extern Tryz.prog 289 _ (ReflectliteType.relation "Implements" ReflectliteType.implements_) Tryz.func289 (by kernel_rfl) (by kernel_rfl) (by kernel_rfl) (by kernel_rfl)
  have xTO := @run_callFunc_extern Tryz.prog 32 _ ReflectliteType.typeOf Tryz.func32 (by kernel_rfl) (by kernel_rfl) (by kernel_rfl) (by kernel_rfl)
  have xAsg := @run_callFunc_extern Tryz.prog 286 _ (ReflectliteType.relation "AssignableTo" ReflectliteType.assignableTo) Tryz.func286 (by kernel_rfl) (by kernel_rfl) (by kernel_rfl) (by kernel_rfl)
  have y0 := Tryz.et36
  have y1 := Tryz.emAssignableTo
  have y2 := Tryz.eV48
  have y3 := Tryz.eT48
  have y4 := Tryz.emKind
  have y5 := Tryz.emElem
  have y6 := Tryz.emImplements
  have y7 := Tryz.ek48
  have y8 := Tryz.ek46
  have y9 := Tryz.ee48
  have y10 := Tryz.ei46
  have y11 := Tryz.eA36_46
  have y12 := Tryz.ehAs36
  have y13 := Tryz.ehU36
  have y14 := Tryz.ehUs36
  have n8 := Tryz.eN48 ⟨w.heap.size, 0, none⟩ t ((w.alloc (.cells #[.pointer (some t)] 48)).alloc (.cells #[.pointer (some ⟨10, 48, none⟩), .pointer (some ⟨w.heap.size, 0, none⟩), .int .u64 150] 70)) (by simp)
  have hlt : 0 < w.heap.size := by
    rcases Nat.lt_or_ge 0 w.heap.size with h | h
    · exact h
    · simp [World.cell?, Array.getElem?_eq_none h] at hg
  have hg2 : ((w.alloc (.cells #[.pointer (some t)] 48)).alloc (.cells #[.pointer (some ⟨10, 48, none⟩), .pointer (some ⟨w.heap.size, 0, none⟩), .int .u64 150] 70)).cell? ⟨0, 0, none⟩ = some (.iface 148 (.agg #[.pointer (some ⟨10, 26, none⟩)])) := by
    rw [World.cell?_alloc_lt _ _ ⟨0, 0, none⟩ (by simp <;> omega), World.cell?_alloc_lt _ _ ⟨0, 0, none⟩ hlt]; exact hg
  go_enter Tryz.func11, Tryz.ntmps11
  go_wp2
  refine wp_loop_rounds 1 ?_
  rw [rounds_succ]
  go_wp2
  go_ret
  exact ⟨rfl, rfl⟩
set_option maxHeartbeats 4000000 in
theorem Tryz.is_A (x : Addr) (m n : Int) (w : World) (hx : w.cell? x = some (.int .i64 m)) : Calls Tryz.prog 17 #[.iface 46 (.pointer (some x)), .iface 36 (.int .i64 n)] w fun ev w' => ev = .returned (.bool (decide (m = n))) ∧ More w w' := by
  have xTO := @run_callFunc_extern Tryz.prog 32 _ ReflectliteType.typeOf Tryz.func32 (by kernel_rfl) (by kernel_rfl) (by kernel_rfl) (by kernel_rfl)
  have xCmp := @run_callFunc_extern Tryz.prog 287 _ cmpE Tryz.func287 (by kernel_rfl) (by kernel_rfl) (by kernel_rfl) (by kernel_rfl)
  have y0 := Tryz.et36
  have y1 := Tryz.ecc
  have y2 := Tryz.emComparable
  have y3 := Tryz.ehIs46
  have y4 := Tryz.ehU46
  have y5 := Tryz.ehIs36
  have y6 := Tryz.ehU36
  have y7 := Tryz.ehUs36
  have y8 := Tryz.emU
  obtain ⟨r, hr, hq⟩ : ∃ r : Bool, decide (m = n) = r ∧ ∀ w, (binOp .eql 26 (.iface 36 (.int .i64 m)) (.iface 36 (.int .i64 n))).run Tryz.prog w = .ok (.bool r) w :=
    ⟨_, rfl, fun w => Lib.run_eql_iface_int (P := Tryz.prog) w (k := .i64) m n Tryz.underlying26 Tryz.ecI Tryz.underlying36⟩
  rw [hr]
  clear hr
  have ht := run_eql_iface_types (P := Tryz.prog) 46 36 (.pointer (some x)) (.int .i64 n) Tryz.underlying26 (by decide)
  cases r with
  | true =>
    go_enter Tryz.func17, Tryz.ntmps17
    go_wp2
    refine wp_loop_rounds 2 ?_
    rw [rounds_succ]
    go_wp2
    rw [rounds_succ]
    go_wp2
    go_ret
    exact ⟨rfl, More.refl _⟩
  | false =>
    go_enter Tryz.func17, Tryz.ntmps17
    go_wp2
    refine wp_loop_rounds 2 ?_
    rw [rounds_succ]
    go_wp2
    rw [rounds_succ]
    go_wp2
    go_ret
    exact ⟨rfl, More.refl _⟩
set_option maxHeartbeats 4000000 in
theorem Tryz.is_C (m n : Int) (w : World) : Calls Tryz.prog 17 #[.iface 36 (.int .i64 m), .iface 36 (.int .i64 n)] w fun ev w' => ev = .returned (.bool (decide (m = n))) ∧ More w w' := by
  have xTO := @run_callFunc_extern Tryz.prog 32 _ ReflectliteType.typeOf Tryz.func32 (by kernel_rfl) (by kernel_rfl) (by kernel_rfl) (by kernel_rfl)
  have xCmp := @run_callFunc_extern Tryz.prog 287 _ cmpE Tryz.func287 (by kernel_rfl) (by kernel_rfl) (by kernel_rfl) (by kernel_rfl)
  have y0 := Tryz.et36
  have y1 := Tryz.ecc
  have y2 := Tryz.emComparable
  have y3 := Tryz.ehIs46
  have y4 := Tryz.ehU46
  have y5 := Tryz.ehIs36
  have y6 := Tryz.ehU36
  have y7 := Tryz.ehUs36
  have y8 := Tryz.emU
  obtain ⟨r, hr, hq⟩ : ∃ r : Bool, decide (m = n) = r ∧ ∀ w, (binOp .eql 26 (.iface 36 (.int .i64 m)) (.iface 36 (.int .i64 n))).run Tryz.prog w = .ok (.bool r) w :=
    ⟨_, rfl, fun w => Lib.run_eql_iface_int (P := Tryz.prog) w (k := .i64) m n Tryz.underlying26 Tryz.ecI Tryz.underlying36⟩
  rw [hr]
  clear hr
  cases r with
  | true =>
    go_enter Tryz.func17, Tryz.ntmps17
    go_wp2
    refine wp_loop_rounds 1 ?_
    rw [rounds_succ]
    go_wp2
    go_ret
    exact ⟨rfl, More.refl _⟩
  | false =>
    go_enter Tryz.func17, Tryz.ntmps17
    go_wp2
    refine wp_loop_rounds 1 ?_
    rw [rounds_succ]
    go_wp2
    go_ret
    exact ⟨rfl, More.refl _⟩
theorem Tryz.enn (w : World) : (binOp .eql 26 .nilIface .nilIface).run Tryz.prog w = .ok (.bool true) w := by kernel_rfl
theorem Tryz.eni (t : Nat) (y : Value) (w : World) : (binOp .eql 26 .nilIface (.iface t y)).run Tryz.prog w = .ok (.bool false) w := by kernel_rfl
theorem Tryz.as_nil (t : Nat) (y : Value) (w : World) : Calls Tryz.prog 11 #[.nilIface, .iface t y] w fun ev w' => ev = .returned (.bool false) ∧ More w w' := by
  have y0 := Tryz.enn
  have y1 := Tryz.eni
  go_enter Tryz.func11, Tryz.ntmps11
  go_wp2
  go_ret
  exact ⟨rfl, More.refl _⟩
theorem Tryz.is_nil (t : Nat) (y : Value) (w : World) : Calls Tryz.prog 17 #[.nilIface, .iface t y] w fun ev w' => ev = .returned (.bool false) ∧ More w w' := by
  have y0 := Tryz.enn
  have y1 := Tryz.eni
  go_enter Tryz.func17, Tryz.ntmps17
  go_wp2
  go_ret
  exact ⟨rfl, More.refl _⟩
def nf11 : CFunc := ⟨.skip, [], some (.act 30707078040799750961153)⟩
theorem n11 : FnOk Tryz.prog 11 11 nf11 :=
  as_ok (k := 30707078040799749912576) (a := 46) (b := 48) (c := 36) (d := 49) (rt := 148) (nb := 10) (e := 26) (g := 0) ⟨Tryz.as_hitA, Tryz.as_hitC, Tryz.as_miss, Tryz.as_nil⟩ rfl (by decide) (by decide) rfl rfl rfl rfl rfl rfl rfl rfl rfl ⟨_, Tryz.func11, by kernel_rfl, by decide⟩
def nf17 : CFunc := ⟨.skip, [], some (.act 30707078040799750961154)⟩
theorem n17 : FnOk Tryz.prog 11 17 nf17 :=
  is_ok (k := 30707078040799749912577) (a := 46) (c := 36) ⟨Tryz.is_A, Tryz.is_C, Tryz.is_nil⟩ rfl rfl rfl rfl ⟨_, Tryz.func17, by kernel_rfl, by decide⟩
end Go.Proofs.YtflbicbcphmgoabGreatDoor
