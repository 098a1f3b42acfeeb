/-
  errors.As and errors.Is, as the program has them, at its own two types of errors. After the kit's worked examples ToyasAs and SentryIs.
-/
import Derived.Test.YtflbicbcphmgoaaGreatDoorProg
import Derived.Test.YtflbicbcphmgoaaGreatDoorDxErr
import Derived.WalkKit
import Derived.LaidEql
import Derived.Stop.Asserts
import Derived.Lib.IfaceEq
import Derived.RowKitTokens
import Derived.KernelRfl
set_option linter.unusedVariables false
set_option linter.unusedSimpArgs false
namespace Go.Proofs.YtflbicbcphmgoaaGreatDoor
open Go.RowKit Go.Extern.Stop Go.Stop Go.Extern Go.Dx
def cmpE : Array Value → Sem Value := ReflectliteType.method fun t => do Rtype.noPackHeld "Comparable" t; pure (.bool (← typeInfo t).comparable)
theorem rlm (z : Sem Value) (f : TypeId → Addr → Nat → Nat → Sem Value) (v : Value) :
    ReflectliteValue.method z f #[v] = (do match ← ReflectliteValue.parts v with | none => z | some (t, a, fl) => f t a fl (fl % 32)) := rfl
theorem rls (v x : Value) : ReflectliteValue.set #[v, x] = (do
    let (some (dst, a, fl), some (src, b, _)) := (← ReflectliteValue.parts v, ← ReflectliteValue.parts x)
      | unsupported (.noEntry "extern/(internal/reflectlite.Value).Set.zeroValue")
    if fl / ReflectliteValue.flagAddr % 2 == 0 then unsupported (.noEntry "extern/(internal/reflectlite.Value).Set.unaddressable")
    let val ← loadVar src b
    if ← Rtype.directlyAssignable dst src then storeVar dst a val
    else if ← Rtype.implements dst src then
      if (← Rtype.kind src) == 20 then
        match val with
        | .nilIface => unsupported (.noEntry "extern/reflectlite: a nil value of one interface type handed on as a value of another")
        | _ => storeVar dst a val
      else storeVar dst a (.iface src val)
    else panicString ("reflectlite.Set: value of type " ++ (← Rtype.spelt src) ++ " is not assignable to type " ++ (← Rtype.spelt dst))
    pure (.tuple #[])) := rfl
theorem Tryz.emKind (h : Value) (w : World) : (Go.method 439 182 (.agg #[h]) "Kind").run Tryz.prog w = .ok (224, h) w := by kernel_rfl
theorem Tryz.emElem (h : Value) (w : World) : (Go.method 439 182 (.agg #[h]) "Elem").run Tryz.prog w = .ok (237, .agg #[h]) w := by kernel_rfl
theorem Tryz.emImplements (h : Value) (w : World) : (Go.method 439 182 (.agg #[h]) "Implements").run Tryz.prog w = .ok (238, .agg #[h]) w := by kernel_rfl
theorem Tryz.emAssignableTo (h : Value) (w : World) : (Go.method 439 182 (.agg #[h]) "AssignableTo").run Tryz.prog w = .ok (235, .agg #[h]) w := by kernel_rfl
theorem Tryz.emComparable (h : Value) (w : World) : (Go.method 439 182 (.agg #[h]) "Comparable").run Tryz.prog w = .ok (236, .agg #[h]) w := by kernel_rfl
theorem Tryz.ek72 (w : World) : ((ReflectliteType.abiMethod fun t => (fun a : Nat => Value.int IntKind.u8 (a : Int)) <$> Rtype.kind t) #[.pointer (some ⟨10, 72, none⟩)]).run Tryz.prog w = .ok (.int .u8 22) w := by kernel_rfl
theorem Tryz.ek90 (w : World) : ((ReflectliteType.abiMethod fun t => (fun a : Nat => Value.int IntKind.u8 (a : Int)) <$> Rtype.kind t) #[.pointer (some ⟨10, 90, none⟩)]).run Tryz.prog w = .ok (.int .u8 22) w := by kernel_rfl
theorem Tryz.ek51 (w : World) : ((ReflectliteType.abiMethod fun t => (fun a : Nat => Value.int IntKind.u8 (a : Int)) <$> Rtype.kind t) #[.pointer (some ⟨10, 51, none⟩)]).run Tryz.prog w = .ok (.int .u8 2) w := by kernel_rfl
theorem Tryz.ek154 (w : World) : ((ReflectliteType.abiMethod fun t => (fun a : Nat => Value.int IntKind.u8 (a : Int)) <$> Rtype.kind t) #[.pointer (some ⟨10, 154, none⟩)]).run Tryz.prog w = .ok (.int .u8 22) w := by kernel_rfl
theorem Tryz.eV90 (t : Addr) (w : World) : (ReflectliteValue.unpack (.iface 90 (.pointer (some t)))).run Tryz.prog w = .ok (.agg #[.pointer (some ⟨10, 90, none⟩), .pointer (some ⟨w.heap.size, 0, none⟩), .int .u64 150]) (w.alloc (.cells #[.pointer (some t)] 90)) := by kernel_rfl
theorem Tryz.eT90 (a : Addr) (w : World) : (ReflectliteValue.methodAny (ReflectliteValue.valueError "reflectlite.Value.Type" 0) (fun t _ _ _ => ReflectliteType.toType t) #[.agg #[.pointer (some ⟨10, 90, none⟩), .pointer (some a), .int .u64 150]]).run Tryz.prog w = .ok (.iface 182 (.agg #[.pointer (some ⟨10, 90, none⟩)])) w := by kernel_rfl
theorem Tryz.ep90 (a : Addr) (w : World) : (ReflectliteValue.parts (.agg #[.pointer (some ⟨10, 90, none⟩), .pointer (some a), .int .u64 150])).run Tryz.prog w = .ok (some (90, a, 150)) w := by kernel_rfl
theorem Tryz.ee90 (w : World) : (ReflectliteType.method ReflectliteType.elem #[.agg #[.pointer (some ⟨10, 90, none⟩)]]).run Tryz.prog w = .ok (.iface 182 (.agg #[.pointer (some ⟨10, 72, none⟩)])) w := by kernel_rfl
theorem Tryz.eo90 (w : World) : (Rtype.elem? 90).run Tryz.prog w = .ok (some 72) w := by kernel_rfl
theorem Tryz.ei72 (w : World) : (ReflectliteType.relation "Implements" ReflectliteType.implements_ #[.agg #[.pointer (some ⟨10, 72, none⟩)], .iface 182 (.agg #[.pointer (some ⟨10, 36, none⟩)])]).run Tryz.prog w = .ok (.bool true) w := by kernel_rfl
theorem Tryz.et72 (v : Value) (w : World) : (ReflectliteType.typeOf #[.iface 72 v]).run Tryz.prog w = .ok (.iface 182 (.agg #[.pointer (some ⟨10, 72, none⟩)])) w := by kernel_rfl
theorem Tryz.eA72 (w : World) : (ReflectliteType.relation "AssignableTo" ReflectliteType.assignableTo #[.agg #[.pointer (some ⟨10, 72, none⟩)], .iface 182 (.agg #[.pointer (some ⟨10, 72, none⟩)])]).run Tryz.prog w = .ok (.bool true) w := by kernel_rfl
theorem Tryz.eV72 (e : Addr) (w : World) : (ReflectliteValue.unpack (.iface 72 (.pointer (some e)))).run Tryz.prog w = .ok (.agg #[.pointer (some ⟨10, 72, none⟩), .pointer (some ⟨w.heap.size, 0, none⟩), .int .u64 150]) (w.alloc (.cells #[.pointer (some e)] 72)) := by kernel_rfl
theorem Tryz.em72 (p : Addr) (w : World) : (ReflectliteValue.mk 72 p ReflectliteValue.flagAddr).run Tryz.prog w = .ok (.agg #[.pointer (some ⟨10, 72, none⟩), .pointer (some p), .int .u64 406]) w := by kernel_rfl
theorem Tryz.ep72 (a : Addr) (w : World) : (ReflectliteValue.parts (.agg #[.pointer (some ⟨10, 72, none⟩), .pointer (some a), .int .u64 150])).run Tryz.prog w = .ok (some (72, a, 150)) w := by kernel_rfl
theorem Tryz.eq72 (a : Addr) (w : World) : (ReflectliteValue.parts (.agg #[.pointer (some ⟨10, 72, none⟩), .pointer (some a), .int .u64 406])).run Tryz.prog w = .ok (some (72, a, 406)) w := by kernel_rfl
theorem Tryz.ed72 (w : World) : (Rtype.directlyAssignable 72 72).run Tryz.prog w = .ok true w := by kernel_rfl
theorem Tryz.es72 (w : World) : (sizeOf 72).run Tryz.prog w = .ok 1 w := by kernel_rfl
theorem Tryz.eN90 (a p : Addr) (W : World) (ha : W.cell? a = some (.pointer (some p))) :
    (ReflectliteValue.method (ReflectliteValue.valueError "reflectlite.Value.IsNil" 0) ReflectliteValue.isNil #[.agg #[.pointer (some ⟨10, 90, none⟩), .pointer (some a), .int .u64 150]]).run Tryz.prog W = .ok (.bool false) W := by
  rw [rlm]
  simp only [Sem.run_bind, Tryz.ep90, Result.andThen]
  simp [ReflectliteValue.isNil, loadVar, isAgg, underlying, Tryz.underlying90, ha, Result.andThen]
theorem Tryz.eE90 (a p : Addr) (W : World) (ha : W.cell? a = some (.pointer (some p))) :
    (ReflectliteValue.method (ReflectliteValue.valueError "reflectlite.Value.Elem" 0) ReflectliteValue.elem #[.agg #[.pointer (some ⟨10, 90, none⟩), .pointer (some a), .int .u64 150]]).run Tryz.prog W
      = .ok (.agg #[.pointer (some ⟨10, 72, none⟩), .pointer (some p), .int .u64 406]) W := by
  rw [rlm]
  simp only [Sem.run_bind, Tryz.ep90, Result.andThen]
  simp [ReflectliteValue.elem, loadVar, isAgg, underlying, Tryz.underlying90, ha, Result.andThen, Tryz.eo90, Tryz.em72]
theorem Tryz.eS72 (ta b : Addr) (e : Addr) (W W' : World) (hb : W.cell? b = some (.pointer (some e))) (hs : (storeCells ta [.pointer (some e)]).run Tryz.prog W = .ok () W') :
    (ReflectliteValue.set #[.agg #[.pointer (some ⟨10, 72, none⟩), .pointer (some ta), .int .u64 406], .agg #[.pointer (some ⟨10, 72, none⟩), .pointer (some b), .int .u64 150]]).run Tryz.prog W = .ok (.tuple #[]) W' := by
  rw [rls]
  simp only [Sem.run_bind, Tryz.eq72, Tryz.ep72, Result.andThen]
  simp [ReflectliteValue.flagAddr, loadVar, isAgg, underlying, Tryz.underlying72, hb, Result.andThen, Tryz.ed72, storeVar, Value.cells, Tryz.es72, hs]
theorem Tryz.eV154 (t : Addr) (w : World) : (ReflectliteValue.unpack (.iface 154 (.pointer (some t)))).run Tryz.prog w = .ok (.agg #[.pointer (some ⟨10, 154, none⟩), .pointer (some ⟨w.heap.size, 0, none⟩), .int .u64 150]) (w.alloc (.cells #[.pointer (some t)] 154)) := by kernel_rfl
theorem Tryz.eT154 (a : Addr) (w : World) : (ReflectliteValue.methodAny (ReflectliteValue.valueError "reflectlite.Value.Type" 0) (fun t _ _ _ => ReflectliteType.toType t) #[.agg #[.pointer (some ⟨10, 154, none⟩), .pointer (some a), .int .u64 150]]).run Tryz.prog w = .ok (.iface 182 (.agg #[.pointer (some ⟨10, 154, none⟩)])) w := by kernel_rfl
theorem Tryz.ep154 (a : Addr) (w : World) : (ReflectliteValue.parts (.agg #[.pointer (some ⟨10, 154, none⟩), .pointer (some a), .int .u64 150])).run Tryz.prog w = .ok (some (154, a, 150)) w := by kernel_rfl
theorem Tryz.ee154 (w : World) : (ReflectliteType.method ReflectliteType.elem #[.agg #[.pointer (some ⟨10, 154, none⟩)]]).run Tryz.prog w = .ok (.iface 182 (.agg #[.pointer (some ⟨10, 51, none⟩)])) w := by kernel_rfl
theorem Tryz.eo154 (w : World) : (Rtype.elem? 154).run Tryz.prog w = .ok (some 51) w := by kernel_rfl
theorem Tryz.ei51 (w : World) : (ReflectliteType.relation "Implements" ReflectliteType.implements_ #[.agg #[.pointer (some ⟨10, 51, none⟩)], .iface 182 (.agg #[.pointer (some ⟨10, 36, none⟩)])]).run Tryz.prog w = .ok (.bool true) w := by kernel_rfl
theorem Tryz.et51 (v : Value) (w : World) : (ReflectliteType.typeOf #[.iface 51 v]).run Tryz.prog w = .ok (.iface 182 (.agg #[.pointer (some ⟨10, 51, none⟩)])) w := by kernel_rfl
theorem Tryz.eA51 (w : World) : (ReflectliteType.relation "AssignableTo" ReflectliteType.assignableTo #[.agg #[.pointer (some ⟨10, 51, none⟩)], .iface 182 (.agg #[.pointer (some ⟨10, 51, none⟩)])]).run Tryz.prog w = .ok (.bool true) w := by kernel_rfl
theorem Tryz.eV51 (e : Int) (w : World) : (ReflectliteValue.unpack (.iface 51 (.int .i64 e))).run Tryz.prog w = .ok (.agg #[.pointer (some ⟨10, 51, none⟩), .pointer (some ⟨w.heap.size, 0, none⟩), .int .u64 130]) (w.alloc (.cells #[.int .i64 e] 51)) := by kernel_rfl
theorem Tryz.em51 (p : Addr) (w : World) : (ReflectliteValue.mk 51 p ReflectliteValue.flagAddr).run Tryz.prog w = .ok (.agg #[.pointer (some ⟨10, 51, none⟩), .pointer (some p), .int .u64 386]) w := by kernel_rfl
theorem Tryz.ep51 (a : Addr) (w : World) : (ReflectliteValue.parts (.agg #[.pointer (some ⟨10, 51, none⟩), .pointer (some a), .int .u64 130])).run Tryz.prog w = .ok (some (51, a, 130)) w := by kernel_rfl
theorem Tryz.eq51 (a : Addr) (w : World) : (ReflectliteValue.parts (.agg #[.pointer (some ⟨10, 51, none⟩), .pointer (some a), .int .u64 386])).run Tryz.prog w = .ok (some (51, a, 386)) w := by kernel_rfl
theorem Tryz.ed51 (w : World) : (Rtype.directlyAssignable 51 51).run Tryz.prog w = .ok true w := by kernel_rfl
theorem Tryz.es51 (w : World) : (sizeOf 51).run Tryz.prog w = .ok 1 w := by kernel_rfl
theorem Tryz.eN154 (a p : Addr) (W : World) (ha : W.cell? a = some (.pointer (some p))) :
    (ReflectliteValue.method (ReflectliteValue.valueError "reflectlite.Value.IsNil" 0) ReflectliteValue.isNil #[.agg #[.pointer (some ⟨10, 154, none⟩), .pointer (some a), .int .u64 150]]).run Tryz.prog W = .ok (.bool false) W := by
  rw [rlm]
  simp only [Sem.run_bind, Tryz.ep154, Result.andThen]
  simp [ReflectliteValue.isNil, loadVar, isAgg, underlying, Tryz.underlying154, ha, Result.andThen]
theorem Tryz.eE154 (a p : Addr) (W : World) (ha : W.cell? a = some (.pointer (some p))) :
    (ReflectliteValue.method (ReflectliteValue.valueError "reflectlite.Value.Elem" 0) ReflectliteValue.elem #[.agg #[.pointer (some ⟨10, 154, none⟩), .pointer (some a), .int .u64 150]]).run Tryz.prog W
      = .ok (.agg #[.pointer (some ⟨10, 51, none⟩), .pointer (some p), .int .u64 386]) W := by
  rw [rlm]
  simp only [Sem.run_bind, Tryz.ep154, Result.andThen]
  simp [ReflectliteValue.elem, loadVar, isAgg, underlying, Tryz.underlying154, ha, Result.andThen, Tryz.eo154, Tryz.em51]
theorem Tryz.eS51 (ta b : Addr) (e : Int) (W W' : World) (hb : W.cell? b = some (.int .i64 e)) (hs : (storeCells ta [.int .i64 e]).run Tryz.prog W = .ok () W') :
    (ReflectliteValue.set #[.agg #[.pointer (some ⟨10, 51, none⟩), .pointer (some ta), .int .u64 386], .agg #[.pointer (some ⟨10, 51, none⟩), .pointer (some b), .int .u64 130]]).run Tryz.prog W = .ok (.tuple #[]) W' := by
  rw [rls]
  simp only [Sem.run_bind, Tryz.eq51, Tryz.ep51, Result.andThen]
  simp [ReflectliteValue.flagAddr, loadVar, isAgg, underlying, Tryz.underlying51, hb, Result.andThen, Tryz.ed51, storeVar, Value.cells, Tryz.es51, hs]
theorem Tryz.eA51_72 (w : World) : (ReflectliteType.relation "AssignableTo" ReflectliteType.assignableTo #[.agg #[.pointer (some ⟨10, 51, none⟩)], .iface 182 (.agg #[.pointer (some ⟨10, 72, none⟩)])]).run Tryz.prog w = .ok (.bool false) w := by kernel_rfl
theorem Tryz.ehAs72 (v : Value) (xT : TypeId) (w : World) : (Instr.typeAssert (.iface 72 v) xT 186 true).run Tryz.prog w = .ok (.tuple #[.nilIface, .bool false]) w := run_typeAssert_lacksB Tryz.underlying186 (by kernel_rfl) (by kernel_rfl) v xT w
theorem Tryz.ehIs72 (v : Value) (xT : TypeId) (w : World) : (Instr.typeAssert (.iface 72 v) xT 194 true).run Tryz.prog w = .ok (.tuple #[.nilIface, .bool false]) w := run_typeAssert_lacksB Tryz.underlying194 (by kernel_rfl) (by kernel_rfl) v xT w
theorem Tryz.ehU72 (v : Value) (xT : TypeId) (w : World) : (Instr.typeAssert (.iface 72 v) xT 189 true).run Tryz.prog w = .ok (.tuple #[.iface 72 v, .bool true]) w := run_typeAssert_hasB Tryz.underlying189 (by kernel_rfl) v xT w
theorem Tryz.ehUs72 (v : Value) (xT : TypeId) (w : World) : (Instr.typeAssert (.iface 72 v) xT 191 true).run Tryz.prog w = .ok (.tuple #[.nilIface, .bool false]) w := run_typeAssert_lacksB Tryz.underlying191 (by kernel_rfl) (by kernel_rfl) v xT w
theorem Tryz.ehAs51 (v : Value) (xT : TypeId) (w : World) : (Instr.typeAssert (.iface 51 v) xT 186 true).run Tryz.prog w = .ok (.tuple #[.nilIface, .bool false]) w := run_typeAssert_lacksB Tryz.underlying186 (by kernel_rfl) (by kernel_rfl) v xT w
theorem Tryz.ehIs51 (v : Value) (xT : TypeId) (w : World) : (Instr.typeAssert (.iface 51 v) xT 194 true).run Tryz.prog w = .ok (.tuple #[.nilIface, .bool false]) w := run_typeAssert_lacksB Tryz.underlying194 (by kernel_rfl) (by kernel_rfl) v xT w
theorem Tryz.ehU51 (v : Value) (xT : TypeId) (w : World) : (Instr.typeAssert (.iface 51 v) xT 189 true).run Tryz.prog w = .ok (.tuple #[.nilIface, .bool false]) w := run_typeAssert_lacksB Tryz.underlying189 (by kernel_rfl) (by kernel_rfl) v xT w
theorem Tryz.ehUs51 (v : Value) (xT : TypeId) (w : World) : (Instr.typeAssert (.iface 51 v) xT 191 true).run Tryz.prog w = .ok (.tuple #[.nilIface, .bool false]) w := run_typeAssert_lacksB Tryz.underlying191 (by kernel_rfl) (by kernel_rfl) v xT w
theorem Tryz.emU (v : Value) (w : World) : (Go.method 439 72 v "Unwrap").run Tryz.prog w = .ok (230, v) w := by kernel_rfl
theorem Tryz.ecc (w : World) : (cmpE #[.agg #[.pointer (some ⟨10, 51, none⟩)]]).run Tryz.prog w = .ok (.bool true) w := by kernel_rfl
theorem Tryz.ecI : (Tryz.prog.info? 51).map (·.comparable) = some true := by kernel_rfl
set_option maxHeartbeats 4000000 in
theorem Tryz.as_hitA (e : Addr) (t : Addr) (w : World) (hg : w.cell? ⟨0, 0, none⟩ = some (.iface 182 (.agg #[.pointer (some ⟨10, 36, none⟩)]))) : ∃ w4, More w w4 ∧ ∀ w', (storeCells t [.pointer (some e)]).run Tryz.prog w4 = .ok () w' →
      Calls Tryz.prog 18 #[.iface 72 (.pointer (some e)), .iface 90 (.pointer (some t))] w fun ev w'' => ev = .returned (.bool true) ∧ w'' = w' := by
  refine ⟨((((w.alloc (.cells #[.pointer (some t)] 90)).alloc (.cells #[.pointer (some ⟨10, 90, none⟩), .pointer (some ⟨w.heap.size, 0, none⟩), .int .u64 150] 136)).alloc (.cells #[.pointer (some ⟨10, 90, none⟩), .pointer (some ⟨w.heap.size, 0, none⟩), .int .u64 150] 136)).alloc (.cells #[.pointer (some e)] 72)), ((((More.refl _).alloc _).alloc _).alloc _).alloc _, fun w' hs => ?_⟩
  have xVO := @run_callFunc_extern Tryz.prog 38 _ (fun args => ReflectliteValue.unpack (args.getD 0 (.tuple #[]))) Tryz.func38 (by kernel_rfl) (by kernel_rfl) (by kernel_rfl) (by kernel_rfl)
  have xVT := @run_callFunc_extern Tryz.prog 39 _ (ReflectliteValue.methodAny (ReflectliteValue.valueError "reflectlite.Value.Type" 0) (fun t _ _ _ => ReflectliteType.toType t)) Tryz.func39 (by kernel_rfl) (by kernel_rfl) (by kernel_rfl) (by kernel_rfl)
  have xVN := @run_callFunc_extern Tryz.prog 40 _ (ReflectliteValue.method (ReflectliteValue.valueError "reflectlite.Value.IsNil" 0) ReflectliteValue.isNil) Tryz.func40 (by kernel_rfl) (by kernel_rfl) (by kernel_rfl) (by kernel_rfl)
  have xKind := @run_callFunc_extern Tryz.prog 224 _ (ReflectliteType.abiMethod fun t => do pure (.int .u8 (← Rtype.kind t))) Tryz.func224 (by kernel_rfl) (by kernel_rfl) (by kernel_rfl) (by kernel_rfl)
  have xElem := @run_callFunc_extern Tryz.prog 237 _ (ReflectliteType.method ReflectliteType.elem) Tryz.func237 (by kernel_rfl) (by kernel_rfl) (by kernel_rfl) (by kernel_rfl)
  have xImp := @run_callFunc_extern Tryz.prog 238 _ (ReflectliteType.relation "Implements" ReflectliteType.implements_) Tryz.func238 (by kernel_rfl) (by kernel_rfl) (by kernel_rfl) (by kernel_rfl)
  have xTO := @run_callFunc_extern Tryz.prog 42 _ ReflectliteType.typeOf Tryz.func42 (by kernel_rfl) (by kernel_rfl) (by kernel_rfl) (by kernel_rfl)
  have xAsg := @run_callFunc_extern Tryz.prog 235 _ (ReflectliteType.relation "AssignableTo" ReflectliteType.assignableTo) Tryz.func235 (by kernel_rfl) (by kernel_rfl) (by kernel_rfl) (by kernel_rfl)
  have xVE := @run_callFunc_extern Tryz.prog 81 _ (ReflectliteValue.method (ReflectliteValue.valueError "reflectlite.Value.Elem" 0) ReflectliteValue.elem) Tryz.func81 (by kernel_rfl) (by kernel_rfl) (by kernel_rfl) (by kernel_rfl)
  have xVS := @run_callFunc_extern Tryz.prog 82 _ ReflectliteValue.set Tryz.func82 (by kernel_rfl) (by kernel_rfl) (by kernel_rfl) (by kernel_rfl)
  have y0 := Tryz.et72
  have y1 := Tryz.emAssignableTo
  have y2 := Tryz.eV90
  have y3 := Tryz.eT90
  have y4 := Tryz.emKind
  have y5 := Tryz.emElem
  have y6 := Tryz.emImplements
  have y7 := Tryz.ek90
  have y8 := Tryz.ek72
  have y9 := Tryz.ee90
  have y10 := Tryz.ei72
  have y11 := Tryz.eA72
  have y12 := Tryz.eV72
  have n8 := Tryz.eN90 ⟨w.heap.size, 0, none⟩ t ((w.alloc (.cells #[.pointer (some t)] 90)).alloc (.cells #[.pointer (some ⟨10, 90, none⟩), .pointer (some ⟨w.heap.size, 0, none⟩), .int .u64 150] 136)) (by simp)
  have hlt : 0 < w.heap.size := by
    rcases Nat.lt_or_ge 0 w.heap.size with h | h
    · exact h
    · simp [World.cell?, Array.getElem?_eq_none h] at hg
  have hg2 : ((w.alloc (.cells #[.pointer (some t)] 90)).alloc (.cells #[.pointer (some ⟨10, 90, none⟩), .pointer (some ⟨w.heap.size, 0, none⟩), .int .u64 150] 136)).cell? ⟨0, 0, none⟩ = some (.iface 182 (.agg #[.pointer (some ⟨10, 36, none⟩)])) := by
    rw [World.cell?_alloc_lt _ _ ⟨0, 0, none⟩ (by simp <;> omega), World.cell?_alloc_lt _ _ ⟨0, 0, none⟩ hlt]; exact hg
  have el := Tryz.eE90 ⟨w.heap.size, 0, none⟩ t (((w.alloc (.cells #[.pointer (some t)] 90)).alloc (.cells #[.pointer (some ⟨10, 90, none⟩), .pointer (some ⟨w.heap.size, 0, none⟩), .int .u64 150] 136)).alloc (.cells #[.pointer (some ⟨10, 90, none⟩), .pointer (some ⟨w.heap.size, 0, none⟩), .int .u64 150] 136)) (by rw [World.cell?_alloc_lt _ _ ⟨w.heap.size, 0, none⟩ (by simp; omega)]; simp)
  have st := Tryz.eS72 t ⟨w.heap.size + 1 + 1 + 1, 0, none⟩ e ((((w.alloc (.cells #[.pointer (some t)] 90)).alloc (.cells #[.pointer (some ⟨10, 90, none⟩), .pointer (some ⟨w.heap.size, 0, none⟩), .int .u64 150] 136)).alloc (.cells #[.pointer (some ⟨10, 90, none⟩), .pointer (some ⟨w.heap.size, 0, none⟩), .int .u64 150] 136)).alloc (.cells #[.pointer (some e)] 72)) w' (by rw [World.cell?_alloc_at _ _ _ _ (by simp)]; rfl) hs
  go_enter Tryz.func18, Tryz.ntmps18
  go_wp2
  refine wp_loop_rounds 1 ?_
  rw [rounds_succ]
  go_wp2
  go_ret
  exact ⟨rfl, rfl⟩
set_option maxHeartbeats 4000000 in
theorem Tryz.as_hitC (e : Int) (t : Addr) (w : World) (hg : w.cell? ⟨0, 0, none⟩ = some (.iface 182 (.agg #[.pointer (some ⟨10, 36, none⟩)]))) : ∃ w4, More w w4 ∧ ∀ w', (storeCells t [.int .i64 e]).run Tryz.prog w4 = .ok () w' →
      Calls Tryz.prog 18 #[.iface 51 (.int .i64 e), .iface 154 (.pointer (some t))] w fun ev w'' => ev = .returned (.bool true) ∧ w'' = w' := by
  refine ⟨((((w.alloc (.cells #[.pointer (some t)] 154)).alloc (.cells #[.pointer (some ⟨10, 154, none⟩), .pointer (some ⟨w.heap.size, 0, none⟩), .int .u64 150] 136)).alloc (.cells #[.pointer (some ⟨10, 154, none⟩), .pointer (some ⟨w.heap.size, 0, none⟩), .int .u64 150] 136)).alloc (.cells #[.int .i64 e] 51)), ((((More.refl _).alloc _).alloc _).alloc _).alloc _, fun w' hs => ?_⟩
  have xVO := @run_callFunc_extern Tryz.prog 38 _ (fun args => ReflectliteValue.unpack (args.getD 0 (.tuple #[]))) Tryz.func38 (by kernel_rfl) (by kernel_rfl) (by kernel_rfl) (by kernel_rfl)
  have xVT := @run_callFunc_extern Tryz.prog 39 _ (ReflectliteValue.methodAny (ReflectliteValue.valueError "reflectlite.Value.Type" 0) (fun t _ _ _ => ReflectliteType.toType t)) Tryz.func39 (by kernel_rfl) (by kernel_rfl) (by kernel_rfl) (by kernel_rfl)
  have xVN := @run_callFunc_extern Tryz.prog 40 _ (ReflectliteValue.method (ReflectliteValue.valueError "reflectlite.Value.IsNil" 0) ReflectliteValue.isNil) Tryz.func40 (by kernel_rfl) (by kernel_rfl) (by kernel_rfl) (by kernel_rfl)
  have xKind := @run_callFunc_extern Tryz.prog 224 _ (ReflectliteType.abiMethod fun t => do pure (.int .u8 (← Rtype.kind t))) Tryz.func224 (by kernel_rfl) (by kernel_rfl) (by kernel_rfl) (by kernel_rfl)
  have xElem := @run_callFunc_extern Tryz.prog 237 _ (ReflectliteType.method ReflectliteType.elem) Tryz.func237 (by kernel_rfl) (by kernel_rfl) (by kernel_rfl) (by kernel_rfl)
  have xImp := @run_callFunc_extern Tryz.prog 238 _ (ReflectliteType.relation "Implements" ReflectliteType.implements_) Tryz.func238 (by kernel_rfl) (by kernel_rfl) (by kernel_rfl) (by kernel_rfl)
  have xTO := @run_callFunc_extern Tryz.prog 42 _ ReflectliteType.typeOf Tryz.func42 (by kernel_rfl) (by kernel_rfl) (by kernel_rfl) (by kernel_rfl)
  have xAsg := @run_callFunc_extern Tryz.prog 235 _ (ReflectliteType.relation "AssignableTo" ReflectliteType.assignableTo) Tryz.func235 (by kernel_rfl) (by kernel_rfl) (by kernel_rfl) (by kernel_rfl)
  have xVE := @run_callFunc_extern Tryz.prog 81 _ (ReflectliteValue.method (ReflectliteValue.valueError "reflectlite.Value.Elem" 0) ReflectliteValue.elem) Tryz.func81 (by kernel_rfl) (by kernel_rfl) (by kernel_rfl) (by kernel_rfl)
  have xVS := @run_callFunc_extern Tryz.prog 82 _ ReflectliteValue.set Tryz.func82 (by kernel_rfl) (by kernel_rfl) (by kernel_rfl) (by kernel_rfl)
  have y0 := Tryz.et51
  have y1 := Tryz.emAssignableTo
  have y2 := Tryz.eV154
  have y3 := Tryz.eT154
  have y4 := Tryz.emKind
  have y5 := Tryz.emElem
  have y6 := Tryz.emImplements
  have y7 := Tryz.ek154
  have y8 := Tryz.ek51
  have y9 := Tryz.ee154
  have y10 := Tryz.ei51
  have y11 := Tryz.eA51
  have y12 := Tryz.eV51
  have n8 := Tryz.eN154 ⟨w.heap.size, 0, none⟩ t ((w.alloc (.cells #[.pointer (some t)] 154)).alloc (.cells #[.pointer (some ⟨10, 154, none⟩), .pointer (some ⟨w.heap.size, 0, none⟩), .int .u64 150] 136)) (by simp)
  have hlt : 0 < w.heap.size := by
    rcases Nat.lt_or_ge 0 w.heap.size with h | h
    · exact h
    · simp [World.cell?, Array.getElem?_eq_none h] at hg
  have hg2 : ((w.alloc (.cells #[.pointer (some t)] 154)).alloc (.cells #[.pointer (some ⟨10, 154, none⟩), .pointer (some ⟨w.heap.size, 0, none⟩), .int .u64 150] 136)).cell? ⟨0, 0, none⟩ = some (.iface 182 (.agg #[.pointer (some ⟨10, 36, none⟩)])) := by
    rw [World.cell?_alloc_lt _ _ ⟨0, 0, none⟩ (by simp <;> omega), World.cell?_alloc_lt _ _ ⟨0, 0, none⟩ hlt]; exact hg
  have el := Tryz.eE154 ⟨w.heap.size, 0, none⟩ t (((w.alloc (.cells #[.pointer (some t)] 154)).alloc (.cells #[.pointer (some ⟨10, 154, none⟩), .pointer (some ⟨w.heap.size, 0, none⟩), .int .u64 150] 136)).alloc (.cells #[.pointer (some ⟨10, 154, none⟩), .pointer (some ⟨w.heap.size, 0, none⟩), .int .u64 150] 136)) (by rw [World.cell?_alloc_lt _ _ ⟨w.heap.size, 0, none⟩ (by simp; omega)]; simp)
  have st := Tryz.eS51 t ⟨w.heap.size + 1 + 1 + 1, 0, none⟩ e ((((w.alloc (.cells #[.pointer (some t)] 154)).alloc (.cells #[.pointer (some ⟨10, 154, none⟩), .pointer (some ⟨w.heap.size, 0, none⟩), .int .u64 150] 136)).alloc (.cells #[.pointer (some ⟨10, 154, none⟩), .pointer (some ⟨w.heap.size, 0, none⟩), .int .u64 150] 136)).alloc (.cells #[.int .i64 e] 51)) w' (by rw [World.cell?_alloc_at _ _ _ _ (by simp)]; rfl) hs
  go_enter Tryz.func18, Tryz.ntmps18
  go_wp2
  refine wp_loop_rounds 1 ?_
  rw [rounds_succ]
  go_wp2
  go_ret
  exact ⟨rfl, rfl⟩
set_option maxHeartbeats 4000000 in
theorem Tryz.as_miss (e : Int) (t : Addr) (w : World) (hg : w.cell? ⟨0, 0, none⟩ = some (.iface 182 (.agg #[.pointer (some ⟨10, 36, none⟩)]))) : ∃ w4, More w w4 ∧ Calls Tryz.prog 18 #[.iface 51 (.int .i64 e), .iface 90 (.pointer (some t))] w fun ev w'' => ev = .returned (.bool false) ∧ w'' = w4 := by
  refine ⟨(((w.alloc (.cells #[.pointer (some t)] 90)).alloc (.cells #[.pointer (some ⟨10, 90, none⟩), .pointer (some ⟨w.heap.size, 0, none⟩), .int .u64 150] 136)).alloc (.cells #[.pointer (some ⟨10, 90, none⟩), .pointer (some ⟨w.heap.size, 0, none⟩), .int .u64 150] 136)), (((More.refl _).alloc _).alloc _).alloc _, ?_⟩
  have xVO := @run_callFunc_extern Tryz.prog 38 _ (fun args => ReflectliteValue.unpack (args.getD 0 (.tuple #[]))) Tryz.func38 (by kernel_rfl) (by kernel_rfl) (by kernel_rfl) (by kernel_rfl)
  have xVT := @run_callFunc_extern Tryz.prog 39 _ (ReflectliteValue.methodAny (ReflectliteValue.valueError "reflectlite.Value.Type" 0) (fun t _ _ _ => ReflectliteType.toType t)) Tryz.func39 (by kernel_rfl) (by kernel_rfl) (by kernel_rfl) (by kernel_rfl)
  have xVN := @run_callFunc_extern Tryz.prog 40 _ (ReflectliteValue.method (ReflectliteValue.valueError "reflectlite.Value.IsNil" 0) ReflectliteValue.isNil) Tryz.func40 (by kernel_rfl) (by kernel_rfl) (by kernel_rfl) (by kernel_rfl)
  have xKind := @run_callFunc_extern Tryz.prog 224 _ (ReflectliteType.abiMethod fun t => do pure (.int .u8 (← Rtype.kind t))) Tryz.func224 (by kernel_rfl) (by kernel_rfl) (by kernel_rfl) (by kernel_rfl)
  have xElem := @run_callFunc_extern Tryz.prog 237 _ (ReflectliteType.method ReflectliteType.elem) Tryz.func237 (by kernel_rfl) (by kernel_rfl) (by kernel_rfl) (by kernel_rfl)
  have xImp := @run_callFunc_extern Tryz.prog 238 _ (ReflectliteType.relation "Implements" ReflectliteType.implements_) Tryz.func238 (by kernel_rfl) (by kernel_rfl) (by kernel_rfl) (by kernel_rfl)
  have xTO := @run_callFunc_extern Tryz.prog 42 _ ReflectliteType.typeOf Tryz.func42 (by kernel_rfl) (by kernel_rfl) (by kernel_rfl) (by kernel_rfl)
  have xAsg := @run_callFunc_extern Tryz.prog 235 _ (ReflectliteType.relation "AssignableTo" ReflectliteType.assignableTo) Tryz.func235 (by kernel_rfl) (by kernel_rfl) (by kernel_rfl) (by kernel_rfl)
  have y0 := Tryz.et51
  have y1 := Tryz.emAssignableTo
  have y2 := Tryz.eV90
  have y3 := Tryz.eT90
  have y4 := Tryz.emKind
  have y5 := Tryz.emElem
  have y6 := Tryz.emImplements
  have y7 := Tryz.ek90
  have y8 := Tryz.ek72
  have y9 := Tryz.ee90
  have y10 := Tryz.ei72
  have y11 := Tryz.eA51_72
  have y12 := Tryz.ehAs51
  have y13 := Tryz.ehU51
  have y14 := Tryz.ehUs51
  have n8 := Tryz.eN90 ⟨w.heap.size, 0, none⟩ t ((w.alloc (.cells #[.pointer (some t)] 90)).alloc (.cells #[.pointer (some ⟨10, 90, none⟩), .pointer (some ⟨w.heap.size, 0, none⟩), .int .u64 150] 136)) (by simp)
  have hlt : 0 < w.heap.size := by
    rcases Nat.lt_or_ge 0 w.heap.size with h | h
    · exact h
    · simp [World.cell?, Array.getElem?_eq_none h] at hg
  have hg2 : ((w.alloc (.cells #[.pointer (some t)] 90)).alloc (.cells #[.pointer (some ⟨10, 90, none⟩), .pointer (some ⟨w.heap.size, 0, none⟩), .int .u64 150] 136)).cell? ⟨0, 0, none⟩ = some (.iface 182 (.agg #[.pointer (some ⟨10, 36, none⟩)])) := by
    rw [World.cell?_alloc_lt _ _ ⟨0, 0, none⟩ (by simp <;> omega), World.cell?_alloc_lt _ _ ⟨0, 0, none⟩ hlt]; exact hg
  go_enter Tryz.func18, Tryz.ntmps18
  go_wp2
  refine wp_loop_rounds 1 ?_
  rw [rounds_succ]
  go_wp2
  go_ret
  exact ⟨rfl, rfl⟩
set_option maxHeartbeats 4000000 in
theorem Tryz.is_A (x : Addr) (m n : Int) (w : World) (hx : w.cell? x = some (.int .i64 m)) : Calls Tryz.prog 19 #[.iface 72 (.pointer (some x)), .iface 51 (.int .i64 n)] w fun ev w' => ev = .returned (.bool (decide (m = n))) ∧ More w w' := by
  have xTO := @run_callFunc_extern Tryz.prog 42 _ ReflectliteType.typeOf Tryz.func42 (by kernel_rfl) (by kernel_rfl) (by kernel_rfl) (by kernel_rfl)
  have xCmp := @run_callFunc_extern Tryz.prog 236 _ cmpE Tryz.func236 (by kernel_rfl) (by kernel_rfl) (by kernel_rfl) (by kernel_rfl)
  have y0 := Tryz.et51
  have y1 := Tryz.ecc
  have y2 := Tryz.emComparable
  have y3 := Tryz.ehIs72
  have y4 := Tryz.ehU72
  have y5 := Tryz.ehIs51
  have y6 := Tryz.ehU51
  have y7 := Tryz.ehUs51
  have y8 := Tryz.emU
  obtain ⟨r, hr, hq⟩ : ∃ r : Bool, decide (m = n) = r ∧ ∀ w, (binOp .eql 36 (.iface 51 (.int .i64 m)) (.iface 51 (.int .i64 n))).run Tryz.prog w = .ok (.bool r) w :=
    ⟨_, rfl, fun w => Lib.run_eql_iface_int (P := Tryz.prog) w (k := .i64) m n Tryz.underlying36 Tryz.ecI Tryz.underlying51⟩
  rw [hr]
  clear hr
  have ht := run_eql_iface_types (P := Tryz.prog) 72 51 (.pointer (some x)) (.int .i64 n) Tryz.underlying36 (by decide)
  cases r with
  | true =>
    go_enter Tryz.func19, Tryz.ntmps19
    go_wp2
    refine wp_loop_rounds 2 ?_
    rw [rounds_succ]
    go_wp2
    rw [rounds_succ]
    go_wp2
    go_ret
    exact ⟨rfl, More.refl _⟩
  | false =>
    go_enter Tryz.func19, Tryz.ntmps19
    go_wp2
    refine wp_loop_rounds 2 ?_
    rw [rounds_succ]
    go_wp2
    rw [rounds_succ]
    go_wp2
    go_ret
    exact ⟨rfl, More.refl _⟩
set_option maxHeartbeats 4000000 in
theorem Tryz.is_C (m n : Int) (w : World) : Calls Tryz.prog 19 #[.iface 51 (.int .i64 m), .iface 51 (.int .i64 n)] w fun ev w' => ev = .returned (.bool (decide (m = n))) ∧ More w w' := by
  have xTO := @run_callFunc_extern Tryz.prog 42 _ ReflectliteType.typeOf Tryz.func42 (by kernel_rfl) (by kernel_rfl) (by kernel_rfl) (by kernel_rfl)
  have xCmp := @run_callFunc_extern Tryz.prog 236 _ cmpE Tryz.func236 (by kernel_rfl) (by kernel_rfl) (by kernel_rfl) (by kernel_rfl)
  have y0 := Tryz.et51
  have y1 := Tryz.ecc
  have y2 := Tryz.emComparable
  have y3 := Tryz.ehIs72
  have y4 := Tryz.ehU72
  have y5 := Tryz.ehIs51
  have y6 := Tryz.ehU51
  have y7 := Tryz.ehUs51
  have y8 := Tryz.emU
  obtain ⟨r, hr, hq⟩ : ∃ r : Bool, decide (m = n) = r ∧ ∀ w, (binOp .eql 36 (.iface 51 (.int .i64 m)) (.iface 51 (.int .i64 n))).run Tryz.prog w = .ok (.bool r) w :=
    ⟨_, rfl, fun w => Lib.run_eql_iface_int (P := Tryz.prog) w (k := .i64) m n Tryz.underlying36 Tryz.ecI Tryz.underlying51⟩
  rw [hr]
  clear hr
  cases r with
  | true =>
    go_enter Tryz.func19, Tryz.ntmps19
    go_wp2
    refine wp_loop_rounds 1 ?_
    rw [rounds_succ]
    go_wp2
    go_ret
    exact ⟨rfl, More.refl _⟩
  | false =>
    go_enter Tryz.func19, Tryz.ntmps19
    go_wp2
    refine wp_loop_rounds 1 ?_
    rw [rounds_succ]
    go_wp2
    go_ret
    exact ⟨rfl, More.refl _⟩
theorem Tryz.enn (w : World) : (binOp .eql 36 .nilIface .nilIface).run Tryz.prog w = .ok (.bool true) w := by kernel_rfl
theorem Tryz.eni (t : Nat) (y : Value) (w : World) : (binOp .eql 36 .nilIface (.iface t y)).run Tryz.prog w = .ok (.bool false) w := by kernel_rfl
theorem Tryz.as_nil (t : Nat) (y : Value) (w : World) : Calls Tryz.prog 18 #[.nilIface, .iface t y] w fun ev w' => ev = .returned (.bool false) ∧ More w w' := by
  have y0 := Tryz.enn
  have y1 := Tryz.eni
  go_enter Tryz.func18, Tryz.ntmps18
  go_wp2
  go_ret
  exact ⟨rfl, More.refl _⟩
theorem Tryz.is_nil (t : Nat) (y : Value) (w : World) : Calls Tryz.prog 19 #[.nilIface, .iface t y] w fun ev w' => ev = .returned (.bool false) ∧ More w w' := by
  have y0 := Tryz.enn
  have y1 := Tryz.eni
  go_enter Tryz.func19, Tryz.ntmps19
  go_wp2
  go_ret
  exact ⟨rfl, More.refl _⟩
def nf18 : CFunc := ⟨.skip, [], some (.act 42513032644035567755265)⟩
theorem n18 : FnOk Tryz.prog 11 18 nf18 :=
  as_ok (k := 42513032644035566706688) (a := 72) (b := 90) (c := 51) (d := 154) (rt := 182) (nb := 10) (e := 36) (g := 0) ⟨Tryz.as_hitA, Tryz.as_hitC, Tryz.as_miss, Tryz.as_nil⟩ rfl (by decide) (by decide) rfl rfl rfl rfl rfl rfl rfl rfl rfl ⟨_, Tryz.func18, by kernel_rfl, by decide⟩
def nf19 : CFunc := ⟨.skip, [], some (.act 42513032644035567755266)⟩
theorem n19 : FnOk Tryz.prog 11 19 nf19 :=
  is_ok (k := 42513032644035566706689) (a := 72) (c := 51) ⟨Tryz.is_A, Tryz.is_C, Tryz.is_nil⟩ rfl rfl rfl rfl ⟨_, Tryz.func19, by kernel_rfl, by decide⟩
end Go.Proofs.YtflbicbcphmgoaaGreatDoor
