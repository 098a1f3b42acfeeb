/- The functions that the statement reaches, compiled. Printed by a program of mine. -/
import Derived.Test.YtflbicbcphmgoacGreatDoorProg
import Derived.Test.YtflbicbcphmgoacGreatDoorJoin
import Derived.Test.YtflbicbcphmgoacGreatDoorIdx
import Derived.Test.YtflbicbcphmgoacGreatDoorAny
import Derived.Test.YtflbicbcphmgoacGreatDoorDxAbb
import Derived.Test.YtflbicbcphmgoacGreatDoorDxClaim
import Derived.KernelRfl
namespace Go.Proofs.YtflbicbcphmgoacGreatDoor
open Go.Dx Go.Dx.P
noncomputable section
-- tallow/num.ops$8
def cf257 : CFunc := ⟨(s (re 5 (m (i 0))) (s (r (c (m (v 1)) (c (m (v 2)) (c (.arith .xor 3 (l 1) (l 0)) (e 5 (m (l 0)) z))))) .ret)),
  [.tmp (key 5)], none⟩
theorem c257 : FnOk Tryz.prog 8 257 cf257 :=
  .of Tryz.func257 (n := 8) (by kernel_rfl) (far := fun t => Nat.testBit 19 t) (by kernel_rfl)
-- tallow/num.up
def cf258 : CFunc := ⟨(s (re 5 (m (i 0))) (s (s (r (c (m (v 2)) (e 7 (.cmp .lss (l 0) (i 0)) z))) (k (v 7) (s (r (c (m (v 1)) (c (.convInt 7 (l 0)) (c (m (v 2)) (c (.max (l 0) (i (-64))) (c (.neg (l 0)) (c (.convInt 7 (l 0)) (c (.shift .shr 7 (l 4) (l 0)) (c (.convInt 3 (l 0)) (e 5 (m (l 0)) z)))))))))) .ret) .skip)) (s (r (c (m (v 1)) (c (m (v 2)) (c (.convInt 7 (l 0)) (c (.shift .shl 3 (l 2) (l 0)) (e 5 (m (l 0)) z)))))) .ret))),
  [.tmp (key 5)], none⟩
theorem c258 : FnOk Tryz.prog 8 258 cf258 :=
  .of Tryz.func258 (n := 19) (by kernel_rfl) (far := fun t => Nat.testBit 83 t) (by kernel_rfl)
-- internal/stringslite.TrimPrefix
def cf260 : CFunc := ⟨(s (re 5 (m (.lit (.str 0 0)))) (s (s (r (c (m (v 1)) (c (m (v 2)) (e 8 (f 74 (a2 (l 1) (l 0))) z)))) (k (v 8) (s (r (c (m (v 1)) (c (m (v 2)) (c (.lenStr (l 0)) (c (.sliceStr (l 2) (some (l 0)) none) (e 5 (m (l 0)) z)))))) .ret) .skip)) (s (r (c (m (v 1)) (e 5 (m (l 0)) z))) .ret))),
  [.tmp (key 5)], none⟩
theorem c260 : FnOk Tryz.prog 8 260 cf260 :=
  .of Tryz.func260 (n := 13) (by kernel_rfl) (far := fun t => Nat.testBit 147 t) (by kernel_rfl)
-- internal/strconv.ParseInt
def cf261 : CFunc := ⟨(s (r (e 7 (m (i 0)) (e 8 (m (.lit .niliface)) z))) (s (s (r (c (m (v 1)) (e 14 (.scmp .eql (l 0) (.lit (.str 0 0))) z))) (k (v 14) (s (r (c (.mkIface 386 (i 2)) (e 7 (m (i 0)) (e 8 (m (l 1)) z)))) .ret) .skip)) (s (re 9 (m (b false))) (s (s (r (c (m (v 1)) (e 17 (.idxStr (l 0) (i 0)) z))) (.block 0 (s (r (c (.cmp .eql (v 17) (.lit (.int 4 43))) (e 18 (m (l 0)) z))) (k (v 18) (r (c (m (v 1)) (c (.sliceStr (l 0) (some (i 1)) none) (e 1 (m (l 0)) z)))) (s (r (c (.cmp .eql (v 17) (.lit (.int 4 45))) (e 22 (m (l 0)) z))) (k (v 22) (s (r (c (m (v 1)) (c (.sliceStr (l 0) (some (i 1)) none) (e 1 (m (l 0)) z)))) (re 9 (m (b true)))) .skip)))))) (s (re 10 (m (.lit (.int 7 0)))) (s (r (c (m (v 1)) (c (m (v 2)) (c (m (v 3)) (c (f 282 (a3 (l 2) (l 1) (l 0))) (c (m (l 0)) (c (x 0 (l 0)) (c (x 1 (l 1)) (e 10 (m (l 1)) (e 8 (m (l 1)) z)))))))))) (s (s (r (c (m (v 8)) (c (.eq .iface true (l 0) (.lit .niliface)) (c (m (l 0)) (y 0 true (m (v 8)) (y 1 true (.mkIface 386 (i 1)) (y 2 true (.eq .ifaces true (l 1) (l 0)) (e 39 (.pick (l 3) (l 0) (b false)) z)))))))) (k (v 39) (s (r (c (m (v 8)) (e 7 (m (i 0)) (e 8 (m (l 1)) z)))) .ret) .skip)) (s (s (r (c (m (v 3)) (e 42 (.cmp .eql (l 0) (i 0)) z))) (k (v 42) (re 3 (m (i 64))) .skip)) (s (r (c (m (v 3)) (c (.arith .sub 3 (l 0) (i 1)) (c (.convInt 7 (l 0)) (c (.shift .shl 7 (.lit (.int 7 1)) (l 0)) (e 11 (m (l 0)) z)))))) (s (s (r (c (m (v 9)) (c (.not (l 0)) (c (m (l 0)) (y 0 true (m (v 10)) (y 1 true (m (v 11)) (y 2 true (.cmp .geq (l 1) (l 0)) (e 53 (.pick (l 3) (l 0) (b false)) z)))))))) (k (v 53) (s (r (c (m (v 11)) (c (.arith .sub 7 (l 0) (.lit (.int 7 1))) (c (.convInt 3 (l 0)) (c (.mkIface 386 (i 1)) (e 7 (m (l 1)) (e 8 (m (l 1)) z))))))) .ret) .skip)) (s (s (r (c (m (v 9)) (c (m (l 0)) (y 0 true (m (v 10)) (y 1 true (m (v 11)) (y 2 true (.cmp .gtr (l 1) (l 0)) (e 63 (.pick (l 3) (l 0) (b false)) z))))))) (k (v 63) (s (r (c (m (v 11)) (c (.convInt 3 (l 0)) (c (.neg (l 0)) (c (.mkIface 386 (i 1)) (e 7 (m (l 1)) (e 8 (m (l 1)) z))))))) .ret) .skip)) (s (r (c (m (v 10)) (c (.convInt 3 (l 0)) (e 12 (m (l 0)) z)))) (s (s (re 70 (m (v 9))) (k (v 70) (r (c (m (v 12)) (c (.neg (l 0)) (e 12 (m (l 0)) z)))) .skip)) (s (r (c (m (v 12)) (e 7 (m (l 0)) (e 8 (m (.lit .niliface)) z)))) .ret)))))))))))))),
  [.tmp (key 7), .tmp (key 8)], none⟩
theorem c261 : FnOk Tryz.prog 8 261 cf261 :=
  .of Tryz.func261 (n := 73) (by kernel_rfl) (far := fun t => Nat.testBit 594912002450663878599 t) (by kernel_rfl)
-- internal/stringslite.CutPrefix
def cf264 : CFunc := ⟨(s (r (e 5 (m (.lit (.str 0 0))) (e 6 (m (b false)) z))) (s (s (r (c (m (v 1)) (c (m (v 2)) (c (f 74 (a2 (l 1) (l 0))) (e 10 (.not (l 0)) z))))) (k (v 10) (s (r (c (m (v 1)) (e 5 (m (l 0)) (e 6 (m (b false)) z)))) .ret) .skip)) (s (r (c (m (v 1)) (c (m (v 2)) (c (.lenStr (l 0)) (c (.sliceStr (l 2) (some (l 0)) none) (e 5 (m (l 0)) (e 6 (m (b true)) z))))))) .ret))),
  [.tmp (key 5), .tmp (key 6)], none⟩
theorem c264 : FnOk Tryz.prog 8 264 cf264 :=
  .of Tryz.func264 (n := 15) (by kernel_rfl) (far := fun t => Nat.testBit 563 t) (by kernel_rfl)
-- internal/stringslite.CutSuffix
def cf265 : CFunc := ⟨(s (r (e 5 (m (.lit (.str 0 0))) (e 6 (m (b false)) z))) (s (s (r (c (m (v 1)) (c (m (v 2)) (c (f 287 (a2 (l 1) (l 0))) (e 10 (.not (l 0)) z))))) (k (v 10) (s (r (c (m (v 1)) (e 5 (m (l 0)) (e 6 (m (b false)) z)))) .ret) .skip)) (s (r (c (m (v 1)) (c (m (v 1)) (c (.lenStr (l 0)) (c (m (v 2)) (c (.lenStr (l 0)) (c (.arith .sub 3 (l 2) (l 0)) (c (.sliceStr (l 5) none (some (l 0))) (e 5 (m (l 0)) (e 6 (m (b true)) z)))))))))) .ret))),
  [.tmp (key 5), .tmp (key 6)], none⟩
theorem c265 : FnOk Tryz.prog 8 265 cf265 :=
  .of Tryz.func265 (n := 18) (by kernel_rfl) (far := fun t => Nat.testBit 563 t) (by kernel_rfl)
-- (*tallow/scope.walker).find
noncomputable def cf270 : CFunc := ⟨(.seq (.region (.cons none (.box (.var (.i .h))) (some (.i (.o .h)))
    (.cons none (.alloc (.cons .nilptr .nil) 1) (some (.o (.i .h)))
    .nil)))
  (.seq (.seq (.region (.cons none (.mov (.var (.o .h))) none
    (.cons none (.nilCheck (.loc 0)) none
    (.cons none (.fieldAddr 1 (.loc 0)) none
    (.cons none (.load1 (.loc 0)) none
    (.cons none (.mov (.loc 0)) (some (.i (.i .h)))
    .nil))))))
  (.block 0 (.loop (.seq (.seq (.region (.cons none (.mov (.var (.i (.i .h)))) none
    (.cons none (.eq .ptr true (.loc 0) (.lit .nilptr)) (some (.i (.i (.i .h))))
    .nil)))
  (.cond (.var (.i (.i (.i .h)))) .skip
  (.exit 0)))
  (.seq (.block 1 (.seq (.region (.cons none (.mov (.var (.i (.i .h)))) none
    (.cons none (.nilCheck (.loc 0)) none
    (.cons none (.fieldAddr 0 (.loc 0)) none
    (.cons none (.fieldAddr 0 (.loc 0)) none
    (.cons none (.load1 (.loc 0)) none
    (.cons none (.callF 292 (.cons (.loc 0) .nil)) (some (.i (.o (.o (.i .h)))))
    .nil)))))))
  (.block 2 (.rangeFunc (.var (.i (.o (.o (.i .h))))) [24, 25] (.region (.cons none (.mov (.var (.i (.i (.o (.i .h)))))) (some (.i (.o (.o .h))))
    .nil))
  (.block 3 (.seq (.draw (.cons none (.mov (.var (.i (.o (.o .h))))) none (.light 0)
    (.cons none (.nilCheck (.loc 0)) none (.light 0)
    (.cons none (.fieldAddr 4 (.loc 0)) none (.light 0)
    (.cons none (.load1 (.loc 0)) none (.light 0)
    (.cons none (.mov (.loc 0)) none (.light 0)
    (.cons (some (0, true)) (.mov (.var (.i (.o (.o .h))))) none (.light 0)
    (.cons (some (1, true)) (.nilCheck (.loc 0)) none (.light 0)
    (.cons (some (2, true)) (.fieldAddr 0 (.loc 0)) none (.light 0)
    (.cons (some (3, true)) (.load1 (.loc 0)) none (.light 0)
    (.cons (some (4, true)) (.load1 (.var (.i (.o .h)))) none (.light 0)
    (.cons (some (5, true)) (.scmp .eql (.loc 1) (.loc 0)) none (.light 0)
    (.cons none (.pick (.loc 6) (.loc 0) (.lit (.bool false))) (some (.i (.i (.i (.o (.o .h)))))) (.light 0)
    .nil)))))))))))) 0)
  (.cond (.var (.i (.i (.i (.o (.o .h)))))) (.seq (.region (.cons none (.mov (.var (.i (.o (.o .h))))) none
    (.cons none (.store 1 (.var (.o (.i .h))) (.loc 0)) none
    .nil)))
  .ret)
  .skip))) (srcOf (Tryz.prog.funcs[270]?) 0).1 (srcOf (Tryz.prog.funcs[270]?) 0).2 39 (fun t => Nat.testBit 137497682107 t)))))
  (.region (.cons none (.mov (.var (.i (.i .h)))) none
    (.cons none (.nilCheck (.loc 0)) none
    (.cons none (.fieldAddr 1 (.loc 0)) none
    (.cons none (.load1 (.loc 0)) none
    (.cons none (.mov (.loc 0)) (some (.i (.i .h)))
    .nil)))))))))))
  (.seq (.region (.cons none (.store 1 (.var (.o (.i .h))) (.lit .nilptr)) none
    .nil))
  .ret))),
  [.cell1 (.o (.i .h))], none⟩
theorem c270 : FnOk Tryz.prog 8 270 cf270 :=
  .of Tryz.func270 (n := 39) (by kernel_rfl) (far := fun t => Nat.testBit 137497682107 t) (by kernel_rfl)
-- slices.Contains[[]string,string]
def cf271 : CFunc := ⟨(s (re 5 (m (b false))) (s (r (c (m (v 1)) (c (m (v 2)) (c (f 293 (a2 (l 1) (l 0))) (c (.cmp .geq (l 0) (i 0)) (e 5 (m (l 0)) z)))))) .ret)),
  [.tmp (key 5)], none⟩
theorem c271 : FnOk Tryz.prog 8 271 cf271 :=
  .of Tryz.func271 (n := 9) (by kernel_rfl) (far := fun t => Nat.testBit 19 t) (by kernel_rfl)
-- (*tallow/scope.walker).function$1
def cf272 : CFunc := ⟨(w (dl 0 (o (v 1)) (dl 0 (o (v 1)) (dl 0 (n (l 0)) (dl 0 (p 1 (l 0)) (dl 0 (o (l 0)) (dl 0 (n (l 0)) (dl 0 (p 1 (l 0)) (dl 0 (o (l 0)) (dl 0 (n (l 7)) (dl 0 (p 1 (l 0)) (dh (.store 1 (l 0) (l 2)) dz))))))))))) 0),
  [], none⟩
theorem c272 : FnOk Tryz.prog 8 272 cf272 :=
  .of Tryz.func272 (n := 11) (by kernel_rfl) (far := fun t => Nat.testBit 1 t) (by kernel_rfl)
-- slices.Index[[]int,int]
def cf273 : CFunc := ⟨(s (re 5 (m (i 0))) (s (s (r (c (m (v 1)) (e 8 (.lenSl (l 0)) (e 9 (m (i 0)) z)))) (.block 0 (.loop (s (re 10 (.cmp .lss (v 9) (v 8))) (s (k (v 10) .skip (.exit 0)) (s (.block 1 (s (r (c (m (v 9)) (e 6 (m (l 0)) z))) (s (r (c (m (v 2)) (c (m (v 1)) (c (m (v 6)) (c (.idxSl 1 (l 1) (l 0)) (c (o (l 0)) (e 17 (.cmp .eql (l 4) (l 0)) z))))))) (k (v 17) (s (r (c (m (v 6)) (e 5 (m (l 0)) z))) .ret) .skip)))) (r (c (.arith .add 3 (v 9) (i 1)) (e 9 (m (l 0)) z))))))))) (s (re 5 (m (i (-1)))) .ret))),
  [.tmp (key 5)], none⟩
theorem c273 : FnOk Tryz.prog 8 273 cf273 :=
  .of Tryz.func273 (n := 19) (by kernel_rfl) (far := fun t => Nat.testBit 66483 t) (by kernel_rfl)
-- (*tallow/dict.table).find
def cf275 : CFunc := ⟨(s (r (e 4 (.box (v 2)) (e 5 (m (i 0)) z))) (s (s (re 6 (m (i 0))) (.block 0 (.loop (s (s (r (c (m (v 6)) (c (m (v 1)) (c (n (l 0)) (c (p 1 (l 0)) (c (o (l 0)) (c (.lenSl (l 0)) (e 13 (.cmp .lss (l 5) (l 0)) z)))))))) (k (v 13) .skip (.exit 0))) (s (.block 1 (s (w (dl 0 (m (v 1)) (dl 0 (n (l 0)) (dl 0 (p 1 (l 0)) (dl 0 (o (l 0)) (dl 0 (m (v 6)) (dl 0 (.idxSl 2 (l 1) (l 0)) (dl 0 (.loadN 2 (l 0)) (dl 0 (.loadN 2 (v 4)) (el 24 0 (.eq (.flat [.int, .int]) false (l 1) (l 0)) dz))))))))) 0) (k (v 24) (s (r (c (m (v 6)) (e 5 (m (l 0)) z))) .ret) .skip))) (r (c (m (v 6)) (c (.arith .add 3 (l 0) (i 2)) (e 6 (m (l 0)) z))))))))) (s (re 5 (m (i (-1)))) .ret))),
  [.tmp (key 5)], none⟩
theorem c275 : FnOk Tryz.prog 8 275 cf275 :=
  .of Tryz.func275 (n := 25) (by kernel_rfl) (far := fun t => Nat.testBit 8392763 t) (by kernel_rfl)
-- (*tallow/dict.table).grow
def cf278 : CFunc := ⟨(s (re 4 (.box (v 2))) (s (w (dl 0 (m (v 1)) (dl 0 (n (l 0)) (dl 0 (p 0 (l 0)) (dl 0 (o (l 0)) (dl 0 (.loadN 2 (v 4)) (df (.buildSlice (q (j 0) (q (j 0) nl)) 2 1 (.cons 0 2 (l 0) .nil)) (dh (.append (q (j 0) (q (j 0) nl)) 2 (l 2) (l 0)) (dl 1 (m (v 1)) (dl 0 (n (l 0)) (dl 0 (p 0 (l 0)) (dh (.store 1 (l 0) (l 3)) dz))))))))))) 1) (s (r (c (m (v 1)) (c (m (v 1)) (c (n (l 0)) (c (p 0 (l 0)) (c (o (l 0)) (c (.lenSl (l 0)) (c (.arith .add 3 (l 0) (i 1)) (c (f 207 (a1 (l 0))) (c (f 275 (a2 (l 7) (l 0))) (e 5 (m (l 0)) z))))))))))) (.block 0 (.loop (s (s (r (c (m (v 5)) (e 26 (.cmp .geq (l 0) (i 0)) z))) (k (v 26) .skip (.exit 0))) (s (.block 1 (s (w (dl 0 (m (v 1)) (dl 0 (n (l 0)) (dl 0 (p 0 (l 0)) (dl 0 (o (l 0)) (dl 0 (m (v 1)) (dl 0 (n (l 0)) (dl 0 (p 1 (l 0)) (dl 0 (o (l 0)) (dl 0 (m (v 5)) (dl 0 (.arith .add 3 (l 0) (i 1)) (dl 0 (.idxSl 2 (l 2) (l 0)) (dl 0 (.loadN 2 (l 0)) (df (.buildSlice (q (j 0) (q (j 0) nl)) 2 1 (.cons 0 2 (l 0) .nil)) (dh (.append (q (j 0) (q (j 0) nl)) 2 (l 9) (l 0)) (dl 1 (m (v 1)) (dl 0 (n (l 0)) (dl 0 (p 0 (l 0)) (dh (.store 1 (l 0) (l 3)) dz)))))))))))))))))) 1) (r (c (m (v 1)) (c (m (v 5)) (c (f 277 (a2 (l 1) (l 0))) z)))))) (r (c (m (v 1)) (c (m (v 1)) (c (n (l 0)) (c (p 0 (l 0)) (c (o (l 0)) (c (.lenSl (l 0)) (c (.arith .add 3 (l 0) (i 1)) (c (f 207 (a1 (l 0))) (c (f 275 (a2 (l 7) (l 0))) (e 5 (m (l 0)) z)))))))))))))))))),
  [], none⟩
theorem c278 : FnOk Tryz.prog 8 278 cf278 :=
  .of Tryz.func278 (n := 55) (by kernel_rfl) (far := fun t => Nat.testBit 33554459 t) (by kernel_rfl)
-- slices.Grow[[]tallow/api.Value,tallow/api.Value]
def cf279 : CFunc := ⟨(s (re 5 (m (.lit .nilslice))) (s (s (r (c (m (v 2)) (e 7 (.cmp .lss (l 0) (i 0)) z))) (k (v 7) (r (c (.mkIface 9 (.lit (.str 18 8838634371626034279618351153450530198413667))) (c (.panic (l 0)) z))) .skip)) (s (s (r (c (m (v 2)) (c (m (v 1)) (c (.capSl (l 0)) (c (m (v 1)) (c (.lenSl (l 0)) (c (.arith .sub 3 (l 2) (l 0)) (c (.arith .sub 3 (l 5) (l 0)) (e 2 (m (l 0)) z))))))))) (s (r (c (m (v 2)) (e 17 (.cmp .gtr (l 0) (i 0)) z))) (k (v 17) (r (c (m (v 1)) (c (m (v 1)) (c (.capSl (l 0)) (c (.sliceSl 2 (l 2) none (some (l 0)) none) (c (m (v 2)) (c (.appendZ (q (j 0) (q (j 0) nl)) 2 (l 1) (l 0)) (c (m (v 1)) (c (.lenSl (l 0)) (c (.sliceSl 2 (l 2) none (some (l 0)) none) (e 1 (m (l 0)) z))))))))))) .skip))) (s (r (c (m (v 1)) (e 5 (m (l 0)) z))) .ret)))),
  [.tmp (key 5)], none⟩
theorem c279 : FnOk Tryz.prog 8 279 cf279 :=
  .of Tryz.func279 (n := 27) (by kernel_rfl) (far := fun t => Nat.testBit 65619 t) (by kernel_rfl)
-- slices.IndexFunc[[]tallow/api.Value,tallow/api.Value]
def cf280 : CFunc := ⟨(s (re 5 (m (i 0))) (s (s (r (c (m (v 1)) (e 8 (.lenSl (l 0)) (e 9 (m (i 0)) z)))) (.block 0 (.loop (s (re 10 (.cmp .lss (v 9) (v 8))) (s (k (v 10) .skip (.exit 0)) (s (.block 1 (s (r (c (m (v 9)) (e 6 (m (l 0)) z))) (s (r (c (m (v 2)) (c (m (v 1)) (c (m (v 6)) (c (.idxSl 2 (l 1) (l 0)) (c (.loadN 2 (l 0)) (e 17 (.callV (l 4) (a1 (l 0))) z))))))) (k (v 17) (s (r (c (m (v 6)) (e 5 (m (l 0)) z))) .ret) .skip)))) (r (c (.arith .add 3 (v 9) (i 1)) (e 9 (m (l 0)) z))))))))) (s (re 5 (m (i (-1)))) .ret))),
  [.tmp (key 5)], none⟩
theorem c280 : FnOk Tryz.prog 8 280 cf280 :=
  .of Tryz.func280 (n := 19) (by kernel_rfl) (far := fun t => Nat.testBit 66483 t) (by kernel_rfl)
-- internal/strconv.ParseUint
def cf282 : CFunc := ⟨(s (r (e 7 (m (.lit (.int 7 0))) (e 8 (m (.lit .niliface)) z))) (s (s (r (c (m (v 1)) (e 20 (.scmp .eql (l 0) (.lit (.str 0 0))) z))) (k (v 20) (s (r (c (.mkIface 386 (i 2)) (e 7 (m (.lit (.int 7 0))) (e 8 (m (l 1)) z)))) .ret) .skip)) (s (r (c (m (v 2)) (c (.cmp .eql (l 0) (i 0)) (e 9 (m (l 0)) z)))) (s (r (c (m (v 1)) (e 10 (m (l 0)) z))) (s (.block 0 (s (r (c (m (v 2)) (c (.cmp .leq (i 2) (l 0)) (c (m (l 0)) (y 0 true (m (v 2)) (y 1 true (.cmp .leq (l 0) (i 36)) (c (.pick (l 2) (l 0) (b false)) (e 26 (m (l 0)) z)))))))) (k (v 26) .skip (s (r (c (m (v 2)) (c (.cmp .eql (l 0) (i 0)) (e 33 (m (l 0)) z)))) (k (v 33) (s (re 2 (m (i 10))) (s (r (c (m (v 1)) (c (.idxStr (l 0) (i 0)) (e 38 (.cmp .eql (l 0) (.lit (.int 4 48))) z)))) (k (v 38) (.block 1 (s (r (c (m (v 1)) (c (.lenStr (l 0)) (c (.cmp .geq (l 0) (i 3)) (c (m (l 0)) (y 0 true (m (v 1)) (y 1 true (.idxStr (l 0) (i 1)) (y 2 true (f 295 (a1 (l 0))) (y 3 true (.cmp .eql (l 0) (.lit (.int 4 98))) (c (.pick (l 4) (l 0) (b false)) (e 41 (m (l 0)) z))))))))))) (k (v 41) (s (re 2 (m (i 2))) (r (c (m (v 1)) (c (.sliceStr (l 0) (some (i 2)) none) (e 1 (m (l 0)) z))))) (s (r (c (m (v 1)) (c (.lenStr (l 0)) (c (.cmp .geq (l 0) (i 3)) (c (m (l 0)) (y 0 true (m (v 1)) (y 1 true (.idxStr (l 0) (i 1)) (y 2 true (f 295 (a1 (l 0))) (y 3 true (.cmp .eql (l 0) (.lit (.int 4 111))) (c (.pick (l 4) (l 0) (b false)) (e 53 (m (l 0)) z))))))))))) (k (v 53) (s (re 2 (m (i 8))) (r (c (m (v 1)) (c (.sliceStr (l 0) (some (i 2)) none) (e 1 (m (l 0)) z))))) (s (r (c (m (v 1)) (c (.lenStr (l 0)) (c (.cmp .geq (l 0) (i 3)) (c (m (l 0)) (y 0 true (m (v 1)) (y 1 true (.idxStr (l 0) (i 1)) (y 2 true (f 295 (a1 (l 0))) (y 3 true (.cmp .eql (l 0) (.lit (.int 4 120))) (c (.pick (l 4) (l 0) (b false)) (e 65 (m (l 0)) z))))))))))) (k (v 65) (s (re 2 (m (i 16))) (r (c (m (v 1)) (c (.sliceStr (l 0) (some (i 2)) none) (e 1 (m (l 0)) z))))) (s (re 2 (m (i 8))) (r (c (m (v 1)) (c (.sliceStr (l 0) (some (i 1)) none) (e 1 (m (l 0)) z)))))))))))) .skip))) (s (r (c (.mkIface 386 (i 3)) (e 7 (m (.lit (.int 7 0))) (e 8 (m (l 1)) z)))) .ret)))))) (s (s (r (c (m (v 3)) (e 78 (.cmp .eql (l 0) (i 0)) z))) (k (v 78) (re 3 (m (i 64))) (s (r (c (m (v 3)) (c (.cmp .lss (l 0) (i 0)) (c (m (l 0)) (y 0 false (m (v 3)) (y 1 false (.cmp .gtr (l 0) (i 64)) (e 84 (.pick (l 2) (b true) (l 0)) z))))))) (k (v 84) (s (r (c (.mkIface 386 (i 4)) (e 7 (m (.lit (.int 7 0))) (e 8 (m (l 1)) z)))) .ret) .skip)))) (s (re 11 (m (.lit (.int 7 0)))) (s (s (re 86 (m (v 2))) (.block 2 (s (r (c (.cmp .eql (v 86) (i 10)) (e 91 (m (l 0)) z))) (k (v 91) (re 11 (m (.lit (.int 7 1844674407370955162)))) (s (r (c (.cmp .eql (v 86) (i 16)) (e 93 (m (l 0)) z))) (k (v 93) (re 11 (m (.lit (.int 7 1152921504606846976)))) (r (c (m (v 2)) (c (.convInt 7 (l 0)) (c (.arith .quo 7 (.lit (.int 7 18446744073709551615)) (l 0)) (c (.arith .add 7 (l 0) (.lit (.int 7 1))) (e 11 (m (l 0)) z)))))))))))) (s (r (c (m (v 3)) (c (.convInt 7 (l 0)) (c (.shift .shl 7 (.lit (.int 7 1)) (l 0)) (c (.arith .sub 7 (l 0) (.lit (.int 7 1))) (e 12 (m (l 0)) z)))))) (s (re 13 (m (b false))) (s (re 14 (m (.lit (.int 7 0)))) (s (s (r (c (m (v 1)) (e 100 (.toBytes (l 0)) (e 101 (.lenSl (l 0)) (e 102 (m (i 0)) z))))) (.block 3 (.loop (s (re 103 (.cmp .lss (v 102) (v 101))) (s (k (v 103) .skip (.exit 3)) (s (.block 4 (s (r (c (.idxSl 1 (v 100) (v 102)) (c (o (l 0)) (e 16 (m (l 0)) z)))) (s (re 17 (m (.lit (.int 4 0)))) (s (.block 5 (s (r (c (m (v 16)) (c (.cmp .eql (l 0) (.lit (.int 4 95))) (c (m (l 0)) (y 0 true (m (v 9)) (c (.pick (l 1) (l 0) (b false)) (e 107 (m (l 0)) z))))))) (k (v 107) (s (re 13 (m (b true))) (.exit 4)) (s (r (c (m (v 16)) (c (.cmp .leq (.lit (.int 4 48)) (l 0)) (c (m (l 0)) (y 0 true (m (v 16)) (y 1 true (.cmp .leq (l 0) (.lit (.int 4 57))) (c (.pick (l 2) (l 0) (b false)) (e 113 (m (l 0)) z)))))))) (k (v 113) (r (c (m (v 16)) (c (.arith .sub 4 (l 0) (.lit (.int 4 48))) (e 17 (m (l 0)) z)))) (s (r (c (m (v 16)) (c (f 295 (a1 (l 0))) (c (.cmp .leq (.lit (.int 4 97)) (l 0)) (c (m (l 0)) (y 0 true (m (v 16)) (y 1 true (f 295 (a1 (l 0))) (y 2 true (.cmp .leq (l 0) (.lit (.int 4 122))) (c (.pick (l 3) (l 0) (b false)) (e 122 (m (l 0)) z)))))))))) (k (v 122) (r (c (m (v 16)) (c (f 295 (a1 (l 0))) (c (.arith .sub 4 (l 0) (.lit (.int 4 97))) (c (.arith .add 4 (l 0) (.lit (.int 4 10))) (e 17 (m (l 0)) z)))))) (s (r (c (.mkIface 386 (i 2)) (e 7 (m (.lit (.int 7 0))) (e 8 (m (l 1)) z)))) .ret)))))))) (s (s (r (c (m (v 17)) (c (m (v 2)) (c (.convInt 4 (l 0)) (e 138 (.cmp .geq (l 2) (l 0)) z))))) (k (v 138) (s (r (c (.mkIface 386 (i 2)) (e 7 (m (.lit (.int 7 0))) (e 8 (m (l 1)) z)))) .ret) .skip)) (s (s (r (c (m (v 14)) (c (m (v 11)) (e 142 (.cmp .geq (l 1) (l 0)) z)))) (k (v 142) (s (r (c (m (v 12)) (c (.mkIface 386 (i 1)) (e 7 (m (l 1)) (e 8 (m (l 1)) z))))) .ret) .skip)) (s (r (c (m (v 14)) (c (m (v 2)) (c (.convInt 7 (l 0)) (c (.arith .mul 7 (l 2) (l 0)) (e 14 (m (l 0)) z)))))) (s (r (c (m (v 14)) (c (m (v 17)) (c (.convInt 7 (l 0)) (c (.arith .add 7 (l 2) (l 0)) (e 18 (m (l 0)) z)))))) (s (s (r (c (m (v 18)) (c (m (v 14)) (c (.cmp .lss (l 1) (l 0)) (c (m (l 0)) (y 0 false (m (v 18)) (y 1 false (m (v 12)) (y 2 false (.cmp .gtr (l 1) (l 0)) (e 160 (.pick (l 3) (b true) (l 0)) z))))))))) (k (v 160) (s (r (c (m (v 12)) (c (.mkIface 386 (i 1)) (e 7 (m (l 1)) (e 8 (m (l 1)) z))))) .ret) .skip)) (r (c (m (v 18)) (e 14 (m (l 0)) z)))))))))))) (r (c (.arith .add 3 (v 102) (i 1)) (e 102 (m (l 0)) z))))))))) (s (s (r (c (m (v 13)) (c (m (l 0)) (y 0 true (m (v 10)) (y 1 true (f 296 (a1 (l 0))) (y 2 true (.not (l 0)) (e 170 (.pick (l 3) (l 0) (b false)) z))))))) (k (v 170) (s (r (c (.mkIface 386 (i 2)) (e 7 (m (.lit (.int 7 0))) (e 8 (m (l 1)) z)))) .ret) .skip)) (s (r (c (m (v 14)) (e 7 (m (l 0)) (e 8 (m (.lit .niliface)) z)))) .ret)))))))))))))),
  [.tmp (key 7), .tmp (key 8)], none⟩
theorem c282 : FnOk Tryz.prog 8 282 cf282 :=
  .of Tryz.func282 (n := 172) (by kernel_rfl) (far := fun t => Nat.testBit 749019592093908130998168547243562859198691857383367 t) (by kernel_rfl)
-- internal/stringslite.HasSuffix
def cf287 : CFunc := ⟨(s (re 5 (m (b false))) (s (r (c (m (v 1)) (c (.lenStr (l 0)) (c (m (v 2)) (c (.lenStr (l 0)) (c (.cmp .geq (l 2) (l 0)) (c (m (l 0)) (y 0 true (m (v 1)) (y 1 true (m (v 1)) (y 2 true (.lenStr (l 0)) (y 3 true (m (v 2)) (y 4 true (.lenStr (l 0)) (y 5 true (.arith .sub 3 (l 2) (l 0)) (y 6 true (.sliceStr (l 5) (some (l 0)) none) (y 7 true (m (v 2)) (y 8 true (.scmp .eql (l 1) (l 0)) (c (.pick (l 9) (l 0) (b false)) (e 5 (m (l 0)) z)))))))))))))))))) .ret)),
  [.tmp (key 5)], none⟩
theorem c287 : FnOk Tryz.prog 8 287 cf287 :=
  .of Tryz.func287 (n := 21) (by kernel_rfl) (far := fun t => Nat.testBit 19 t) (by kernel_rfl)
-- (*tallow/parse.parser).signed$1
def cf289 : CFunc := ⟨.skip,
  [], none⟩
theorem c289 : FnOk Tryz.prog 8 289 cf289 :=
  .of Tryz.func289 (n := 0) (by kernel_rfl) (far := fun t => Nat.testBit 0 t) (by kernel_rfl)
-- (*tallow/parse.parser).signed$2
def cf290 : CFunc := ⟨(r (c (o (v 1)) (c (o (v 2)) (c (f 291 (a2 (l 1) (l 0))) z)))),
  [], none⟩
theorem c290 : FnOk Tryz.prog 8 290 cf290 :=
  .of Tryz.func290 (n := 5) (by kernel_rfl) (far := fun t => Nat.testBit 3 t) (by kernel_rfl)
-- (*tallow/parse.parser).item
def cf291 : CFunc := ⟨(s (re 5 (m (.lit .nilptr))) (s (s (r (c (m (v 1)) (c (f 19 (a1 (l 0))) (e 6 (.alloc (q (j 0) (q (.str 0 0) (q (j 0) (q (j 0) nl)))) 4) (c (.store 4 (l 0) (l 1)) z))))) (.block 0 (s (r (c (p 0 (v 6)) (c (o (l 0)) (c (.cmp .eql (l 0) (i 1)) (c (m (l 0)) (y 0 true (m (v 1)) (y 1 true (n (l 0)) (y 2 true (p 0 (l 0)) (y 3 true (o (l 0)) (y 4 true (.lenSl (l 0)) (y 5 true (.cmp .gtr (l 0) (i 1)) (c (.pick (l 6) (l 0) (b false)) (c (m (l 0)) (y 0 true (m (v 1)) (y 1 true (n (l 0)) (y 2 true (p 0 (l 0)) (y 3 true (o (l 0)) (y 4 true (.idxSl 4 (l 0) (i 1)) (y 5 true (p 0 (l 0)) (y 6 true (o (l 0)) (y 7 true (.cmp .eql (l 0) (i 4)) (c (.pick (l 8) (l 0) (b false)) (c (m (l 0)) (y 0 true (m (v 1)) (y 1 true (n (l 0)) (y 2 true (p 0 (l 0)) (y 3 true (o (l 0)) (y 4 true (.idxSl 4 (l 0) (i 1)) (y 5 true (p 1 (l 0)) (y 6 true (o (l 0)) (y 7 true (.scmp .eql (l 0) (.lit (.str 1 61))) (c (.pick (l 8) (l 0) (b false)) (e 9 (m (l 0)) z))))))))))))))))))))))))))))))))) (k (v 9) (s (r (c (m (v 1)) (c (f 96 (a1 (l 0))) z))) (s (r (c (m (v 1)) (c (f 96 (a1 (l 0))) z))) (r (c (p 3 (v 6)) (c (o (l 0)) (c (p 1 (v 6)) (c (o (l 0)) (c (.build (q (j 0) (q (j 0) (q (j 0) (q (.str 0 0) (q .nilptr (q .nilptr (q .nilslice (q .nilslice (q .nilslice (q .nilslice nl)))))))))) (.cons 0 1 (i 5) (.cons 1 1 (l 2) (.cons 3 1 (l 0) .nil)))) (c (.box (l 0)) (e 5 (m (l 0)) z)))))))))) (s (r (c (m (v 1)) (c (.buildSlice (q (.str 0 0) nl) 1 1 (.cons 0 1 (.lit (.str 1 91)) .nil)) (c (f 88 (a2 (l 1) (l 0))) (e 51 (m (l 0)) z))))) (k (v 51) (s (r (c (m (v 1)) (c (f 229 (a2 (l 0) (.lit .nilptr))) (c (n (l 0)) (c (p 5 (l 0)) (c (o (l 0)) (e 5 (m (l 0)) z))))))) (r (c (m (v 1)) (c (f 95 (a2 (l 0) (.lit (.str 1 61)))) z)))) .skip)))))) (s (r (c (m (v 2)) (c (m (v 2)) (c (n (l 0)) (c (p 6 (l 0)) (c (o (l 0)) (c (m (v 5)) (c (.buildSlice (q .nilptr nl) 1 1 (.cons 0 1 (l 0) .nil)) (c (.append (q .nilptr nl) 1 (l 2) (l 0)) (c (n (l 7)) (c (p 6 (l 0)) (c (.store 1 (l 0) (l 2)) z)))))))))))) (w (dl 0 (m (v 1)) (dh (f 97 (a2 (l 0) (i 0))) (dl 1 (m (v 2)) (dl 1 (n (l 0)) (dl 1 (p 7 (l 0)) (dl 1 (o (l 0)) (df (.buildSlice (q .nilptr nl) 1 1 (.cons 0 1 (l 4) .nil)) (dh (.append (q .nilptr nl) 1 (l 1) (l 0)) (dl 2 (m (v 2)) (dl 0 (n (l 0)) (dl 0 (p 7 (l 0)) (dh (.store 1 (l 0) (l 3)) dz)))))))))))) 1)))),
  [], none⟩
theorem c291 : FnOk Tryz.prog 8 291 cf291 :=
  .of Tryz.func291 (n := 82) (by kernel_rfl) (far := fun t => Nat.testBit 1125899906842931 t) (by kernel_rfl)
-- slices.Backward[[]*tallow/scope.local,*tallow/scope.local]
def cf292 : CFunc := ⟨(s (r (e 2 (.box (v 1)) (e 3 (m (.lit .nilfunc)) z))) (s (r (c (.mkFunc (.func 299) a0 (a1 (v 2))) (e 3 (m (l 0)) z))) .ret)),
  [.tmp (key 3)], none⟩
theorem c292 : FnOk Tryz.prog 8 292 cf292 :=
  .of Tryz.func292 (n := 4) (by kernel_rfl) (far := fun t => Nat.testBit 7 t) (by kernel_rfl)
-- slices.Index[[]string,string]
def cf293 : CFunc := ⟨(s (re 5 (m (i 0))) (s (s (r (c (m (v 1)) (e 8 (.lenSl (l 0)) (e 9 (m (i 0)) z)))) (.block 0 (.loop (s (re 10 (.cmp .lss (v 9) (v 8))) (s (k (v 10) .skip (.exit 0)) (s (.block 1 (s (r (c (m (v 9)) (e 6 (m (l 0)) z))) (s (r (c (m (v 2)) (c (m (v 1)) (c (m (v 6)) (c (.idxSl 1 (l 1) (l 0)) (c (o (l 0)) (e 17 (.scmp .eql (l 4) (l 0)) z))))))) (k (v 17) (s (r (c (m (v 6)) (e 5 (m (l 0)) z))) .ret) .skip)))) (r (c (.arith .add 3 (v 9) (i 1)) (e 9 (m (l 0)) z))))))))) (s (re 5 (m (i (-1)))) .ret))),
  [.tmp (key 5)], none⟩
theorem c293 : FnOk Tryz.prog 8 293 cf293 :=
  .of Tryz.func293 (n := 19) (by kernel_rfl) (far := fun t => Nat.testBit 66483 t) (by kernel_rfl)
-- slices.Backward[[]*tallow/scope.local,*tallow/scope.local]$1
def cf299 : CFunc := ⟨(s (r (c (o (v 2)) (c (.lenSl (l 0)) (c (.arith .sub 3 (l 0) (i 1)) (e 4 (m (l 0)) z))))) (.block 0 (.loop (s (s (r (c (m (v 4)) (e 9 (.cmp .geq (l 0) (i 0)) z))) (k (v 9) .skip (.exit 0))) (s (.block 1 (s (r (c (m (v 1)) (c (m (v 4)) (c (o (v 2)) (c (m (v 4)) (c (.idxSl 1 (l 1) (l 0)) (c (o (l 0)) (c (.callV (l 5) (a2 (l 4) (l 0))) (e 19 (.not (l 0)) z))))))))) (k (v 19) .ret .skip))) (r (c (m (v 4)) (c (.arith .sub 3 (l 0) (i 1)) (e 4 (m (l 0)) z))))))))),
  [], none⟩
theorem c299 : FnOk Tryz.prog 8 299 cf299 :=
  .of Tryz.func299 (n := 19) (by kernel_rfl) (far := fun t => Nat.testBit 262411 t) (by kernel_rfl)
end
end Go.Proofs.YtflbicbcphmgoacGreatDoor
