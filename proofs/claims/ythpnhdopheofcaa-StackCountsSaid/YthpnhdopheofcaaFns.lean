import Derived.Test.YthpnhdopheofcaaProg
import Derived.Test.YthpnhdopheofcaaTLast
import Derived.Test.YthpnhdopheofcaaDxClaim
import Derived.KernelRfl
set_option linter.unusedSimpArgs false
set_option linter.unusedVariables false
namespace Go.Proofs.Ythpnhdopheofcaa
open Go.Dx
noncomputable section
def cf9 : CFunc := ⟨(.seq (.region (.cons none (.mov (.lit (.bool false))) (some (.o (.o .h)))
    .nil))
  (.seq (.seq (.region (.cons none (.callF 13 .nil) none
    (.cons none (.not (.loc 0)) (some (.o (.o (.i (.o .h)))))
    .nil)))
  (.cond (.var (.o (.o (.i (.o .h))))) (.seq (.region (.cons none (.mov (.lit (.bool false))) (some (.o (.o .h)))
    .nil))
  .ret)
  .skip))
  (.seq (.region (.cons none (.callF 14 .nil) none
    (.cons none (.mov (.loc 0)) none
    (.cons none (.extract 0 (.loc 0)) none
    (.cons none (.extract 1 (.loc 1)) none
    (.cons none (.extract 2 (.loc 2)) none
    (.cons none (.alloc (.cons (.int 3 0) (.cons (.int 3 0) .nil)) 2) (some (.i (.i .h)))
    (.cons none (.mov (.loc 3)) (some (.i (.o .h)))
    (.cons none (.mov (.loc 3)) (some (.o (.i .h)))
    (.cons none (.store 2 (.loc 2) (.loc 3)) none
    .nil))))))))))
  (.seq (.region (.cons none (.mov (.var (.i (.o .h)))) none
    (.cons none (.callF 48 (.cons (.loc 0) (.cons (.lit (.int 3 6)) (.cons (.lit (.str 0 0)) .nil)))) none
    (.cons none (.alloc (.cons (.int 3 0) (.cons (.int 3 0) .nil)) 2) (some (.o (.o (.o .h))))
    (.cons none (.store 2 (.loc 0) (.loc 1)) none
    .nil)))))
  (.seq (.draw (.cons none (.mov (.var (.o (.i .h)))) none (.light 0)
    (.cons none (.callF 29 (.cons (.loc 0) .nil)) none .heavy
    (.cons none (.loadN 2 (.var (.i (.i .h)))) none (.light 1)
    (.cons none (.loadN 2 (.var (.o (.o (.o .h))))) none (.light 1)
    (.cons none (.buildSlice (.cons (.int 3 0) (.cons (.int 3 0) .nil)) 6 3 (.cons 0 2 (.loc 1) (.cons 2 2 (.loc 0) (.cons 4 2 (.loc 2) .nil)))) none .float
    (.cons none (.mov (.loc 0)) (some (.i (.o (.o .h)))) (.light 0)
    .nil)))))) 1)
  (.seq (.seq (.region (.cons none (.mov (.lit (.int 3 0))) (some (.o (.i (.o .h))))
    .nil))
  (.block 0 (.loop (.seq (.seq (.region (.cons none (.mov (.var (.o (.i (.o .h))))) none
    (.cons none (.mov (.var (.o .h))) none
    (.cons none (.lenSl (.loc 0)) none
    (.cons none (.cmp .lss (.loc 2) (.loc 0)) none
    (.cons none (.mov (.loc 0)) none
    (.cons (some (0, true)) (.mov (.var (.o (.i (.o .h))))) none
    (.cons (some (1, true)) (.cmp .lss (.loc 0) (.lit (.int 3 100))) none
    (.cons none (.pick (.loc 2) (.loc 0) (.lit (.bool false))) (some (.o (.o (.o (.i (.o .h))))))
    .nil)))))))))
  (.cond (.var (.o (.o (.o (.i (.o .h)))))) .skip
  (.exit 0)))
  (.seq (.block 1 (.seq (.region (.cons none (.mov (.var (.o .h))) none
    (.cons none (.mov (.var (.o (.i (.o .h))))) none
    (.cons none (.idxSl 3 (.loc 1) (.loc 0)) none
    (.cons none (.loadN 3 (.loc 0)) none
    (.cons none (.alloc (.cons (.int 4 0) (.cons (.int 4 0) (.cons (.int 4 0) .nil))) 3) (some (.i (.i (.o .h))))
    (.cons none (.store 3 (.loc 0) (.loc 1)) none
    .nil)))))))
  (.seq (.seq (.region (.cons none (.fieldAddr 0 (.var (.i (.i (.o .h))))) none
    (.cons none (.load1 (.loc 0)) none
    (.cons none (.arith .rem 4 (.loc 0) (.lit (.int 4 9))) (some (.i (.o (.o (.o (.i .h))))))
    .nil))))
  (.block 2 (.seq (.seq (.region (.cons none (.cmp .eql (.var (.i (.o (.o (.o (.i .h)))))) (.lit (.int 4 0))) none
    (.cons none (.mov (.loc 0)) (some (.o (.i (.o (.o (.i .h))))))
    .nil)))
  (.cond (.var (.o (.i (.o (.o (.i .h)))))) .skip
  (.seq (.region (.cons none (.cmp .eql (.var (.i (.o (.o (.o (.i .h)))))) (.lit (.int 4 1))) none
    (.cons none (.mov (.loc 0)) (some (.o (.i (.o (.o (.i .h))))))
    .nil)))
  (.cond (.var (.o (.i (.o (.o (.i .h)))))) .skip
  (.region (.cons none (.cmp .eql (.var (.i (.o (.o (.o (.i .h)))))) (.lit (.int 4 2))) none
    (.cons none (.mov (.loc 0)) (some (.o (.i (.o (.o (.i .h))))))
    .nil)))))))
  (.cond (.var (.o (.i (.o (.o (.i .h)))))) (.seq (.region (.cons none (.mov (.var (.i (.o .h)))) none
    (.cons none (.loadN 2 (.var (.i (.i .h)))) none
    (.cons none (.loadN 2 (.var (.o (.o (.o .h))))) none
    (.cons none (.fieldAddr 1 (.var (.i (.i (.o .h))))) none
    (.cons none (.load1 (.loc 0)) none
    (.cons none (.callF 52 (.cons (.loc 4) (.cons (.loc 3) (.cons (.loc 2) (.cons (.loc 0) .nil))))) none
    (.cons none (.alloc (.cons (.int 3 0) (.cons (.int 3 0) .nil)) 2) (some (.o (.o (.i .h))))
    (.cons none (.store 2 (.loc 0) (.loc 1)) none
    .nil)))))))))
  (.seq (.region (.cons none (.mov (.var (.o (.i .h)))) none
    (.cons none (.loadN 2 (.var (.o (.o (.i .h))))) none
    (.cons none (.callF 15 (.cons (.loc 1) (.cons (.loc 0) .nil))) none
    (.cons none (.cmp .neq (.loc 0) (.lit (.int 3 0))) (some (.i (.i (.i (.i (.i .h))))))
    .nil)))))
  (.cond (.var (.i (.i (.i (.i (.i .h)))))) (.region (.cons none (.mov (.var (.i (.o .h)))) none
    (.cons none (.loadN 2 (.var (.o (.o (.i .h))))) none
    (.cons none (.callF 38 (.cons (.loc 1) (.cons (.loc 0) .nil))) none
    .nil))))
  .skip)))
  (.seq (.region (.cons none (.cmp .eql (.var (.i (.o (.o (.o (.i .h)))))) (.lit (.int 4 3))) none
    (.cons none (.mov (.loc 0)) (some (.i (.i (.o (.o (.o (.o .h)))))))
    .nil)))
  (.cond (.var (.i (.i (.o (.o (.o (.o .h))))))) (.seq (.region (.cons none (.mov (.var (.o (.i .h)))) none
    (.cons none (.callF 33 (.cons (.loc 0) .nil)) none
    (.cons none (.mov (.loc 0)) none
    (.cons none (.extract 0 (.loc 0)) none
    (.cons none (.extract 1 (.loc 1)) none
    (.cons none (.alloc (.cons (.int 3 0) (.cons (.int 3 0) .nil)) 2) (some (.i (.o (.i .h))))
    (.cons none (.store 2 (.loc 0) (.loc 2)) none
    (.cons none (.mov (.loc 2)) (some (.o (.i (.i .h))))
    .nil)))))))))
  (.seq (.region (.cons none (.mov (.var (.o (.i (.i .h))))) none
    (.cons none (.cmp .eql (.loc 0) (.lit (.int 3 0))) (some (.i (.i (.o (.i (.o (.o .h)))))))
    .nil)))
  (.cond (.var (.i (.i (.o (.i (.o (.o .h))))))) (.region (.cons none (.mov (.var (.i (.o .h)))) none
    (.cons none (.loadN 2 (.var (.i (.o (.i .h))))) none
    (.cons none (.callF 38 (.cons (.loc 1) (.cons (.loc 0) .nil))) none
    .nil))))
  .skip)))
  (.seq (.region (.cons none (.cmp .eql (.var (.i (.o (.o (.o (.i .h)))))) (.lit (.int 4 4))) none
    (.cons none (.mov (.loc 0)) (some (.i (.i (.i (.i (.o (.o .h)))))))
    .nil)))
  (.cond (.var (.i (.i (.i (.i (.o (.o .h))))))) (.region (.cons none (.mov (.var (.o (.i .h)))) none
    (.cons none (.fieldAddr 1 (.var (.i (.i (.o .h))))) none
    (.cons none (.load1 (.loc 0)) none
    (.cons none (.arith .rem 4 (.loc 0) (.lit (.int 4 8))) none
    (.cons none (.convInt 3 (.loc 0)) none
    (.cons none (.callF 32 (.cons (.loc 4) (.cons (.loc 0) .nil))) none
    .nil)))))))
  (.seq (.region (.cons none (.cmp .eql (.var (.i (.o (.o (.o (.i .h)))))) (.lit (.int 4 5))) none
    (.cons none (.mov (.loc 0)) (some (.i (.i (.i (.o (.i (.o .h)))))))
    .nil)))
  (.cond (.var (.i (.i (.i (.o (.i (.o .h))))))) (.region (.cons none (.mov (.var (.o (.i .h)))) none
    (.cons none (.fieldAddr 1 (.var (.i (.i (.o .h))))) none
    (.cons none (.load1 (.loc 0)) none
    (.cons none (.arith .rem 4 (.loc 0) (.lit (.int 4 4))) none
    (.cons none (.convInt 3 (.loc 0)) none
    (.cons none (.fieldAddr 2 (.var (.i (.i (.o .h))))) none
    (.cons none (.load1 (.loc 0)) none
    (.cons none (.arith .rem 4 (.loc 0) (.lit (.int 4 5))) none
    (.cons none (.convInt 3 (.loc 0)) none
    (.cons none (.callF 19 (.cons (.loc 8) (.cons (.loc 4) (.cons (.loc 0) .nil)))) none
    .nil)))))))))))
  (.seq (.region (.cons none (.cmp .eql (.var (.i (.o (.o (.o (.i .h)))))) (.lit (.int 4 6))) none
    (.cons none (.mov (.loc 0)) (some (.i (.i (.o (.o (.o (.i .h)))))))
    .nil)))
  (.cond (.var (.i (.i (.o (.o (.o (.i .h))))))) (.region (.cons none (.mov (.var (.o (.i .h)))) none
    (.cons none (.callF 28 (.cons (.loc 0) .nil)) none
    .nil)))
  (.seq (.region (.cons none (.cmp .eql (.var (.i (.o (.o (.o (.i .h)))))) (.lit (.int 4 7))) none
    (.cons none (.mov (.loc 0)) (some (.i (.i (.i (.o (.o (.i .h)))))))
    .nil)))
  (.cond (.var (.i (.i (.i (.o (.o (.i .h))))))) (.region (.cons none (.mov (.var (.o (.i .h)))) none
    (.cons none (.fieldAddr 1 (.var (.i (.i (.o .h))))) none
    (.cons none (.load1 (.loc 0)) none
    (.cons none (.convInt 3 (.loc 0)) none
    (.cons none (.callF 17 (.cons (.loc 3) (.cons (.loc 0) .nil))) none
    .nil))))))
  (.seq (.region (.cons none (.cmp .eql (.var (.i (.o (.o (.o (.i .h)))))) (.lit (.int 4 8))) none
    (.cons none (.mov (.loc 0)) (some (.o (.i (.i (.i (.o (.i .h)))))))
    .nil)))
  (.cond (.var (.o (.i (.i (.i (.o (.i .h))))))) (.seq (.region (.cons none (.mov (.var (.i (.o .h)))) none
    (.cons none (.loadN 2 (.var (.i (.i .h)))) none
    (.cons none (.loadN 2 (.var (.o (.o (.o .h))))) none
    (.cons none (.fieldAddr 1 (.var (.i (.i (.o .h))))) none
    (.cons none (.load1 (.loc 0)) none
    (.cons none (.callF 52 (.cons (.loc 4) (.cons (.loc 3) (.cons (.loc 2) (.cons (.loc 0) .nil))))) none
    (.cons none (.alloc (.cons (.int 3 0) (.cons (.int 3 0) .nil)) 2) (some (.i (.i (.i .h))))
    (.cons none (.store 2 (.loc 0) (.loc 1)) none
    .nil)))))))))
  (.seq (.region (.cons none (.mov (.var (.o (.i .h)))) none
    (.cons none (.loadN 2 (.var (.i (.i (.i .h))))) none
    (.cons none (.callF 20 (.cons (.loc 1) (.cons (.loc 0) .nil))) none
    (.cons none (.mov (.loc 0)) none
    (.cons none (.extract 0 (.loc 0)) none
    (.cons none (.extract 1 (.loc 1)) none
    (.cons none (.mov (.loc 1)) none
    (.cons none (.mov (.loc 1)) (some (.i (.o (.o (.o .h)))))
    .nil)))))))))
  (.seq (.region (.cons none (.mov (.var (.i (.o (.o (.o .h)))))) none
    (.cons none (.cmp .neq (.loc 0) (.lit (.int 3 0))) (some (.i (.o (.i (.i (.i (.i .h)))))))
    .nil)))
  (.cond (.var (.i (.o (.i (.i (.i (.i .h))))))) (.region (.cons none (.mov (.var (.i (.o .h)))) none
    (.cons none (.loadN 2 (.var (.i (.i (.i .h))))) none
    (.cons none (.callF 38 (.cons (.loc 1) (.cons (.loc 0) .nil))) none
    .nil))))
  .skip))))
  .skip))))))))))))))))
  (.seq (.region (.cons none (.mov (.var (.i (.o .h)))) none
    (.cons none (.callF 53 (.cons (.loc 0) .nil)) none
    (.cons none (.alloc (.cons .nilslice .nil) 1) (some (.o (.i (.o (.o .h)))))
    (.cons none (.store 1 (.loc 0) (.loc 1)) none
    .nil)))))
  (.seq (.region (.cons none (.loadN 1 (.var (.o (.i (.o (.o .h)))))) none
    (.cons none (.callF 54 (.cons (.loc 0) .nil)) none
    (.cons none (.not (.loc 0)) none
    (.cons none (.mov (.loc 0)) none
    (.cons (some (0, false)) (.loadN 1 (.var (.o (.i (.o (.o .h)))))) none
    (.cons (some (1, false)) (.mov (.var (.i (.o (.o .h))))) none
    (.cons (some (2, false)) (.callF 55 (.cons (.loc 1) (.cons (.loc 0) .nil))) none
    (.cons (some (3, false)) (.lenSl (.loc 0)) none
    (.cons (some (4, false)) (.cmp .neq (.loc 0) (.lit (.int 3 0))) none
    (.cons none (.pick (.loc 5) (.lit (.bool true)) (.loc 0)) (some (.o (.o (.i (.i (.o (.o (.o .h))))))))
    .nil)))))))))))
  (.cond (.var (.o (.o (.i (.i (.o (.o (.o .h)))))))) (.seq (.region (.cons none (.mov (.lit (.bool false))) (some (.o (.o .h)))
    .nil))
  .ret)
  .skip))))))
  (.region (.cons none (.mov (.var (.o (.i (.o .h))))) none
    (.cons none (.arith .add 3 (.loc 0) (.lit (.int 3 1))) none
    (.cons none (.mov (.loc 0)) (some (.o (.i (.o .h))))
    .nil)))))))))
  (.seq (.region (.cons none (.mov (.lit (.bool true))) (some (.o (.o .h)))
    .nil))
  .ret))))))),
  [.tmp (.o (.o .h))], none⟩
theorem c9 : FnOk Try.prog 0 9 cf9 :=
  .of Try.func9 (n := 139) (by kernel_rfl) (far := fun t => Nat.testBit 348459777878219615943616430567294910185469 t) (by kernel_rfl)
def cf13 : CFunc := ⟨(.seq (.region (.cons none (.mov (.lit (.bool false))) (some (.o .h))
    .nil))
  (.seq (.region (.cons none (.callF 14 .nil) none
    (.cons none (.mov (.loc 0)) none
    (.cons none (.extract 0 (.loc 0)) none
    (.cons none (.extract 1 (.loc 1)) none
    (.cons none (.extract 2 (.loc 2)) none
    (.cons none (.alloc (.cons (.int 3 0) (.cons (.int 3 0) .nil)) 2) (some (.i (.o .h)))
    (.cons none (.mov (.loc 3)) (some (.i .h))
    (.cons none (.mov (.loc 3)) (some (.o (.o .h)))
    (.cons none (.store 2 (.loc 2) (.loc 3)) none
    .nil))))))))))
  (.seq (.region (.cons none (.mov (.var (.o (.o .h)))) none
    (.cons none (.callF 16 (.cons (.lit (.int 3 7)) .nil)) none
    (.cons none (.callF 15 (.cons (.loc 1) (.cons (.loc 0) .nil))) none
    (.cons none (.mov (.loc 0)) (some (.o (.i .h)))
    .nil)))))
  (.seq (.region (.cons none (.mov (.var (.o (.o .h)))) none
    (.cons none (.loadN 2 (.var (.i (.o .h)))) none
    (.cons none (.callF 15 (.cons (.loc 1) (.cons (.loc 0) .nil))) none
    (.cons none (.mov (.loc 0)) (some (.i (.i .h)))
    .nil)))))
  (.seq (.region (.cons none (.mov (.var (.o (.o .h)))) none
    (.cons none (.callF 16 (.cons (.lit (.int 3 8)) .nil)) none
    (.cons none (.callF 15 (.cons (.loc 1) (.cons (.loc 0) .nil))) none
    (.cons none (.mov (.loc 0)) (some (.o (.o (.o .h))))
    .nil)))))
  (.seq (.region (.cons none (.mov (.var (.o (.o .h)))) none
    (.cons none (.callF 19 (.cons (.loc 0) (.cons (.lit (.int 3 1)) (.cons (.lit (.int 3 2)) .nil)))) none
    (.cons none (.mov (.loc 0)) (some (.i (.o (.o .h))))
    .nil))))
  (.seq (.region (.cons none (.mov (.var (.o (.o .h)))) none
    (.cons none (.callF 24 (.cons (.loc 0) .nil)) none
    (.cons none (.mov (.loc 0)) (some (.o (.i (.o .h))))
    .nil))))
  (.seq (.seq (.region (.cons none (.mov (.var (.o (.i .h)))) none
    (.cons none (.cmp .neq (.loc 0) (.lit (.int 3 0))) none
    (.cons none (.mov (.loc 0)) none
    (.cons (some (0, false)) (.mov (.var (.i (.i .h)))) none
    (.cons (some (1, false)) (.cmp .neq (.loc 0) (.lit (.int 3 0))) none
    (.cons none (.pick (.loc 2) (.lit (.bool true)) (.loc 0)) none
    (.cons none (.mov (.loc 0)) none
    (.cons (some (0, false)) (.mov (.var (.o (.o (.o .h))))) none
    (.cons (some (1, false)) (.cmp .neq (.loc 0) (.lit (.int 3 0))) none
    (.cons none (.pick (.loc 2) (.lit (.bool true)) (.loc 0)) none
    (.cons none (.mov (.loc 0)) none
    (.cons (some (0, false)) (.mov (.var (.i (.o (.o .h))))) none
    (.cons (some (1, false)) (.cmp .neq (.loc 0) (.lit (.int 3 0))) none
    (.cons none (.pick (.loc 2) (.lit (.bool true)) (.loc 0)) none
    (.cons none (.mov (.loc 0)) none
    (.cons (some (0, false)) (.mov (.var (.o (.o .h)))) none
    (.cons (some (1, false)) (.callF 21 (.cons (.loc 0) .nil)) none
    (.cons (some (2, false)) (.cmp .neq (.loc 0) (.lit (.int 3 2))) none
    (.cons none (.pick (.loc 3) (.lit (.bool true)) (.loc 0)) none
    (.cons none (.mov (.loc 0)) none
    (.cons (some (0, false)) (.mov (.var (.o (.o .h)))) none
    (.cons (some (1, false)) (.callF 22 (.cons (.loc 0) (.cons (.lit (.int 3 0)) .nil))) none
    (.cons (some (2, false)) (.callF 16 (.cons (.lit (.int 3 8)) .nil)) none
    (.cons (some (3, false)) (.eq (.flat [.int, .int]) true (.loc 1) (.loc 0)) none
    (.cons none (.pick (.loc 4) (.lit (.bool true)) (.loc 0)) none
    (.cons none (.mov (.loc 0)) none
    (.cons (some (0, false)) (.mov (.var (.o (.o .h)))) none
    (.cons (some (1, false)) (.callF 22 (.cons (.loc 0) (.cons (.lit (.int 3 1)) .nil))) none
    (.cons (some (2, false)) (.callF 27 .nil) none
    (.cons (some (3, false)) (.eq (.flat [.int, .int]) true (.loc 1) (.loc 0)) none
    (.cons none (.pick (.loc 4) (.lit (.bool true)) (.loc 0)) none
    (.cons none (.mov (.loc 0)) none
    (.cons (some (0, false)) (.mov (.var (.o (.i (.o .h))))) none
    (.cons (some (1, false)) (.lenSl (.loc 0)) none
    (.cons (some (2, false)) (.cmp .neq (.loc 0) (.lit (.int 3 2))) none
    (.cons none (.pick (.loc 3) (.lit (.bool true)) (.loc 0)) none
    (.cons none (.mov (.loc 0)) none
    (.cons (some (0, false)) (.mov (.var (.o (.i (.o .h))))) none
    (.cons (some (1, false)) (.idxSl 3 (.loc 0) (.lit (.int 3 1))) none
    (.cons (some (2, false)) (.fieldAddr 0 (.loc 0)) none
    (.cons (some (3, false)) (.load1 (.loc 0)) none
    (.cons (some (4, false)) (.cmp .neq (.loc 0) (.lit (.int 3 2))) none
    (.cons none (.pick (.loc 5) (.lit (.bool true)) (.loc 0)) (some (.o (.o (.i (.i (.o (.o .h)))))))
    .nil))))))))))))))))))))))))))))))))))))))))))))
  (.cond (.var (.o (.o (.i (.i (.o (.o .h))))))) (.seq (.region (.cons none (.mov (.lit (.bool false))) (some (.o .h))
    .nil))
  .ret)
  .skip))
  (.seq (.region (.cons none (.mov (.var (.o (.o .h)))) none
    (.cons none (.callF 16 (.cons (.lit (.int 3 9)) .nil)) none
    (.cons none (.callF 15 (.cons (.loc 1) (.cons (.loc 0) .nil))) none
    .nil))))
  (.seq (.region (.cons none (.mov (.var (.o (.o .h)))) none
    (.cons none (.callF 28 (.cons (.loc 0) .nil)) none
    (.cons none (.mov (.loc 0)) none
    (.cons none (.extract 0 (.loc 0)) none
    (.cons none (.extract 1 (.loc 1)) none
    (.cons none (.mov (.loc 1)) (some (.i (.i (.o .h))))
    (.cons none (.mov (.loc 1)) (some (.o (.o (.i .h))))
    .nil))))))))
  (.seq (.seq (.region (.cons none (.mov (.var (.i (.i (.o .h))))) none
    (.cons none (.mov (.loc 0)) none
    (.cons (some (0, false)) (.mov (.var (.o (.o (.i .h))))) none
    (.cons (some (1, false)) (.cmp .neq (.loc 0) (.lit (.int 3 0))) none
    (.cons none (.pick (.loc 2) (.lit (.bool true)) (.loc 0)) none
    (.cons none (.mov (.loc 0)) none
    (.cons (some (0, false)) (.mov (.var (.o (.o .h)))) none
    (.cons (some (1, false)) (.callF 21 (.cons (.loc 0) .nil)) none
    (.cons (some (2, false)) (.cmp .neq (.loc 0) (.lit (.int 3 2))) none
    (.cons none (.pick (.loc 3) (.lit (.bool true)) (.loc 0)) none
    (.cons none (.mov (.loc 0)) none
    (.cons (some (0, false)) (.mov (.var (.o (.o .h)))) none
    (.cons (some (1, false)) (.callF 22 (.cons (.loc 0) (.cons (.lit (.int 3 1)) .nil))) none
    (.cons (some (2, false)) (.callF 16 (.cons (.lit (.int 3 9)) .nil)) none
    (.cons (some (3, false)) (.eq (.flat [.int, .int]) true (.loc 1) (.loc 0)) none
    (.cons none (.pick (.loc 4) (.lit (.bool true)) (.loc 0)) (some (.o (.o (.i (.o (.o (.i .h)))))))
    .nil)))))))))))))))))
  (.cond (.var (.o (.o (.i (.o (.o (.i .h))))))) (.seq (.region (.cons none (.mov (.lit (.bool false))) (some (.o .h))
    .nil))
  .ret)
  .skip))
  (.seq (.region (.cons none (.mov (.var (.o (.o .h)))) none
    (.cons none (.callF 17 (.cons (.loc 0) (.cons (.lit (.int 3 5)) .nil))) none
    .nil)))
  (.seq (.region (.cons none (.mov (.var (.o (.o .h)))) none
    (.cons none (.callF 16 (.cons (.lit (.int 3 1)) .nil)) none
    (.cons none (.callF 15 (.cons (.loc 1) (.cons (.loc 0) .nil))) none
    .nil))))
  (.seq (.region (.cons none (.mov (.var (.o (.o .h)))) none
    (.cons none (.callF 16 (.cons (.lit (.int 3 3)) .nil)) none
    (.cons none (.callF 20 (.cons (.loc 1) (.cons (.loc 0) .nil))) none
    (.cons none (.mov (.loc 0)) none
    (.cons none (.extract 0 (.loc 0)) none
    (.cons none (.extract 1 (.loc 1)) none
    (.cons none (.mov (.loc 1)) (some (.i (.o (.i .h))))
    (.cons none (.mov (.loc 1)) (some (.o (.i (.i .h))))
    .nil)))))))))
  (.seq (.seq (.region (.cons none (.mov (.var (.i (.o (.i .h))))) none
    (.cons none (.not (.loc 0)) none
    (.cons none (.mov (.loc 0)) none
    (.cons (some (0, false)) (.mov (.var (.o (.i (.i .h))))) none
    (.cons (some (1, false)) (.cmp .neq (.loc 0) (.lit (.int 3 0))) none
    (.cons none (.pick (.loc 2) (.lit (.bool true)) (.loc 0)) none
    (.cons none (.mov (.loc 0)) none
    (.cons (some (0, false)) (.mov (.var (.o (.o .h)))) none
    (.cons (some (1, false)) (.callF 21 (.cons (.loc 0) .nil)) none
    (.cons (some (2, false)) (.cmp .neq (.loc 0) (.lit (.int 3 3))) none
    (.cons none (.pick (.loc 3) (.lit (.bool true)) (.loc 0)) none
    (.cons none (.mov (.loc 0)) none
    (.cons (some (0, false)) (.mov (.var (.o (.o .h)))) none
    (.cons (some (1, false)) (.callF 22 (.cons (.loc 0) (.cons (.lit (.int 3 2)) .nil))) none
    (.cons (some (2, false)) (.callF 16 (.cons (.lit (.int 3 3)) .nil)) none
    (.cons (some (3, false)) (.eq (.flat [.int, .int]) true (.loc 1) (.loc 0)) none
    (.cons none (.pick (.loc 4) (.lit (.bool true)) (.loc 0)) none
    (.cons none (.mov (.loc 0)) none
    (.cons (some (0, false)) (.mov (.var (.o (.o .h)))) none
    (.cons (some (1, false)) (.callF 23 (.cons (.loc 0) .nil)) none
    (.cons (some (2, false)) (.cmp .neq (.loc 0) (.lit (.int 3 5))) none
    (.cons none (.pick (.loc 3) (.lit (.bool true)) (.loc 0)) (some (.i (.o (.i (.o (.o (.o (.o .h))))))))
    .nil)))))))))))))))))))))))
  (.cond (.var (.i (.o (.i (.o (.o (.o (.o .h)))))))) (.seq (.region (.cons none (.mov (.lit (.bool false))) (some (.o .h))
    .nil))
  .ret)
  .skip))
  (.seq (.region (.cons none (.mov (.var (.o (.o .h)))) none
    (.cons none (.callF 16 (.cons (.lit (.int 3 4)) .nil)) none
    (.cons none (.callF 20 (.cons (.loc 1) (.cons (.loc 0) .nil))) none
    (.cons none (.mov (.loc 0)) none
    (.cons none (.extract 0 (.loc 0)) none
    (.cons none (.extract 1 (.loc 1)) none
    (.cons none (.mov (.loc 1)) (some (.i (.o (.i .h))))
    (.cons none (.mov (.loc 1)) (some (.o (.i (.i .h))))
    .nil)))))))))
  (.seq (.region (.cons none (.mov (.var (.i .h))) none
    (.cons none (.callF 25 (.cons (.loc 0) (.cons (.lit (.int 3 2)) .nil))) none
    (.cons none (.alloc (.cons (.int 3 0) (.cons (.int 3 0) (.cons .nilslice (.cons (.str 0 0) (.cons (.int 3 0) .nil))))) 5) (some (.i (.i (.i .h))))
    (.cons none (.store 5 (.loc 0) (.loc 1)) none
    .nil)))))
  (.seq (.draw (.cons none (.mov (.var (.i (.o (.i .h))))) none (.light 0)
    (.cons none (.not (.loc 0)) none (.light 0)
    (.cons none (.mov (.loc 0)) none (.light 0)
    (.cons (some (0, true)) (.mov (.var (.o (.i (.i .h))))) none (.light 0)
    (.cons (some (1, true)) (.cmp .eql (.loc 0) (.lit (.int 3 0))) none (.light 0)
    (.cons none (.pick (.loc 2) (.loc 0) (.lit (.bool false))) none (.light 0)
    (.cons none (.mov (.loc 0)) none (.light 0)
    (.cons (some (0, true)) (.mov (.var (.o (.o .h)))) none (.light 0)
    (.cons (some (1, true)) (.callF 24 (.cons (.loc 0) .nil)) none .heavy
    (.cons (some (2, true)) (.lenSl (.loc 0)) none (.light 0)
    (.cons (some (3, true)) (.cmp .eql (.loc 0) (.lit (.int 3 0))) none (.light 0)
    (.cons none (.pick (.loc 4) (.loc 0) (.lit (.bool false))) none (.light 0)
    (.cons none (.mov (.loc 0)) none (.light 0)
    (.cons (some (0, true)) (.fieldAddr 2 (.var (.i (.i (.i .h))))) none (.light 0)
    (.cons (some (1, true)) (.load1 (.loc 0)) none (.light 0)
    (.cons (some (2, true)) (.lenSl (.loc 0)) none (.light 0)
    (.cons (some (3, true)) (.cmp .eql (.loc 0) (.lit (.int 3 1))) none (.light 0)
    (.cons none (.pick (.loc 4) (.loc 0) (.lit (.bool false))) none (.light 0)
    (.cons none (.mov (.loc 0)) none (.light 0)
    (.cons (some (0, true)) (.callF 16 (.cons (.lit (.int 3 4)) .nil)) none .heavy
    (.cons (some (1, true)) (.fieldAddr 2 (.var (.i (.i (.i .h))))) none (.light 1)
    (.cons (some (2, true)) (.load1 (.loc 0)) none (.light 1)
    (.cons (some (3, true)) (.idxSl 2 (.loc 0) (.lit (.int 3 0))) none (.light 1)
    (.cons (some (4, true)) (.loadN 2 (.loc 0)) none (.light 1)
    (.cons (some (5, true)) (.eq (.flat [.int, .int]) false (.loc 0) (.loc 4)) none (.light 0)
    (.cons none (.pick (.loc 6) (.loc 0) (.lit (.bool false))) none (.light 0)
    (.cons none (.mov (.loc 0)) (some (.o .h)) (.light 0)
    .nil))))))))))))))))))))))))))) 0)
  .ret)))))))))))))))))),
  [.tmp (.o .h)], none⟩
theorem c13 : FnOk Try.prog 0 13 cf13 :=
  .of Try.func13 (n := 166) (by kernel_rfl) (far := fun t => Nat.testBit 2722258935684420376653520141306902364159 t) (by kernel_rfl)
def cf14 : CFunc := ⟨(.seq (.region (.cons none (.mov (.lit .nilptr)) (some (.o .h))
    (.cons none (.mov (.lit .nilptr)) (some (.i .h))
    (.cons none (.alloc (.cons (.int 3 0) (.cons (.int 3 0) .nil)) 2) (some (.o (.o .h)))
    .nil))))
  (.seq (.region (.cons none (.callF 40 .nil) none
    (.cons none (.mov (.loc 0)) (some (.i (.o .h)))
    .nil)))
  (.seq (.region (.cons none (.mov (.var (.i (.o .h)))) none
    (.cons none (.callF 48 (.cons (.loc 0) (.cons (.lit (.int 3 7)) (.cons (.lit (.str 0 0)) .nil)))) none
    (.cons none (.alloc (.cons (.int 3 0) (.cons (.int 3 0) .nil)) 2) (some (.o (.i .h)))
    (.cons none (.store 2 (.loc 0) (.loc 1)) none
    .nil)))))
  (.seq (.region (.cons none (.mov (.var (.i (.o .h)))) none
    (.cons none (.loadN 2 (.var (.o (.i .h)))) none
    (.cons none (.callF 18 (.cons (.loc 1) (.cons (.loc 0) .nil))) none
    .nil))))
  (.seq (.region (.cons none (.mov (.var (.i (.o .h)))) none
    (.cons none (.loadN 2 (.var (.o (.i .h)))) none
    (.cons none (.callF 31 (.cons (.loc 1) (.cons (.loc 0) .nil))) none
    (.cons none (.mov (.loc 0)) none
    (.cons none (.extract 0 (.loc 0)) none
    (.cons none (.extract 1 (.loc 1)) none
    (.cons none (.mov (.loc 1)) (some (.i (.i .h)))
    (.cons none (.mov (.loc 1)) none
    .nil)))))))))
  (.seq (.draw (.cons none (.mov (.var (.i (.o .h)))) none (.light 0)
    (.cons none (.mov (.var (.i (.i .h)))) none (.light 0)
    (.cons none (.loadN 2 (.var (.o (.i .h)))) none (.light 0)
    (.cons none (.mov (.loc 2)) (some (.o .h)) (.light 0)
    (.cons none (.mov (.loc 2)) (some (.i .h)) (.light 0)
    (.cons none (.store 2 (.var (.o (.o .h))) (.loc 2)) none .heavy
    .nil)))))) 0)
  .ret)))))),
  [.tmp (.o .h), .tmp (.i .h), .cellN (.o (.o .h)) 2], none⟩
theorem c14 : FnOk Try.prog 0 14 cf14 :=
  .of Try.func14 (n := 22) (by kernel_rfl) (far := fun t => Nat.testBit 63 t) (by kernel_rfl)
def cf15 : CFunc := ⟨(.seq (.region (.cons none (.box (.var (.i .h))) (some (.i (.o .h)))
    (.cons none (.mov (.lit (.int 3 0))) (some (.o (.i .h)))
    .nil)))
  (.seq (.seq (.region (.cons none (.mov (.var (.o .h))) none
    (.cons none (.callF 67 (.cons (.loc 0) .nil)) none
    (.cons none (.mov (.loc 0)) (some (.i (.i .h)))
    .nil))))
  (.seq (.region (.cons none (.mov (.var (.i (.i .h)))) none
    (.cons none (.cmp .neq (.loc 0) (.lit (.int 3 0))) (some (.i (.i (.o .h))))
    .nil)))
  (.cond (.var (.i (.i (.o .h)))) (.seq (.region (.cons none (.mov (.var (.i (.i .h)))) none
    (.cons none (.mov (.loc 0)) (some (.o (.i .h)))
    .nil)))
  .ret)
  .skip)))
  (.seq (.seq (.region (.cons none (.mov (.var (.o .h))) none
    (.cons none (.callF 21 (.cons (.loc 0) .nil)) none
    (.cons none (.cmp .geq (.loc 0) (.lit (.int 3 250))) (some (.i (.i (.i .h))))
    .nil))))
  (.cond (.var (.i (.i (.i .h)))) (.seq (.region (.cons none (.mov (.lit (.int 3 3))) (some (.o (.i .h)))
    .nil))
  .ret)
  .skip))
  (.seq (.draw (.cons none (.mov (.var (.o .h))) none (.light 0)
    (.cons none (.callF 69 (.cons (.loc 0) .nil)) none .heavy
    (.cons none (.mov (.var (.o .h))) none (.light 1)
    (.cons none (.nilCheck (.loc 0)) none (.light 1)
    (.cons none (.fieldAddr 0 (.loc 0)) none (.light 1)
    (.cons none (.load1 (.loc 0)) none (.light 1)
    (.cons none (.loadN 2 (.var (.i (.o .h)))) none (.light 1)
    (.cons none (.callF 68 (.cons (.loc 1) (.cons (.loc 5) (.cons (.loc 0) .nil)))) none .heavy
    (.cons none (.mov (.loc 0)) (some (.o (.i .h))) (.light 0)
    .nil))))))))) 0)
  .ret)))),
  [.tmp (.o (.i .h))], none⟩
theorem c15 : FnOk Try.prog 0 15 cf15 :=
  .of Try.func15 (n := 22) (by kernel_rfl) (far := fun t => Nat.testBit 8763 t) (by kernel_rfl)
def cf16 : CFunc := ⟨(.seq (.region (.cons none (.alloc (.cons (.int 3 0) (.cons (.int 3 0) .nil)) 2) (some (.o (.o .h)))
    .nil))
  (.seq (.region (.cons none (.mov (.var (.o .h))) none
    (.cons none (.build (.cons (.int 3 0) (.cons (.int 3 0) .nil)) (.cons 0 1 (.lit (.int 3 3)) (.cons 1 1 (.loc 0) .nil))) none
    (.cons none (.store 2 (.var (.o (.o .h))) (.loc 0)) none
    .nil))))
  .ret)),
  [.cellN (.o (.o .h)) 2], none⟩
theorem c16 : FnOk Try.prog 0 16 cf16 :=
  .of Try.func16 (n := 5) (by kernel_rfl) (far := fun t => Nat.testBit 5 t) (by kernel_rfl)
def cf17 : CFunc := ⟨(.seq (.region (.cons none (.mov (.lit (.int 3 0))) (some (.o (.i .h)))
    .nil))
  (.seq (.seq (.region (.cons none (.mov (.var (.o .h))) none
    (.cons none (.callF 67 (.cons (.loc 0) .nil)) none
    (.cons none (.mov (.loc 0)) (some (.i (.i .h)))
    .nil))))
  (.seq (.region (.cons none (.mov (.var (.i (.i .h)))) none
    (.cons none (.cmp .neq (.loc 0) (.lit (.int 3 0))) (some (.o (.o (.i .h))))
    .nil)))
  (.cond (.var (.o (.o (.i .h)))) (.seq (.region (.cons none (.mov (.var (.i (.i .h)))) none
    (.cons none (.mov (.loc 0)) (some (.o (.i .h)))
    .nil)))
  .ret)
  .skip)))
  (.seq (.seq (.region (.cons none (.mov (.var (.i .h))) none
    (.cons none (.cmp .lss (.loc 0) (.lit (.int 3 0))) (some (.i (.i (.i .h))))
    .nil)))
  (.cond (.var (.i (.i (.i .h)))) (.seq (.region (.cons none (.mov (.lit (.int 3 2))) (some (.o (.i .h)))
    .nil))
  .ret)
  .skip))
  (.seq (.region (.cons none (.mov (.var (.o .h))) none
    (.cons none (.callF 70 (.cons (.loc 0) .nil)) none
    (.cons none (.mov (.loc 0)) (some (.o (.o (.o .h))))
    .nil))))
  (.seq (.draw (.cons none (.mov (.var (.o .h))) none (.light 0)
    (.cons none (.callF 21 (.cons (.loc 0) .nil)) none .heavy
    (.cons none (.mov (.var (.o (.o (.o .h))))) none (.light 1)
    (.cons none (.nilCheck (.loc 0)) none (.light 1)
    (.cons none (.fieldAddr 2 (.loc 0)) none (.light 1)
    (.cons none (.load1 (.loc 0)) none (.light 1)
    (.cons none (.mov (.var (.i .h))) none (.light 1)
    (.cons none (.build (.cons (.int 3 0) (.cons (.int 3 0) .nil)) (.cons 0 1 (.loc 5) (.cons 1 1 (.loc 0) .nil))) none (.light 0)
    (.cons none (.buildSlice (.cons (.int 3 0) (.cons (.int 3 0) .nil)) 2 1 (.cons 0 2 (.loc 0) .nil)) none .float
    (.cons none (.append (.cons (.int 3 0) (.cons (.int 3 0) .nil)) 2 (.loc 3) (.loc 0)) none .heavy
    (.cons none (.mov (.var (.o (.o (.o .h))))) none (.light 2)
    (.cons none (.nilCheck (.loc 0)) none (.light 0)
    (.cons none (.fieldAddr 2 (.loc 0)) none (.light 0)
    (.cons none (.store 1 (.loc 0) (.loc 3)) none .heavy
    .nil)))))))))))))) 1)
  (.seq (.region (.cons none (.mov (.lit (.int 3 0))) (some (.o (.i .h)))
    .nil))
  .ret)))))),
  [.tmp (.o (.i .h))], none⟩
theorem c17 : FnOk Try.prog 0 17 cf17 :=
  .of Try.func17 (n := 29) (by kernel_rfl) (far := fun t => Nat.testBit 9331 t) (by kernel_rfl)
def cf18 : CFunc := ⟨(.seq (.region (.cons none (.box (.var (.i .h))) (some (.i (.o .h)))
    (.cons none (.mov (.lit (.int 3 0))) (some (.o (.i .h)))
    .nil)))
  (.seq (.region (.cons none (.mov (.var (.o .h))) none
    (.cons none (.loadN 2 (.var (.i (.o .h)))) none
    (.cons none (.callF 71 (.cons (.loc 1) (.cons (.loc 0) .nil))) none
    (.cons none (.mov (.loc 0)) none
    (.cons none (.extract 0 (.loc 0)) none
    (.cons none (.extract 1 (.loc 1)) none
    (.cons none (.mov (.loc 1)) (some (.i (.i .h)))
    (.cons none (.mov (.loc 1)) (some (.o (.o (.o .h))))
    .nil)))))))))
  (.seq (.seq (.region (.cons none (.mov (.var (.i (.i .h)))) none
    (.cons none (.eq .ptr true (.loc 0) (.lit .nilptr)) (some (.o (.o (.o (.o .h)))))
    .nil)))
  (.cond (.var (.o (.o (.o (.o .h))))) (.region (.cons none (.mov (.var (.i (.i .h)))) none
    (.cons none (.nilCheck (.loc 0)) none
    (.cons none (.fieldAddr 1 (.loc 0)) none
    (.cons none (.load1 (.loc 0)) none
    (.cons none (.arith .add 3 (.loc 0) (.lit (.int 3 1))) none
    (.cons none (.nilCheck (.loc 4)) none
    (.cons none (.fieldAddr 1 (.loc 0)) none
    (.cons none (.store 1 (.loc 0) (.loc 2)) none
    .nil)))))))))
  .skip))
  (.seq (.region (.cons none (.mov (.var (.o (.o (.o .h))))) none
    (.cons none (.mov (.loc 0)) (some (.o (.i .h)))
    .nil)))
  .ret)))),
  [.tmp (.o (.i .h))], none⟩
theorem c18 : FnOk Try.prog 0 18 cf18 :=
  .of Try.func18 (n := 23) (by kernel_rfl) (far := fun t => Nat.testBit 16507 t) (by kernel_rfl)
def cf19 : CFunc := ⟨(.seq (.region (.cons none (.mov (.lit (.int 3 0))) (some (.o (.o (.o .h))))
    .nil))
  (.seq (.seq (.region (.cons none (.mov (.var (.o .h))) none
    (.cons none (.callF 67 (.cons (.loc 0) .nil)) none
    (.cons none (.mov (.loc 0)) (some (.i (.o (.o .h))))
    .nil))))
  (.seq (.region (.cons none (.mov (.var (.i (.o (.o .h))))) none
    (.cons none (.cmp .neq (.loc 0) (.lit (.int 3 0))) (some (.i (.i (.i .h))))
    .nil)))
  (.cond (.var (.i (.i (.i .h)))) (.seq (.region (.cons none (.mov (.var (.i (.o (.o .h))))) none
    (.cons none (.mov (.loc 0)) (some (.o (.o (.o .h))))
    .nil)))
  .ret)
  .skip)))
  (.seq (.region (.cons none (.mov (.var (.o .h))) none
    (.cons none (.callF 21 (.cons (.loc 0) .nil)) none
    (.cons none (.mov (.loc 0)) (some (.o (.i (.o .h))))
    .nil))))
  (.seq (.block 0 (.seq (.region (.cons none (.mov (.var (.i .h))) none
    (.cons none (.cmp .lss (.loc 0) (.lit (.int 3 0))) none
    (.cons none (.mov (.loc 0)) none
    (.cons (some (0, false)) (.mov (.var (.i .h))) none
    (.cons (some (1, false)) (.mov (.var (.o (.i (.o .h))))) none
    (.cons (some (2, false)) (.cmp .geq (.loc 1) (.loc 0)) none
    (.cons none (.pick (.loc 3) (.lit (.bool true)) (.loc 0)) none
    (.cons none (.mov (.loc 0)) none
    (.cons (some (0, false)) (.mov (.var (.o (.o .h)))) none
    (.cons (some (1, false)) (.cmp .lss (.loc 0) (.lit (.int 3 0))) none
    (.cons none (.pick (.loc 2) (.lit (.bool true)) (.loc 0)) none
    (.cons none (.mov (.loc 0)) none
    (.cons (some (0, false)) (.mov (.var (.o (.o .h)))) none
    (.cons (some (1, false)) (.cmp .gtr (.loc 0) (.lit (.int 3 20))) none
    (.cons none (.pick (.loc 2) (.lit (.bool true)) (.loc 0)) none
    (.cons none (.mov (.loc 0)) (some (.i (.i (.o (.o .h)))))
    .nil)))))))))))))))))
  (.cond (.var (.i (.i (.o (.o .h))))) (.seq (.region (.cons none (.mov (.lit (.int 3 2))) (some (.o (.o (.o .h))))
    .nil))
  .ret)
  (.seq (.region (.cons none (.mov (.var (.o .h))) none
    (.cons none (.mov (.var (.o (.i (.o .h))))) none
    (.cons none (.arith .sub 3 (.loc 0) (.lit (.int 3 1))) none
    (.cons none (.mov (.var (.i .h))) none
    (.cons none (.arith .sub 3 (.loc 1) (.loc 0)) none
    (.cons none (.callF 22 (.cons (.loc 4) (.cons (.loc 0) .nil))) none
    (.cons none (.field1 0 (.loc 0)) none
    (.cons none (.cmp .neq (.loc 0) (.lit (.int 3 7))) none
    (.cons none (.mov (.loc 0)) (some (.i (.i (.o (.o (.o .h))))))
    .nil))))))))))
  (.cond (.var (.i (.i (.o (.o (.o .h)))))) (.seq (.region (.cons none (.mov (.lit (.int 3 10))) (some (.o (.o (.o .h))))
    .nil))
  .ret)
  (.seq (.region (.cons none (.mov (.var (.o .h))) none
    (.cons none (.nilCheck (.loc 0)) none
    (.cons none (.fieldAddr 3 (.loc 0)) none
    (.cons none (.load1 (.loc 0)) none
    (.cons none (.lenSl (.loc 0)) none
    (.cons none (.cmp .geq (.loc 0) (.lit (.int 3 100))) none
    (.cons none (.mov (.loc 0)) (some (.o (.o (.i (.i (.o .h))))))
    .nil))))))))
  (.cond (.var (.o (.o (.i (.i (.o .h)))))) (.seq (.region (.cons none (.mov (.lit (.int 3 12))) (some (.o (.o (.o .h))))
    .nil))
  .ret)
  .skip)))))))
  (.seq (.region (.cons none (.mov (.var (.o .h))) none
    (.cons none (.callF 72 (.cons (.loc 0) .nil)) none
    (.cons none (.arith .sub 3 (.loc 0) (.lit (.int 3 1))) none
    (.cons none (.mov (.var (.i .h))) none
    (.cons none (.arith .sub 3 (.loc 1) (.loc 0)) none
    (.cons none (.mov (.loc 0)) (some (.i (.i (.o .h))))
    .nil)))))))
  (.seq (.region (.cons none (.mov (.var (.o .h))) none
    (.cons none (.mov (.var (.o .h))) none
    (.cons none (.nilCheck (.loc 0)) none
    (.cons none (.fieldAddr 3 (.loc 0)) none
    (.cons none (.load1 (.loc 0)) none
    (.cons none (.mov (.var (.i (.i (.o .h))))) none
    (.cons none (.build (.cons (.int 3 0) (.cons (.int 3 0) (.cons .nilslice .nil))) (.cons 0 1 (.loc 0) .nil)) none
    (.cons none (.buildSlice (.cons (.int 3 0) (.cons (.int 3 0) (.cons .nilslice .nil))) 3 1 (.cons 0 3 (.loc 0) .nil)) none
    (.cons none (.append (.cons (.int 3 0) (.cons (.int 3 0) (.cons .nilslice .nil))) 3 (.loc 3) (.loc 0)) none
    (.cons none (.nilCheck (.loc 8)) none
    (.cons none (.fieldAddr 3 (.loc 0)) none
    (.cons none (.store 1 (.loc 0) (.loc 2)) none
    .nil)))))))))))))
  (.seq (.region (.cons none (.mov (.var (.o .h))) none
    (.cons none (.mov (.var (.i (.i (.o .h))))) none
    (.cons none (.arith .add 3 (.loc 0) (.lit (.int 3 1))) none
    (.cons none (.mov (.var (.o (.o .h)))) none
    (.cons none (.arith .add 3 (.loc 1) (.loc 0)) none
    (.cons none (.callF 73 (.cons (.loc 4) (.cons (.loc 0) .nil))) none
    .nil)))))))
  (.seq (.block 1 (.loop (.seq (.seq (.region (.cons none (.mov (.var (.i .h))) none
    (.cons none (.mov (.var (.o (.o .h)))) none
    (.cons none (.cmp .lss (.loc 1) (.loc 0)) (some (.i (.i (.o (.i (.o (.o .h)))))))
    .nil))))
  (.cond (.var (.i (.i (.o (.i (.o (.o .h))))))) .skip
  (.exit 1)))
  (.seq (.block 2 (.draw (.cons none (.mov (.var (.o .h))) none (.light 0)
    (.cons none (.callF 69 (.cons (.loc 0) .nil)) none .heavy
    (.cons none (.mov (.var (.o .h))) none (.light 1)
    (.cons none (.nilCheck (.loc 0)) none (.light 1)
    (.cons none (.fieldAddr 0 (.loc 0)) none (.light 1)
    (.cons none (.load1 (.loc 0)) none (.light 1)
    (.cons none (.build (.cons (.int 3 0) (.cons (.int 3 0) .nil)) (.cons 0 1 (.lit (.int 3 1)) .nil)) none (.light 1)
    (.cons none (.callF 68 (.cons (.loc 1) (.cons (.loc 5) (.cons (.loc 0) .nil)))) none .heavy
    .nil)))))))) 0))
  (.region (.cons none (.mov (.var (.i .h))) none
    (.cons none (.arith .add 3 (.loc 0) (.lit (.int 3 1))) none
    (.cons none (.mov (.loc 0)) (some (.i .h))
    .nil))))))))
  (.seq (.region (.cons none (.mov (.lit (.int 3 0))) (some (.o (.o (.o .h))))
    .nil))
  .ret))))))))),
  [.tmp (.o (.o (.o .h)))], none⟩
theorem c19 : FnOk Try.prog 0 19 cf19 :=
  .of Try.func19 (n := 84) (by kernel_rfl) (far := fun t => Nat.testBit 9444732970145927013319 t) (by kernel_rfl)
def cf20 : CFunc := ⟨(.seq (.region (.cons none (.box (.var (.i .h))) (some (.i (.o .h)))
    (.cons none (.mov (.lit (.bool false))) (some (.o (.i .h)))
    (.cons none (.mov (.lit (.int 3 0))) (some (.i (.i .h)))
    .nil))))
  (.seq (.seq (.region (.cons none (.mov (.var (.o .h))) none
    (.cons none (.callF 67 (.cons (.loc 0) .nil)) none
    (.cons none (.mov (.loc 0)) (some (.o (.o (.o .h))))
    .nil))))
  (.seq (.region (.cons none (.mov (.var (.o (.o (.o .h))))) none
    (.cons none (.cmp .neq (.loc 0) (.lit (.int 3 0))) (some (.i (.o (.o (.o .h)))))
    .nil)))
  (.cond (.var (.i (.o (.o (.o .h))))) (.seq (.region (.cons none (.mov (.var (.o (.o (.o .h))))) none
    (.cons none (.mov (.lit (.bool false))) (some (.o (.i .h)))
    (.cons none (.mov (.loc 1)) (some (.i (.i .h)))
    .nil))))
  .ret)
  .skip)))
  (.seq (.region (.cons none (.mov (.var (.o .h))) none
    (.cons none (.nilCheck (.loc 0)) none
    (.cons none (.fieldAddr 0 (.loc 0)) none
    (.cons none (.load1 (.loc 0)) none
    (.cons none (.mkFunc (.func 68) (.cons (.loc 0) .nil) .nil) none
    (.cons none (.mov (.loc 0)) (some (.i (.o (.o .h))))
    .nil)))))))
  (.seq (.seq (.draw (.cons none (.mov (.var (.o .h))) none (.light 0)
    (.cons none (.callF 69 (.cons (.loc 0) .nil)) none .heavy
    (.cons none (.mov (.var (.i (.o (.o .h))))) none (.light 1)
    (.cons none (.loadN 2 (.var (.i (.o .h)))) none (.light 1)
    (.cons none (.callV (.loc 1) (.cons (.loc 2) (.cons (.loc 0) .nil))) none .heavy
    (.cons none (.mov (.loc 0)) (some (.o (.i (.o .h)))) (.light 0)
    .nil)))))) 0)
  (.seq (.region (.cons none (.mov (.var (.o (.i (.o .h))))) none
    (.cons none (.cmp .neq (.loc 0) (.lit (.int 3 0))) (some (.o (.i (.i (.i .h)))))
    .nil)))
  (.cond (.var (.o (.i (.i (.i .h))))) (.seq (.region (.cons none (.mov (.lit (.bool false))) (some (.o (.i .h)))
    (.cons none (.mov (.lit (.int 3 2))) (some (.i (.i .h)))
    .nil)))
  .ret)
  .skip)))
  (.seq (.draw (.cons none (.mov (.var (.o .h))) none (.light 0)
    (.cons none (.callF 69 (.cons (.loc 0) .nil)) none .heavy
    (.cons none (.mov (.var (.o .h))) none (.light 1)
    (.cons none (.nilCheck (.loc 0)) none (.light 1)
    (.cons none (.fieldAddr 0 (.loc 0)) none (.light 1)
    (.cons none (.load1 (.loc 0)) none (.light 1)
    (.cons none (.callF 37 (.cons (.loc 0) (.cons (.loc 4) .nil))) none .heavy
    .nil))))))) 0)
  (.seq (.block 0 (.loop (.seq (.seq (.region (.cons none (.mov (.var (.o .h))) none
    (.cons none (.nilCheck (.loc 0)) none
    (.cons none (.fieldAddr 3 (.loc 0)) none
    (.cons none (.load1 (.loc 0)) none
    (.cons none (.lenSl (.loc 0)) none
    (.cons none (.cmp .gtr (.loc 0) (.lit (.int 3 0))) (some (.i (.i (.o (.i (.o .h))))))
    .nil)))))))
  (.cond (.var (.i (.i (.o (.i (.o .h)))))) .skip
  (.exit 0)))
  (.block 1 (.seq (.region (.cons none (.mov (.var (.o .h))) none
    (.cons none (.callF 70 (.cons (.loc 0) .nil)) none
    (.cons none (.mov (.loc 0)) (some (.i (.i (.o .h))))
    .nil))))
  (.seq (.seq (.region (.cons none (.mov (.var (.i (.i (.o .h))))) none
    (.cons none (.nilCheck (.loc 0)) none
    (.cons none (.fieldAddr 2 (.loc 0)) none
    (.cons none (.load1 (.loc 0)) none
    (.cons none (.lenSl (.loc 0)) none
    (.cons none (.mov (.loc 0)) (some (.o (.o (.i .h))))
    .nil)))))))
  (.seq (.region (.cons none (.mov (.var (.o (.o (.i .h))))) none
    (.cons none (.cmp .gtr (.loc 0) (.lit (.int 3 0))) (some (.o (.o (.i (.o (.i .h))))))
    .nil)))
  (.cond (.var (.o (.o (.i (.o (.i .h)))))) (.seq (.region (.cons none (.mov (.var (.i (.i (.o .h))))) none
    (.cons none (.nilCheck (.loc 0)) none
    (.cons none (.fieldAddr 2 (.loc 0)) none
    (.cons none (.load1 (.loc 0)) none
    (.cons none (.mov (.var (.o (.o (.i .h))))) none
    (.cons none (.arith .sub 3 (.loc 0) (.lit (.int 3 1))) none
    (.cons none (.idxSl 2 (.loc 2) (.loc 0)) none
    (.cons none (.loadN 2 (.loc 0)) none
    (.cons none (.alloc (.cons (.int 3 0) (.cons (.int 3 0) .nil)) 2) (some (.i (.o (.i .h))))
    (.cons none (.store 2 (.loc 0) (.loc 1)) none
    .nil)))))))))))
  (.seq (.draw (.cons none (.mov (.var (.i (.i (.o .h))))) none (.light 0)
    (.cons none (.mov (.var (.i (.i (.o .h))))) none (.light 0)
    (.cons none (.nilCheck (.loc 0)) none (.light 0)
    (.cons none (.fieldAddr 2 (.loc 0)) none (.light 0)
    (.cons none (.load1 (.loc 0)) none (.light 0)
    (.cons none (.mov (.var (.o (.o (.i .h))))) none (.light 0)
    (.cons none (.arith .sub 3 (.loc 0) (.lit (.int 3 1))) none (.light 0)
    (.cons none (.sliceSl 2 (.loc 2) none (some (.loc 0)) none) none (.light 0)
    (.cons none (.nilCheck (.loc 7)) none (.light 0)
    (.cons none (.fieldAddr 2 (.loc 0)) none (.light 0)
    (.cons none (.store 1 (.loc 0) (.loc 2)) none .heavy
    (.cons none (.mov (.var (.i (.i (.o .h))))) none (.light 1)
    (.cons none (.fieldAddr 1 (.var (.i (.o (.i .h))))) none (.light 1)
    (.cons none (.load1 (.loc 0)) none (.light 1)
    (.cons none (.nilCheck (.loc 2)) none (.light 0)
    (.cons none (.fieldAddr 1 (.loc 0)) none (.light 0)
    (.cons none (.store 1 (.loc 0) (.loc 2)) none .heavy
    .nil))))))))))))))))) 0)
  (.seq (.draw (.cons none (.mov (.var (.o .h))) none (.light 0)
    (.cons none (.mov (.var (.i (.i (.o .h))))) none (.light 0)
    (.cons none (.nilCheck (.loc 0)) none (.light 0)
    (.cons none (.fieldAddr 0 (.loc 0)) none (.light 0)
    (.cons none (.load1 (.loc 0)) none (.light 0)
    (.cons none (.arith .add 3 (.loc 0) (.lit (.int 3 1))) none (.light 0)
    (.cons none (.fieldAddr 0 (.var (.i (.o (.i .h))))) none (.light 0)
    (.cons none (.load1 (.loc 0)) none (.light 0)
    (.cons none (.arith .add 3 (.loc 2) (.loc 0)) none (.light 0)
    (.cons none (.callF 73 (.cons (.loc 8) (.cons (.loc 0) .nil))) none .heavy
    .nil)))))))))) 0)
  (.seq (.draw (.cons none (.mov (.var (.o .h))) none (.light 0)
    (.cons none (.callF 69 (.cons (.loc 0) .nil)) none .heavy
    (.cons none (.mov (.var (.i (.o (.o .h))))) none (.light 1)
    (.cons none (.loadN 2 (.var (.i (.o .h)))) none (.light 1)
    (.cons none (.callV (.loc 1) (.cons (.loc 2) (.cons (.loc 0) .nil))) none .heavy
    (.cons none (.mov (.lit (.bool true))) (some (.o (.i .h))) (.light 0)
    (.cons none (.mov (.loc 1)) (some (.i (.i .h))) (.light 0)
    .nil))))))) 0)
  .ret))))
  .skip)))
  (.draw (.cons none (.mov (.var (.o .h))) none (.light 0)
    (.cons none (.mov (.var (.o .h))) none (.light 0)
    (.cons none (.nilCheck (.loc 0)) none (.light 0)
    (.cons none (.fieldAddr 3 (.loc 0)) none (.light 0)
    (.cons none (.load1 (.loc 0)) none (.light 0)
    (.cons none (.mov (.var (.o .h))) none (.light 0)
    (.cons none (.nilCheck (.loc 0)) none (.light 0)
    (.cons none (.fieldAddr 3 (.loc 0)) none (.light 0)
    (.cons none (.load1 (.loc 0)) none (.light 0)
    (.cons none (.lenSl (.loc 0)) none (.light 0)
    (.cons none (.arith .sub 3 (.loc 0) (.lit (.int 3 1))) none (.light 0)
    (.cons none (.sliceSl 3 (.loc 6) none (some (.loc 0)) none) none (.light 0)
    (.cons none (.nilCheck (.loc 11)) none (.light 0)
    (.cons none (.fieldAddr 3 (.loc 0)) none (.light 0)
    (.cons none (.store 1 (.loc 0) (.loc 2)) none .heavy
    .nil))))))))))))))) 0)))))))
  (.seq (.region (.cons none (.mov (.var (.o .h))) none
    (.cons none (.callF 73 (.cons (.loc 0) (.cons (.lit (.int 3 0)) .nil))) none
    .nil)))
  (.seq (.draw (.cons none (.mov (.var (.o .h))) none (.light 0)
    (.cons none (.callF 69 (.cons (.loc 0) .nil)) none .heavy
    (.cons none (.mov (.var (.i (.o (.o .h))))) none (.light 1)
    (.cons none (.loadN 2 (.var (.i (.o .h)))) none (.light 1)
    (.cons none (.callV (.loc 1) (.cons (.loc 2) (.cons (.loc 0) .nil))) none .heavy
    (.cons none (.mov (.lit (.bool false))) (some (.o (.i .h))) (.light 0)
    (.cons none (.mov (.loc 1)) (some (.i (.i .h))) (.light 0)
    .nil))))))) 0)
  .ret)))))))),
  [.tmp (.o (.i .h)), .tmp (.i (.i .h))], none⟩
theorem c20 : FnOk Try.prog 0 20 cf20 :=
  .of Try.func20 (n := 110) (by kernel_rfl) (far := fun t => Nat.testBit 1128099198570491 t) (by kernel_rfl)
def cf21 : CFunc := ⟨(.seq (.region (.cons none (.mov (.lit (.int 3 0))) (some (.o (.o .h)))
    .nil))
  (.seq (.seq (.region (.cons none (.mov (.var (.o .h))) none
    (.cons none (.callF 67 (.cons (.loc 0) .nil)) none
    (.cons none (.cmp .neq (.loc 0) (.lit (.int 3 0))) (some (.i (.i .h)))
    .nil))))
  (.cond (.var (.i (.i .h))) (.seq (.region (.cons none (.mov (.lit (.int 3 0))) (some (.o (.o .h)))
    .nil))
  .ret)
  .skip))
  (.seq (.region (.cons none (.mov (.var (.o .h))) none
    (.cons none (.callF 72 (.cons (.loc 0) .nil)) none
    (.cons none (.mov (.var (.o .h))) none
    (.cons none (.callF 70 (.cons (.loc 0) .nil)) none
    (.cons none (.nilCheck (.loc 0)) none
    (.cons none (.fieldAddr 0 (.loc 0)) none
    (.cons none (.load1 (.loc 0)) none
    (.cons none (.arith .sub 3 (.loc 5) (.loc 0)) none
    (.cons none (.arith .sub 3 (.loc 0) (.lit (.int 3 1))) none
    (.cons none (.mov (.loc 0)) (some (.o (.o .h)))
    .nil)))))))))))
  .ret))),
  [.tmp (.o (.o .h))], none⟩
theorem c21 : FnOk Try.prog 0 21 cf21 :=
  .of Try.func21 (n := 15) (by kernel_rfl) (far := fun t => Nat.testBit 37 t) (by kernel_rfl)
def cf22 : CFunc := ⟨(.seq (.region (.cons none (.alloc (.cons (.int 3 0) (.cons (.int 3 0) .nil)) 2) (some (.o (.i .h)))
    .nil))
  (.seq (.seq (.region (.cons none (.mov (.var (.i .h))) none
    (.cons none (.cmp .lss (.loc 0) (.lit (.int 3 0))) none
    (.cons none (.mov (.loc 0)) none
    (.cons (some (0, false)) (.mov (.var (.i .h))) none
    (.cons (some (1, false)) (.mov (.var (.o .h))) none
    (.cons (some (2, false)) (.callF 21 (.cons (.loc 0) .nil)) none
    (.cons (some (3, false)) (.cmp .geq (.loc 2) (.loc 0)) none
    (.cons none (.pick (.loc 4) (.lit (.bool true)) (.loc 0)) (some (.o (.i (.i .h))))
    .nil)))))))))
  (.cond (.var (.o (.i (.i .h)))) (.seq (.region (.cons none (.build (.cons (.int 3 0) (.cons (.int 3 0) .nil)) .nil) none
    (.cons none (.store 2 (.var (.o (.i .h))) (.loc 0)) none
    .nil)))
  .ret)
  .skip))
  (.seq (.region (.cons none (.mov (.var (.o .h))) none
    (.cons none (.mov (.var (.i .h))) none
    (.cons none (.arith .add 3 (.lit (.int 3 1)) (.loc 0)) none
    (.cons none (.callF 74 (.cons (.loc 2) (.cons (.loc 0) .nil))) none
    (.cons none (.store 2 (.var (.o (.i .h))) (.loc 0)) none
    .nil))))))
  .ret))),
  [.cellN (.o (.i .h)) 2], none⟩
theorem c22 : FnOk Try.prog 0 22 cf22 :=
  .of Try.func22 (n := 18) (by kernel_rfl) (far := fun t => Nat.testBit 4115 t) (by kernel_rfl)
def cf23 : CFunc := ⟨(.seq (.region (.cons none (.mov (.lit (.int 3 0))) (some (.o (.o .h)))
    .nil))
  (.seq (.seq (.region (.cons none (.mov (.var (.o .h))) none
    (.cons none (.callF 67 (.cons (.loc 0) .nil)) none
    (.cons none (.cmp .neq (.loc 0) (.lit (.int 3 0))) (some (.i (.i .h)))
    .nil))))
  (.cond (.var (.i (.i .h))) (.seq (.region (.cons none (.mov (.lit (.int 3 0))) (some (.o (.o .h)))
    .nil))
  .ret)
  .skip))
  (.seq (.region (.cons none (.mov (.var (.o .h))) none
    (.cons none (.callF 70 (.cons (.loc 0) .nil)) none
    (.cons none (.nilCheck (.loc 0)) none
    (.cons none (.fieldAddr 1 (.loc 0)) none
    (.cons none (.load1 (.loc 0)) none
    (.cons none (.mov (.loc 0)) (some (.o (.o .h)))
    .nil)))))))
  .ret))),
  [.tmp (.o (.o .h))], none⟩
theorem c23 : FnOk Try.prog 0 23 cf23 :=
  .of Try.func23 (n := 11) (by kernel_rfl) (far := fun t => Nat.testBit 37 t) (by kernel_rfl)
def cf24 : CFunc := ⟨(.seq (.region (.cons none (.mov (.lit .nilslice)) (some (.o (.o .h)))
    .nil))
  (.seq (.seq (.region (.cons none (.mov (.var (.o .h))) none
    (.cons none (.eq .ptr false (.loc 0) (.lit .nilptr)) (some (.i (.o (.o .h))))
    .nil)))
  (.cond (.var (.i (.o (.o .h)))) (.seq (.region (.cons none (.mov (.lit .nilslice)) (some (.o (.o .h)))
    .nil))
  .ret)
  .skip))
  (.seq (.region (.cons none (.mov (.var (.o .h))) none
    (.cons none (.nilCheck (.loc 0)) none
    (.cons none (.fieldAddr 3 (.loc 0)) none
    (.cons none (.load1 (.loc 0)) none
    (.cons none (.lenSl (.loc 0)) none
    (.cons none (.makeSlice (.cons (.int 3 0) (.cons (.int 3 0) (.cons .nilslice .nil))) 3 (.loc 0) (.loc 0)) none
    (.cons none (.mov (.loc 0)) (some (.i (.o .h)))
    .nil))))))))
  (.seq (.region (.cons none (.mov (.var (.i (.o .h)))) none
    (.cons none (.mov (.var (.o .h))) none
    (.cons none (.nilCheck (.loc 0)) none
    (.cons none (.fieldAddr 3 (.loc 0)) none
    (.cons none (.load1 (.loc 0)) none
    (.cons none (.copy 3 (.loc 4) (.loc 0)) none
    .nil)))))))
  (.seq (.seq (.region (.cons none (.mov (.var (.i (.o .h)))) (some (.o (.i (.i (.o .h)))))
    (.cons none (.lenSl (.loc 0)) (some (.i (.i (.i (.o .h)))))
    (.cons none (.mov (.lit (.int 3 0))) (some (.o (.o (.o (.i .h)))))
    .nil))))
  (.block 0 (.loop (.seq (.region (.cons none (.cmp .lss (.var (.o (.o (.o (.i .h))))) (.var (.i (.i (.i (.o .h)))))) (some (.i (.o (.o (.i .h)))))
    .nil))
  (.seq (.cond (.var (.i (.o (.o (.i .h))))) .skip
  (.exit 0))
  (.seq (.block 1 (.seq (.region (.cons none (.mov (.var (.o (.o (.o (.i .h)))))) none
    (.cons none (.idxSl 3 (.var (.o (.i (.i (.o .h))))) (.var (.o (.o (.o (.i .h)))))) none
    (.cons none (.loadN 3 (.loc 0)) none
    (.cons none (.alloc (.cons (.int 3 0) (.cons (.int 3 0) (.cons .nilslice .nil))) 3) (some (.i (.i .h)))
    (.cons none (.mov (.loc 3)) (some (.o (.i .h)))
    (.cons none (.store 3 (.loc 1) (.loc 2)) none
    .nil)))))))
  (.seq (.region (.cons none (.mov (.var (.i (.o .h)))) none
    (.cons none (.mov (.var (.o (.i .h)))) none
    (.cons none (.fieldAddr 2 (.var (.i (.i .h)))) none
    (.cons none (.load1 (.loc 0)) none
    (.cons none (.lenSl (.loc 0)) none
    (.cons none (.makeSlice (.cons (.int 3 0) (.cons (.int 3 0) .nil)) 2 (.loc 0) (.loc 0)) none
    (.cons none (.idxSl 3 (.loc 5) (.loc 4)) none
    (.cons none (.fieldAddr 2 (.loc 0)) none
    (.cons none (.store 1 (.loc 0) (.loc 2)) none
    .nil))))))))))
  (.draw (.cons none (.mov (.var (.i (.o .h)))) none (.light 0)
    (.cons none (.mov (.var (.o (.i .h)))) none (.light 0)
    (.cons none (.idxSl 3 (.loc 1) (.loc 0)) none (.light 0)
    (.cons none (.fieldAddr 2 (.loc 0)) none (.light 0)
    (.cons none (.load1 (.loc 0)) none (.light 0)
    (.cons none (.fieldAddr 2 (.var (.i (.i .h)))) none (.light 0)
    (.cons none (.load1 (.loc 0)) none (.light 0)
    (.cons none (.copy 2 (.loc 2) (.loc 0)) none .heavy
    .nil)))))))) 0))))
  (.region (.cons none (.arith .add 3 (.var (.o (.o (.o (.i .h))))) (.lit (.int 3 1))) none
    (.cons none (.mov (.loc 0)) (some (.o (.o (.o (.i .h)))))
    .nil)))))))))
  (.seq (.region (.cons none (.mov (.var (.i (.o .h)))) none
    (.cons none (.mov (.loc 0)) (some (.o (.o .h)))
    .nil)))
  .ret)))))),
  [.tmp (.o (.o .h))], none⟩
theorem c24 : FnOk Try.prog 0 24 cf24 :=
  .of Try.func24 (n := 45) (by kernel_rfl) (far := fun t => Nat.testBit 15728829 t) (by kernel_rfl)
def cf25 : CFunc := ⟨(.seq (.region (.cons none (.alloc (.cons (.int 3 0) (.cons (.int 3 0) (.cons .nilslice (.cons (.str 0 0) (.cons (.int 3 0) .nil))))) 5) (some (.o (.i .h)))
    .nil))
  (.seq (.region (.cons none (.mov (.var (.o .h))) none
    (.cons none (.mov (.var (.i .h))) none
    (.cons none (.callF 75 (.cons (.loc 1) (.cons (.loc 0) .nil))) none
    (.cons none (.mov (.loc 0)) none
    (.cons none (.extract 0 (.loc 0)) none
    (.cons none (.extract 1 (.loc 1)) none
    (.cons none (.mov (.loc 1)) (some (.i (.i .h)))
    (.cons none (.mov (.loc 1)) (some (.o (.o (.o .h))))
    .nil)))))))))
  (.seq (.seq (.region (.cons none (.mov (.var (.o (.o (.o .h))))) none
    (.cons none (.cmp .neq (.loc 0) (.lit (.int 3 0))) (some (.i (.o (.o (.o .h)))))
    .nil)))
  (.cond (.var (.i (.o (.o (.o .h))))) (.seq (.region (.cons none (.build (.cons (.int 3 0) (.cons (.int 3 0) (.cons .nilslice (.cons (.str 0 0) (.cons (.int 3 0) .nil))))) .nil) none
    (.cons none (.store 5 (.var (.o (.i .h))) (.loc 0)) none
    .nil)))
  .ret)
  .skip))
  (.seq (.region (.cons none (.mov (.var (.i (.i .h)))) none
    (.cons none (.nilCheck (.loc 0)) none
    (.cons none (.loadN 5 (.loc 0)) none
    (.cons none (.alloc (.cons (.int 3 0) (.cons (.int 3 0) (.cons .nilslice (.cons (.str 0 0) (.cons (.int 3 0) .nil))))) 5) (some (.i (.o (.o .h))))
    (.cons none (.store 5 (.loc 0) (.loc 1)) none
    .nil))))))
  (.seq (.region (.cons none (.mov (.var (.i (.i .h)))) none
    (.cons none (.nilCheck (.loc 0)) none
    (.cons none (.fieldAddr 2 (.loc 0)) none
    (.cons none (.load1 (.loc 0)) none
    (.cons none (.callF 76 (.cons (.loc 0) .nil)) none
    (.cons none (.fieldAddr 2 (.var (.i (.o (.o .h))))) none
    (.cons none (.store 1 (.loc 0) (.loc 1)) none
    .nil))))))))
  (.seq (.region (.cons none (.loadN 5 (.var (.i (.o (.o .h))))) none
    (.cons none (.store 5 (.var (.o (.i .h))) (.loc 0)) none
    .nil)))
  .ret)))))),
  [.cellN (.o (.i .h)) 5], none⟩
theorem c25 : FnOk Try.prog 0 25 cf25 :=
  .of Try.func25 (n := 27) (by kernel_rfl) (far := fun t => Nat.testBit 33011 t) (by kernel_rfl)
def cf26 : CFunc := ⟨(.seq (.region (.cons none (.alloc (.cons (.int 3 0) (.cons (.int 3 0) .nil)) 2) (some (.o (.o .h)))
    .nil))
  (.seq (.region (.cons none (.mov (.var (.o .h))) none
    (.cons none (.callF 74 (.cons (.loc 0) (.cons (.lit (.int 3 0)) .nil))) none
    (.cons none (.store 2 (.var (.o (.o .h))) (.loc 0)) none
    .nil))))
  .ret)),
  [.cellN (.o (.o .h)) 2], none⟩
theorem c26 : FnOk Try.prog 0 26 cf26 :=
  .of Try.func26 (n := 5) (by kernel_rfl) (far := fun t => Nat.testBit 5 t) (by kernel_rfl)
def cf27 : CFunc := ⟨(.seq (.region (.cons none (.alloc (.cons (.int 3 0) (.cons (.int 3 0) .nil)) 2) (some (.o .h))
    .nil))
  (.seq (.region (.cons none (.build (.cons (.int 3 0) (.cons (.int 3 0) .nil)) (.cons 0 1 (.lit (.int 3 1)) .nil)) none
    (.cons none (.store 2 (.var (.o .h)) (.loc 0)) none
    .nil)))
  .ret)),
  [.cellN (.o .h) 2], none⟩
theorem c27 : FnOk Try.prog 0 27 cf27 :=
  .of Try.func27 (n := 2) (by kernel_rfl) (far := fun t => Nat.testBit 1 t) (by kernel_rfl)
def cf28 : CFunc := ⟨(.seq (.region (.cons none (.mov (.lit (.bool false))) (some (.o (.o .h)))
    (.cons none (.mov (.lit (.int 3 0))) (some (.i (.o .h)))
    .nil)))
  (.seq (.seq (.region (.cons none (.mov (.var (.o .h))) none
    (.cons none (.callF 67 (.cons (.loc 0) .nil)) none
    (.cons none (.mov (.loc 0)) (some (.o (.i .h)))
    .nil))))
  (.seq (.region (.cons none (.mov (.var (.o (.i .h)))) none
    (.cons none (.cmp .neq (.loc 0) (.lit (.int 3 0))) (some (.o (.o (.i .h))))
    .nil)))
  (.cond (.var (.o (.o (.i .h)))) (.seq (.region (.cons none (.mov (.var (.o (.i .h)))) none
    (.cons none (.mov (.lit (.bool false))) (some (.o (.o .h)))
    (.cons none (.mov (.loc 1)) (some (.i (.o .h)))
    .nil))))
  .ret)
  .skip)))
  (.seq (.seq (.region (.cons none (.mov (.var (.o .h))) none
    (.cons none (.callF 21 (.cons (.loc 0) .nil)) none
    (.cons none (.cmp .eql (.loc 0) (.lit (.int 3 0))) (some (.o (.o (.o (.o .h)))))
    .nil))))
  (.cond (.var (.o (.o (.o (.o .h))))) (.seq (.region (.cons none (.mov (.lit (.bool false))) (some (.o (.o .h)))
    (.cons none (.mov (.lit (.int 3 2))) (some (.i (.o .h)))
    .nil)))
  .ret)
  .skip))
  (.seq (.draw (.cons none (.mov (.var (.o .h))) none (.light 0)
    (.cons none (.callF 69 (.cons (.loc 0) .nil)) none .heavy
    (.cons none (.mov (.var (.o .h))) none (.light 1)
    (.cons none (.nilCheck (.loc 0)) none (.light 1)
    (.cons none (.fieldAddr 0 (.loc 0)) none (.light 1)
    (.cons none (.load1 (.loc 0)) none (.light 1)
    (.cons none (.callF 37 (.cons (.loc 0) (.cons (.loc 4) .nil))) none .heavy
    (.cons none (.mov (.loc 0)) none (.light 0)
    (.cons none (.extract 0 (.loc 0)) none (.light 0)
    (.cons none (.alloc (.cons (.int 3 0) (.cons (.int 3 0) .nil)) 2) (some (.i (.i .h))) .float
    (.cons none (.store 2 (.loc 0) (.loc 1)) none .heavy
    (.cons none (.extract 1 (.loc 3)) none (.light 1)
    (.cons none (.mov (.loc 0)) none (.light 0)
    .nil))))))))))))) 1)
  (.seq (.region (.cons none (.mov (.var (.o .h))) none
    (.cons none (.mov (.var (.o .h))) none
    (.cons none (.callF 70 (.cons (.loc 0) .nil)) none
    (.cons none (.nilCheck (.loc 0)) none
    (.cons none (.fieldAddr 0 (.loc 0)) none
    (.cons none (.load1 (.loc 0)) none
    (.cons none (.callF 73 (.cons (.loc 5) (.cons (.loc 0) .nil))) none
    .nil))))))))
  (.seq (.draw (.cons none (.mov (.var (.o .h))) none (.light 0)
    (.cons none (.mov (.var (.o .h))) none (.light 0)
    (.cons none (.nilCheck (.loc 0)) none (.light 0)
    (.cons none (.fieldAddr 3 (.loc 0)) none (.light 0)
    (.cons none (.load1 (.loc 0)) none (.light 0)
    (.cons none (.mov (.var (.o .h))) none (.light 0)
    (.cons none (.nilCheck (.loc 0)) none (.light 0)
    (.cons none (.fieldAddr 3 (.loc 0)) none (.light 0)
    (.cons none (.load1 (.loc 0)) none (.light 0)
    (.cons none (.lenSl (.loc 0)) none (.light 0)
    (.cons none (.arith .sub 3 (.loc 0) (.lit (.int 3 1))) none (.light 0)
    (.cons none (.sliceSl 3 (.loc 6) none (some (.loc 0)) none) none (.light 0)
    (.cons none (.nilCheck (.loc 11)) none (.light 0)
    (.cons none (.fieldAddr 3 (.loc 0)) none (.light 0)
    (.cons none (.store 1 (.loc 0) (.loc 2)) none .heavy
    .nil))))))))))))))) 0)
  (.seq (.draw (.cons none (.mov (.var (.o .h))) none (.light 0)
    (.cons none (.callF 69 (.cons (.loc 0) .nil)) none .heavy
    (.cons none (.mov (.var (.o .h))) none (.light 1)
    (.cons none (.nilCheck (.loc 0)) none (.light 1)
    (.cons none (.fieldAddr 0 (.loc 0)) none (.light 1)
    (.cons none (.load1 (.loc 0)) none (.light 1)
    (.cons none (.loadN 2 (.var (.i (.i .h)))) none (.light 1)
    (.cons none (.callF 68 (.cons (.loc 1) (.cons (.loc 5) (.cons (.loc 0) .nil)))) none .heavy
    .nil)))))))) 0)
  (.seq (.region (.cons none (.mov (.var (.o .h))) none
    (.cons none (.nilCheck (.loc 0)) none
    (.cons none (.fieldAddr 3 (.loc 0)) none
    (.cons none (.load1 (.loc 0)) none
    (.cons none (.lenSl (.loc 0)) none
    (.cons none (.cmp .eql (.loc 0) (.lit (.int 3 0))) none
    (.cons none (.mov (.loc 0)) (some (.o (.o .h)))
    (.cons none (.mov (.lit (.int 3 0))) (some (.i (.o .h)))
    .nil)))))))))
  .ret)))))))),
  [.tmp (.o (.o .h)), .tmp (.i (.o .h))], none⟩
theorem c28 : FnOk Try.prog 0 28 cf28 :=
  .of Try.func28 (n := 60) (by kernel_rfl) (far := fun t => Nat.testBit 17469 t) (by kernel_rfl)
def cf29 : CFunc := ⟨(.seq (.region (.cons none (.alloc (.cons (.int 3 0) (.cons (.int 3 0) .nil)) 2) (some (.o (.o .h)))
    .nil))
  (.seq (.seq (.region (.cons none (.mov (.var (.o .h))) none
    (.cons none (.eq .ptr false (.loc 0) (.lit .nilptr)) (some (.o (.i .h)))
    .nil)))
  (.cond (.var (.o (.i .h))) (.seq (.region (.cons none (.build (.cons (.int 3 0) (.cons (.int 3 0) .nil)) .nil) none
    (.cons none (.store 2 (.var (.o (.o .h))) (.loc 0)) none
    .nil)))
  .ret)
  .skip))
  (.seq (.region (.cons none (.mov (.var (.o .h))) none
    (.cons none (.nilCheck (.loc 0)) none
    (.cons none (.fieldAddr 1 (.loc 0)) none
    (.cons none (.loadN 2 (.loc 0)) none
    (.cons none (.store 2 (.var (.o (.o .h))) (.loc 0)) none
    .nil))))))
  .ret))),
  [.cellN (.o (.o .h)) 2], none⟩
theorem c29 : FnOk Try.prog 0 29 cf29 :=
  .of Try.func29 (n := 10) (by kernel_rfl) (far := fun t => Nat.testBit 21 t) (by kernel_rfl)
def cf30 : CFunc := ⟨(.seq (.region (.cons none (.mov (.lit .nilslice)) (some (.o (.o .h)))
    .nil))
  (.seq (.region (.cons none (.mov (.lit .nilslice)) (some (.i (.o .h)))
    .nil))
  (.seq (.seq (.region (.cons none (.mov (.var (.o .h))) (some (.o (.o (.o .h))))
    (.cons none (.lenSl (.loc 0)) (some (.i (.o (.o .h))))
    (.cons none (.mov (.lit (.int 3 0))) (some (.o (.i (.o .h))))
    .nil))))
  (.block 0 (.loop (.seq (.region (.cons none (.cmp .lss (.var (.o (.i (.o .h)))) (.var (.i (.o (.o .h))))) (some (.i (.i (.o .h))))
    .nil))
  (.seq (.cond (.var (.i (.i (.o .h)))) .skip
  (.exit 0))
  (.seq (.block 1 (.seq (.region (.cons none (.idxSl 2 (.var (.o (.o (.o .h)))) (.var (.o (.i (.o .h))))) none
    (.cons none (.loadN 2 (.loc 0)) none
    (.cons none (.alloc (.cons (.int 3 0) (.cons (.int 3 0) .nil)) 2) (some (.i (.i .h)))
    (.cons none (.store 2 (.loc 0) (.loc 1)) none
    .nil)))))
  (.seq (.region (.cons none (.loadN 2 (.var (.i (.i .h)))) none
    (.cons none (.callF 77 (.cons (.loc 0) .nil)) (some (.i (.i (.i .h))))
    .nil)))
  (.cond (.var (.i (.i (.i .h)))) (.region (.cons none (.mov (.var (.i (.o .h)))) none
    (.cons none (.fieldAddr 1 (.var (.i (.i .h)))) none
    (.cons none (.load1 (.loc 0)) none
    (.cons none (.buildSlice (.cons (.int 3 0) .nil) 1 1 (.cons 0 1 (.loc 0) .nil)) none
    (.cons none (.append (.cons (.int 3 0) .nil) 1 (.loc 3) (.loc 0)) none
    (.cons none (.mov (.loc 0)) (some (.i (.o .h)))
    .nil)))))))
  .skip))))
  (.region (.cons none (.arith .add 3 (.var (.o (.i (.o .h)))) (.lit (.int 3 1))) none
    (.cons none (.mov (.loc 0)) (some (.o (.i (.o .h))))
    .nil)))))))))
  (.seq (.region (.cons none (.mov (.var (.i (.o .h)))) none
    (.cons none (.mov (.loc 0)) (some (.o (.o .h)))
    .nil)))
  .ret)))),
  [.tmp (.o (.o .h))], none⟩
theorem c30 : FnOk Try.prog 0 30 cf30 :=
  .of Try.func30 (n := 21) (by kernel_rfl) (far := fun t => Nat.testBit 9197 t) (by kernel_rfl)
def cf31 : CFunc := ⟨(.seq (.region (.cons none (.box (.var (.i .h))) (some (.i (.o .h)))
    (.cons none (.mov (.lit .nilptr)) (some (.o (.i .h)))
    (.cons none (.mov (.lit (.int 3 0))) (some (.i (.i .h)))
    .nil))))
  (.seq (.seq (.region (.cons none (.mov (.var (.o .h))) none
    (.cons none (.callF 78 (.cons (.loc 0) (.cons (.lit (.int 3 0)) .nil))) none
    (.cons none (.cmp .eql (.loc 0) (.lit (.int 3 1))) (some (.i (.i (.o .h))))
    .nil))))
  (.cond (.var (.i (.i (.o .h)))) (.seq (.region (.cons none (.mov (.lit .nilptr)) (some (.o (.i .h)))
    (.cons none (.mov (.lit (.int 3 1))) (some (.i (.i .h)))
    .nil)))
  .ret)
  .skip))
  (.seq (.seq (.region (.cons none (.fieldAddr 0 (.var (.i (.o .h)))) none
    (.cons none (.load1 (.loc 0)) none
    (.cons none (.cmp .neq (.loc 0) (.lit (.int 3 7))) none
    (.cons none (.mov (.loc 0)) none
    (.cons (some (0, false)) (.fieldAddr 1 (.var (.i (.o .h)))) none
    (.cons (some (1, false)) (.load1 (.loc 0)) none
    (.cons (some (2, false)) (.cmp .gtr (.loc 0) (.lit (.int 3 2147483647))) none
    (.cons none (.pick (.loc 3) (.lit (.bool true)) (.loc 0)) none
    (.cons none (.mov (.loc 0)) none
    (.cons (some (0, false)) (.mov (.var (.o .h))) none
    (.cons (some (1, false)) (.fieldAddr 1 (.var (.i (.o .h)))) none
    (.cons (some (2, false)) (.load1 (.loc 0)) none
    (.cons (some (3, false)) (.callF 25 (.cons (.loc 2) (.cons (.loc 0) .nil))) none
    (.cons (some (4, false)) (.field1 0 (.loc 0)) none
    (.cons (some (5, false)) (.cmp .neq (.loc 0) (.lit (.int 3 7))) none
    (.cons none (.pick (.loc 6) (.lit (.bool true)) (.loc 0)) (some (.i (.i (.o (.i .h)))))
    .nil)))))))))))))))))
  (.cond (.var (.i (.i (.o (.i .h))))) (.seq (.region (.cons none (.mov (.lit .nilptr)) (some (.o (.i .h)))
    (.cons none (.mov (.lit (.int 3 7))) (some (.i (.i .h)))
    .nil)))
  .ret)
  .skip))
  (.seq (.region (.cons none (.mov (.var (.o .h))) none
    (.cons none (.callF 48 (.cons (.loc 0) (.cons (.lit (.int 3 8)) (.cons (.lit (.str 0 0)) .nil)))) none
    (.cons none (.alloc (.cons (.int 3 0) (.cons (.int 3 0) .nil)) 2) (some (.o (.o (.o .h))))
    (.cons none (.store 2 (.loc 0) (.loc 1)) none
    .nil)))))
  (.seq (.region (.cons none (.mov (.var (.o .h))) none
    (.cons none (.fieldAddr 1 (.var (.o (.o (.o .h))))) none
    (.cons none (.load1 (.loc 0)) none
    (.cons none (.loadN 2 (.var (.i (.o .h)))) none
    (.cons none (.callF 68 (.cons (.loc 3) (.cons (.loc 1) (.cons (.loc 0) .nil)))) none
    .nil))))))
  (.seq (.draw (.cons none (.makeSlice (.cons (.int 3 0) (.cons (.int 3 0) (.cons .nilslice .nil))) 3 (.lit (.int 3 1)) (.lit (.int 3 1))) none .heavy
    (.cons none (.mov (.var (.o .h))) none (.light 1)
    (.cons none (.loadN 2 (.var (.o (.o (.o .h))))) none (.light 1)
    (.cons none (.build (.cons .nilptr (.cons (.int 3 0) (.cons (.int 3 0) (.cons .nilslice .nil)))) (.cons 0 1 (.loc 1) (.cons 1 2 (.loc 0) (.cons 3 1 (.loc 2) .nil)))) none (.light 0)
    (.cons none (.box (.loc 0)) none .float
    (.cons none (.mov (.loc 0)) (some (.o (.i .h))) (.light 0)
    (.cons none (.mov (.lit (.int 3 0))) (some (.i (.i .h))) (.light 0)
    .nil))))))) 1)
  .ret)))))),
  [.tmp (.o (.i .h)), .tmp (.i (.i .h))], none⟩
theorem c31 : FnOk Try.prog 0 31 cf31 :=
  .of Try.func31 (n := 38) (by kernel_rfl) (far := fun t => Nat.testBit 33555067 t) (by kernel_rfl)
def cf32 : CFunc := ⟨(.seq (.region (.cons none (.mov (.lit (.int 3 0))) (some (.o (.i .h)))
    .nil))
  (.seq (.seq (.region (.cons none (.mov (.var (.o .h))) none
    (.cons none (.callF 67 (.cons (.loc 0) .nil)) none
    (.cons none (.mov (.loc 0)) (some (.i (.i .h)))
    .nil))))
  (.seq (.region (.cons none (.mov (.var (.i (.i .h)))) none
    (.cons none (.cmp .neq (.loc 0) (.lit (.int 3 0))) (some (.i (.i (.i .h))))
    .nil)))
  (.cond (.var (.i (.i (.i .h)))) (.seq (.region (.cons none (.mov (.var (.i (.i .h)))) none
    (.cons none (.mov (.loc 0)) (some (.o (.i .h)))
    .nil)))
  .ret)
  .skip)))
  (.seq (.seq (.region (.cons none (.mov (.var (.i .h))) none
    (.cons none (.cmp .lss (.loc 0) (.lit (.int 3 0))) none
    (.cons none (.mov (.loc 0)) none
    (.cons (some (0, false)) (.mov (.var (.i .h))) none
    (.cons (some (1, false)) (.mov (.var (.o .h))) none
    (.cons (some (2, false)) (.callF 21 (.cons (.loc 0) .nil)) none
    (.cons (some (3, false)) (.arith .sub 3 (.loc 0) (.lit (.int 3 1))) none
    (.cons (some (4, false)) (.cmp .geq (.loc 3) (.loc 0)) none
    (.cons none (.pick (.loc 5) (.lit (.bool true)) (.loc 0)) (some (.i (.o (.o (.i .h)))))
    .nil))))))))))
  (.cond (.var (.i (.o (.o (.i .h))))) (.seq (.region (.cons none (.mov (.lit (.int 3 2))) (some (.o (.i .h)))
    .nil))
  .ret)
  .skip))
  (.seq (.draw (.cons none (.mov (.var (.o .h))) none (.light 0)
    (.cons none (.callF 69 (.cons (.loc 0) .nil)) none .heavy
    (.cons none (.mov (.var (.o .h))) none (.light 1)
    (.cons none (.nilCheck (.loc 0)) none (.light 1)
    (.cons none (.fieldAddr 0 (.loc 0)) none (.light 1)
    (.cons none (.load1 (.loc 0)) none (.light 1)
    (.cons none (.callF 37 (.cons (.loc 0) (.cons (.loc 4) .nil))) none .heavy
    (.cons none (.mov (.loc 0)) none (.light 0)
    (.cons none (.extract 0 (.loc 0)) none (.light 0)
    (.cons none (.alloc (.cons (.int 3 0) (.cons (.int 3 0) .nil)) 2) (some (.o (.o (.o .h)))) .float
    (.cons none (.store 2 (.loc 0) (.loc 1)) none .heavy
    (.cons none (.extract 1 (.loc 3)) none (.light 1)
    (.cons none (.mov (.loc 0)) none (.light 0)
    .nil))))))))))))) 1)
  (.seq (.draw (.cons none (.mov (.var (.o .h))) none (.light 0)
    (.cons none (.callF 69 (.cons (.loc 0) .nil)) none .heavy
    (.cons none (.mov (.var (.o .h))) none (.light 1)
    (.cons none (.callF 70 (.cons (.loc 0) .nil)) none .heavy
    (.cons none (.mov (.var (.o .h))) none (.light 2)
    (.cons none (.nilCheck (.loc 0)) none (.light 2)
    (.cons none (.fieldAddr 0 (.loc 0)) none (.light 2)
    (.cons none (.load1 (.loc 0)) none (.light 2)
    (.cons none (.nilCheck (.loc 4)) none (.light 0)
    (.cons none (.fieldAddr 0 (.loc 0)) none (.light 0)
    (.cons none (.load1 (.loc 0)) none (.light 0)
    (.cons none (.arith .add 3 (.loc 0) (.lit (.int 3 1))) none (.light 0)
    (.cons none (.mov (.var (.i .h))) none (.light 2)
    (.cons none (.arith .add 3 (.loc 1) (.loc 0)) none (.light 0)
    (.cons none (.loadN 2 (.var (.o (.o (.o .h))))) none (.light 2)
    (.cons none (.callF 79 (.cons (.loc 7) (.cons (.loc 13) (.cons (.loc 1) (.cons (.loc 0) .nil))))) none .heavy
    (.cons none (.mov (.loc 0)) none (.light 0)
    (.cons none (.extract 0 (.loc 0)) none (.light 0)
    (.cons none (.alloc (.cons (.int 3 0) (.cons (.int 3 0) .nil)) 2) (some (.o (.i (.o .h)))) .float
    (.cons none (.store 2 (.loc 0) (.loc 1)) none .heavy
    (.cons none (.extract 1 (.loc 3)) none (.light 1)
    (.cons none (.mov (.loc 0)) none (.light 0)
    .nil)))))))))))))))))))))) 1)
  (.seq (.draw (.cons none (.mov (.var (.o .h))) none (.light 0)
    (.cons none (.nilCheck (.loc 0)) none (.light 0)
    (.cons none (.fieldAddr 0 (.loc 0)) none (.light 0)
    (.cons none (.load1 (.loc 0)) none (.light 0)
    (.cons none (.loadN 2 (.var (.o (.i (.o .h))))) none (.light 0)
    (.cons none (.callF 38 (.cons (.loc 1) (.cons (.loc 0) .nil))) none .heavy
    .nil)))))) 0)
  (.seq (.region (.cons none (.mov (.lit (.int 3 0))) (some (.o (.i .h)))
    .nil))
  .ret))))))),
  [.tmp (.o (.i .h))], none⟩
theorem c32 : FnOk Try.prog 0 32 cf32 :=
  .of Try.func32 (n := 59) (by kernel_rfl) (far := fun t => Nat.testBit 8397171 t) (by kernel_rfl)
def cf33 : CFunc := ⟨(.seq (.region (.cons none (.alloc (.cons (.int 3 0) (.cons (.int 3 0) .nil)) 2) (some (.o (.o .h)))
    (.cons none (.mov (.lit (.int 3 0))) (some (.i (.o .h)))
    .nil)))
  (.seq (.seq (.region (.cons none (.mov (.var (.o .h))) none
    (.cons none (.callF 67 (.cons (.loc 0) .nil)) none
    (.cons none (.mov (.loc 0)) (some (.o (.i .h)))
    .nil))))
  (.seq (.region (.cons none (.mov (.var (.o (.i .h)))) none
    (.cons none (.cmp .neq (.loc 0) (.lit (.int 3 0))) (some (.o (.i (.o .h))))
    .nil)))
  (.cond (.var (.o (.i (.o .h)))) (.seq (.region (.cons none (.build (.cons (.int 3 0) (.cons (.int 3 0) .nil)) .nil) none
    (.cons none (.mov (.var (.o (.i .h)))) none
    (.cons none (.store 2 (.var (.o (.o .h))) (.loc 1)) none
    (.cons none (.mov (.loc 1)) (some (.i (.o .h)))
    .nil)))))
  .ret)
  .skip)))
  (.seq (.seq (.region (.cons none (.mov (.var (.o .h))) none
    (.cons none (.callF 21 (.cons (.loc 0) .nil)) none
    (.cons none (.cmp .eql (.loc 0) (.lit (.int 3 0))) (some (.i (.i (.i .h))))
    .nil))))
  (.cond (.var (.i (.i (.i .h)))) (.seq (.region (.cons none (.build (.cons (.int 3 0) (.cons (.int 3 0) .nil)) .nil) none
    (.cons none (.store 2 (.var (.o (.o .h))) (.loc 0)) none
    (.cons none (.mov (.lit (.int 3 5))) (some (.i (.o .h)))
    .nil))))
  .ret)
  .skip))
  (.seq (.draw (.cons none (.mov (.var (.o .h))) none (.light 0)
    (.cons none (.callF 69 (.cons (.loc 0) .nil)) none .heavy
    (.cons none (.mov (.var (.o .h))) none (.light 1)
    (.cons none (.nilCheck (.loc 0)) none (.light 1)
    (.cons none (.fieldAddr 0 (.loc 0)) none (.light 1)
    (.cons none (.load1 (.loc 0)) none (.light 1)
    (.cons none (.callF 37 (.cons (.loc 0) (.cons (.loc 4) .nil))) none .heavy
    (.cons none (.extract 0 (.loc 0)) none (.light 0)
    (.cons none (.extract 1 (.loc 1)) none (.light 0)
    (.cons none (.store 2 (.var (.o (.o .h))) (.loc 1)) none .heavy
    (.cons none (.mov (.loc 1)) (some (.i (.o .h))) (.light 0)
    .nil))))))))))) 0)
  .ret)))),
  [.cellN (.o (.o .h)) 2, .tmp (.i (.o .h))], none⟩
theorem c33 : FnOk Try.prog 0 33 cf33 :=
  .of Try.func33 (n := 24) (by kernel_rfl) (far := fun t => Nat.testBit 8477 t) (by kernel_rfl)
def cf37 : CFunc := ⟨(.seq (.region (.cons none (.alloc (.cons (.int 3 0) (.cons (.int 3 0) .nil)) 2) (some (.o (.i .h)))
    (.cons none (.mov (.lit (.int 3 0))) (some (.i (.i .h)))
    .nil)))
  (.seq (.region (.cons none (.mov (.var (.o .h))) none
    (.cons none (.mov (.var (.i .h))) none
    (.cons none (.callF 75 (.cons (.loc 1) (.cons (.loc 0) .nil))) none
    (.cons none (.mov (.loc 0)) none
    (.cons none (.extract 0 (.loc 0)) none
    (.cons none (.extract 1 (.loc 1)) none
    (.cons none (.mov (.loc 1)) (some (.o (.o (.o .h))))
    (.cons none (.mov (.loc 1)) (some (.i (.o (.o .h))))
    .nil)))))))))
  (.seq (.seq (.region (.cons none (.mov (.var (.i (.o (.o .h))))) none
    (.cons none (.cmp .neq (.loc 0) (.lit (.int 3 0))) (some (.i (.i (.o (.o .h)))))
    .nil)))
  (.cond (.var (.i (.i (.o (.o .h))))) (.seq (.region (.cons none (.build (.cons (.int 3 0) (.cons (.int 3 0) .nil)) .nil) none
    (.cons none (.mov (.var (.i (.o (.o .h))))) none
    (.cons none (.store 2 (.var (.o (.i .h))) (.loc 1)) none
    (.cons none (.mov (.loc 1)) (some (.i (.i .h)))
    .nil)))))
  .ret)
  .skip))
  (.seq (.region (.cons none (.mov (.var (.o (.o (.o .h))))) none
    (.cons none (.nilCheck (.loc 0)) none
    (.cons none (.fieldAddr 2 (.loc 0)) none
    (.cons none (.load1 (.loc 0)) none
    (.cons none (.lenSl (.loc 0)) none
    (.cons none (.arith .sub 3 (.loc 0) (.lit (.int 3 1))) none
    (.cons none (.mov (.loc 0)) (some (.o (.i (.o .h))))
    .nil))))))))
  (.seq (.region (.cons none (.mov (.var (.o .h))) none
    (.cons none (.mov (.var (.i .h))) none
    (.cons none (.mov (.var (.o (.i (.o .h))))) none
    (.cons none (.callF 80 (.cons (.loc 2) (.cons (.loc 1) (.cons (.loc 0) .nil)))) none
    (.cons none (.mov (.loc 0)) none
    (.cons none (.extract 0 (.loc 0)) none
    (.cons none (.extract 1 (.loc 1)) none
    (.cons none (.alloc (.cons (.int 3 0) (.cons (.int 3 0) .nil)) 2) (some (.i (.i (.o .h))))
    (.cons none (.store 2 (.loc 0) (.loc 2)) none
    (.cons none (.mov (.loc 2)) (some (.i (.o (.o .h))))
    .nil)))))))))))
  (.seq (.seq (.region (.cons none (.mov (.var (.i (.o (.o .h))))) none
    (.cons none (.cmp .eql (.loc 0) (.lit (.int 3 0))) (some (.o (.o (.i (.o (.o .h))))))
    .nil)))
  (.cond (.var (.o (.o (.i (.o (.o .h)))))) (.seq (.region (.cons none (.mov (.var (.o (.o (.o .h))))) none
    (.cons none (.mov (.var (.o (.o (.o .h))))) none
    (.cons none (.nilCheck (.loc 0)) none
    (.cons none (.fieldAddr 2 (.loc 0)) none
    (.cons none (.load1 (.loc 0)) none
    (.cons none (.mov (.var (.o (.i (.o .h))))) none
    (.cons none (.sliceSl 2 (.loc 1) none (some (.loc 0)) none) none
    (.cons none (.nilCheck (.loc 6)) none
    (.cons none (.fieldAddr 2 (.loc 0)) none
    (.cons none (.store 1 (.loc 0) (.loc 2)) none
    .nil)))))))))))
  (.region (.cons none (.mov (.var (.o .h))) none
    (.cons none (.mov (.var (.i .h))) none
    (.cons none (.callF 81 (.cons (.loc 1) (.cons (.loc 0) .nil))) none
    .nil)))))
  .skip))
  (.seq (.region (.cons none (.loadN 2 (.var (.i (.i (.o .h))))) none
    (.cons none (.mov (.var (.i (.o (.o .h))))) none
    (.cons none (.store 2 (.var (.o (.i .h))) (.loc 1)) none
    (.cons none (.mov (.loc 1)) (some (.i (.i .h)))
    .nil)))))
  .ret))))))),
  [.cellN (.o (.i .h)) 2, .tmp (.i (.i .h))], none⟩
theorem c37 : FnOk Try.prog 0 37 cf37 :=
  .of Try.func37 (n := 49) (by kernel_rfl) (far := fun t => Nat.testBit 17180001267 t) (by kernel_rfl)
def cf38 : CFunc := ⟨(.seq (.region (.cons none (.box (.var (.i .h))) (some (.i (.o .h)))
    (.cons none (.mov (.lit (.int 3 0))) (some (.o (.i .h)))
    .nil)))
  (.seq (.region (.cons none (.mov (.var (.o .h))) none
    (.cons none (.loadN 2 (.var (.i (.o .h)))) none
    (.cons none (.callF 71 (.cons (.loc 1) (.cons (.loc 0) .nil))) none
    (.cons none (.mov (.loc 0)) none
    (.cons none (.extract 0 (.loc 0)) none
    (.cons none (.extract 1 (.loc 1)) none
    (.cons none (.mov (.loc 1)) (some (.i (.i .h)))
    (.cons none (.mov (.loc 1)) (some (.o (.o (.o .h))))
    .nil)))))))))
  (.seq (.seq (.region (.cons none (.mov (.var (.i (.i .h)))) none
    (.cons none (.eq .ptr false (.loc 0) (.lit .nilptr)) (some (.i (.o (.o (.o .h)))))
    .nil)))
  (.cond (.var (.i (.o (.o (.o .h))))) (.seq (.region (.cons none (.mov (.var (.o (.o (.o .h))))) none
    (.cons none (.mov (.loc 0)) (some (.o (.i .h)))
    .nil)))
  .ret)
  .skip))
  (.seq (.region (.cons none (.fieldAddr 1 (.var (.i (.o .h)))) none
    (.cons none (.load1 (.loc 0)) none
    (.cons none (.mov (.loc 0)) (some (.i (.o (.o .h))))
    .nil))))
  (.seq (.region (.cons none (.mov (.var (.i (.i .h)))) none
    (.cons none (.nilCheck (.loc 0)) none
    (.cons none (.fieldAddr 1 (.loc 0)) none
    (.cons none (.load1 (.loc 0)) none
    (.cons none (.arith .sub 3 (.loc 0) (.lit (.int 3 1))) none
    (.cons none (.nilCheck (.loc 4)) none
    (.cons none (.fieldAddr 1 (.loc 0)) none
    (.cons none (.store 1 (.loc 0) (.loc 2)) none
    .nil)))))))))
  (.seq (.block 0 (.seq (.region (.cons none (.mov (.var (.i (.i .h)))) none
    (.cons none (.nilCheck (.loc 0)) none
    (.cons none (.fieldAddr 1 (.loc 0)) none
    (.cons none (.load1 (.loc 0)) none
    (.cons none (.cmp .eql (.loc 0) (.lit (.int 3 0))) none
    (.cons none (.mov (.loc 0)) (some (.o (.o (.i (.i .h)))))
    .nil)))))))
  (.cond (.var (.o (.o (.i (.i .h))))) (.seq (.region (.cons none (.mov (.var (.o .h))) none
    (.cons none (.mov (.var (.o .h))) none
    (.cons none (.nilCheck (.loc 0)) none
    (.cons none (.fieldAddr 2 (.loc 0)) none
    (.cons none (.load1 (.loc 0)) none
    (.cons none (.mov (.var (.i (.o (.o .h))))) none
    (.cons none (.buildSlice (.cons (.int 3 0) .nil) 1 1 (.cons 0 1 (.loc 0) .nil)) none
    (.cons none (.append (.cons (.int 3 0) .nil) 1 (.loc 2) (.loc 0)) none
    (.cons none (.nilCheck (.loc 7)) none
    (.cons none (.fieldAddr 2 (.loc 0)) none
    (.cons none (.store 1 (.loc 0) (.loc 2)) none
    .nil))))))))))))
  (.region (.cons none (.mov (.var (.o .h))) none
    (.cons none (.mov (.var (.o .h))) none
    (.cons none (.nilCheck (.loc 0)) none
    (.cons none (.fieldAddr 3 (.loc 0)) none
    (.cons none (.load1 (.loc 0)) none
    (.cons none (.mov (.var (.i (.o (.o .h))))) none
    (.cons none (.callF 82 (.cons (.loc 1) (.cons (.loc 0) .nil))) none
    (.cons none (.nilCheck (.loc 6)) none
    (.cons none (.fieldAddr 3 (.loc 0)) none
    (.cons none (.store 1 (.loc 0) (.loc 2)) none
    .nil))))))))))))
  (.seq (.region (.cons none (.mov (.var (.i (.i .h)))) none
    (.cons none (.nilCheck (.loc 0)) none
    (.cons none (.fieldAddr 0 (.loc 0)) none
    (.cons none (.load1 (.loc 0)) none
    (.cons none (.cmp .neq (.loc 0) (.lit (.int 3 5))) none
    (.cons none (.mov (.loc 0)) none
    (.cons (some (0, true)) (.mov (.var (.o .h))) none
    (.cons (some (1, true)) (.nilCheck (.loc 0)) none
    (.cons (some (2, true)) (.fieldAddr 3 (.loc 0)) none
    (.cons (some (3, true)) (.load1 (.loc 0)) none
    (.cons (some (4, true)) (.mov (.var (.i (.o (.o .h))))) none
    (.cons (some (5, true)) (.callF 83 (.cons (.loc 1) (.cons (.loc 0) .nil))) none
    (.cons (some (6, true)) (.not (.loc 0)) none
    (.cons none (.pick (.loc 7) (.loc 0) (.lit (.bool false))) none
    (.cons none (.mov (.loc 0)) (some (.i (.o (.i (.o (.i .h))))))
    .nil))))))))))))))))
  (.cond (.var (.i (.o (.i (.o (.i .h)))))) (.region (.cons none (.mov (.var (.o .h))) none
    (.cons none (.mov (.var (.o .h))) none
    (.cons none (.nilCheck (.loc 0)) none
    (.cons none (.fieldAddr 3 (.loc 0)) none
    (.cons none (.load1 (.loc 0)) none
    (.cons none (.mov (.var (.i (.o (.o .h))))) none
    (.cons none (.buildSlice (.cons (.int 3 0) .nil) 1 1 (.cons 0 1 (.loc 0) .nil)) none
    (.cons none (.append (.cons (.int 3 0) .nil) 1 (.loc 2) (.loc 0)) none
    (.cons none (.nilCheck (.loc 7)) none
    (.cons none (.fieldAddr 3 (.loc 0)) none
    (.cons none (.store 1 (.loc 0) (.loc 2)) none
    .nil))))))))))))
  .skip)))))
  (.seq (.region (.cons none (.mov (.lit (.int 3 0))) (some (.o (.i .h)))
    .nil))
  .ret))))))),
  [.tmp (.o (.i .h))], none⟩
theorem c38 : FnOk Try.prog 0 38 cf38 :=
  .of Try.func38 (n := 76) (by kernel_rfl) (far := fun t => Nat.testBit 2251799880827131 t) (by kernel_rfl)
def cf40 : CFunc := ⟨(.seq (.region (.cons none (.mov (.lit .nilptr)) (some (.o .h))
    .nil))
  (.seq (.region (.cons none (.callF 84 .nil) none
    (.cons none .mkMap none
    (.cons none (.build (.cons .nilptr (.cons .nilmap (.cons .nilslice (.cons .nilslice (.cons .nilslice (.cons (.int 3 0) (.cons .nilfunc (.cons (.bool false) .nil)))))))) (.cons 0 1 (.loc 1) (.cons 1 1 (.loc 0) (.cons 6 1 (.lit (.func (.func 85) .nil .nil)) .nil)))) none
    (.cons none (.box (.loc 0)) none
    (.cons none (.mov (.loc 0)) (some (.o .h))
    .nil))))))
  .ret)),
  [.tmp (.o .h)], none⟩
theorem c40 : FnOk Try.prog 0 40 cf40 :=
  .of Try.func40 (n := 5) (by kernel_rfl) (far := fun t => Nat.testBit 1 t) (by kernel_rfl)
def cf48 : CFunc := ⟨(.seq (.region (.cons none (.alloc (.cons (.int 3 0) (.cons (.int 3 0) .nil)) 2) (some (.o (.o (.o .h))))
    .nil))
  (.seq (.seq (.region (.cons none (.mov (.var (.o .h))) none
    (.cons none (.eq .ptr false (.loc 0) (.lit .nilptr)) none
    (.cons none (.mov (.loc 0)) none
    (.cons (some (0, false)) (.mov (.var (.i .h))) none
    (.cons (some (1, false)) (.cmp .lss (.loc 0) (.lit (.int 3 5))) none
    (.cons none (.pick (.loc 2) (.lit (.bool true)) (.loc 0)) none
    (.cons none (.mov (.loc 0)) none
    (.cons (some (0, false)) (.mov (.var (.i .h))) none
    (.cons (some (1, false)) (.cmp .gtr (.loc 0) (.lit (.int 3 9))) none
    (.cons none (.pick (.loc 2) (.lit (.bool true)) (.loc 0)) none
    (.cons none (.mov (.loc 0)) none
    (.cons (some (0, false)) (.mov (.var (.o (.o .h)))) none
    (.cons (some (1, false)) (.lenStr (.loc 0)) none
    (.cons (some (2, false)) (.cmp .gtr (.loc 0) (.lit (.int 3 4096))) none
    (.cons none (.pick (.loc 3) (.lit (.bool true)) (.loc 0)) (some (.i (.o (.o (.i .h)))))
    .nil))))))))))))))))
  (.cond (.var (.i (.o (.o (.i .h))))) (.seq (.region (.cons none (.build (.cons (.int 3 0) (.cons (.int 3 0) .nil)) .nil) none
    (.cons none (.store 2 (.var (.o (.o (.o .h)))) (.loc 0)) none
    .nil)))
  .ret)
  .skip))
  (.seq (.region (.cons none (.mov (.var (.i .h))) none
    (.cons none (.build (.cons (.int 3 0) (.cons (.int 3 0) (.cons .nilslice (.cons (.str 0 0) (.cons (.int 3 0) .nil))))) (.cons 0 1 (.loc 0) (.cons 1 1 (.lit (.int 3 1)) .nil))) none
    (.cons none (.box (.loc 0)) none
    (.cons none (.mov (.loc 0)) (some (.i (.o (.o .h))))
    .nil)))))
  (.seq (.seq (.region (.cons none (.mov (.var (.i .h))) none
    (.cons none (.cmp .eql (.loc 0) (.lit (.int 3 5))) (some (.i (.i (.i (.i .h)))))
    .nil)))
  (.cond (.var (.i (.i (.i (.i .h))))) (.region (.cons none (.mov (.var (.i (.o (.o .h))))) none
    (.cons none (.mov (.var (.o (.o .h)))) none
    (.cons none (.nilCheck (.loc 1)) none
    (.cons none (.fieldAddr 3 (.loc 0)) none
    (.cons none (.store 1 (.loc 0) (.loc 2)) none
    .nil))))))
  .skip))
  (.seq (.region (.cons none (.mov (.var (.o .h))) none
    (.cons none (.nilCheck (.loc 0)) none
    (.cons none (.fieldAddr 0 (.loc 0)) none
    (.cons none (.load1 (.loc 0)) none
    (.cons none (.callF 99 (.cons (.loc 0) .nil)) none
    (.cons none (.mov (.loc 0)) (some (.o (.i (.o .h))))
    .nil)))))))
  (.seq (.region (.cons none (.mov (.var (.o .h))) none
    (.cons none (.nilCheck (.loc 0)) none
    (.cons none (.fieldAddr 1 (.loc 0)) none
    (.cons none (.load1 (.loc 0)) none
    (.cons none (.mov (.var (.o (.i (.o .h))))) none
    (.cons none (.mov (.var (.i (.o (.o .h))))) none
    (.cons none (.update (.leaf .int) (.loc 2) (.loc 1) (.loc 0)) none
    .nil))))))))
  (.seq (.region (.cons none (.mov (.var (.i .h))) none
    (.cons none (.mov (.var (.o (.i (.o .h))))) none
    (.cons none (.build (.cons (.int 3 0) (.cons (.int 3 0) .nil)) (.cons 0 1 (.loc 1) (.cons 1 1 (.loc 0) .nil))) none
    (.cons none (.store 2 (.var (.o (.o (.o .h)))) (.loc 0)) none
    .nil)))))
  .ret))))))),
  [.cellN (.o (.o (.o .h))) 2], none⟩
theorem c48 : FnOk Try.prog 0 48 cf48 :=
  .of Try.func48 (n := 48) (by kernel_rfl) (far := fun t => Nat.testBit 545259975 t) (by kernel_rfl)
def cf52 : CFunc := ⟨(.seq (.region (.cons none (.box (.var (.i .h))) (some (.i (.i .h)))
    (.cons none (.box (.var (.o (.o .h)))) (some (.o (.o (.o .h))))
    (.cons none (.alloc (.cons (.int 3 0) (.cons (.int 3 0) .nil)) 2) (some (.o (.i (.o .h))))
    .nil))))
  (.seq (.seq (.region (.cons none (.mov (.var (.i (.o .h)))) none
    (.cons none (.arith .rem 4 (.loc 0) (.lit (.int 4 4))) (some (.o (.o (.i .h))))
    .nil)))
  (.block 0 (.seq (.region (.cons none (.cmp .eql (.var (.o (.o (.i .h)))) (.lit (.int 4 0))) none
    (.cons none (.mov (.loc 0)) (some (.i (.o (.i .h))))
    .nil)))
  (.cond (.var (.i (.o (.i .h)))) (.seq (.region (.cons none (.mov (.var (.o .h))) none
    (.cons none (.loadN 2 (.var (.i (.i .h)))) none
    (.cons none (.callF 18 (.cons (.loc 1) (.cons (.loc 0) .nil))) none
    .nil))))
  (.seq (.region (.cons none (.loadN 2 (.var (.i (.i .h)))) none
    (.cons none (.store 2 (.var (.o (.i (.o .h)))) (.loc 0)) none
    .nil)))
  .ret))
  (.seq (.region (.cons none (.cmp .eql (.var (.o (.o (.i .h)))) (.lit (.int 4 1))) none
    (.cons none (.mov (.loc 0)) (some (.i (.i (.o (.o .h)))))
    .nil)))
  (.cond (.var (.i (.i (.o (.o .h))))) (.seq (.region (.cons none (.mov (.var (.o .h))) none
    (.cons none (.loadN 2 (.var (.o (.o (.o .h))))) none
    (.cons none (.callF 18 (.cons (.loc 1) (.cons (.loc 0) .nil))) none
    .nil))))
  (.seq (.region (.cons none (.loadN 2 (.var (.o (.o (.o .h))))) none
    (.cons none (.store 2 (.var (.o (.i (.o .h)))) (.loc 0)) none
    .nil)))
  .ret))
  (.seq (.region (.cons none (.cmp .eql (.var (.o (.o (.i .h)))) (.lit (.int 4 2))) none
    (.cons none (.mov (.loc 0)) (some (.i (.o (.o (.i .h)))))
    .nil)))
  (.cond (.var (.i (.o (.o (.i .h))))) (.seq (.region (.cons none (.callF 27 .nil) none
    (.cons none (.store 2 (.var (.o (.i (.o .h)))) (.loc 0)) none
    .nil)))
  .ret)
  .skip))))))))
  (.seq (.region (.cons none (.mov (.var (.i (.o .h)))) none
    (.cons none (.convInt 3 (.loc 0)) none
    (.cons none (.callF 16 (.cons (.loc 0) .nil)) none
    (.cons none (.store 2 (.var (.o (.i (.o .h)))) (.loc 0)) none
    .nil)))))
  .ret))),
  [.cellN (.o (.i (.o .h))) 2], none⟩
theorem c52 : FnOk Try.prog 0 52 cf52 :=
  .of Try.func52 (n := 29) (by kernel_rfl) (far := fun t => Nat.testBit 8523119 t) (by kernel_rfl)
def cf53 : CFunc := ⟨(.seq (.region (.cons none (.alloc (.cons .nilslice .nil) 1) (some (.o (.o .h)))
    .nil))
  (.seq (.region (.cons none (.alloc (.cons .nilslice .nil) 1) (some (.i (.o .h)))
    .nil))
  (.seq (.seq (.region (.cons none (.mov (.var (.o .h))) none
    (.cons none (.eq .ptr false (.loc 0) (.lit .nilptr)) (some (.o (.o (.o .h))))
    .nil)))
  (.cond (.var (.o (.o (.o .h)))) (.seq (.region (.cons none (.loadN 1 (.var (.i (.o .h)))) none
    (.cons none (.store 1 (.var (.o (.o .h))) (.loc 0)) none
    .nil)))
  .ret)
  .skip))
  (.seq (.seq (.region (.cons none (.mov (.var (.o .h))) none
    (.cons none (.nilCheck (.loc 0)) none
    (.cons none (.fieldAddr 0 (.loc 0)) none
    (.cons none (.load1 (.loc 0)) none
    (.cons none (.callF 104 (.cons (.loc 0) .nil)) (some (.o (.i (.i .h))))
    (.cons none (.mov (.lit (.int 3 0))) (some (.i (.i (.i .h))))
    .nil)))))))
  (.block 0 (.loop (.seq (.region (.cons none (.cmp .lss (.var (.i (.i (.i .h)))) (.var (.o (.i (.i .h))))) (some (.o (.o (.o (.o .h)))))
    .nil))
  (.seq (.cond (.var (.o (.o (.o (.o .h))))) .skip
  (.exit 0))
  (.seq (.block 1 (.seq (.region (.cons none (.mov (.var (.i (.i (.i .h))))) none
    (.cons none (.mov (.loc 0)) (some (.o (.i .h)))
    .nil)))
  (.draw (.cons none (.mov (.var (.o .h))) none (.light 0)
    (.cons none (.mov (.var (.o (.i .h)))) none (.light 0)
    (.cons none (.arith .add 3 (.loc 0) (.lit (.int 3 1))) none (.light 0)
    (.cons none (.callF 25 (.cons (.loc 2) (.cons (.loc 0) .nil))) none .heavy
    (.cons none (.fieldAddr 0 (.var (.i (.o .h)))) none (.light 1)
    (.cons none (.load1 (.loc 0)) none (.light 1)
    (.cons none (.buildSlice (.cons (.int 3 0) (.cons (.int 3 0) (.cons .nilslice (.cons (.str 0 0) (.cons (.int 3 0) .nil))))) 5 1 (.cons 0 5 (.loc 2) .nil)) none .float
    (.cons none (.append (.cons (.int 3 0) (.cons (.int 3 0) (.cons .nilslice (.cons (.str 0 0) (.cons (.int 3 0) .nil))))) 5 (.loc 1) (.loc 0)) none .heavy
    (.cons none (.fieldAddr 0 (.var (.i (.o .h)))) none (.light 0)
    (.cons none (.store 1 (.loc 0) (.loc 1)) none .heavy
    .nil)))))))))) 1)))
  (.region (.cons none (.arith .add 3 (.var (.i (.i (.i .h)))) (.lit (.int 3 1))) none
    (.cons none (.mov (.loc 0)) (some (.i (.i (.i .h))))
    .nil)))))))))
  (.seq (.region (.cons none (.loadN 1 (.var (.i (.o .h)))) none
    (.cons none (.store 1 (.var (.o (.o .h))) (.loc 0)) none
    .nil)))
  .ret))))),
  [.cellN (.o (.o .h)) 1], none⟩
theorem c53 : FnOk Try.prog 0 53 cf53 :=
  .of Try.func53 (n := 27) (by kernel_rfl) (far := fun t => Nat.testBit 28765 t) (by kernel_rfl)
def cf54 : CFunc := ⟨(.seq (.region (.cons none (.box (.var (.o .h))) (some (.i .h))
    (.cons none (.mov (.lit (.bool false))) (some (.o (.o .h)))
    .nil)))
  (.seq (.region (.cons none (.fieldAddr 0 (.var (.i .h))) none
    (.cons none (.load1 (.loc 0)) none
    (.cons none (.mkFunc (.func 106) .nil (.cons (.var (.i .h)) .nil)) none
    (.cons none (.callF 105 (.cons (.loc 1) (.cons (.loc 0) .nil))) none
    (.cons none (.not (.loc 0)) none
    (.cons none (.mov (.loc 0)) (some (.o (.o .h)))
    .nil)))))))
  .ret)),
  [.tmp (.o (.o .h))], none⟩
theorem c54 : FnOk Try.prog 0 54 cf54 :=
  .of Try.func54 (n := 8) (by kernel_rfl) (far := fun t => Nat.testBit 7 t) (by kernel_rfl)
def cf55 : CFunc := ⟨(.seq (.region (.cons none (.box (.var (.o .h))) (some (.o (.o .h)))
    (.cons none (.mov (.lit .nilslice)) (some (.o (.i .h)))
    .nil)))
  (.seq (.region (.cons none .mkMap none
    (.cons none (.mov (.loc 0)) (some (.i (.i .h)))
    .nil)))
  (.seq (.seq (.region (.cons none (.mov (.var (.i .h))) none
    (.cons none (.callF 30 (.cons (.loc 0) .nil)) (some (.o (.o (.o (.o .h)))))
    (.cons none (.lenSl (.loc 0)) (some (.i (.o (.o (.o .h)))))
    (.cons none (.mov (.lit (.int 3 0))) (some (.o (.i (.o (.o .h)))))
    .nil)))))
  (.block 0 (.loop (.seq (.region (.cons none (.cmp .lss (.var (.o (.i (.o (.o .h))))) (.var (.i (.o (.o (.o .h)))))) (some (.i (.i (.o (.o .h)))))
    .nil))
  (.seq (.cond (.var (.i (.i (.o (.o .h))))) .skip
  (.exit 0))
  (.seq (.block 1 (.seq (.region (.cons none (.idxSl 1 (.var (.o (.o (.o (.o .h))))) (.var (.o (.i (.o (.o .h)))))) none
    (.cons none (.load1 (.loc 0)) none
    (.cons none (.mov (.loc 0)) (some (.i (.o (.o .h))))
    .nil))))
  (.region (.cons none (.mov (.var (.i (.i .h)))) none
    (.cons none (.mov (.var (.i (.o (.o .h))))) none
    (.cons none (.lookup (.leaf .int) (.int 3 0) false (.loc 1) (.loc 0)) none
    (.cons none (.arith .add 3 (.loc 0) (.lit (.int 3 1))) none
    (.cons none (.update (.leaf .int) (.loc 3) (.loc 2) (.loc 0)) none
    .nil))))))))
  (.region (.cons none (.arith .add 3 (.var (.o (.i (.o (.o .h))))) (.lit (.int 3 1))) none
    (.cons none (.mov (.loc 0)) (some (.o (.i (.o (.o .h)))))
    .nil)))))))))
  (.seq (.region (.cons none (.mov (.lit .nilslice)) (some (.o (.i (.o .h))))
    .nil))
  (.seq (.seq (.region (.cons none (.loadN 1 (.var (.o (.o .h)))) none
    (.cons none (.callF 108 (.cons (.loc 0) .nil)) (some (.o (.o (.i (.i .h)))))
    (.cons none (.lenSl (.loc 0)) (some (.i (.o (.i (.i .h)))))
    (.cons none (.mov (.lit (.int 3 0))) (some (.o (.i (.i (.i .h)))))
    .nil)))))
  (.block 2 (.loop (.seq (.region (.cons none (.cmp .lss (.var (.o (.i (.i (.i .h))))) (.var (.i (.o (.i (.i .h)))))) (some (.i (.i (.i (.i .h)))))
    .nil))
  (.seq (.cond (.var (.i (.i (.i (.i .h))))) .skip
  (.exit 2))
  (.seq (.block 3 (.seq (.region (.cons none (.mov (.var (.o (.i (.i (.i .h)))))) none
    (.cons none (.idxSl 1 (.var (.o (.o (.i (.i .h))))) (.var (.o (.i (.i (.i .h)))))) none
    (.cons none (.load1 (.loc 0)) none
    (.cons none (.mov (.loc 2)) (some (.i (.i (.o .h))))
    (.cons none (.mov (.loc 1)) (some (.o (.o (.i .h))))
    .nil))))))
  (.seq (.region (.cons none (.fieldAddr 0 (.var (.o (.o .h)))) none
    (.cons none (.load1 (.loc 0)) none
    (.cons none (.mov (.var (.i (.i (.o .h))))) none
    (.cons none (.idxSl 5 (.loc 1) (.loc 0)) none
    (.cons none (.loadN 5 (.loc 0)) none
    (.cons none (.alloc (.cons (.int 3 0) (.cons (.int 3 0) (.cons .nilslice (.cons (.str 0 0) (.cons (.int 3 0) .nil))))) 5) (some (.i (.o (.i .h))))
    (.cons none (.store 5 (.loc 0) (.loc 1)) none
    .nil))))))))
  (.seq (.region (.cons none (.fieldAddr 0 (.var (.i (.o (.i .h))))) none
    (.cons none (.load1 (.loc 0)) none
    (.cons none (.cmp .neq (.loc 0) (.lit (.int 3 0))) none
    (.cons none (.mov (.loc 0)) none
    (.cons (some (0, true)) (.fieldAddr 1 (.var (.i (.o (.i .h))))) none
    (.cons (some (1, true)) (.load1 (.loc 0)) none
    (.cons (some (2, true)) (.mov (.var (.o (.o (.i .h))))) none
    (.cons (some (3, true)) (.mov (.var (.i (.i .h)))) none
    (.cons (some (4, true)) (.mov (.var (.i (.i (.o .h))))) none
    (.cons (some (5, true)) (.arith .add 3 (.loc 0) (.lit (.int 3 1))) none
    (.cons (some (6, true)) (.lookup (.leaf .int) (.int 3 0) false (.loc 2) (.loc 0)) none
    (.cons (some (7, true)) (.arith .add 3 (.loc 4) (.loc 0)) none
    (.cons (some (8, true)) (.cmp .neq (.loc 6) (.loc 0)) none
    (.cons none (.pick (.loc 9) (.loc 0) (.lit (.bool false))) (some (.i (.o (.i (.o (.i .h))))))
    .nil)))))))))))))))
  (.cond (.var (.i (.o (.i (.o (.i .h)))))) (.region (.cons none (.mov (.var (.o (.i (.o .h))))) none
    (.cons none (.mov (.var (.i (.i (.o .h))))) none
    (.cons none (.arith .add 3 (.loc 0) (.lit (.int 3 1))) none
    (.cons none (.buildSlice (.cons (.int 3 0) .nil) 1 1 (.cons 0 1 (.loc 0) .nil)) none
    (.cons none (.append (.cons (.int 3 0) .nil) 1 (.loc 3) (.loc 0)) none
    (.cons none (.mov (.loc 0)) (some (.o (.i (.o .h))))
    .nil)))))))
  .skip)))))
  (.region (.cons none (.arith .add 3 (.var (.o (.i (.i (.i .h))))) (.lit (.int 3 1))) none
    (.cons none (.mov (.loc 0)) (some (.o (.i (.i (.i .h)))))
    .nil)))))))))
  (.seq (.region (.cons none (.mov (.var (.o (.i (.o .h))))) none
    (.cons none (.mov (.loc 0)) (some (.o (.i .h)))
    .nil)))
  .ret)))))),
  [.tmp (.o (.i .h))], none⟩
theorem c55 : FnOk Try.prog 0 55 cf55 :=
  .of Try.func55 (n := 59) (by kernel_rfl) (far := fun t => Nat.testBit 2251800820567991 t) (by kernel_rfl)
def cf67 : CFunc := ⟨(.seq (.region (.cons none (.mov (.lit (.int 3 0))) (some (.o (.o .h)))
    .nil))
  (.seq (.block 0 (.seq (.region (.cons none (.mov (.var (.o .h))) none
    (.cons none (.eq .ptr false (.loc 0) (.lit .nilptr)) none
    (.cons none (.mov (.loc 0)) none
    (.cons (some (0, false)) (.mov (.var (.o .h))) none
    (.cons (some (1, false)) (.nilCheck (.loc 0)) none
    (.cons (some (2, false)) (.fieldAddr 0 (.loc 0)) none
    (.cons (some (3, false)) (.load1 (.loc 0)) none
    (.cons (some (4, false)) (.eq .ptr false (.loc 0) (.lit .nilptr)) none
    (.cons none (.pick (.loc 5) (.lit (.bool true)) (.loc 0)) none
    (.cons none (.mov (.loc 0)) (some (.i (.o .h)))
    .nil)))))))))))
  (.cond (.var (.i (.o .h))) (.seq (.region (.cons none (.mov (.lit (.int 3 1))) (some (.o (.o .h)))
    .nil))
  .ret)
  (.seq (.draw (.cons none (.mov (.var (.o .h))) none (.light 0)
    (.cons none (.nilCheck (.loc 0)) none (.light 0)
    (.cons none (.fieldAddr 3 (.loc 0)) none (.light 0)
    (.cons none (.load1 (.loc 0)) none (.light 0)
    (.cons none (.lenSl (.loc 0)) none (.light 0)
    (.cons none (.cmp .eql (.loc 0) (.lit (.int 3 0))) none (.light 0)
    (.cons none (.mov (.loc 0)) none (.light 0)
    (.cons (some (0, false)) (.mov (.var (.o .h))) none (.light 0)
    (.cons (some (1, false)) (.callF 69 (.cons (.loc 0) .nil)) none .heavy
    (.cons (some (2, false)) (.mov (.var (.o .h))) none (.light 1)
    (.cons (some (3, false)) (.nilCheck (.loc 0)) none (.light 1)
    (.cons (some (4, false)) (.fieldAddr 0 (.loc 0)) none (.light 1)
    (.cons (some (5, false)) (.load1 (.loc 0)) none (.light 1)
    (.cons (some (6, false)) (.callF 25 (.cons (.loc 0) (.cons (.loc 4) .nil))) none .heavy
    (.cons (some (7, false)) (.field1 0 (.loc 0)) none (.light 0)
    (.cons (some (8, false)) (.cmp .neq (.loc 0) (.lit (.int 3 8))) none (.light 0)
    (.cons none (.pick (.loc 9) (.lit (.bool true)) (.loc 0)) none (.light 0)
    (.cons none (.mov (.loc 0)) none (.light 0)
    (.cons (some (0, false)) (.mov (.var (.o .h))) none (.light 0)
    (.cons (some (1, false)) (.callF 72 (.cons (.loc 0) .nil)) none .heavy
    (.cons (some (2, false)) (.mov (.var (.o .h))) none (.light 1)
    (.cons (some (3, false)) (.callF 70 (.cons (.loc 0) .nil)) none .heavy
    (.cons (some (4, false)) (.nilCheck (.loc 0)) none (.light 0)
    (.cons (some (5, false)) (.fieldAddr 0 (.loc 0)) none (.light 0)
    (.cons (some (6, false)) (.load1 (.loc 0)) none (.light 0)
    (.cons (some (7, false)) (.arith .add 3 (.loc 0) (.lit (.int 3 1))) none (.light 0)
    (.cons (some (8, false)) (.cmp .lss (.loc 6) (.loc 0)) none (.light 0)
    (.cons none (.pick (.loc 9) (.lit (.bool true)) (.loc 0)) none (.light 0)
    (.cons none (.mov (.loc 0)) (some (.i (.i (.i .h)))) (.light 0)
    .nil))))))))))))))))))))))))))))) 0)
  (.cond (.var (.i (.i (.i .h)))) (.seq (.region (.cons none (.mov (.lit (.int 3 5))) (some (.o (.o .h)))
    .nil))
  .ret)
  .skip)))))
  (.seq (.region (.cons none (.mov (.lit (.int 3 0))) (some (.o (.o .h)))
    .nil))
  .ret))),
  [.tmp (.o (.o .h))], none⟩
theorem c67 : FnOk Try.prog 0 67 cf67 :=
  .of Try.func67 (n := 42) (by kernel_rfl) (far := fun t => Nat.testBit 8205 t) (by kernel_rfl)
def cf68 : CFunc := ⟨(.seq (.region (.cons none (.box (.var (.o (.o .h)))) (some (.i (.i .h)))
    (.cons none (.mov (.lit (.int 3 0))) (some (.o (.o (.o .h))))
    .nil)))
  (.seq (.region (.cons none (.mov (.var (.o .h))) none
    (.cons none (.mov (.var (.i .h))) none
    (.cons none (.callF 75 (.cons (.loc 1) (.cons (.loc 0) .nil))) none
    (.cons none (.mov (.loc 0)) none
    (.cons none (.extract 0 (.loc 0)) none
    (.cons none (.extract 1 (.loc 1)) none
    (.cons none (.mov (.loc 1)) (some (.i (.o (.o .h))))
    (.cons none (.mov (.loc 1)) (some (.o (.i (.o .h))))
    .nil)))))))))
  (.seq (.seq (.region (.cons none (.mov (.var (.o (.i (.o .h))))) none
    (.cons none (.cmp .neq (.loc 0) (.lit (.int 3 0))) (some (.o (.i (.o (.o .h)))))
    .nil)))
  (.cond (.var (.o (.i (.o (.o .h))))) (.seq (.region (.cons none (.mov (.var (.o (.i (.o .h))))) none
    (.cons none (.mov (.loc 0)) (some (.o (.o (.o .h))))
    .nil)))
  .ret)
  .skip))
  (.seq (.seq (.region (.cons none (.mov (.var (.i (.o (.o .h))))) none
    (.cons none (.nilCheck (.loc 0)) none
    (.cons none (.fieldAddr 0 (.loc 0)) none
    (.cons none (.load1 (.loc 0)) none
    (.cons none (.cmp .eql (.loc 0) (.lit (.int 3 5))) none
    (.cons none (.mov (.loc 0)) none
    (.cons (some (0, false)) (.mov (.var (.o .h))) none
    (.cons (some (1, false)) (.loadN 2 (.var (.i (.i .h)))) none
    (.cons (some (2, false)) (.callF 115 (.cons (.loc 1) (.cons (.loc 0) .nil))) none
    (.cons (some (3, false)) (.not (.loc 0)) none
    (.cons none (.pick (.loc 4) (.lit (.bool true)) (.loc 0)) (some (.o (.i (.i (.i .h)))))
    .nil))))))))))))
  (.cond (.var (.o (.i (.i (.i .h))))) (.seq (.region (.cons none (.mov (.lit (.int 3 2))) (some (.o (.o (.o .h))))
    .nil))
  .ret)
  .skip))
  (.seq (.draw (.cons none (.mov (.var (.i (.o (.o .h))))) none (.light 0)
    (.cons none (.nilCheck (.loc 0)) none (.light 0)
    (.cons none (.fieldAddr 2 (.loc 0)) none (.light 0)
    (.cons none (.load1 (.loc 0)) none (.light 0)
    (.cons none (.loadN 2 (.var (.i (.i .h)))) none (.light 0)
    (.cons none (.buildSlice (.cons (.int 3 0) (.cons (.int 3 0) .nil)) 2 1 (.cons 0 2 (.loc 0) .nil)) none .float
    (.cons none (.append (.cons (.int 3 0) (.cons (.int 3 0) .nil)) 2 (.loc 2) (.loc 0)) none .heavy
    (.cons none (.mov (.var (.i (.o (.o .h))))) none (.light 1)
    (.cons none (.nilCheck (.loc 0)) none (.light 0)
    (.cons none (.fieldAddr 2 (.loc 0)) none (.light 0)
    (.cons none (.store 1 (.loc 0) (.loc 3)) none .heavy
    .nil))))))))))) 1)
  (.seq (.region (.cons none (.mov (.var (.o .h))) none
    (.cons none (.mov (.var (.i .h))) none
    (.cons none (.callF 81 (.cons (.loc 1) (.cons (.loc 0) .nil))) none
    .nil))))
  (.seq (.region (.cons none (.mov (.lit (.int 3 0))) (some (.o (.o (.o .h))))
    .nil))
  .ret))))))),
  [.tmp (.o (.o (.o .h)))], none⟩
theorem c68 : FnOk Try.prog 0 68 cf68 :=
  .of Try.func68 (n := 42) (by kernel_rfl) (far := fun t => Nat.testBit 268501479 t) (by kernel_rfl)
def cf69 : CFunc := ⟨(.seq (.region (.cons none (.mov (.lit (.int 3 0))) (some (.o (.o .h)))
    .nil))
  (.seq (.region (.cons none (.mov (.var (.o .h))) none
    (.cons none (.nilCheck (.loc 0)) none
    (.cons none (.fieldAddr 1 (.loc 0)) none
    (.cons none (.fieldAddr 1 (.loc 0)) none
    (.cons none (.load1 (.loc 0)) none
    (.cons none (.mov (.loc 0)) (some (.o (.o .h)))
    .nil)))))))
  .ret)),
  [.tmp (.o (.o .h))], none⟩
theorem c69 : FnOk Try.prog 0 69 cf69 :=
  .of Try.func69 (n := 8) (by kernel_rfl) (far := fun t => Nat.testBit 5 t) (by kernel_rfl)
def cf70 : CFunc := ⟨(.seq (.region (.cons none (.mov (.lit .nilptr)) (some (.o (.o .h)))
    .nil))
  (.seq (.draw (.cons none (.mov (.var (.o .h))) none (.light 0)
    (.cons none (.nilCheck (.loc 0)) none (.light 0)
    (.cons none (.fieldAddr 3 (.loc 0)) none (.light 0)
    (.cons none (.load1 (.loc 0)) none (.light 0)
    (.cons none (.mov (.var (.o .h))) none (.light 0)
    (.cons none (.nilCheck (.loc 0)) none (.light 0)
    (.cons none (.fieldAddr 3 (.loc 0)) none (.light 0)
    (.cons none (.load1 (.loc 0)) none (.light 0)
    (.cons none (.lenSl (.loc 0)) none (.light 0)
    (.cons none (.arith .sub 3 (.loc 0) (.lit (.int 3 1))) none (.light 0)
    (.cons none (.idxSl 3 (.loc 6) (.loc 0)) none (.light 0)
    (.cons none (.mov (.loc 0)) (some (.o (.o .h))) (.light 0)
    .nil)))))))))))) 0)
  .ret)),
  [.tmp (.o (.o .h))], none⟩
theorem c70 : FnOk Try.prog 0 70 cf70 :=
  .of Try.func70 (n := 14) (by kernel_rfl) (far := fun t => Nat.testBit 5 t) (by kernel_rfl)
def cf71 : CFunc := ⟨(.seq (.region (.cons none (.box (.var (.i .h))) (some (.i (.o .h)))
    (.cons none (.mov (.lit .nilptr)) (some (.o (.i .h)))
    (.cons none (.mov (.lit (.int 3 0))) (some (.i (.i .h)))
    .nil))))
  (.seq (.seq (.region (.cons none (.mov (.var (.o .h))) none
    (.cons none (.eq .ptr false (.loc 0) (.lit .nilptr)) (some (.o (.i (.o .h))))
    .nil)))
  (.cond (.var (.o (.i (.o .h)))) (.seq (.region (.cons none (.mov (.lit .nilptr)) (some (.o (.i .h)))
    (.cons none (.mov (.lit (.int 3 1))) (some (.i (.i .h)))
    .nil)))
  .ret)
  .skip))
  (.seq (.seq (.region (.cons none (.loadN 2 (.var (.i (.o .h)))) none
    (.cons none (.callF 77 (.cons (.loc 0) .nil)) none
    (.cons none (.not (.loc 0)) (some (.i (.o (.i .h))))
    .nil))))
  (.cond (.var (.i (.o (.i .h)))) (.seq (.region (.cons none (.mov (.lit .nilptr)) (some (.o (.i .h)))
    (.cons none (.mov (.lit (.int 3 0))) (some (.i (.i .h)))
    .nil)))
  .ret)
  .skip))
  (.seq (.draw (.cons none (.mov (.var (.o .h))) none (.light 0)
    (.cons none (.nilCheck (.loc 0)) none (.light 0)
    (.cons none (.fieldAddr 1 (.loc 0)) none (.light 0)
    (.cons none (.load1 (.loc 0)) none (.light 0)
    (.cons none (.fieldAddr 1 (.var (.i (.o .h)))) none (.light 0)
    (.cons none (.load1 (.loc 0)) none (.light 0)
    (.cons none (.lookup (.leaf .int) .nilptr false (.loc 2) (.loc 0)) none (.light 0)
    (.cons none (.mov (.loc 0)) (some (.o (.o (.o .h)))) (.light 0)
    .nil)))))))) 0)
  (.seq (.seq (.region (.cons none (.mov (.var (.o .h))) none
    (.cons none (.loadN 2 (.var (.i (.o .h)))) none
    (.cons none (.callF 115 (.cons (.loc 1) (.cons (.loc 0) .nil))) none
    (.cons none (.not (.loc 0)) none
    (.cons none (.mov (.loc 0)) none
    (.cons (some (0, false)) (.mov (.var (.o (.o (.o .h))))) none
    (.cons (some (1, false)) (.nilCheck (.loc 0)) none
    (.cons (some (2, false)) (.fieldAddr 1 (.loc 0)) none
    (.cons (some (3, false)) (.load1 (.loc 0)) none
    (.cons (some (4, false)) (.cmp .eql (.loc 0) (.lit (.int 3 0))) none
    (.cons none (.pick (.loc 5) (.lit (.bool true)) (.loc 0)) (some (.i (.i (.i (.i .h)))))
    .nil))))))))))))
  (.cond (.var (.i (.i (.i (.i .h))))) (.seq (.region (.cons none (.mov (.lit .nilptr)) (some (.o (.i .h)))
    (.cons none (.mov (.lit (.int 3 5))) (some (.i (.i .h)))
    .nil)))
  .ret)
  .skip))
  (.seq (.region (.cons none (.mov (.var (.o .h))) none
    (.cons none (.fieldAddr 1 (.var (.i (.o .h)))) none
    (.cons none (.load1 (.loc 0)) none
    (.cons none (.callF 81 (.cons (.loc 2) (.cons (.loc 0) .nil))) none
    .nil)))))
  (.seq (.region (.cons none (.mov (.var (.o (.o (.o .h))))) none
    (.cons none (.mov (.loc 0)) (some (.o (.i .h)))
    (.cons none (.mov (.lit (.int 3 0))) (some (.i (.i .h)))
    .nil))))
  .ret))))))),
  [.tmp (.o (.i .h)), .tmp (.i (.i .h))], none⟩
theorem c71 : FnOk Try.prog 0 71 cf71 :=
  .of Try.func71 (n := 35) (by kernel_rfl) (far := fun t => Nat.testBit 536873339 t) (by kernel_rfl)
def cf72 : CFunc := ⟨(.seq (.region (.cons none (.mov (.lit (.int 3 0))) (some (.o (.o .h)))
    .nil))
  (.seq (.draw (.cons none (.mov (.var (.o .h))) none (.light 0)
    (.cons none (.callF 69 (.cons (.loc 0) .nil)) none .heavy
    (.cons none (.mov (.var (.o .h))) none (.light 1)
    (.cons none (.nilCheck (.loc 0)) none (.light 1)
    (.cons none (.fieldAddr 0 (.loc 0)) none (.light 1)
    (.cons none (.load1 (.loc 0)) none (.light 1)
    (.cons none (.callF 25 (.cons (.loc 0) (.cons (.loc 4) .nil))) none .heavy
    (.cons none (.field1 2 (.loc 0)) none (.light 0)
    (.cons none (.lenSl (.loc 0)) none (.light 0)
    (.cons none (.mov (.loc 0)) (some (.o (.o .h))) (.light 0)
    .nil)))))))))) 0)
  .ret)),
  [.tmp (.o (.o .h))], none⟩
theorem c72 : FnOk Try.prog 0 72 cf72 :=
  .of Try.func72 (n := 12) (by kernel_rfl) (far := fun t => Nat.testBit 5 t) (by kernel_rfl)
def cf73 : CFunc := ⟨(.seq (.region (.cons none (.box (.var (.o .h))) (some (.o (.o .h)))
    (.cons none (.box (.var (.i .h))) (some (.i (.o .h)))
    .nil)))
  (.seq (.region (.cons none (.mkFunc (.func 116) .nil (.cons (.var (.o (.o .h))) (.cons (.var (.i (.o .h))) .nil))) none
    (.cons none (.mov (.loc 0)) (some (.o (.i .h)))
    .nil)))
  (.block 0 (.loop (.seq (.seq (.region (.cons none (.mov (.var (.o (.i .h)))) none
    (.cons none (.callV (.loc 0) .nil) (some (.i (.i (.o .h))))
    .nil)))
  (.cond (.var (.i (.i (.o .h)))) .skip
  (.exit 0)))
  (.block 1 (.seq (.draw (.cons none (.load1 (.var (.o (.o .h)))) none (.light 0)
    (.cons none (.callF 69 (.cons (.loc 0) .nil)) none .heavy
    (.cons none (.load1 (.var (.o (.o .h)))) none (.light 1)
    (.cons none (.nilCheck (.loc 0)) none (.light 1)
    (.cons none (.fieldAddr 0 (.loc 0)) none (.light 1)
    (.cons none (.load1 (.loc 0)) none (.light 1)
    (.cons none (.callF 37 (.cons (.loc 0) (.cons (.loc 4) .nil))) none .heavy
    (.cons none (.mov (.loc 0)) none (.light 0)
    (.cons none (.extract 0 (.loc 0)) none (.light 0)
    (.cons none (.alloc (.cons (.int 3 0) (.cons (.int 3 0) .nil)) 2) (some (.i (.i .h))) .float
    (.cons none (.store 2 (.loc 0) (.loc 1)) none .heavy
    (.cons none (.extract 1 (.loc 3)) none (.light 1)
    (.cons none (.mov (.loc 0)) none (.light 0)
    .nil))))))))))))) 1)
  (.draw (.cons none (.load1 (.var (.o (.o .h)))) none (.light 0)
    (.cons none (.nilCheck (.loc 0)) none (.light 0)
    (.cons none (.fieldAddr 0 (.loc 0)) none (.light 0)
    (.cons none (.load1 (.loc 0)) none (.light 0)
    (.cons none (.loadN 2 (.var (.i (.i .h)))) none (.light 0)
    (.cons none (.callF 38 (.cons (.loc 1) (.cons (.loc 0) .nil))) none .heavy
    .nil)))))) 0)))))))),
  [], none⟩
theorem c73 : FnOk Try.prog 0 73 cf73 :=
  .of Try.func73 (n := 26) (by kernel_rfl) (far := fun t => Nat.testBit 575 t) (by kernel_rfl)
def cf74 : CFunc := ⟨(.seq (.region (.cons none (.alloc (.cons (.int 3 0) (.cons (.int 3 0) .nil)) 2) (some (.o (.i .h)))
    .nil))
  (.seq (.seq (.region (.cons none (.mov (.var (.o .h))) none
    (.cons none (.callF 67 (.cons (.loc 0) .nil)) none
    (.cons none (.cmp .neq (.loc 0) (.lit (.int 3 0))) (some (.i (.i (.o .h))))
    .nil))))
  (.cond (.var (.i (.i (.o .h)))) (.seq (.region (.cons none (.build (.cons (.int 3 0) (.cons (.int 3 0) .nil)) .nil) none
    (.cons none (.store 2 (.var (.o (.i .h))) (.loc 0)) none
    .nil)))
  .ret)
  .skip))
  (.seq (.draw (.cons none (.mov (.var (.o .h))) none (.light 0)
    (.cons none (.callF 69 (.cons (.loc 0) .nil)) none .heavy
    (.cons none (.mov (.var (.o .h))) none (.light 1)
    (.cons none (.callF 70 (.cons (.loc 0) .nil)) none .heavy
    (.cons none (.mov (.var (.o .h))) none (.light 2)
    (.cons none (.nilCheck (.loc 0)) none (.light 2)
    (.cons none (.fieldAddr 0 (.loc 0)) none (.light 2)
    (.cons none (.load1 (.loc 0)) none (.light 2)
    (.cons none (.nilCheck (.loc 4)) none (.light 0)
    (.cons none (.fieldAddr 0 (.loc 0)) none (.light 0)
    (.cons none (.load1 (.loc 0)) none (.light 0)
    (.cons none (.mov (.var (.i .h))) none (.light 2)
    (.cons none (.arith .add 3 (.loc 1) (.loc 0)) none (.light 0)
    (.cons none (.callF 80 (.cons (.loc 5) (.cons (.loc 11) (.cons (.loc 0) .nil)))) none .heavy
    (.cons none (.mov (.loc 0)) none (.light 0)
    (.cons none (.extract 0 (.loc 0)) none (.light 0)
    (.cons none (.alloc (.cons (.int 3 0) (.cons (.int 3 0) .nil)) 2) (some (.i (.i .h))) .float
    (.cons none (.store 2 (.loc 0) (.loc 1)) none .heavy
    (.cons none (.extract 1 (.loc 3)) none (.light 1)
    (.cons none (.mov (.loc 0)) none (.light 0)
    .nil)))))))))))))))))))) 1)
  (.seq (.region (.cons none (.loadN 2 (.var (.i (.i .h)))) none
    (.cons none (.store 2 (.var (.o (.i .h))) (.loc 0)) none
    .nil)))
  .ret)))),
  [.cellN (.o (.i .h)) 2], none⟩
theorem c74 : FnOk Try.prog 0 74 cf74 :=
  .of Try.func74 (n := 29) (by kernel_rfl) (far := fun t => Nat.testBit 563 t) (by kernel_rfl)
def cf75 : CFunc := ⟨(.seq (.region (.cons none (.mov (.lit .nilptr)) (some (.o (.i .h)))
    (.cons none (.mov (.lit (.int 3 0))) (some (.i (.i .h)))
    .nil)))
  (.seq (.seq (.region (.cons none (.mov (.var (.o .h))) none
    (.cons none (.eq .ptr false (.loc 0) (.lit .nilptr)) (some (.o (.i (.o .h))))
    .nil)))
  (.cond (.var (.o (.i (.o .h)))) (.seq (.region (.cons none (.mov (.lit .nilptr)) (some (.o (.i .h)))
    (.cons none (.mov (.lit (.int 3 1))) (some (.i (.i .h)))
    .nil)))
  .ret)
  .skip))
  (.seq (.seq (.region (.cons none (.mov (.var (.o .h))) none
    (.cons none (.nilCheck (.loc 0)) none
    (.cons none (.fieldAddr 1 (.loc 0)) none
    (.cons none (.load1 (.loc 0)) none
    (.cons none (.mov (.var (.i .h))) none
    (.cons none (.lookup (.leaf .int) .nilptr false (.loc 1) (.loc 0)) none
    (.cons none (.mov (.loc 0)) (some (.o (.o (.o .h))))
    .nil))))))))
  (.seq (.region (.cons none (.mov (.var (.o (.o (.o .h))))) none
    (.cons none (.eq .ptr true (.loc 0) (.lit .nilptr)) (some (.o (.i (.o (.o .h)))))
    .nil)))
  (.cond (.var (.o (.i (.o (.o .h))))) (.seq (.region (.cons none (.mov (.var (.o (.o (.o .h))))) none
    (.cons none (.mov (.loc 0)) (some (.o (.i .h)))
    (.cons none (.mov (.lit (.int 3 0))) (some (.i (.i .h)))
    .nil))))
  .ret)
  .skip)))
  (.seq (.region (.cons none (.mov (.lit .nilptr)) (some (.o (.i .h)))
    (.cons none (.mov (.lit (.int 3 5))) (some (.i (.i .h)))
    .nil)))
  .ret)))),
  [.tmp (.o (.i .h)), .tmp (.i (.i .h))], none⟩
theorem c75 : FnOk Try.prog 0 75 cf75 :=
  .of Try.func75 (n := 18) (by kernel_rfl) (far := fun t => Nat.testBit 65907 t) (by kernel_rfl)
def cf76 : CFunc := ⟨(.seq (.region (.cons none (.mov (.lit .nilslice)) (some (.o (.o .h)))
    .nil))
  (.seq (.seq (.region (.cons none (.mov (.var (.o .h))) none
    (.cons none (.eq .slice false (.loc 0) (.lit .nilslice)) (some (.o (.i .h)))
    .nil)))
  (.cond (.var (.o (.i .h))) (.seq (.region (.cons none (.mov (.lit .nilslice)) (some (.o (.o .h)))
    .nil))
  .ret)
  .skip))
  (.seq (.region (.cons none (.buildSlice (.cons (.int 3 0) (.cons (.int 3 0) .nil)) 0 0 .nil) none
    (.cons none (.mov (.var (.o .h))) none
    (.cons none (.append (.cons (.int 3 0) (.cons (.int 3 0) .nil)) 2 (.loc 1) (.loc 0)) none
    (.cons none (.mov (.loc 0)) (some (.o (.o .h)))
    .nil)))))
  .ret))),
  [.tmp (.o (.o .h))], none⟩
theorem c76 : FnOk Try.prog 0 76 cf76 :=
  .of Try.func76 (n := 8) (by kernel_rfl) (far := fun t => Nat.testBit 21 t) (by kernel_rfl)
def cf77 : CFunc := ⟨(.seq (.region (.cons none (.box (.var (.o .h))) (some (.i .h))
    (.cons none (.mov (.lit (.bool false))) (some (.o (.o .h)))
    .nil)))
  (.seq (.region (.cons none (.fieldAddr 0 (.var (.i .h))) none
    (.cons none (.load1 (.loc 0)) none
    (.cons none (.cmp .geq (.loc 0) (.lit (.int 3 5))) none
    (.cons none (.mov (.loc 0)) none
    (.cons (some (0, true)) (.loadN 2 (.var (.i .h))) none
    (.cons (some (1, true)) (.callF 117 (.cons (.loc 0) .nil)) none
    (.cons none (.pick (.loc 2) (.loc 0) (.lit (.bool false))) none
    (.cons none (.mov (.loc 0)) (some (.o (.o .h)))
    .nil)))))))))
  .ret)),
  [.tmp (.o (.o .h))], none⟩
theorem c77 : FnOk Try.prog 0 77 cf77 :=
  .of Try.func77 (n := 10) (by kernel_rfl) (far := fun t => Nat.testBit 7 t) (by kernel_rfl)
def cf78 : CFunc := ⟨(.seq (.region (.cons none (.mov (.lit (.int 3 0))) (some (.o (.i .h)))
    .nil))
  (.seq (.region (.cons none (.mov (.var (.o .h))) none
    (.cons none (.mov (.var (.i .h))) none
    (.cons none (.callF 75 (.cons (.loc 1) (.cons (.loc 0) .nil))) none
    (.cons none (.mov (.loc 0)) none
    (.cons none (.extract 0 (.loc 0)) none
    (.cons none (.extract 1 (.loc 1)) none
    (.cons none (.mov (.loc 1)) (some (.i (.i .h)))
    (.cons none (.mov (.loc 1)) (some (.o (.o (.o .h))))
    .nil)))))))))
  (.seq (.seq (.region (.cons none (.mov (.var (.o (.o (.o .h))))) none
    (.cons none (.cmp .eql (.loc 0) (.lit (.int 3 1))) (some (.o (.o (.o (.o .h)))))
    .nil)))
  (.cond (.var (.o (.o (.o (.o .h))))) (.seq (.region (.cons none (.mov (.var (.o (.o (.o .h))))) none
    (.cons none (.mov (.loc 0)) (some (.o (.i .h)))
    .nil)))
  .ret)
  .skip))
  (.seq (.seq (.region (.cons none (.mov (.var (.o (.o (.o .h))))) none
    (.cons none (.cmp .neq (.loc 0) (.lit (.int 3 0))) none
    (.cons none (.mov (.loc 0)) none
    (.cons (some (0, false)) (.mov (.var (.i (.i .h)))) none
    (.cons (some (1, false)) (.nilCheck (.loc 0)) none
    (.cons (some (2, false)) (.fieldAddr 0 (.loc 0)) none
    (.cons (some (3, false)) (.load1 (.loc 0)) none
    (.cons (some (4, false)) (.cmp .eql (.loc 0) (.lit (.int 3 5))) none
    (.cons none (.pick (.loc 5) (.lit (.bool true)) (.loc 0)) none
    (.cons none (.mov (.loc 0)) none
    (.cons (some (0, false)) (.mov (.var (.i (.i .h)))) none
    (.cons (some (1, false)) (.nilCheck (.loc 0)) none
    (.cons (some (2, false)) (.fieldAddr 1 (.loc 0)) none
    (.cons (some (3, false)) (.load1 (.loc 0)) none
    (.cons (some (4, false)) (.cmp .eql (.loc 0) (.lit (.int 3 0))) none
    (.cons none (.pick (.loc 5) (.lit (.bool true)) (.loc 0)) none
    (.cons none (.mov (.loc 0)) none
    (.cons (some (0, false)) (.mov (.var (.o .h))) none
    (.cons (some (1, false)) (.nilCheck (.loc 0)) none
    (.cons (some (2, false)) (.fieldAddr 3 (.loc 0)) none
    (.cons (some (3, false)) (.load1 (.loc 0)) none
    (.cons (some (4, false)) (.mov (.var (.i .h))) none
    (.cons (some (5, false)) (.callF 83 (.cons (.loc 1) (.cons (.loc 0) .nil))) none
    (.cons none (.pick (.loc 6) (.lit (.bool true)) (.loc 0)) (some (.i (.o (.o (.i (.o .h))))))
    .nil)))))))))))))))))))))))))
  (.cond (.var (.i (.o (.o (.i (.o .h)))))) (.seq (.region (.cons none (.mov (.lit (.int 3 2))) (some (.o (.i .h)))
    .nil))
  .ret)
  .skip))
  (.seq (.region (.cons none (.mov (.var (.o .h))) none
    (.cons none (.mov (.var (.o .h))) none
    (.cons none (.nilCheck (.loc 0)) none
    (.cons none (.fieldAddr 3 (.loc 0)) none
    (.cons none (.load1 (.loc 0)) none
    (.cons none (.mov (.var (.i .h))) none
    (.cons none (.buildSlice (.cons (.int 3 0) .nil) 1 1 (.cons 0 1 (.loc 0) .nil)) none
    (.cons none (.append (.cons (.int 3 0) .nil) 1 (.loc 2) (.loc 0)) none
    (.cons none (.nilCheck (.loc 7)) none
    (.cons none (.fieldAddr 3 (.loc 0)) none
    (.cons none (.store 1 (.loc 0) (.loc 2)) none
    .nil))))))))))))
  (.seq (.region (.cons none (.mov (.lit (.int 3 0))) (some (.o (.i .h)))
    .nil))
  .ret)))))),
  [.tmp (.o (.i .h))], none⟩
theorem c78 : FnOk Try.prog 0 78 cf78 :=
  .of Try.func78 (n := 50) (by kernel_rfl) (far := fun t => Nat.testBit 549755830387 t) (by kernel_rfl)
def cf79 : CFunc := ⟨(.seq (.region (.cons none (.box (.var (.i (.o .h)))) (some (.i (.o (.o .h))))
    (.cons none (.alloc (.cons (.int 3 0) (.cons (.int 3 0) .nil)) 2) (some (.o (.i (.o .h))))
    (.cons none (.mov (.lit (.int 3 0))) (some (.i (.i (.o .h))))
    .nil))))
  (.seq (.region (.cons none (.mov (.var (.o .h))) none
    (.cons none (.mov (.var (.i .h))) none
    (.cons none (.mov (.var (.o (.o .h)))) none
    (.cons none (.callF 80 (.cons (.loc 2) (.cons (.loc 1) (.cons (.loc 0) .nil)))) none
    (.cons none (.mov (.loc 0)) none
    (.cons none (.extract 0 (.loc 0)) none
    (.cons none (.extract 1 (.loc 1)) none
    (.cons none (.alloc (.cons (.int 3 0) (.cons (.int 3 0) .nil)) 2) (some (.o (.o (.i .h))))
    (.cons none (.store 2 (.loc 0) (.loc 2)) none
    (.cons none (.mov (.loc 2)) (some (.i (.o (.i .h))))
    .nil)))))))))))
  (.seq (.seq (.region (.cons none (.mov (.var (.i (.o (.i .h))))) none
    (.cons none (.cmp .neq (.loc 0) (.lit (.int 3 0))) (some (.o (.i (.i (.o .h)))))
    .nil)))
  (.cond (.var (.o (.i (.i (.o .h))))) (.seq (.region (.cons none (.build (.cons (.int 3 0) (.cons (.int 3 0) .nil)) .nil) none
    (.cons none (.mov (.var (.i (.o (.i .h))))) none
    (.cons none (.store 2 (.var (.o (.i (.o .h)))) (.loc 1)) none
    (.cons none (.mov (.loc 1)) (some (.i (.i (.o .h))))
    .nil)))))
  .ret)
  .skip))
  (.seq (.seq (.region (.cons none (.mov (.var (.o .h))) none
    (.cons none (.loadN 2 (.var (.i (.o (.o .h))))) none
    (.cons none (.callF 115 (.cons (.loc 1) (.cons (.loc 0) .nil))) none
    (.cons none (.not (.loc 0)) (some (.o (.o (.i (.i .h)))))
    .nil)))))
  (.cond (.var (.o (.o (.i (.i .h))))) (.seq (.region (.cons none (.build (.cons (.int 3 0) (.cons (.int 3 0) .nil)) .nil) none
    (.cons none (.store 2 (.var (.o (.i (.o .h)))) (.loc 0)) none
    (.cons none (.mov (.lit (.int 3 2))) (some (.i (.i (.o .h))))
    .nil))))
  .ret)
  .skip))
  (.seq (.draw (.cons none (.mov (.var (.o .h))) none (.light 0)
    (.cons none (.nilCheck (.loc 0)) none (.light 0)
    (.cons none (.fieldAddr 1 (.loc 0)) none (.light 0)
    (.cons none (.load1 (.loc 0)) none (.light 0)
    (.cons none (.mov (.var (.i .h))) none (.light 0)
    (.cons none (.lookup (.leaf .int) .nilptr false (.loc 1) (.loc 0)) none (.light 0)
    (.cons none (.nilCheck (.loc 0)) none (.light 0)
    (.cons none (.fieldAddr 2 (.loc 0)) none (.light 0)
    (.cons none (.load1 (.loc 0)) none (.light 0)
    (.cons none (.mov (.var (.o (.o .h)))) none (.light 0)
    (.cons none (.loadN 2 (.var (.i (.o (.o .h))))) none (.light 0)
    (.cons none (.idxSl 2 (.loc 2) (.loc 1)) none (.light 0)
    (.cons none (.store 2 (.loc 0) (.loc 1)) none .heavy
    .nil))))))))))))) 0)
  (.seq (.region (.cons none (.mov (.var (.o .h))) none
    (.cons none (.mov (.var (.i .h))) none
    (.cons none (.callF 81 (.cons (.loc 1) (.cons (.loc 0) .nil))) none
    .nil))))
  (.seq (.region (.cons none (.loadN 2 (.var (.o (.o (.i .h))))) none
    (.cons none (.store 2 (.var (.o (.i (.o .h)))) (.loc 0)) none
    (.cons none (.mov (.lit (.int 3 0))) (some (.i (.i (.o .h))))
    .nil))))
  .ret))))))),
  [.cellN (.o (.i (.o .h))) 2, .tmp (.i (.i (.o .h)))], none⟩
theorem c79 : FnOk Try.prog 0 79 cf79 :=
  .of Try.func79 (n := 44) (by kernel_rfl) (far := fun t => Nat.testBit 68161423 t) (by kernel_rfl)
def cf80 : CFunc := ⟨(.seq (.region (.cons none (.alloc (.cons (.int 3 0) (.cons (.int 3 0) .nil)) 2) (some (.o (.o (.o .h))))
    (.cons none (.mov (.lit (.int 3 0))) (some (.i (.o (.o .h))))
    .nil)))
  (.seq (.region (.cons none (.mov (.var (.o .h))) none
    (.cons none (.mov (.var (.i .h))) none
    (.cons none (.callF 75 (.cons (.loc 1) (.cons (.loc 0) .nil))) none
    (.cons none (.mov (.loc 0)) none
    (.cons none (.extract 0 (.loc 0)) none
    (.cons none (.extract 1 (.loc 1)) none
    (.cons none (.mov (.loc 1)) (some (.o (.i (.o .h))))
    (.cons none (.mov (.loc 1)) (some (.i (.i (.o .h))))
    .nil)))))))))
  (.seq (.seq (.region (.cons none (.mov (.var (.i (.i (.o .h))))) none
    (.cons none (.cmp .neq (.loc 0) (.lit (.int 3 0))) (some (.i (.i (.o (.o .h)))))
    .nil)))
  (.cond (.var (.i (.i (.o (.o .h))))) (.seq (.region (.cons none (.build (.cons (.int 3 0) (.cons (.int 3 0) .nil)) .nil) none
    (.cons none (.mov (.var (.i (.i (.o .h))))) none
    (.cons none (.store 2 (.var (.o (.o (.o .h)))) (.loc 1)) none
    (.cons none (.mov (.loc 1)) (some (.i (.o (.o .h))))
    .nil)))))
  .ret)
  .skip))
  (.seq (.seq (.region (.cons none (.mov (.var (.o (.o .h)))) none
    (.cons none (.cmp .lss (.loc 0) (.lit (.int 3 0))) none
    (.cons none (.mov (.loc 0)) none
    (.cons (some (0, false)) (.mov (.var (.o (.o .h)))) none
    (.cons (some (1, false)) (.mov (.var (.o (.i (.o .h))))) none
    (.cons (some (2, false)) (.nilCheck (.loc 0)) none
    (.cons (some (3, false)) (.fieldAddr 2 (.loc 0)) none
    (.cons (some (4, false)) (.load1 (.loc 0)) none
    (.cons (some (5, false)) (.lenSl (.loc 0)) none
    (.cons (some (6, false)) (.cmp .geq (.loc 5) (.loc 0)) none
    (.cons none (.pick (.loc 7) (.lit (.bool true)) (.loc 0)) (some (.o (.o (.o (.o (.o .h))))))
    .nil))))))))))))
  (.cond (.var (.o (.o (.o (.o (.o .h)))))) (.seq (.region (.cons none (.build (.cons (.int 3 0) (.cons (.int 3 0) .nil)) .nil) none
    (.cons none (.store 2 (.var (.o (.o (.o .h)))) (.loc 0)) none
    (.cons none (.mov (.lit (.int 3 5))) (some (.i (.o (.o .h))))
    .nil))))
  .ret)
  .skip))
  (.seq (.region (.cons none (.mov (.var (.o (.i (.o .h))))) none
    (.cons none (.nilCheck (.loc 0)) none
    (.cons none (.fieldAddr 2 (.loc 0)) none
    (.cons none (.load1 (.loc 0)) none
    (.cons none (.mov (.var (.o (.o .h)))) none
    (.cons none (.idxSl 2 (.loc 1) (.loc 0)) none
    (.cons none (.loadN 2 (.loc 0)) none
    (.cons none (.store 2 (.var (.o (.o (.o .h)))) (.loc 0)) none
    (.cons none (.mov (.lit (.int 3 0))) (some (.i (.o (.o .h))))
    .nil))))))))))
  .ret))))),
  [.cellN (.o (.o (.o .h))) 2, .tmp (.i (.o (.o .h)))], none⟩
theorem c80 : FnOk Try.prog 0 80 cf80 :=
  .of Try.func80 (n := 39) (by kernel_rfl) (far := fun t => Nat.testBit 1073873863 t) (by kernel_rfl)
def cf81 : CFunc := ⟨(.region (.cons none (.mov (.var (.o .h))) none
    (.cons none (.mov (.var (.o .h))) none
    (.cons none (.nilCheck (.loc 0)) none
    (.cons none (.fieldAddr 7 (.loc 0)) none
    (.cons none (.load1 (.loc 0)) none
    (.cons none (.mov (.loc 0)) none
    (.cons (some (0, false)) (.mov (.var (.o .h))) none
    (.cons (some (1, false)) (.nilCheck (.loc 0)) none
    (.cons (some (2, false)) (.fieldAddr 6 (.loc 0)) none
    (.cons (some (3, false)) (.load1 (.loc 0)) none
    (.cons (some (4, false)) (.mov (.var (.i .h))) none
    (.cons (some (5, false)) (.callV (.loc 1) (.cons (.loc 0) .nil)) none
    (.cons none (.pick (.loc 6) (.lit (.bool true)) (.loc 0)) none
    (.cons none (.nilCheck (.loc 12)) none
    (.cons none (.fieldAddr 7 (.loc 0)) none
    (.cons none (.store 1 (.loc 0) (.loc 2)) none
    .nil))))))))))))))))),
  [], none⟩
theorem c81 : FnOk Try.prog 0 81 cf81 :=
  .of Try.func81 (n := 19) (by kernel_rfl) (far := fun t => Nat.testBit 3 t) (by kernel_rfl)
def cf82 : CFunc := ⟨(.seq (.region (.cons none (.box (.var (.i .h))) (some (.i (.o .h)))
    (.cons none (.mov (.lit .nilslice)) (some (.o (.i .h)))
    .nil)))
  (.seq (.region (.cons none (.mov (.var (.o .h))) none
    (.cons none (.mkFunc (.func 119) .nil (.cons (.var (.i (.o .h))) .nil)) none
    (.cons none (.callF 118 (.cons (.loc 1) (.cons (.loc 0) .nil))) none
    (.cons none (.mov (.loc 0)) (some (.o (.i .h)))
    .nil)))))
  .ret)),
  [.tmp (.o (.i .h))], none⟩
theorem c82 : FnOk Try.prog 0 82 cf82 :=
  .of Try.func82 (n := 8) (by kernel_rfl) (far := fun t => Nat.testBit 27 t) (by kernel_rfl)
def cf83 : CFunc := ⟨(.seq (.region (.cons none (.mov (.lit (.bool false))) (some (.o (.i .h)))
    .nil))
  (.seq (.region (.cons none (.mov (.var (.o .h))) none
    (.cons none (.mov (.var (.i .h))) none
    (.cons none (.callF 120 (.cons (.loc 1) (.cons (.loc 0) .nil))) none
    (.cons none (.cmp .geq (.loc 0) (.lit (.int 3 0))) none
    (.cons none (.mov (.loc 0)) (some (.o (.i .h)))
    .nil))))))
  .ret)),
  [.tmp (.o (.i .h))], none⟩
theorem c83 : FnOk Try.prog 0 83 cf83 :=
  .of Try.func83 (n := 9) (by kernel_rfl) (far := fun t => Nat.testBit 19 t) (by kernel_rfl)
def cf84 : CFunc := ⟨(.seq (.region (.cons none (.mov (.lit .nilptr)) (some (.o .h))
    .nil))
  (.seq (.region (.cons none .mkMap none
    (.cons none (.build (.cons .nilmap (.cons .nilslice (.cons (.int 3 0) .nil))) (.cons 0 1 (.loc 0) (.cons 2 1 (.lit (.int 3 1)) .nil))) none
    (.cons none (.box (.loc 0)) none
    (.cons none (.mov (.loc 0)) (some (.o .h))
    .nil)))))
  .ret)),
  [.tmp (.o .h)], none⟩
theorem c84 : FnOk Try.prog 0 84 cf84 :=
  .of Try.func84 (n := 4) (by kernel_rfl) (far := fun t => Nat.testBit 1 t) (by kernel_rfl)
def cf85 : CFunc := ⟨(.seq (.region (.cons none (.mov (.lit (.bool false))) (some (.o (.o .h)))
    .nil))
  (.seq (.region (.cons none (.mov (.lit (.bool false))) (some (.o (.o .h)))
    .nil))
  .ret)),
  [.tmp (.o (.o .h))], none⟩
theorem c85 : FnOk Try.prog 0 85 cf85 :=
  .of Try.func85 (n := 3) (by kernel_rfl) (far := fun t => Nat.testBit 4 t) (by kernel_rfl)
def cf99 : CFunc := ⟨(.seq (.region (.cons none (.mov (.lit (.int 3 0))) (some (.o (.o .h)))
    .nil))
  (.seq (.seq (.region (.cons none (.mov (.var (.o .h))) none
    (.cons none (.callF 130 (.cons (.loc 0) .nil)) (some (.o (.o (.o .h))))
    .nil)))
  (.cond (.var (.o (.o (.o .h)))) (.seq (.region (.cons none (.mov (.lit (.int 3 0))) (some (.o (.o .h)))
    .nil))
  .ret)
  .skip))
  (.seq (.region (.cons none (.mov (.var (.o .h))) none
    (.cons none (.nilCheck (.loc 0)) none
    (.cons none (.fieldAddr 2 (.loc 0)) none
    (.cons none (.load1 (.loc 0)) none
    (.cons none (.mov (.loc 0)) (some (.i (.o .h)))
    .nil))))))
  (.seq (.seq (.region (.cons none (.mov (.var (.o .h))) none
    (.cons none (.nilCheck (.loc 0)) none
    (.cons none (.fieldAddr 1 (.loc 0)) none
    (.cons none (.load1 (.loc 0)) none
    (.cons none (.lenSl (.loc 0)) none
    (.cons none (.arith .sub 3 (.loc 0) (.lit (.int 3 1))) none
    (.cons none (.mov (.loc 0)) (some (.o (.i .h)))
    .nil))))))))
  (.seq (.region (.cons none (.mov (.var (.o (.i .h)))) none
    (.cons none (.cmp .geq (.loc 0) (.lit (.int 3 0))) (some (.o (.o (.i (.o .h)))))
    .nil)))
  (.cond (.var (.o (.o (.i (.o .h))))) (.seq (.region (.cons none (.mov (.var (.o .h))) none
    (.cons none (.nilCheck (.loc 0)) none
    (.cons none (.fieldAddr 1 (.loc 0)) none
    (.cons none (.load1 (.loc 0)) none
    (.cons none (.mov (.var (.o (.i .h)))) none
    (.cons none (.idxSl 1 (.loc 1) (.loc 0)) none
    (.cons none (.load1 (.loc 0)) none
    (.cons none (.mov (.loc 0)) (some (.i (.o .h)))
    .nil)))))))))
  (.region (.cons none (.mov (.var (.o .h))) none
    (.cons none (.mov (.var (.o .h))) none
    (.cons none (.nilCheck (.loc 0)) none
    (.cons none (.fieldAddr 1 (.loc 0)) none
    (.cons none (.load1 (.loc 0)) none
    (.cons none (.mov (.var (.o (.i .h)))) none
    (.cons none (.sliceSl 1 (.loc 1) none (some (.loc 0)) none) none
    (.cons none (.nilCheck (.loc 6)) none
    (.cons none (.fieldAddr 1 (.loc 0)) none
    (.cons none (.store 1 (.loc 0) (.loc 2)) none
    .nil))))))))))))
  (.region (.cons none (.mov (.var (.o .h))) none
    (.cons none (.nilCheck (.loc 0)) none
    (.cons none (.fieldAddr 2 (.loc 0)) none
    (.cons none (.load1 (.loc 0)) none
    (.cons none (.arith .add 3 (.loc 0) (.lit (.int 3 1))) none
    (.cons none (.nilCheck (.loc 4)) none
    (.cons none (.fieldAddr 2 (.loc 0)) none
    (.cons none (.store 1 (.loc 0) (.loc 2)) none
    .nil))))))))))))
  (.seq (.region (.cons none (.mov (.var (.o .h))) none
    (.cons none (.nilCheck (.loc 0)) none
    (.cons none (.fieldAddr 0 (.loc 0)) none
    (.cons none (.load1 (.loc 0)) none
    (.cons none (.mov (.var (.i (.o .h)))) none
    (.cons none (.build .nil .nil) none
    (.cons none (.update (.leaf .int) (.loc 2) (.loc 1) (.loc 0)) none
    .nil))))))))
  (.seq (.region (.cons none (.mov (.var (.i (.o .h)))) none
    (.cons none (.mov (.loc 0)) (some (.o (.o .h)))
    .nil)))
  .ret)))))),
  [.tmp (.o (.o .h))], none⟩
theorem c99 : FnOk Try.prog 0 99 cf99 :=
  .of Try.func99 (n := 49) (by kernel_rfl) (far := fun t => Nat.testBit 262237 t) (by kernel_rfl)
def cf105 : CFunc := ⟨(.seq (.region (.cons none (.mov (.lit (.bool false))) (some (.o (.i .h)))
    .nil))
  (.seq (.region (.cons none (.mov (.var (.o .h))) none
    (.cons none (.mov (.var (.i .h))) none
    (.cons none (.callF 132 (.cons (.loc 1) (.cons (.loc 0) .nil))) none
    (.cons none (.cmp .geq (.loc 0) (.lit (.int 3 0))) none
    (.cons none (.mov (.loc 0)) (some (.o (.i .h)))
    .nil))))))
  .ret)),
  [.tmp (.o (.i .h))], none⟩
theorem c105 : FnOk Try.prog 0 105 cf105 :=
  .of Try.func105 (n := 9) (by kernel_rfl) (far := fun t => Nat.testBit 19 t) (by kernel_rfl)
def cf106 : CFunc := ⟨(.seq (.region (.cons none (.box (.var (.o .h))) (some (.o (.o .h)))
    (.cons none (.mov (.lit (.bool false))) (some (.i (.o .h)))
    .nil)))
  (.seq (.region (.cons none (.loadN 1 (.var (.i .h))) none
    (.cons none (.loadN 5 (.var (.o (.o .h)))) none
    (.cons none (.callF 107 (.cons (.loc 1) (.cons (.loc 0) .nil))) none
    (.cons none (.not (.loc 0)) none
    (.cons none (.mov (.loc 0)) (some (.i (.o .h)))
    .nil))))))
  .ret)),
  [.tmp (.i (.o .h))], none⟩
theorem c106 : FnOk Try.prog 0 106 cf106 :=
  .of Try.func106 (n := 8) (by kernel_rfl) (far := fun t => Nat.testBit 15 t) (by kernel_rfl)
def cf107 : CFunc := ⟨(.seq (.region (.cons none (.box (.var (.o .h))) (some (.o (.o .h)))
    (.cons none (.box (.var (.i .h))) (some (.i (.o .h)))
    (.cons none (.mov (.lit (.bool false))) (some (.o (.i .h)))
    .nil))))
  (.seq (.seq (.region (.cons none (.fieldAddr 0 (.var (.i (.o .h)))) none
    (.cons none (.load1 (.loc 0)) none
    (.cons none (.cmp .eql (.loc 0) (.lit (.int 3 0))) (some (.o (.i (.o .h))))
    .nil))))
  (.cond (.var (.o (.i (.o .h)))) (.seq (.region (.cons none (.fieldAddr 1 (.var (.i (.o .h)))) none
    (.cons none (.load1 (.loc 0)) none
    (.cons none (.cmp .eql (.loc 0) (.lit (.int 3 0))) none
    (.cons none (.mov (.loc 0)) none
    (.cons (some (0, true)) (.fieldAddr 2 (.var (.i (.o .h)))) none
    (.cons (some (1, true)) (.load1 (.loc 0)) none
    (.cons (some (2, true)) (.lenSl (.loc 0)) none
    (.cons (some (3, true)) (.cmp .eql (.loc 0) (.lit (.int 3 0))) none
    (.cons none (.pick (.loc 4) (.loc 0) (.lit (.bool false))) none
    (.cons none (.mov (.loc 0)) none
    (.cons (some (0, true)) (.fieldAddr 3 (.var (.i (.o .h)))) none
    (.cons (some (1, true)) (.load1 (.loc 0)) none
    (.cons (some (2, true)) (.scmp .eql (.loc 0) (.lit (.str 0 0))) none
    (.cons none (.pick (.loc 3) (.loc 0) (.lit (.bool false))) none
    (.cons none (.mov (.loc 0)) none
    (.cons (some (0, true)) (.fieldAddr 4 (.var (.i (.o .h)))) none
    (.cons (some (1, true)) (.load1 (.loc 0)) none
    (.cons (some (2, true)) (.cmp .eql (.loc 0) (.lit (.int 3 0))) none
    (.cons none (.pick (.loc 3) (.loc 0) (.lit (.bool false))) none
    (.cons none (.mov (.loc 0)) (some (.o (.i .h)))
    .nil)))))))))))))))))))))
  .ret)
  .skip))
  (.seq (.region (.cons none (.fieldAddr 0 (.var (.i (.o .h)))) none
    (.cons none (.load1 (.loc 0)) none
    (.cons none (.cmp .eql (.loc 0) (.lit (.int 3 5))) none
    (.cons none (.alloc (.cons (.bool false) .nil) 1) (some (.i (.i .h)))
    (.cons none (.store 1 (.loc 0) (.loc 1)) none
    .nil))))))
  (.seq (.region (.cons none (.mkFunc (.func 134) .nil (.cons (.var (.i (.o .h))) .nil)) none
    (.cons none (.mkFunc (.func 135) .nil (.cons (.var (.i (.i .h))) (.cons (.var (.i (.o .h))) .nil))) none
    (.cons none (.mkFunc (.func 136) .nil (.cons (.var (.i (.o .h))) (.cons (.var (.o (.o .h))) .nil))) none
    (.cons none (.buildSlice (.cons .nilfunc .nil) 3 3 (.cons 0 1 (.loc 2) (.cons 1 1 (.loc 1) (.cons 2 1 (.loc 0) .nil)))) none
    (.cons none (.callF 133 (.cons (.loc 0) .nil)) none
    (.cons none (.mov (.loc 0)) (some (.o (.i .h)))
    .nil)))))))
  .ret)))),
  [.tmp (.o (.i .h))], none⟩
theorem c107 : FnOk Try.prog 0 107 cf107 :=
  .of Try.func107 (n := 36) (by kernel_rfl) (far := fun t => Nat.testBit 319 t) (by kernel_rfl)
def cf108 : CFunc := ⟨(.seq (.region (.cons none (.box (.var (.o .h))) (some (.i .h))
    (.cons none (.mov (.lit .nilslice)) (some (.o (.o .h)))
    .nil)))
  (.seq (.seq (.region (.cons none (.loadN 1 (.var (.i .h))) none
    (.cons none (.callF 54 (.cons (.loc 0) .nil)) none
    (.cons none (.not (.loc 0)) (some (.o (.i (.i .h))))
    .nil))))
  (.cond (.var (.o (.i (.i .h)))) (.seq (.region (.cons none (.mov (.lit .nilslice)) (some (.o (.o .h)))
    .nil))
  .ret)
  .skip))
  (.seq (.region (.cons none .mkMap none
    (.cons none (.mov (.loc 0)) (some (.i (.o .h)))
    .nil)))
  (.seq (.seq (.region (.cons none (.fieldAddr 0 (.var (.i .h))) none
    (.cons none (.load1 (.loc 0)) (some (.i (.o (.o (.o .h)))))
    (.cons none (.lenSl (.loc 0)) (some (.o (.i (.o (.o .h)))))
    (.cons none (.mov (.lit (.int 3 0))) (some (.i (.i (.o (.o .h)))))
    .nil)))))
  (.block 0 (.loop (.seq (.region (.cons none (.cmp .lss (.var (.i (.i (.o (.o .h))))) (.var (.o (.i (.o (.o .h)))))) (some (.o (.o (.i (.o .h)))))
    .nil))
  (.seq (.cond (.var (.o (.o (.i (.o .h))))) .skip
  (.exit 0))
  (.seq (.block 1 (.seq (.region (.cons none (.idxSl 5 (.var (.i (.o (.o (.o .h))))) (.var (.i (.i (.o (.o .h)))))) none
    (.cons none (.loadN 5 (.loc 0)) none
    (.cons none (.alloc (.cons (.int 3 0) (.cons (.int 3 0) (.cons .nilslice (.cons (.str 0 0) (.cons (.int 3 0) .nil))))) 5) (some (.i (.i .h)))
    (.cons none (.store 5 (.loc 0) (.loc 1)) none
    .nil)))))
  (.seq (.region (.cons none (.fieldAddr 2 (.var (.i (.i .h)))) none
    (.cons none (.load1 (.loc 0)) none
    (.cons none (.callF 30 (.cons (.loc 0) .nil)) (some (.i (.o (.o (.i .h)))))
    (.cons none (.lenSl (.loc 0)) (some (.o (.i (.o (.i .h)))))
    (.cons none (.mov (.lit (.int 3 0))) (some (.i (.i (.o (.i .h)))))
    .nil))))))
  (.block 2 (.loop (.seq (.region (.cons none (.cmp .lss (.var (.i (.i (.o (.i .h))))) (.var (.o (.i (.o (.i .h)))))) (some (.o (.o (.i (.i .h)))))
    .nil))
  (.seq (.cond (.var (.o (.o (.i (.i .h))))) .skip
  (.exit 2))
  (.seq (.block 3 (.seq (.region (.cons none (.idxSl 1 (.var (.i (.o (.o (.i .h))))) (.var (.i (.i (.o (.i .h)))))) none
    (.cons none (.load1 (.loc 0)) none
    (.cons none (.mov (.loc 0)) (some (.i (.o (.o .h))))
    .nil))))
  (.region (.cons none (.mov (.var (.i (.o .h)))) none
    (.cons none (.mov (.var (.i (.o (.o .h))))) none
    (.cons none (.lookup (.leaf .int) (.int 3 0) false (.loc 1) (.loc 0)) none
    (.cons none (.arith .add 3 (.loc 0) (.lit (.int 3 1))) none
    (.cons none (.update (.leaf .int) (.loc 3) (.loc 2) (.loc 0)) none
    .nil))))))))
  (.region (.cons none (.arith .add 3 (.var (.i (.i (.o (.i .h))))) (.lit (.int 3 1))) none
    (.cons none (.mov (.loc 0)) (some (.i (.i (.o (.i .h)))))
    .nil)))))))))))
  (.region (.cons none (.arith .add 3 (.var (.i (.i (.o (.o .h))))) (.lit (.int 3 1))) none
    (.cons none (.mov (.loc 0)) (some (.i (.i (.o (.o .h)))))
    .nil)))))))))
  (.seq (.region (.cons none (.fieldAddr 0 (.var (.i .h))) none
    (.cons none (.load1 (.loc 0)) none
    (.cons none (.lenSl (.loc 0)) none
    (.cons none (.makeSlice (.cons (.int 3 0) .nil) 1 (.loc 0) (.loc 0)) none
    (.cons none (.mov (.loc 0)) (some (.o (.i (.o .h))))
    .nil))))))
  (.seq (.seq (.region (.cons none (.mov (.var (.o (.i (.o .h))))) none
    (.cons none (.lenSl (.loc 0)) (some (.o (.i (.o (.i (.o .h))))))
    (.cons none (.mov (.lit (.int 3 0))) (some (.i (.i (.o (.i (.o .h))))))
    .nil))))
  (.block 4 (.loop (.seq (.region (.cons none (.cmp .lss (.var (.i (.i (.o (.i (.o .h)))))) (.var (.o (.i (.o (.i (.o .h))))))) (some (.o (.o (.i (.i (.o .h))))))
    .nil))
  (.seq (.cond (.var (.o (.o (.i (.i (.o .h)))))) .skip
  (.exit 4))
  (.seq (.block 5 (.seq (.region (.cons none (.mov (.var (.i (.i (.o (.i (.o .h))))))) none
    (.cons none (.mov (.loc 0)) (some (.i (.i (.o .h))))
    .nil)))
  (.region (.cons none (.mov (.var (.o (.i (.o .h))))) none
    (.cons none (.mov (.var (.i (.i (.o .h))))) none
    (.cons none (.mov (.var (.i (.o .h)))) none
    (.cons none (.mov (.var (.i (.i (.o .h))))) none
    (.cons none (.arith .add 3 (.loc 0) (.lit (.int 3 1))) none
    (.cons none (.lookup (.leaf .int) (.int 3 0) false (.loc 2) (.loc 0)) none
    (.cons none (.idxSl 1 (.loc 5) (.loc 4)) none
    (.cons none (.store 1 (.loc 0) (.loc 1)) none
    .nil)))))))))))
  (.region (.cons none (.arith .add 3 (.var (.i (.i (.o (.i (.o .h)))))) (.lit (.int 3 1))) none
    (.cons none (.mov (.loc 0)) (some (.i (.i (.o (.i (.o .h))))))
    .nil)))))))))
  (.seq (.region (.cons none (.mov (.var (.o (.i (.o .h))))) none
    (.cons none (.mov (.loc 0)) (some (.o (.o .h)))
    .nil)))
  .ret))))))),
  [.tmp (.o (.o .h))], none⟩
theorem c108 : FnOk Try.prog 0 108 cf108 :=
  .of Try.func108 (n := 53) (by kernel_rfl) (far := fun t => Nat.testBit 7696707720111 t) (by kernel_rfl)
def cf115 : CFunc := ⟨(.seq (.region (.cons none (.box (.var (.i .h))) (some (.i (.o .h)))
    (.cons none (.mov (.lit (.bool false))) (some (.o (.i .h)))
    .nil)))
  (.seq (.seq (.region (.cons none (.loadN 2 (.var (.i (.o .h)))) none
    (.cons none (.callF 117 (.cons (.loc 0) .nil)) none
    (.cons none (.not (.loc 0)) none
    (.cons none (.mov (.loc 0)) none
    (.cons (some (0, false)) (.fieldAddr 0 (.var (.i (.o .h)))) none
    (.cons (some (1, false)) (.load1 (.loc 0)) none
    (.cons (some (2, false)) (.cmp .eql (.loc 0) (.lit (.int 3 0))) none
    (.cons none (.pick (.loc 3) (.lit (.bool true)) (.loc 0)) (some (.i (.i (.i .h))))
    .nil)))))))))
  (.cond (.var (.i (.i (.i .h)))) (.seq (.region (.cons none (.mov (.lit (.bool false))) (some (.o (.i .h)))
    .nil))
  .ret)
  .skip))
  (.seq (.draw (.cons none (.mov (.var (.o .h))) none (.light 0)
    (.cons none (.nilCheck (.loc 0)) none (.light 0)
    (.cons none (.fieldAddr 1 (.loc 0)) none (.light 0)
    (.cons none (.load1 (.loc 0)) none (.light 0)
    (.cons none (.fieldAddr 1 (.var (.i (.o .h)))) none (.light 0)
    (.cons none (.load1 (.loc 0)) none (.light 0)
    (.cons none (.lookup (.leaf .int) .nilptr false (.loc 2) (.loc 0)) none (.light 0)
    (.cons none (.mov (.loc 0)) (some (.i (.i .h))) (.light 0)
    .nil)))))))) 0)
  (.seq (.draw (.cons none (.loadN 2 (.var (.i (.o .h)))) none (.light 0)
    (.cons none (.callF 77 (.cons (.loc 0) .nil)) none .heavy
    (.cons none (.not (.loc 0)) none (.light 0)
    (.cons none (.mov (.loc 0)) none (.light 0)
    (.cons (some (0, false)) (.mov (.var (.i (.i .h)))) none (.light 0)
    (.cons (some (1, false)) (.eq .ptr true (.loc 0) (.lit .nilptr)) none (.light 0)
    (.cons (some (2, false)) (.mov (.loc 0)) none (.light 0)
    (.cons (some (0, true)) (.mov (.var (.i (.i .h)))) none (.light 0)
    (.cons (some (1, true)) (.nilCheck (.loc 0)) none (.light 0)
    (.cons (some (2, true)) (.fieldAddr 0 (.loc 0)) none (.light 0)
    (.cons (some (3, true)) (.load1 (.loc 0)) none (.light 0)
    (.cons (some (4, true)) (.fieldAddr 0 (.var (.i (.o .h)))) none (.light 0)
    (.cons (some (5, true)) (.load1 (.loc 0)) none (.light 0)
    (.cons (some (6, true)) (.cmp .eql (.loc 2) (.loc 0)) none (.light 0)
    (.cons (some (10, false)) (.pick (.loc 7) (.loc 0) (.lit (.bool false))) none (.light 0)
    (.cons none (.pick (.loc 11) (.lit (.bool true)) (.loc 0)) none (.light 0)
    (.cons none (.mov (.loc 0)) (some (.o (.i .h))) (.light 0)
    .nil))))))))))))))))) 0)
  .ret)))),
  [.tmp (.o (.i .h))], none⟩
theorem c115 : FnOk Try.prog 0 115 cf115 :=
  .of Try.func115 (n := 37) (by kernel_rfl) (far := fun t => Nat.testBit 8251 t) (by kernel_rfl)
def cf116 : CFunc := ⟨(.seq (.region (.cons none (.mov (.lit (.bool false))) (some (.o (.o .h)))
    .nil))
  (.seq (.draw (.cons none (.load1 (.var (.o .h))) none (.light 0)
    (.cons none (.callF 72 (.cons (.loc 0) .nil)) none .heavy
    (.cons none (.load1 (.var (.i .h))) none (.light 1)
    (.cons none (.cmp .gtr (.loc 1) (.loc 0)) none (.light 0)
    (.cons none (.mov (.loc 0)) (some (.o (.o .h))) (.light 0)
    .nil))))) 0)
  .ret)),
  [.tmp (.o (.o .h))], none⟩
theorem c116 : FnOk Try.prog 0 116 cf116 :=
  .of Try.func116 (n := 7) (by kernel_rfl) (far := fun t => Nat.testBit 7 t) (by kernel_rfl)
def cf117 : CFunc := ⟨(.seq (.region (.cons none (.box (.var (.o .h))) (some (.i .h))
    (.cons none (.mov (.lit (.bool false))) (some (.o (.o .h)))
    .nil)))
  (.seq (.region (.cons none (.mkFunc (.func 143) .nil (.cons (.var (.i .h)) .nil)) none
    (.cons none (.mov (.loc 0)) (some (.i (.o .h)))
    .nil)))
  (.seq (.seq (.region (.cons none (.fieldAddr 0 (.var (.i .h))) none
    (.cons none (.load1 (.loc 0)) (some (.o (.o (.o .h))))
    .nil)))
  (.block 0 (.seq (.seq (.region (.cons none (.cmp .eql (.var (.o (.o (.o .h)))) (.lit (.int 3 0))) none
    (.cons none (.mov (.loc 0)) (some (.i (.o (.o .h))))
    .nil)))
  (.cond (.var (.i (.o (.o .h)))) .skip
  (.region (.cons none (.cmp .eql (.var (.o (.o (.o .h)))) (.lit (.int 3 1))) none
    (.cons none (.mov (.loc 0)) (some (.i (.o (.o .h))))
    .nil)))))
  (.cond (.var (.i (.o (.o .h)))) (.seq (.region (.cons none (.mov (.var (.i (.o .h)))) none
    (.cons none (.callV (.loc 0) (.cons (.lit (.int 3 0)) (.cons (.lit (.int 3 0)) .nil))) none
    (.cons none (.mov (.loc 0)) (some (.o (.o .h)))
    .nil))))
  .ret)
  (.seq (.region (.cons none (.cmp .eql (.var (.o (.o (.o .h)))) (.lit (.int 3 2))) none
    (.cons none (.mov (.loc 0)) (some (.o (.i (.i .h))))
    .nil)))
  (.cond (.var (.o (.i (.i .h)))) (.seq (.region (.cons none (.mov (.var (.i (.o .h)))) none
    (.cons none (.callV (.loc 0) (.cons (.lit (.int 3 0)) (.cons (.lit (.int 3 1)) .nil))) none
    (.cons none (.mov (.loc 0)) (some (.o (.o .h)))
    .nil))))
  .ret)
  (.seq (.region (.cons none (.cmp .eql (.var (.o (.o (.o .h)))) (.lit (.int 3 3))) none
    (.cons none (.mov (.loc 0)) (some (.o (.i (.o (.o .h)))))
    .nil)))
  (.cond (.var (.o (.i (.o (.o .h))))) (.seq (.region (.cons none (.mov (.lit (.bool true))) (some (.o (.o .h)))
    .nil))
  .ret)
  (.seq (.region (.cons none (.cmp .eql (.var (.o (.o (.o .h)))) (.lit (.int 3 4))) none
    (.cons none (.mov (.loc 0)) (some (.o (.o (.i (.o .h)))))
    .nil)))
  (.cond (.var (.o (.o (.i (.o .h))))) (.seq (.region (.cons none (.mov (.var (.i (.o .h)))) none
    (.cons none (.callV (.loc 0) (.cons (.lit (.int 3 0)) (.cons (.lit (.int 3 12)) .nil))) none
    (.cons none (.mov (.loc 0)) (some (.o (.o .h)))
    .nil))))
  .ret)
  .skip))))))))))
  (.seq (.region (.cons none (.fieldAddr 0 (.var (.i .h))) none
    (.cons none (.load1 (.loc 0)) none
    (.cons none (.cmp .geq (.loc 0) (.lit (.int 3 5))) none
    (.cons none (.mov (.loc 0)) none
    (.cons (some (0, true)) (.fieldAddr 0 (.var (.i .h))) none
    (.cons (some (1, true)) (.load1 (.loc 0)) none
    (.cons (some (2, true)) (.cmp .leq (.loc 0) (.lit (.int 3 9))) none
    (.cons none (.pick (.loc 3) (.loc 0) (.lit (.bool false))) none
    (.cons none (.mov (.loc 0)) none
    (.cons (some (0, true)) (.mov (.var (.i (.o .h)))) none
    (.cons (some (1, true)) (.callV (.loc 0) (.cons (.lit (.int 3 1)) (.cons (.lit (.int 3 2147483647)) .nil))) none
    (.cons none (.pick (.loc 2) (.loc 0) (.lit (.bool false))) none
    (.cons none (.mov (.loc 0)) (some (.o (.o .h)))
    .nil))))))))))))))
  .ret)))),
  [.tmp (.o (.o .h))], none⟩
theorem c117 : FnOk Try.prog 0 117 cf117 :=
  .of Try.func117 (n := 34) (by kernel_rfl) (far := fun t => Nat.testBit 331983 t) (by kernel_rfl)
def cf118 : CFunc := ⟨(.seq (.region (.cons none (.mov (.lit .nilslice)) (some (.o (.i .h)))
    .nil))
  (.seq (.region (.cons none (.mov (.var (.o .h))) none
    (.cons none (.mov (.var (.i .h))) none
    (.cons none (.callF 144 (.cons (.loc 1) (.cons (.loc 0) .nil))) none
    (.cons none (.mov (.loc 0)) (some (.i (.i .h)))
    .nil)))))
  (.seq (.seq (.region (.cons none (.mov (.var (.i (.i .h)))) none
    (.cons none (.cmp .eql (.loc 0) (.lit (.int 3 (-1)))) (some (.o (.i (.i .h))))
    .nil)))
  (.cond (.var (.o (.i (.i .h)))) (.seq (.region (.cons none (.mov (.var (.o .h))) none
    (.cons none (.mov (.loc 0)) (some (.o (.i .h)))
    .nil)))
  .ret)
  .skip))
  (.seq (.seq (.region (.cons none (.mov (.var (.i (.i .h)))) none
    (.cons none (.arith .add 3 (.loc 0) (.lit (.int 3 1))) none
    (.cons none (.mov (.loc 0)) (some (.o (.o (.o .h))))
    .nil))))
  (.block 0 (.loop (.seq (.seq (.region (.cons none (.mov (.var (.o (.o (.o .h))))) none
    (.cons none (.mov (.var (.o .h))) none
    (.cons none (.lenSl (.loc 0)) none
    (.cons none (.cmp .lss (.loc 2) (.loc 0)) (some (.i (.o (.i (.o .h)))))
    .nil)))))
  (.cond (.var (.i (.o (.i (.o .h))))) .skip
  (.exit 0)))
  (.seq (.block 1 (.seq (.region (.cons none (.mov (.var (.o .h))) none
    (.cons none (.mov (.var (.o (.o (.o .h))))) none
    (.cons none (.idxSl 1 (.loc 1) (.loc 0)) none
    (.cons none (.load1 (.loc 0)) none
    (.cons none (.mov (.loc 0)) (some (.i (.o (.o .h))))
    .nil))))))
  (.seq (.region (.cons none (.mov (.var (.i .h))) none
    (.cons none (.mov (.var (.i (.o (.o .h))))) none
    (.cons none (.callV (.loc 1) (.cons (.loc 0) .nil)) none
    (.cons none (.not (.loc 0)) (some (.i (.i (.i (.i .h)))))
    .nil)))))
  (.cond (.var (.i (.i (.i (.i .h))))) (.seq (.region (.cons none (.mov (.var (.o .h))) none
    (.cons none (.mov (.var (.i (.i .h)))) none
    (.cons none (.mov (.var (.i (.o (.o .h))))) none
    (.cons none (.idxSl 1 (.loc 2) (.loc 1)) none
    (.cons none (.store 1 (.loc 0) (.loc 1)) none
    .nil))))))
  (.region (.cons none (.mov (.var (.i (.i .h)))) none
    (.cons none (.arith .add 3 (.loc 0) (.lit (.int 3 1))) none
    (.cons none (.mov (.loc 0)) (some (.i (.i .h)))
    .nil)))))
  .skip))))
  (.region (.cons none (.mov (.var (.o (.o (.o .h))))) none
    (.cons none (.arith .add 3 (.loc 0) (.lit (.int 3 1))) none
    (.cons none (.mov (.loc 0)) (some (.o (.o (.o .h))))
    .nil)))))))))
  (.seq (.region (.cons none (.mov (.var (.o .h))) none
    (.cons none (.mov (.var (.i (.i .h)))) none
    (.cons none (.sliceSl 1 (.loc 1) (some (.loc 0)) none none) none
    (.cons none (.clear (.cons (.int 3 0) .nil) 1 (.loc 0)) none
    .nil)))))
  (.seq (.region (.cons none (.mov (.var (.o .h))) none
    (.cons none (.mov (.var (.i (.i .h)))) none
    (.cons none (.sliceSl 1 (.loc 1) none (some (.loc 0)) none) none
    (.cons none (.mov (.loc 0)) (some (.o (.i .h)))
    .nil)))))
  .ret)))))),
  [.tmp (.o (.i .h))], none⟩
theorem c118 : FnOk Try.prog 0 118 cf118 :=
  .of Try.func118 (n := 42) (by kernel_rfl) (far := fun t => Nat.testBit 537399539 t) (by kernel_rfl)
def cf119 : CFunc := ⟨(.seq (.region (.cons none (.mov (.lit (.bool false))) (some (.i (.o .h)))
    .nil))
  (.seq (.region (.cons none (.load1 (.var (.i .h))) none
    (.cons none (.mov (.var (.o .h))) none
    (.cons none (.cmp .eql (.loc 1) (.loc 0)) none
    (.cons none (.mov (.loc 0)) (some (.i (.o .h)))
    .nil)))))
  .ret)),
  [.tmp (.i (.o .h))], none⟩
theorem c119 : FnOk Try.prog 0 119 cf119 :=
  .of Try.func119 (n := 7) (by kernel_rfl) (far := fun t => Nat.testBit 11 t) (by kernel_rfl)
def cf120 : CFunc := ⟨(.seq (.region (.cons none (.mov (.lit (.int 3 0))) (some (.o (.i .h)))
    .nil))
  (.seq (.seq (.region (.cons none (.mov (.var (.o .h))) none
    (.cons none (.lenSl (.loc 0)) (some (.i (.o (.o .h))))
    (.cons none (.mov (.lit (.int 3 0))) (some (.o (.i (.o .h))))
    .nil))))
  (.block 0 (.loop (.seq (.region (.cons none (.cmp .lss (.var (.o (.i (.o .h)))) (.var (.i (.o (.o .h))))) (some (.i (.i (.o .h))))
    .nil))
  (.seq (.cond (.var (.i (.i (.o .h)))) .skip
  (.exit 0))
  (.seq (.block 1 (.seq (.region (.cons none (.mov (.var (.o (.i (.o .h))))) none
    (.cons none (.mov (.loc 0)) (some (.i (.i .h)))
    .nil)))
  (.seq (.region (.cons none (.mov (.var (.i .h))) none
    (.cons none (.mov (.var (.o .h))) none
    (.cons none (.mov (.var (.i (.i .h)))) none
    (.cons none (.idxSl 1 (.loc 1) (.loc 0)) none
    (.cons none (.load1 (.loc 0)) none
    (.cons none (.cmp .eql (.loc 4) (.loc 0)) (some (.o (.i (.o (.o .h)))))
    .nil)))))))
  (.cond (.var (.o (.i (.o (.o .h))))) (.seq (.region (.cons none (.mov (.var (.i (.i .h)))) none
    (.cons none (.mov (.loc 0)) (some (.o (.i .h)))
    .nil)))
  .ret)
  .skip))))
  (.region (.cons none (.arith .add 3 (.var (.o (.i (.o .h)))) (.lit (.int 3 1))) none
    (.cons none (.mov (.loc 0)) (some (.o (.i (.o .h))))
    .nil)))))))))
  (.seq (.region (.cons none (.mov (.lit (.int 3 (-1)))) (some (.o (.i .h)))
    .nil))
  .ret))),
  [.tmp (.o (.i .h))], none⟩
theorem c120 : FnOk Try.prog 0 120 cf120 :=
  .of Try.func120 (n := 19) (by kernel_rfl) (far := fun t => Nat.testBit 66483 t) (by kernel_rfl)
def cf121 : CFunc := ⟨(.seq (.region (.cons none (.mov (.lit (.bool false))) (some (.o (.i .h)))
    .nil))
  (.seq (.region (.cons none (.mov (.var (.o .h))) none
    (.cons none (.mov (.var (.i .h))) none
    (.cons none (.callF 145 (.cons (.loc 1) (.cons (.loc 0) .nil))) none
    (.cons none (.cmp .geq (.loc 0) (.lit (.int 3 0))) none
    (.cons none (.mov (.loc 0)) (some (.o (.i .h)))
    .nil))))))
  .ret)),
  [.tmp (.o (.i .h))], none⟩
theorem c121 : FnOk Try.prog 0 121 cf121 :=
  .of Try.func121 (n := 9) (by kernel_rfl) (far := fun t => Nat.testBit 19 t) (by kernel_rfl)
def cf130 : CFunc := ⟨(.seq (.region (.cons none (.mov (.lit (.bool false))) (some (.o (.o .h)))
    .nil))
  (.seq (.region (.cons none (.mov (.var (.o .h))) none
    (.cons none (.eq .ptr false (.loc 0) (.lit .nilptr)) none
    (.cons none (.mov (.loc 0)) none
    (.cons (some (0, false)) (.mov (.var (.o .h))) none
    (.cons (some (1, false)) (.nilCheck (.loc 0)) none
    (.cons (some (2, false)) (.fieldAddr 0 (.loc 0)) none
    (.cons (some (3, false)) (.load1 (.loc 0)) none
    (.cons (some (4, false)) (.eq .map false (.loc 0) (.lit .nilmap)) none
    (.cons none (.pick (.loc 5) (.lit (.bool true)) (.loc 0)) none
    (.cons none (.mov (.loc 0)) (some (.o (.o .h)))
    .nil)))))))))))
  .ret)),
  [.tmp (.o (.o .h))], none⟩
theorem c130 : FnOk Try.prog 0 130 cf130 :=
  .of Try.func130 (n := 12) (by kernel_rfl) (far := fun t => Nat.testBit 5 t) (by kernel_rfl)
def cf132 : CFunc := ⟨(.seq (.region (.cons none (.mov (.lit (.int 3 0))) (some (.o (.i .h)))
    .nil))
  (.seq (.seq (.region (.cons none (.mov (.var (.o .h))) none
    (.cons none (.lenSl (.loc 0)) (some (.i (.o (.o .h))))
    (.cons none (.mov (.lit (.int 3 0))) (some (.o (.i (.o .h))))
    .nil))))
  (.block 0 (.loop (.seq (.region (.cons none (.cmp .lss (.var (.o (.i (.o .h)))) (.var (.i (.o (.o .h))))) (some (.i (.i (.o .h))))
    .nil))
  (.seq (.cond (.var (.i (.i (.o .h)))) .skip
  (.exit 0))
  (.seq (.block 1 (.seq (.region (.cons none (.mov (.var (.o (.i (.o .h))))) none
    (.cons none (.mov (.loc 0)) (some (.i (.i .h)))
    .nil)))
  (.seq (.region (.cons none (.mov (.var (.i .h))) none
    (.cons none (.mov (.var (.o .h))) none
    (.cons none (.mov (.var (.i (.i .h)))) none
    (.cons none (.idxSl 5 (.loc 1) (.loc 0)) none
    (.cons none (.loadN 5 (.loc 0)) none
    (.cons none (.callV (.loc 4) (.cons (.loc 0) .nil)) (some (.o (.i (.o (.o .h)))))
    .nil)))))))
  (.cond (.var (.o (.i (.o (.o .h))))) (.seq (.region (.cons none (.mov (.var (.i (.i .h)))) none
    (.cons none (.mov (.loc 0)) (some (.o (.i .h)))
    .nil)))
  .ret)
  .skip))))
  (.region (.cons none (.arith .add 3 (.var (.o (.i (.o .h)))) (.lit (.int 3 1))) none
    (.cons none (.mov (.loc 0)) (some (.o (.i (.o .h))))
    .nil)))))))))
  (.seq (.region (.cons none (.mov (.lit (.int 3 (-1)))) (some (.o (.i .h)))
    .nil))
  .ret))),
  [.tmp (.o (.i .h))], none⟩
theorem c132 : FnOk Try.prog 0 132 cf132 :=
  .of Try.func132 (n := 19) (by kernel_rfl) (far := fun t => Nat.testBit 66483 t) (by kernel_rfl)
def cf133 : CFunc := ⟨(.seq (.region (.cons none (.mov (.lit (.bool false))) (some (.o (.o .h)))
    .nil))
  (.seq (.seq (.region (.cons none (.mov (.var (.o .h))) (some (.i (.i .h)))
    (.cons none (.lenSl (.loc 0)) (some (.o (.o (.o .h))))
    (.cons none (.mov (.lit (.int 3 0))) (some (.i (.o (.o .h))))
    .nil))))
  (.block 0 (.loop (.seq (.region (.cons none (.cmp .lss (.var (.i (.o (.o .h)))) (.var (.o (.o (.o .h))))) (some (.o (.i (.o .h))))
    .nil))
  (.seq (.cond (.var (.o (.i (.o .h)))) .skip
  (.exit 0))
  (.seq (.block 1 (.seq (.region (.cons none (.idxSl 1 (.var (.i (.i .h))) (.var (.i (.o (.o .h))))) none
    (.cons none (.load1 (.loc 0)) none
    (.cons none (.mov (.loc 0)) (some (.o (.i .h)))
    .nil))))
  (.seq (.region (.cons none (.mov (.var (.o (.i .h)))) none
    (.cons none (.callV (.loc 0) .nil) none
    (.cons none (.not (.loc 0)) (some (.i (.i (.i .h))))
    .nil))))
  (.cond (.var (.i (.i (.i .h)))) (.seq (.region (.cons none (.mov (.lit (.bool false))) (some (.o (.o .h)))
    .nil))
  .ret)
  .skip))))
  (.region (.cons none (.arith .add 3 (.var (.i (.o (.o .h)))) (.lit (.int 3 1))) none
    (.cons none (.mov (.loc 0)) (some (.i (.o (.o .h))))
    .nil)))))))))
  (.seq (.region (.cons none (.mov (.lit (.bool true))) (some (.o (.o .h)))
    .nil))
  .ret))),
  [.tmp (.o (.o .h))], none⟩
theorem c133 : FnOk Try.prog 0 133 cf133 :=
  .of Try.func133 (n := 15) (by kernel_rfl) (far := fun t => Nat.testBit 8693 t) (by kernel_rfl)
def cf134 : CFunc := ⟨(.seq (.region (.cons none (.mov (.lit (.bool false))) (some (.i .h))
    .nil))
  (.seq (.region (.cons none (.fieldAddr 0 (.var (.o .h))) none
    (.cons none (.load1 (.loc 0)) none
    (.cons none (.cmp .geq (.loc 0) (.lit (.int 3 5))) none
    (.cons none (.mov (.loc 0)) none
    (.cons (some (0, true)) (.fieldAddr 0 (.var (.o .h))) none
    (.cons (some (1, true)) (.load1 (.loc 0)) none
    (.cons (some (2, true)) (.cmp .leq (.loc 0) (.lit (.int 3 9))) none
    (.cons none (.pick (.loc 3) (.loc 0) (.lit (.bool false))) none
    (.cons none (.mov (.loc 0)) none
    (.cons (some (0, true)) (.fieldAddr 1 (.var (.o .h))) none
    (.cons (some (1, true)) (.load1 (.loc 0)) none
    (.cons (some (2, true)) (.cmp .geq (.loc 0) (.lit (.int 3 0))) none
    (.cons none (.pick (.loc 3) (.loc 0) (.lit (.bool false))) none
    (.cons none (.mov (.loc 0)) none
    (.cons (some (0, true)) (.fieldAddr 4 (.var (.o .h))) none
    (.cons (some (1, true)) (.load1 (.loc 0)) none
    (.cons (some (2, true)) (.cmp .geq (.loc 0) (.lit (.int 3 (-1)))) none
    (.cons none (.pick (.loc 3) (.loc 0) (.lit (.bool false))) none
    (.cons none (.mov (.loc 0)) (some (.i .h))
    .nil))))))))))))))))))))
  .ret)),
  [.tmp (.i .h)], none⟩
theorem c134 : FnOk Try.prog 0 134 cf134 :=
  .of Try.func134 (n := 20) (by kernel_rfl) (far := fun t => Nat.testBit 3 t) (by kernel_rfl)
def cf135 : CFunc := ⟨(.seq (.region (.cons none (.mov (.lit (.bool false))) (some (.o (.o .h)))
    .nil))
  (.seq (.region (.cons none (.load1 (.var (.o .h))) none
    (.cons none (.mov (.loc 0)) none
    (.cons (some (0, true)) (.fieldAddr 2 (.var (.i .h))) none
    (.cons (some (1, true)) (.load1 (.loc 0)) none
    (.cons (some (2, true)) (.lenSl (.loc 0)) none
    (.cons (some (3, true)) (.cmp .eql (.loc 0) (.lit (.int 3 0))) none
    (.cons none (.pick (.loc 4) (.loc 0) (.lit (.bool false))) none
    (.cons none (.mov (.loc 0)) none
    (.cons (some (0, false)) (.load1 (.var (.o .h))) none
    (.cons (some (1, false)) (.not (.loc 0)) none
    (.cons (some (2, false)) (.mov (.loc 0)) none
    (.cons (some (0, true)) (.fieldAddr 3 (.var (.i .h))) none
    (.cons (some (1, true)) (.load1 (.loc 0)) none
    (.cons (some (2, true)) (.scmp .eql (.loc 0) (.lit (.str 0 0))) none
    (.cons (some (6, false)) (.pick (.loc 3) (.loc 0) (.lit (.bool false))) none
    (.cons none (.pick (.loc 7) (.lit (.bool true)) (.loc 0)) none
    (.cons none (.mov (.loc 0)) (some (.o (.o .h)))
    .nil))))))))))))))))))
  .ret)),
  [.tmp (.o (.o .h))], none⟩
theorem c135 : FnOk Try.prog 0 135 cf135 :=
  .of Try.func135 (n := 19) (by kernel_rfl) (far := fun t => Nat.testBit 7 t) (by kernel_rfl)
def cf136 : CFunc := ⟨(.seq (.region (.cons none (.mov (.lit (.bool false))) (some (.o (.o .h)))
    .nil))
  (.seq (.region (.cons none (.fieldAddr 2 (.var (.o .h))) none
    (.cons none (.load1 (.loc 0)) none
    (.cons none (.mkFunc (.func 137) .nil (.cons (.var (.i .h)) .nil)) none
    (.cons none (.callF 121 (.cons (.loc 1) (.cons (.loc 0) .nil))) none
    (.cons none (.not (.loc 0)) none
    (.cons none (.mov (.loc 0)) (some (.o (.o .h)))
    .nil)))))))
  .ret)),
  [.tmp (.o (.o .h))], none⟩
theorem c136 : FnOk Try.prog 0 136 cf136 :=
  .of Try.func136 (n := 8) (by kernel_rfl) (far := fun t => Nat.testBit 7 t) (by kernel_rfl)
def cf137 : CFunc := ⟨(.seq (.region (.cons none (.box (.var (.o .h))) (some (.o (.o .h)))
    (.cons none (.mov (.lit (.bool false))) (some (.i (.o .h)))
    .nil)))
  (.seq (.region (.cons none (.loadN 1 (.var (.i .h))) none
    (.cons none (.loadN 2 (.var (.o (.o .h)))) none
    (.cons none (.callF 138 (.cons (.loc 1) (.cons (.loc 0) .nil))) none
    (.cons none (.not (.loc 0)) none
    (.cons none (.mov (.loc 0)) (some (.i (.o .h)))
    .nil))))))
  .ret)),
  [.tmp (.i (.o .h))], none⟩
theorem c137 : FnOk Try.prog 0 137 cf137 :=
  .of Try.func137 (n := 8) (by kernel_rfl) (far := fun t => Nat.testBit 15 t) (by kernel_rfl)
def cf138 : CFunc := ⟨(.seq (.region (.cons none (.box (.var (.o .h))) (some (.o (.o .h)))
    (.cons none (.box (.var (.i .h))) (some (.i (.o .h)))
    (.cons none (.mov (.lit (.bool false))) (some (.o (.i .h)))
    .nil))))
  (.seq (.seq (.region (.cons none (.loadN 2 (.var (.i (.o .h)))) none
    (.cons none (.callF 117 (.cons (.loc 0) .nil)) none
    (.cons none (.not (.loc 0)) none
    (.cons none (.mov (.loc 0)) none
    (.cons (some (0, false)) (.fieldAddr 0 (.var (.i (.o .h)))) none
    (.cons (some (1, false)) (.load1 (.loc 0)) none
    (.cons (some (2, false)) (.cmp .eql (.loc 0) (.lit (.int 3 0))) none
    (.cons none (.pick (.loc 3) (.lit (.bool true)) (.loc 0)) (some (.o (.i (.i .h))))
    .nil)))))))))
  (.cond (.var (.o (.i (.i .h)))) (.seq (.region (.cons none (.mov (.lit (.bool false))) (some (.o (.i .h)))
    .nil))
  .ret)
  .skip))
  (.seq (.draw (.cons none (.loadN 2 (.var (.i (.o .h)))) none (.light 0)
    (.cons none (.callF 77 (.cons (.loc 0) .nil)) none .heavy
    (.cons none (.not (.loc 0)) none (.light 0)
    (.cons none (.mov (.loc 0)) none (.light 0)
    (.cons (some (0, false)) (.fieldAddr 1 (.var (.i (.o .h)))) none (.light 0)
    (.cons (some (1, false)) (.load1 (.loc 0)) none (.light 0)
    (.cons (some (2, false)) (.fieldAddr 0 (.var (.o (.o .h)))) none (.light 0)
    (.cons (some (3, false)) (.load1 (.loc 0)) none (.light 0)
    (.cons (some (4, false)) (.lenSl (.loc 0)) none (.light 0)
    (.cons (some (5, false)) (.cmp .leq (.loc 3) (.loc 0)) none (.light 0)
    (.cons (some (6, false)) (.mov (.loc 0)) none (.light 0)
    (.cons (some (0, true)) (.fieldAddr 0 (.var (.o (.o .h)))) none (.light 0)
    (.cons (some (1, true)) (.load1 (.loc 0)) none (.light 0)
    (.cons (some (2, true)) (.fieldAddr 1 (.var (.i (.o .h)))) none (.light 0)
    (.cons (some (3, true)) (.load1 (.loc 0)) none (.light 0)
    (.cons (some (4, true)) (.arith .sub 3 (.loc 0) (.lit (.int 3 1))) none (.light 0)
    (.cons (some (5, true)) (.idxSl 5 (.loc 3) (.loc 0)) none (.light 0)
    (.cons (some (6, true)) (.fieldAddr 0 (.loc 0)) none (.light 0)
    (.cons (some (7, true)) (.load1 (.loc 0)) none (.light 0)
    (.cons (some (8, true)) (.fieldAddr 0 (.var (.i (.o .h)))) none (.light 0)
    (.cons (some (9, true)) (.load1 (.loc 0)) none (.light 0)
    (.cons (some (10, true)) (.cmp .eql (.loc 2) (.loc 0)) none (.light 0)
    (.cons (some (18, false)) (.pick (.loc 11) (.loc 0) (.lit (.bool false))) none (.light 0)
    (.cons none (.pick (.loc 19) (.lit (.bool true)) (.loc 0)) none (.light 0)
    (.cons none (.mov (.loc 0)) (some (.o (.i .h))) (.light 0)
    .nil))))))))))))))))))))))))) 0)
  .ret))),
  [.tmp (.o (.i .h))], none⟩
theorem c138 : FnOk Try.prog 0 138 cf138 :=
  .of Try.func138 (n := 37) (by kernel_rfl) (far := fun t => Nat.testBit 4127 t) (by kernel_rfl)
def cf143 : CFunc := ⟨(.seq (.region (.cons none (.mov (.lit (.bool false))) (some (.i (.i .h)))
    .nil))
  (.seq (.region (.cons none (.fieldAddr 1 (.var (.o (.o .h)))) none
    (.cons none (.load1 (.loc 0)) none
    (.cons none (.mov (.var (.o .h))) none
    (.cons none (.cmp .geq (.loc 1) (.loc 0)) none
    (.cons none (.mov (.loc 0)) none
    (.cons (some (0, true)) (.fieldAddr 1 (.var (.o (.o .h)))) none
    (.cons (some (1, true)) (.load1 (.loc 0)) none
    (.cons (some (2, true)) (.mov (.var (.i .h))) none
    (.cons (some (3, true)) (.cmp .leq (.loc 1) (.loc 0)) none
    (.cons none (.pick (.loc 4) (.loc 0) (.lit (.bool false))) none
    (.cons none (.mov (.loc 0)) (some (.i (.i .h)))
    .nil))))))))))))
  .ret)),
  [.tmp (.i (.i .h))], none⟩
theorem c143 : FnOk Try.prog 0 143 cf143 :=
  .of Try.func143 (n := 16) (by kernel_rfl) (far := fun t => Nat.testBit 39 t) (by kernel_rfl)
def cf144 : CFunc := ⟨(.seq (.region (.cons none (.mov (.lit (.int 3 0))) (some (.o (.i .h)))
    .nil))
  (.seq (.seq (.region (.cons none (.mov (.var (.o .h))) none
    (.cons none (.lenSl (.loc 0)) (some (.i (.o (.o .h))))
    (.cons none (.mov (.lit (.int 3 0))) (some (.o (.i (.o .h))))
    .nil))))
  (.block 0 (.loop (.seq (.region (.cons none (.cmp .lss (.var (.o (.i (.o .h)))) (.var (.i (.o (.o .h))))) (some (.i (.i (.o .h))))
    .nil))
  (.seq (.cond (.var (.i (.i (.o .h)))) .skip
  (.exit 0))
  (.seq (.block 1 (.seq (.region (.cons none (.mov (.var (.o (.i (.o .h))))) none
    (.cons none (.mov (.loc 0)) (some (.i (.i .h)))
    .nil)))
  (.seq (.region (.cons none (.mov (.var (.i .h))) none
    (.cons none (.mov (.var (.o .h))) none
    (.cons none (.mov (.var (.i (.i .h)))) none
    (.cons none (.idxSl 1 (.loc 1) (.loc 0)) none
    (.cons none (.load1 (.loc 0)) none
    (.cons none (.callV (.loc 4) (.cons (.loc 0) .nil)) (some (.o (.i (.o (.o .h)))))
    .nil)))))))
  (.cond (.var (.o (.i (.o (.o .h))))) (.seq (.region (.cons none (.mov (.var (.i (.i .h)))) none
    (.cons none (.mov (.loc 0)) (some (.o (.i .h)))
    .nil)))
  .ret)
  .skip))))
  (.region (.cons none (.arith .add 3 (.var (.o (.i (.o .h)))) (.lit (.int 3 1))) none
    (.cons none (.mov (.loc 0)) (some (.o (.i (.o .h))))
    .nil)))))))))
  (.seq (.region (.cons none (.mov (.lit (.int 3 (-1)))) (some (.o (.i .h)))
    .nil))
  .ret))),
  [.tmp (.o (.i .h))], none⟩
theorem c144 : FnOk Try.prog 0 144 cf144 :=
  .of Try.func144 (n := 19) (by kernel_rfl) (far := fun t => Nat.testBit 66483 t) (by kernel_rfl)
def cf145 : CFunc := ⟨(.seq (.region (.cons none (.mov (.lit (.int 3 0))) (some (.o (.i .h)))
    .nil))
  (.seq (.seq (.region (.cons none (.mov (.var (.o .h))) none
    (.cons none (.lenSl (.loc 0)) (some (.i (.o (.o .h))))
    (.cons none (.mov (.lit (.int 3 0))) (some (.o (.i (.o .h))))
    .nil))))
  (.block 0 (.loop (.seq (.region (.cons none (.cmp .lss (.var (.o (.i (.o .h)))) (.var (.i (.o (.o .h))))) (some (.i (.i (.o .h))))
    .nil))
  (.seq (.cond (.var (.i (.i (.o .h)))) .skip
  (.exit 0))
  (.seq (.block 1 (.seq (.region (.cons none (.mov (.var (.o (.i (.o .h))))) none
    (.cons none (.mov (.loc 0)) (some (.i (.i .h)))
    .nil)))
  (.seq (.region (.cons none (.mov (.var (.i .h))) none
    (.cons none (.mov (.var (.o .h))) none
    (.cons none (.mov (.var (.i (.i .h)))) none
    (.cons none (.idxSl 2 (.loc 1) (.loc 0)) none
    (.cons none (.loadN 2 (.loc 0)) none
    (.cons none (.callV (.loc 4) (.cons (.loc 0) .nil)) (some (.o (.i (.o (.o .h)))))
    .nil)))))))
  (.cond (.var (.o (.i (.o (.o .h))))) (.seq (.region (.cons none (.mov (.var (.i (.i .h)))) none
    (.cons none (.mov (.loc 0)) (some (.o (.i .h)))
    .nil)))
  .ret)
  .skip))))
  (.region (.cons none (.arith .add 3 (.var (.o (.i (.o .h)))) (.lit (.int 3 1))) none
    (.cons none (.mov (.loc 0)) (some (.o (.i (.o .h))))
    .nil)))))))))
  (.seq (.region (.cons none (.mov (.lit (.int 3 (-1)))) (some (.o (.i .h)))
    .nil))
  .ret))),
  [.tmp (.o (.i .h))], none⟩
theorem c145 : FnOk Try.prog 0 145 cf145 :=
  .of Try.func145 (n := 19) (by kernel_rfl) (far := fun t => Nat.testBit 66483 t) (by kernel_rfl)
def tree0 : Tr CFunc := (.nod (.nod (.nod (.nod (.val (.val .leaf cf31 .leaf) cf15 (.nod (.val (.val .leaf cf143 .leaf) cf79 .leaf) .leaf)) (.val (.nod (.val (.val .leaf cf135 .leaf) cf71 .leaf) .leaf) cf23 (.val .leaf cf55 (.val .leaf cf119 .leaf)))) (.nod (.val (.nod (.val .leaf cf67 .leaf) (.val .leaf cf99 .leaf)) cf19 (.nod (.val .leaf cf83 .leaf) (.val .leaf cf115 .leaf))) (.val (.nod (.val .leaf cf75 .leaf) (.val .leaf cf107 .leaf)) cf27 .leaf))) (.nod (.val (.val (.val .leaf cf33 .leaf) cf17 (.nod (.val (.val .leaf cf145 .leaf) cf81 .leaf) .leaf)) cf9 (.val (.nod (.val (.val .leaf cf137 .leaf) cf73 .leaf) (.val .leaf cf105 .leaf)) cf25 (.nod .leaf (.val .leaf cf121 .leaf)))) (.val (.val (.val (.val (.val .leaf cf133 .leaf) cf69 .leaf) cf37 .leaf) cf21 (.val (.val .leaf cf85 .leaf) cf53 (.val .leaf cf117 .leaf))) cf13 (.val (.nod (.val .leaf cf77 .leaf) .leaf) cf29 .leaf)))) (.nod (.nod (.nod (.val (.val .leaf cf32 .leaf) cf16 (.val (.val (.val .leaf cf144 .leaf) cf80 .leaf) cf48 .leaf)) (.val (.val (.val (.val .leaf cf136 .leaf) cf72 .leaf) cf40 (.val .leaf nf104 .leaf)) cf24 (.nod .leaf (.val .leaf cf120 .leaf)))) (.nod (.val (.nod (.val (.val .leaf cf132 .leaf) cf68 .leaf) .leaf) cf20 (.val (.val .leaf cf84 .leaf) cf52 (.val .leaf cf116 .leaf))) (.val (.nod (.val .leaf cf76 .leaf) (.val .leaf cf108 .leaf)) cf28 .leaf))) (.nod (.nod (.val (.nod (.nod (.val .leaf cf130 .leaf) .leaf) .leaf) cf18 (.nod (.val .leaf cf82 .leaf) .leaf)) (.val (.nod (.val (.val .leaf cf138 .leaf) cf74 .leaf) (.val .leaf cf106 .leaf)) cf26 .leaf)) (.val (.val (.val (.val (.val .leaf cf134 .leaf) cf70 .leaf) cf38 .leaf) cf22 (.val .leaf cf54 (.val .leaf cf118 .leaf))) cf14 (.val (.nod (.val .leaf cf78 .leaf) .leaf) cf30 .leaf)))))
theorem table0 : TblOk Try.prog 0 (fun f => tree0.get (key f)) :=
  .of (by kernel_rfl) ⟨⟨⟨⟨⟨⟨trivial, c31, trivial⟩, c15, ⟨⟨⟨trivial, c143, trivial⟩, c79, trivial⟩, trivial⟩⟩, ⟨⟨⟨⟨trivial, c135, trivial⟩, c71, trivial⟩, trivial⟩, c23, ⟨trivial, c55, ⟨trivial, c119, trivial⟩⟩⟩⟩, ⟨⟨⟨⟨trivial, c67, trivial⟩, ⟨trivial, c99, trivial⟩⟩, c19, ⟨⟨trivial, c83, trivial⟩, ⟨trivial, c115, trivial⟩⟩⟩, ⟨⟨⟨trivial, c75, trivial⟩, ⟨trivial, c107, trivial⟩⟩, c27, trivial⟩⟩⟩, ⟨⟨⟨⟨trivial, c33, trivial⟩, c17, ⟨⟨⟨trivial, c145, trivial⟩, c81, trivial⟩, trivial⟩⟩, c9, ⟨⟨⟨⟨trivial, c137, trivial⟩, c73, trivial⟩, ⟨trivial, c105, trivial⟩⟩, c25, ⟨trivial, ⟨trivial, c121, trivial⟩⟩⟩⟩, ⟨⟨⟨⟨⟨trivial, c133, trivial⟩, c69, trivial⟩, c37, trivial⟩, c21, ⟨⟨trivial, c85, trivial⟩, c53, ⟨trivial, c117, trivial⟩⟩⟩, c13, ⟨⟨⟨trivial, c77, trivial⟩, trivial⟩, c29, trivial⟩⟩⟩⟩, ⟨⟨⟨⟨⟨trivial, c32, trivial⟩, c16, ⟨⟨⟨trivial, c144, trivial⟩, c80, trivial⟩, c48, trivial⟩⟩, ⟨⟨⟨⟨trivial, c136, trivial⟩, c72, trivial⟩, c40, ⟨trivial, n104, trivial⟩⟩, c24, ⟨trivial, ⟨trivial, c120, trivial⟩⟩⟩⟩, ⟨⟨⟨⟨⟨trivial, c132, trivial⟩, c68, trivial⟩, trivial⟩, c20, ⟨⟨trivial, c84, trivial⟩, c52, ⟨trivial, c116, trivial⟩⟩⟩, ⟨⟨⟨trivial, c76, trivial⟩, ⟨trivial, c108, trivial⟩⟩, c28, trivial⟩⟩⟩, ⟨⟨⟨⟨⟨⟨trivial, c130, trivial⟩, trivial⟩, trivial⟩, c18, ⟨⟨trivial, c82, trivial⟩, trivial⟩⟩, ⟨⟨⟨⟨trivial, c138, trivial⟩, c74, trivial⟩, ⟨trivial, c106, trivial⟩⟩, c26, trivial⟩⟩, ⟨⟨⟨⟨⟨trivial, c134, trivial⟩, c70, trivial⟩, c38, trivial⟩, c22, ⟨trivial, c54, ⟨trivial, c118, trivial⟩⟩⟩, c14, ⟨⟨⟨trivial, c78, trivial⟩, trivial⟩, c30, trivial⟩⟩⟩⟩⟩
theorem runs13 : isTrue (callN (fun f => tree0.get (key f)) 20000 13 .nil ⟨.h, .leaf⟩) = true := by kernel_rfl
def kf13 : CFunc := ⟨.skip, [], some (.val (.bool true))⟩
theorem k13 : FnOk Try.prog 0 13 kf13 :=
  .konst Try.func13 (n := 166) (x := .bool true) (by kernel_rfl) (fun _ => rfl) (closed_known table0 runs13)
def tree : Tr CFunc := (.nod (.nod (.nod (.nod (.val (.val .leaf cf31 .leaf) cf15 (.nod (.val (.val .leaf cf143 .leaf) cf79 .leaf) .leaf)) (.val (.nod (.val (.val .leaf cf135 .leaf) cf71 .leaf) .leaf) cf23 (.val .leaf cf55 (.val .leaf cf119 .leaf)))) (.nod (.val (.nod (.val .leaf cf67 .leaf) (.val .leaf cf99 .leaf)) cf19 (.nod (.val .leaf cf83 .leaf) (.val .leaf cf115 .leaf))) (.val (.nod (.val .leaf cf75 .leaf) (.val .leaf cf107 .leaf)) cf27 .leaf))) (.nod (.val (.val (.val .leaf cf33 .leaf) cf17 (.nod (.val (.val .leaf cf145 .leaf) cf81 .leaf) .leaf)) cf9 (.val (.nod (.val (.val .leaf cf137 .leaf) cf73 .leaf) (.val .leaf cf105 .leaf)) cf25 (.nod .leaf (.val .leaf cf121 .leaf)))) (.val (.val (.val (.val (.val .leaf cf133 .leaf) cf69 .leaf) cf37 .leaf) cf21 (.val (.val .leaf cf85 .leaf) cf53 (.val .leaf cf117 .leaf))) kf13 (.val (.nod (.val .leaf cf77 .leaf) .leaf) cf29 .leaf)))) (.nod (.nod (.nod (.val (.val .leaf cf32 .leaf) cf16 (.val (.val (.val .leaf cf144 .leaf) cf80 .leaf) cf48 .leaf)) (.val (.val (.val (.val .leaf cf136 .leaf) cf72 .leaf) cf40 (.val .leaf nf104 .leaf)) cf24 (.nod .leaf (.val .leaf cf120 .leaf)))) (.nod (.val (.nod (.val (.val .leaf cf132 .leaf) cf68 .leaf) .leaf) cf20 (.val (.val .leaf cf84 .leaf) cf52 (.val .leaf cf116 .leaf))) (.val (.nod (.val .leaf cf76 .leaf) (.val .leaf cf108 .leaf)) cf28 .leaf))) (.nod (.nod (.val (.nod (.nod (.val .leaf cf130 .leaf) .leaf) .leaf) cf18 (.nod (.val .leaf cf82 .leaf) .leaf)) (.val (.nod (.val (.val .leaf cf138 .leaf) cf74 .leaf) (.val .leaf cf106 .leaf)) cf26 .leaf)) (.val (.val (.val (.val (.val .leaf cf134 .leaf) cf70 .leaf) cf38 .leaf) cf22 (.val .leaf cf54 (.val .leaf cf118 .leaf))) cf14 (.val (.nod (.val .leaf cf78 .leaf) .leaf) cf30 .leaf)))))
theorem table : TblOk Try.prog 0 (fun f => tree.get (key f)) :=
  .of (by kernel_rfl) ⟨⟨⟨⟨⟨⟨trivial, c31, trivial⟩, c15, ⟨⟨⟨trivial, c143, trivial⟩, c79, trivial⟩, trivial⟩⟩, ⟨⟨⟨⟨trivial, c135, trivial⟩, c71, trivial⟩, trivial⟩, c23, ⟨trivial, c55, ⟨trivial, c119, trivial⟩⟩⟩⟩, ⟨⟨⟨⟨trivial, c67, trivial⟩, ⟨trivial, c99, trivial⟩⟩, c19, ⟨⟨trivial, c83, trivial⟩, ⟨trivial, c115, trivial⟩⟩⟩, ⟨⟨⟨trivial, c75, trivial⟩, ⟨trivial, c107, trivial⟩⟩, c27, trivial⟩⟩⟩, ⟨⟨⟨⟨trivial, c33, trivial⟩, c17, ⟨⟨⟨trivial, c145, trivial⟩, c81, trivial⟩, trivial⟩⟩, c9, ⟨⟨⟨⟨trivial, c137, trivial⟩, c73, trivial⟩, ⟨trivial, c105, trivial⟩⟩, c25, ⟨trivial, ⟨trivial, c121, trivial⟩⟩⟩⟩, ⟨⟨⟨⟨⟨trivial, c133, trivial⟩, c69, trivial⟩, c37, trivial⟩, c21, ⟨⟨trivial, c85, trivial⟩, c53, ⟨trivial, c117, trivial⟩⟩⟩, k13, ⟨⟨⟨trivial, c77, trivial⟩, trivial⟩, c29, trivial⟩⟩⟩⟩, ⟨⟨⟨⟨⟨trivial, c32, trivial⟩, c16, ⟨⟨⟨trivial, c144, trivial⟩, c80, trivial⟩, c48, trivial⟩⟩, ⟨⟨⟨⟨trivial, c136, trivial⟩, c72, trivial⟩, c40, ⟨trivial, n104, trivial⟩⟩, c24, ⟨trivial, ⟨trivial, c120, trivial⟩⟩⟩⟩, ⟨⟨⟨⟨⟨trivial, c132, trivial⟩, c68, trivial⟩, trivial⟩, c20, ⟨⟨trivial, c84, trivial⟩, c52, ⟨trivial, c116, trivial⟩⟩⟩, ⟨⟨⟨trivial, c76, trivial⟩, ⟨trivial, c108, trivial⟩⟩, c28, trivial⟩⟩⟩, ⟨⟨⟨⟨⟨⟨trivial, c130, trivial⟩, trivial⟩, trivial⟩, c18, ⟨⟨trivial, c82, trivial⟩, trivial⟩⟩, ⟨⟨⟨⟨trivial, c138, trivial⟩, c74, trivial⟩, ⟨trivial, c106, trivial⟩⟩, c26, trivial⟩⟩, ⟨⟨⟨⟨⟨trivial, c134, trivial⟩, c70, trivial⟩, c38, trivial⟩, c22, ⟨trivial, c54, ⟨trivial, c118, trivial⟩⟩⟩, c14, ⟨⟨⟨trivial, c78, trivial⟩, trivial⟩, c30, trivial⟩⟩⟩⟩⟩
end
end Go.Proofs.Ythpnhdopheofcaa
