/- The functions that the statement reaches, compiled. Printed by a program of mine. -/
import Derived.Test.YtfnbbbcnbfhclaaProg
import Derived.Test.YtfnbbbcnbfhclaaDxClaim
import Derived.KernelRfl
set_option linter.unusedSimpArgs false
set_option linter.unusedVariables false
namespace Go.Proofs.Ytfnbbbcnbfhclaa
open Go.Dx
def cf3 : CFunc := ⟨(.seq (.region (.cons none (.mov (.lit (.bool false))) (some (.o (.i .h)))
    .nil))
  (.seq (.region (.cons none (.mov (.var (.o .h))) none
    (.cons none (.mov (.var (.o .h))) none
    (.cons none (.lenSl (.loc 0)) none
    (.cons none (.min (.loc 0) (.lit (.int 3 300))) none
    (.cons none (.sliceSl 3 (.loc 3) none (some (.loc 0)) none) none
    (.cons none (.mov (.loc 0)) (some (.o .h))
    .nil)))))))
  (.seq (.region (.cons none (.mov (.var (.o .h))) none
    (.cons none (.callF 6 (.cons (.loc 0) .nil)) none
    (.cons none (.mov (.loc 0)) none
    (.cons none (.extract 0 (.loc 0)) none
    (.cons none (.extract 1 (.loc 1)) none
    (.cons none (.mov (.loc 1)) (some (.i (.i .h)))
    (.cons none (.mov (.loc 1)) (some (.o (.o (.o .h))))
    .nil))))))))
  (.seq (.region (.cons none (.mov (.var (.o .h))) none
    (.cons none (.callF 7 (.cons (.loc 0) .nil)) none
    (.cons none (.mov (.loc 0)) none
    (.cons none (.extract 0 (.loc 0)) none
    (.cons none (.extract 1 (.loc 1)) none
    (.cons none (.mov (.loc 1)) (some (.i (.o (.o .h))))
    (.cons none (.mov (.loc 1)) (some (.o (.i (.o .h))))
    .nil))))))))
  (.seq (.region (.cons none (.mov (.var (.o .h))) none
    (.cons none (.callF 9 (.cons (.loc 0) .nil)) none
    (.cons none (.mov (.var (.o .h))) none
    (.cons none (.callF 10 (.cons (.loc 0) .nil)) none
    (.cons none (.callF 8 (.cons (.loc 2) (.cons (.loc 0) .nil))) none
    (.cons none (.mov (.loc 0)) none
    (.cons (some (0, true)) (.mov (.var (.o .h))) none
    (.cons (some (1, true)) (.mov (.var (.i .h))) none
    (.cons (some (2, true)) (.callF 12 (.cons (.loc 1) (.cons (.loc 0) .nil))) none
    (.cons (some (3, true)) (.mov (.var (.o .h))) none
    (.cons (some (4, true)) (.mov (.var (.i .h))) none
    (.cons (some (5, true)) (.callF 13 (.cons (.loc 1) (.cons (.loc 0) .nil))) none
    (.cons (some (6, true)) (.callF 11 (.cons (.loc 3) (.cons (.loc 0) .nil))) none
    (.cons none (.pick (.loc 7) (.loc 0) (.lit (.bool false))) none
    (.cons none (.mov (.loc 0)) none
    (.cons (some (0, true)) (.mov (.var (.i (.i .h)))) none
    (.cons (some (1, true)) (.mov (.var (.i (.o (.o .h))))) none
    (.cons (some (2, true)) (.cmp .eql (.loc 1) (.loc 0)) none
    (.cons none (.pick (.loc 3) (.loc 0) (.lit (.bool false))) none
    (.cons none (.mov (.loc 0)) none
    (.cons (some (0, true)) (.mov (.var (.o (.o (.o .h))))) none
    (.cons (some (1, true)) (.mov (.var (.o (.i (.o .h))))) none
    (.cons (some (2, true)) (.scmp .eql (.loc 1) (.loc 0)) none
    (.cons none (.pick (.loc 3) (.loc 0) (.lit (.bool false))) none
    (.cons none (.mov (.loc 0)) none
    (.cons (some (0, true)) (.callF 14 .nil) none
    (.cons none (.pick (.loc 1) (.loc 0) (.lit (.bool false))) none
    (.cons none (.mov (.loc 0)) (some (.o (.i .h)))
    .nil)))))))))))))))))))))))))))))
  .ret))))),
  [.tmp (.o (.i .h))], none⟩
theorem c3 : FnOk Try.prog 0 3 cf3 :=
  .of Try.func3 (n := 51) (by kernel_rfl) (far := fun t => Nat.testBit 499 t) (by kernel_rfl)
def cf4 : CFunc := ⟨(.seq (.region (.cons none (.mov (.lit (.bool false))) (some (.o (.i .h)))
    .nil))
  (.seq (.seq (.region (.cons none (.callF 14 .nil) none
    (.cons none (.not (.loc 0)) (some (.o (.i (.i .h))))
    .nil)))
  (.cond (.var (.o (.i (.i .h)))) (.seq (.region (.cons none (.mov (.lit (.bool false))) (some (.o (.i .h)))
    .nil))
  .ret)
  .skip))
  (.seq (.region (.cons none (.mov (.lit .nilslice)) (some (.i (.i .h)))
    .nil))
  (.seq (.region (.cons none (.mov (.var (.o .h))) none
    (.cons none (.arith .rem 4 (.loc 0) (.lit (.int 4 20))) none
    (.cons none (.convInt 3 (.loc 0)) none
    (.cons none (.mov (.loc 0)) (some (.o (.o (.o .h))))
    .nil)))))
  (.seq (.seq (.region (.cons none (.mov (.lit (.int 3 1))) (some (.i (.o (.o .h))))
    .nil))
  (.block 0 (.loop (.seq (.seq (.region (.cons none (.mov (.var (.i (.o (.o .h))))) none
    (.cons none (.mov (.var (.o (.o (.o .h))))) none
    (.cons none (.cmp .leq (.loc 1) (.loc 0)) (some (.o (.o (.i (.o .h)))))
    .nil))))
  (.cond (.var (.o (.o (.i (.o .h))))) .skip
  (.exit 0)))
  (.seq (.block 1 (.seq (.region (.cons none (.mov (.var (.i (.i .h)))) none
    (.cons none (.mov (.var (.i (.o (.o .h))))) none
    (.cons none (.callF 15 (.cons (.lit (.int 3 4)) (.cons (.loc 0) (.cons (.lit (.str 0 0)) .nil)))) none
    (.cons none (.buildSlice (.cons (.int 3 0) (.cons (.int 3 0) (.cons (.str 0 0) .nil))) 3 1 (.cons 0 3 (.loc 0) .nil)) none
    (.cons none (.append (.cons (.int 3 0) (.cons (.int 3 0) (.cons (.str 0 0) .nil))) 3 (.loc 3) (.loc 0)) none
    (.cons none (.mov (.loc 0)) (some (.i (.i .h)))
    .nil)))))))
  (.seq (.seq (.region (.cons none (.mov (.lit (.int 3 0))) (some (.o (.i (.o .h))))
    .nil))
  (.block 2 (.loop (.seq (.seq (.region (.cons none (.mov (.var (.o (.i (.o .h))))) none
    (.cons none (.mov (.var (.i .h))) none
    (.cons none (.lenSl (.loc 0)) none
    (.cons none (.cmp .lss (.loc 2) (.loc 0)) none
    (.cons none (.mov (.loc 0)) none
    (.cons (some (0, true)) (.mov (.var (.o (.i (.o .h))))) none
    (.cons (some (1, true)) (.cmp .lss (.loc 0) (.lit (.int 3 10))) none
    (.cons none (.pick (.loc 2) (.loc 0) (.lit (.bool false))) (some (.i (.i (.o (.o (.o .h))))))
    .nil)))))))))
  (.cond (.var (.i (.i (.o (.o (.o .h)))))) .skip
  (.exit 2)))
  (.seq (.block 3 (.seq (.region (.cons none (.mov (.lit (.int 3 0))) (some (.i (.i (.o .h))))
    .nil))
  (.seq (.seq (.region (.cons none (.mov (.var (.i .h))) none
    (.cons none (.mov (.var (.o (.i (.o .h))))) none
    (.cons none (.idxSl 1 (.loc 1) (.loc 0)) none
    (.cons none (.load1 (.loc 0)) none
    (.cons none (.arith .rem 4 (.loc 0) (.lit (.int 4 2))) none
    (.cons none (.cmp .eql (.loc 0) (.lit (.int 4 1))) (some (.i (.i (.o (.i (.o .h))))))
    .nil)))))))
  (.cond (.var (.i (.i (.o (.i (.o .h)))))) (.region (.cons none (.mov (.var (.i (.o (.o .h))))) none
    (.cons none (.mov (.loc 0)) (some (.i (.i (.o .h))))
    .nil)))
  .skip))
  (.region (.cons none (.mov (.var (.i (.i .h)))) none
    (.cons none (.mov (.var (.i (.i (.o .h))))) none
    (.cons none (.callF 15 (.cons (.lit (.int 3 1)) (.cons (.loc 0) (.cons (.lit (.str 0 0)) .nil)))) none
    (.cons none (.buildSlice (.cons (.int 3 0) (.cons (.int 3 0) (.cons (.str 0 0) .nil))) 3 1 (.cons 0 3 (.loc 0) .nil)) none
    (.cons none (.append (.cons (.int 3 0) (.cons (.int 3 0) (.cons (.str 0 0) .nil))) 3 (.loc 3) (.loc 0)) none
    (.cons none (.mov (.loc 0)) (some (.i (.i .h)))
    .nil))))))))))
  (.region (.cons none (.mov (.var (.o (.i (.o .h))))) none
    (.cons none (.arith .add 3 (.loc 0) (.lit (.int 3 1))) none
    (.cons none (.mov (.loc 0)) (some (.o (.i (.o .h))))
    .nil)))))))))
  (.region (.cons none (.mov (.var (.i (.i .h)))) none
    (.cons none (.mov (.var (.i (.o (.o .h))))) none
    (.cons none (.callF 15 (.cons (.lit (.int 3 5)) (.cons (.loc 0) (.cons (.lit (.str 0 0)) .nil)))) none
    (.cons none (.buildSlice (.cons (.int 3 0) (.cons (.int 3 0) (.cons (.str 0 0) .nil))) 3 1 (.cons 0 3 (.loc 0) .nil)) none
    (.cons none (.append (.cons (.int 3 0) (.cons (.int 3 0) (.cons (.str 0 0) .nil))) 3 (.loc 3) (.loc 0)) none
    (.cons none (.mov (.loc 0)) (some (.i (.i .h)))
    .nil))))))))))
  (.region (.cons none (.mov (.var (.i (.o (.o .h))))) none
    (.cons none (.arith .add 3 (.loc 0) (.lit (.int 3 1))) none
    (.cons none (.mov (.loc 0)) (some (.i (.o (.o .h))))
    .nil)))))))))
  (.seq (.seq (.region (.cons none (.mov (.var (.i (.i .h)))) none
    (.cons none (.callF 9 (.cons (.loc 0) .nil)) none
    (.cons none (.lenSl (.loc 0)) none
    (.cons none (.cmp .neq (.loc 0) (.lit (.int 3 0))) none
    (.cons none (.mov (.loc 0)) none
    (.cons (some (0, false)) (.mov (.var (.o (.o (.o .h))))) none
    (.cons (some (1, false)) (.cmp .gtr (.loc 0) (.lit (.int 3 0))) none
    (.cons (some (2, false)) (.mov (.loc 0)) none
    (.cons (some (0, true)) (.mov (.var (.i (.i .h)))) none
    (.cons (some (1, true)) (.callF 12 (.cons (.loc 0) (.cons (.lit (.int 3 0)) .nil))) none
    (.cons (some (2, true)) (.lenSl (.loc 0)) none
    (.cons (some (3, true)) (.mov (.var (.o (.o (.o .h))))) none
    (.cons (some (4, true)) (.mov (.var (.i .h))) none
    (.cons (some (5, true)) (.callF 16 (.cons (.loc 0) .nil)) none
    (.cons (some (6, true)) (.arith .mul 3 (.loc 2) (.loc 0)) none
    (.cons (some (7, true)) (.arith .add 3 (.loc 4) (.loc 0)) none
    (.cons (some (8, true)) (.mov (.var (.o (.o (.o .h))))) none
    (.cons (some (9, true)) (.mov (.var (.i .h))) none
    (.cons (some (10, true)) (.lenSl (.loc 0)) none
    (.cons (some (11, true)) (.min (.loc 0) (.lit (.int 3 10))) none
    (.cons (some (12, true)) (.arith .mul 3 (.loc 3) (.loc 0)) none
    (.cons (some (13, true)) (.cmp .neq (.loc 5) (.loc 0)) none
    (.cons (some (17, false)) (.pick (.loc 14) (.loc 0) (.lit (.bool false))) none
    (.cons none (.pick (.loc 18) (.lit (.bool true)) (.loc 0)) (some (.o (.i (.i (.i (.o (.o .h)))))))
    .nil)))))))))))))))))))))))))
  (.cond (.var (.o (.i (.i (.i (.o (.o .h))))))) (.seq (.region (.cons none (.mov (.lit (.bool false))) (some (.o (.i .h)))
    .nil))
  .ret)
  .skip))
  (.seq (.region (.cons none (.mov (.var (.i (.i .h)))) none
    (.cons none (.callF 15 (.cons (.lit (.int 3 4)) (.cons (.lit (.int 3 1)) (.cons (.lit (.str 0 0)) .nil)))) none
    (.cons none (.callF 15 (.cons (.lit (.int 3 5)) (.cons (.lit (.int 3 1)) (.cons (.lit (.str 0 0)) .nil)))) none
    (.cons none (.buildSlice (.cons (.int 3 0) (.cons (.int 3 0) (.cons (.str 0 0) .nil))) 6 2 (.cons 0 3 (.loc 1) (.cons 3 3 (.loc 0) .nil))) none
    (.cons none (.append (.cons (.int 3 0) (.cons (.int 3 0) (.cons (.str 0 0) .nil))) 3 (.loc 3) (.loc 0)) none
    (.cons none (.mov (.loc 0)) (some (.o (.o (.i .h))))
    .nil)))))))
  (.seq (.seq (.region (.cons none (.mov (.var (.o (.o (.o .h))))) none
    (.cons none (.cmp .eql (.loc 0) (.lit (.int 3 0))) (some (.i (.o (.i (.o (.i (.o .h)))))))
    .nil)))
  (.cond (.var (.i (.o (.i (.o (.i (.o .h))))))) (.seq (.region (.cons none (.mov (.var (.o (.o (.i .h))))) none
    (.cons none (.callF 9 (.cons (.loc 0) .nil)) none
    (.cons none (.lenSl (.loc 0)) none
    (.cons none (.cmp .eql (.loc 0) (.lit (.int 3 0))) none
    (.cons none (.mov (.loc 0)) (some (.o (.i .h)))
    .nil))))))
  .ret)
  .skip))
  (.seq (.region (.cons none (.mov (.var (.o (.o (.i .h))))) none
    (.cons none (.callF 9 (.cons (.loc 0) .nil)) none
    (.cons none (.mov (.var (.i (.i .h)))) none
    (.cons none (.lenSl (.loc 0)) none
    (.cons none (.mov (.var (.i (.i .h)))) none
    (.cons none (.lenSl (.loc 0)) none
    (.cons none (.arith .add 3 (.loc 0) (.lit (.int 3 1))) none
    (.cons none (.buildSlice (.cons (.int 3 0) .nil) 2 2 (.cons 0 1 (.loc 3) (.cons 1 1 (.loc 0) .nil))) none
    (.cons none (.callF 17 (.cons (.loc 6) (.cons (.loc 0) .nil))) none
    (.cons none (.mov (.loc 0)) (some (.o (.i .h)))
    .nil)))))))))))
  .ret))))))))),
  [.tmp (.o (.i .h))], none⟩
theorem c4 : FnOk Try.prog 0 4 cf4 :=
  .of Try.func4 (n := 97) (by kernel_rfl) (far := fun t => Nat.testBit 9746964420645155334526963 t) (by kernel_rfl)
def cf6 : CFunc := ⟨(.seq (.region (.cons none (.mov (.lit (.int 3 0))) (some (.o (.o .h)))
    (.cons none (.mov (.lit (.str 0 0))) (some (.i (.o .h)))
    .nil)))
  (.seq (.region (.cons none (.mov (.var (.o .h))) none
    (.cons none (.callF 20 (.cons (.loc 0) (.cons (.lit (.func (.func 21) .nil .nil)) .nil))) none
    (.cons none (.mov (.loc 0)) (some (.o (.i .h)))
    .nil))))
  (.seq (.block 0 (.seq (.region (.cons none (.mov (.var (.o (.i .h)))) none
    (.cons none (.lenSl (.loc 0)) none
    (.cons none (.cmp .eql (.loc 0) (.lit (.int 3 0))) none
    (.cons none (.mov (.loc 0)) (some (.i (.o (.o .h))))
    .nil)))))
  (.cond (.var (.i (.o (.o .h)))) (.seq (.region (.cons none (.mov (.lit (.int 3 0))) (some (.o (.o .h)))
    (.cons none (.mov (.lit (.str 0 0))) (some (.i (.o .h)))
    .nil)))
  .ret)
  (.seq (.region (.cons none (.mov (.var (.o (.i .h)))) none
    (.cons none (.idxSl 3 (.loc 0) (.lit (.int 3 0))) none
    (.cons none (.fieldAddr 0 (.loc 0)) none
    (.cons none (.load1 (.loc 0)) none
    (.cons none (.cmp .eql (.loc 0) (.lit (.int 3 2))) none
    (.cons none (.mov (.loc 0)) (some (.i (.o (.i .h))))
    .nil)))))))
  (.cond (.var (.i (.o (.i .h)))) (.seq (.draw (.cons none (.mov (.var (.o (.i .h)))) none (.light 0)
    (.cons none (.idxSl 3 (.loc 0) (.lit (.int 3 0))) none (.light 0)
    (.cons none (.fieldAddr 2 (.loc 0)) none (.light 0)
    (.cons none (.load1 (.loc 0)) none (.light 0)
    (.cons none (.mov (.lit (.int 3 1))) (some (.o (.o .h))) (.light 0)
    (.cons none (.mov (.loc 1)) (some (.i (.o .h))) (.light 0)
    .nil)))))) 0)
  .ret)
  .skip)))))
  (.seq (.draw (.cons none (.mov (.var (.o (.i .h)))) none (.light 0)
    (.cons none (.idxSl 3 (.loc 0) (.lit (.int 3 0))) none (.light 0)
    (.cons none (.fieldAddr 2 (.loc 0)) none (.light 0)
    (.cons none (.load1 (.loc 0)) none (.light 0)
    (.cons none (.mov (.lit (.int 3 2))) (some (.o (.o .h))) (.light 0)
    (.cons none (.mov (.loc 1)) (some (.i (.o .h))) (.light 0)
    .nil)))))) 0)
  .ret)))),
  [.tmp (.o (.o .h)), .tmp (.i (.o .h))], none⟩
theorem c6 : FnOk Try.prog 0 6 cf6 :=
  .of Try.func6 (n := 25) (by kernel_rfl) (far := fun t => Nat.testBit 2205 t) (by kernel_rfl)
def cf7 : CFunc := ⟨(.seq (.region (.cons none (.mov (.lit (.int 3 0))) (some (.o (.o .h)))
    (.cons none (.mov (.lit (.str 0 0))) (some (.i (.o .h)))
    .nil)))
  (.seq (.seq (.region (.cons none (.mov (.lit (.int 3 0))) (some (.o (.i .h)))
    .nil))
  (.block 0 (.loop (.seq (.seq (.region (.cons none (.mov (.var (.o (.i .h)))) none
    (.cons none (.mov (.var (.o .h))) none
    (.cons none (.lenSl (.loc 0)) none
    (.cons none (.cmp .lss (.loc 2) (.loc 0)) (some (.o (.i (.o .h))))
    .nil)))))
  (.cond (.var (.o (.i (.o .h)))) .skip
  (.exit 0)))
  (.seq (.block 1 (.seq (.seq (.region (.cons none (.mov (.var (.o .h))) none
    (.cons none (.mov (.var (.o (.i .h)))) none
    (.cons none (.idxSl 3 (.loc 1) (.loc 0)) none
    (.cons none (.fieldAddr 0 (.loc 0)) none
    (.cons none (.load1 (.loc 0)) none
    (.cons none (.cmp .eql (.loc 0) (.lit (.int 3 2))) (some (.o (.i (.o (.o .h)))))
    .nil)))))))
  (.cond (.var (.o (.i (.o (.o .h))))) (.seq (.draw (.cons none (.mov (.var (.o .h))) none (.light 0)
    (.cons none (.mov (.var (.o (.i .h)))) none (.light 0)
    (.cons none (.idxSl 3 (.loc 1) (.loc 0)) none (.light 0)
    (.cons none (.fieldAddr 2 (.loc 0)) none (.light 0)
    (.cons none (.load1 (.loc 0)) none (.light 0)
    (.cons none (.mov (.lit (.int 3 1))) (some (.o (.o .h))) (.light 0)
    (.cons none (.mov (.loc 1)) (some (.i (.o .h))) (.light 0)
    .nil))))))) 0)
  .ret)
  .skip))
  (.seq (.region (.cons none (.mov (.var (.o .h))) none
    (.cons none (.mov (.var (.o (.i .h)))) none
    (.cons none (.idxSl 3 (.loc 1) (.loc 0)) none
    (.cons none (.fieldAddr 0 (.loc 0)) none
    (.cons none (.load1 (.loc 0)) none
    (.cons none (.cmp .eql (.loc 0) (.lit (.int 3 3))) (some (.i (.o (.i (.i .h)))))
    .nil)))))))
  (.cond (.var (.i (.o (.i (.i .h))))) (.seq (.draw (.cons none (.mov (.var (.o .h))) none (.light 0)
    (.cons none (.mov (.var (.o (.i .h)))) none (.light 0)
    (.cons none (.idxSl 3 (.loc 1) (.loc 0)) none (.light 0)
    (.cons none (.fieldAddr 2 (.loc 0)) none (.light 0)
    (.cons none (.load1 (.loc 0)) none (.light 0)
    (.cons none (.mov (.lit (.int 3 2))) (some (.o (.o .h))) (.light 0)
    (.cons none (.mov (.loc 1)) (some (.i (.o .h))) (.light 0)
    .nil))))))) 0)
  .ret)
  .skip))))
  (.region (.cons none (.mov (.var (.o (.i .h)))) none
    (.cons none (.arith .add 3 (.loc 0) (.lit (.int 3 1))) none
    (.cons none (.mov (.loc 0)) (some (.o (.i .h)))
    .nil)))))))))
  (.seq (.region (.cons none (.mov (.lit (.int 3 0))) (some (.o (.o .h)))
    (.cons none (.mov (.lit (.str 0 0))) (some (.i (.o .h)))
    .nil)))
  .ret))),
  [.tmp (.o (.o .h)), .tmp (.i (.o .h))], none⟩
theorem c7 : FnOk Try.prog 0 7 cf7 :=
  .of Try.func7 (n := 33) (by kernel_rfl) (far := fun t => Nat.testBit 134283549 t) (by kernel_rfl)
def cf8 : CFunc := ⟨(.seq (.region (.cons none (.mov (.lit (.bool false))) (some (.o (.i .h)))
    .nil))
  (.seq (.seq (.region (.cons none (.mov (.var (.o .h))) none
    (.cons none (.lenSl (.loc 0)) none
    (.cons none (.mov (.var (.i .h))) none
    (.cons none (.lenSl (.loc 0)) none
    (.cons none (.cmp .neq (.loc 2) (.loc 0)) (some (.o (.o (.i .h))))
    .nil))))))
  (.cond (.var (.o (.o (.i .h)))) (.seq (.region (.cons none (.mov (.lit (.bool false))) (some (.o (.i .h)))
    .nil))
  .ret)
  .skip))
  (.seq (.seq (.region (.cons none (.mov (.lit (.int 3 0))) (some (.i (.i .h)))
    .nil))
  (.block 0 (.loop (.seq (.seq (.region (.cons none (.mov (.var (.i (.i .h)))) none
    (.cons none (.mov (.var (.o .h))) none
    (.cons none (.lenSl (.loc 0)) none
    (.cons none (.cmp .lss (.loc 2) (.loc 0)) (some (.o (.o (.o (.o .h)))))
    .nil)))))
  (.cond (.var (.o (.o (.o (.o .h))))) .skip
  (.exit 0)))
  (.seq (.block 1 (.seq (.draw (.cons none (.mov (.var (.o .h))) none (.light 0)
    (.cons none (.mov (.var (.i (.i .h)))) none (.light 0)
    (.cons none (.idxSl 1 (.loc 1) (.loc 0)) none (.light 0)
    (.cons none (.load1 (.loc 0)) none (.light 0)
    (.cons none (.mov (.var (.i .h))) none (.light 0)
    (.cons none (.mov (.var (.i (.i .h)))) none (.light 0)
    (.cons none (.idxSl 1 (.loc 1) (.loc 0)) none (.light 0)
    (.cons none (.load1 (.loc 0)) none (.light 0)
    (.cons none (.cmp .neq (.loc 4) (.loc 0)) (some (.i (.i (.o (.i .h))))) (.light 0)
    .nil))))))))) 0)
  (.cond (.var (.i (.i (.o (.i .h))))) (.seq (.region (.cons none (.mov (.lit (.bool false))) (some (.o (.i .h)))
    .nil))
  .ret)
  .skip)))
  (.region (.cons none (.mov (.var (.i (.i .h)))) none
    (.cons none (.arith .add 3 (.loc 0) (.lit (.int 3 1))) none
    (.cons none (.mov (.loc 0)) (some (.i (.i .h)))
    .nil)))))))))
  (.seq (.region (.cons none (.mov (.lit (.bool true))) (some (.o (.i .h)))
    .nil))
  .ret)))),
  [.tmp (.o (.i .h))], none⟩
theorem c8 : FnOk Try.prog 0 8 cf8 :=
  .of Try.func8 (n := 26) (by kernel_rfl) (far := fun t => Nat.testBit 33571891 t) (by kernel_rfl)
def cf9 : CFunc := ⟨(.seq (.region (.cons none (.mov (.lit .nilslice)) (some (.o (.o .h)))
    .nil))
  (.seq (.region (.cons none .mkMap none
    (.cons none (.build (.cons (.int 3 0) (.cons .nilmap (.cons (.bool false) .nil))) (.cons 1 1 (.loc 0) .nil)) none
    (.cons none (.box (.loc 0)) none
    (.cons none (.alloc (.cons .nilptr .nil) 1) (some (.i (.o .h)))
    (.cons none (.store 1 (.loc 0) (.loc 1)) none
    .nil))))))
  (.seq (.region (.cons none (.mov (.var (.o .h))) none
    (.cons none (.mkFunc (.func 23) .nil (.cons (.var (.i (.o .h))) .nil)) none
    (.cons none (.callF 22 (.cons (.loc 1) (.cons (.loc 0) .nil))) none
    (.cons none (.mov (.loc 0)) (some (.o (.o .h)))
    .nil)))))
  .ret))),
  [.tmp (.o (.o .h))], none⟩
theorem c9 : FnOk Try.prog 0 9 cf9 :=
  .of Try.func9 (n := 10) (by kernel_rfl) (far := fun t => Nat.testBit 13 t) (by kernel_rfl)
def cf10 : CFunc := ⟨(.seq (.region (.cons none (.mov (.lit .nilslice)) (some (.o (.o .h)))
    .nil))
  (.seq (.region (.cons none (.mov (.lit .nilslice)) (some (.i (.o .h)))
    .nil))
  (.seq (.region (.cons none (.mov (.lit .nilslice)) (some (.o (.i .h)))
    .nil))
  (.seq (.region (.cons none (.mov (.lit (.int 3 0))) (some (.i (.i .h)))
    .nil))
  (.seq (.region (.cons none (.mov (.lit (.bool false))) (some (.o (.o (.o .h))))
    .nil))
  (.seq (.seq (.region (.cons none (.mov (.lit (.int 3 0))) (some (.i (.o (.o .h))))
    .nil))
  (.block 0 (.loop (.seq (.seq (.region (.cons none (.mov (.var (.i (.o (.o .h))))) none
    (.cons none (.mov (.var (.o .h))) none
    (.cons none (.lenSl (.loc 0)) none
    (.cons none (.cmp .lss (.loc 2) (.loc 0)) (some (.i (.o (.o (.o .h)))))
    .nil)))))
  (.cond (.var (.i (.o (.o (.o .h))))) .skip
  (.exit 0)))
  (.seq (.block 1 (.seq (.region (.cons none (.mov (.var (.o .h))) none
    (.cons none (.mov (.var (.i (.o (.o .h))))) none
    (.cons none (.idxSl 3 (.loc 1) (.loc 0)) none
    (.cons none (.loadN 3 (.loc 0)) none
    (.cons none (.alloc (.cons (.int 3 0) (.cons (.int 3 0) (.cons (.str 0 0) .nil))) 3) (some (.o (.i (.o .h))))
    (.cons none (.store 3 (.loc 0) (.loc 1)) none
    .nil)))))))
  (.seq (.region (.cons none (.mov (.lit (.bool false))) (some (.i (.i (.o .h))))
    .nil))
  (.seq (.seq (.region (.cons none (.mov (.lit (.int 3 0))) (some (.o (.o (.i .h))))
    .nil))
  (.block 2 (.loop (.seq (.seq (.region (.cons none (.mov (.var (.o (.o (.i .h))))) none
    (.cons none (.mov (.var (.o (.i .h)))) none
    (.cons none (.lenSl (.loc 0)) none
    (.cons none (.cmp .lss (.loc 2) (.loc 0)) (some (.i (.i (.o (.i .h)))))
    .nil)))))
  (.cond (.var (.i (.i (.o (.i .h))))) .skip
  (.exit 2)))
  (.seq (.block 3 (.draw (.cons none (.mov (.var (.i (.i (.o .h))))) none (.light 0)
    (.cons none (.mov (.loc 0)) none (.light 0)
    (.cons (some (0, false)) (.mov (.var (.o (.i .h)))) none (.light 0)
    (.cons (some (1, false)) (.mov (.var (.o (.o (.i .h))))) none (.light 0)
    (.cons (some (2, false)) (.idxSl 1 (.loc 1) (.loc 0)) none (.light 0)
    (.cons (some (3, false)) (.load1 (.loc 0)) none (.light 0)
    (.cons (some (4, false)) (.fieldAddr 1 (.var (.o (.i (.o .h))))) none (.light 0)
    (.cons (some (5, false)) (.load1 (.loc 0)) none (.light 0)
    (.cons (some (6, false)) (.cmp .eql (.loc 2) (.loc 0)) none (.light 0)
    (.cons none (.pick (.loc 7) (.lit (.bool true)) (.loc 0)) none (.light 0)
    (.cons none (.mov (.loc 0)) (some (.i (.i (.o .h)))) (.light 0)
    .nil))))))))))) 0))
  (.region (.cons none (.mov (.var (.o (.o (.i .h))))) none
    (.cons none (.arith .add 3 (.loc 0) (.lit (.int 3 1))) none
    (.cons none (.mov (.loc 0)) (some (.o (.o (.i .h))))
    .nil)))))))))
  (.seq (.region (.cons none (.mov (.lit (.bool false))) (some (.i (.o (.i .h))))
    .nil))
  (.seq (.seq (.region (.cons none (.fieldAddr 0 (.var (.o (.i (.o .h))))) none
    (.cons none (.load1 (.loc 0)) (some (.i (.o (.o (.i (.o .h))))))
    .nil)))
  (.block 4 (.seq (.region (.cons none (.cmp .eql (.var (.i (.o (.o (.i (.o .h)))))) (.lit (.int 3 4))) none
    (.cons none (.mov (.loc 0)) (some (.o (.i (.o (.i (.o .h))))))
    .nil)))
  (.cond (.var (.o (.i (.o (.i (.o .h)))))) (.region (.cons none (.mov (.var (.i (.i .h)))) none
    (.cons none (.cmp .eql (.loc 0) (.lit (.int 3 0))) none
    (.cons none (.mov (.loc 0)) none
    (.cons (some (0, true)) (.fieldAddr 1 (.var (.o (.i (.o .h))))) none
    (.cons (some (1, true)) (.load1 (.loc 0)) none
    (.cons (some (2, true)) (.cmp .gtr (.loc 0) (.lit (.int 3 0))) none
    (.cons none (.pick (.loc 3) (.loc 0) (.lit (.bool false))) none
    (.cons none (.mov (.loc 0)) none
    (.cons (some (0, true)) (.mov (.var (.i (.i (.o .h))))) none
    (.cons (some (1, true)) (.not (.loc 0)) none
    (.cons none (.pick (.loc 2) (.loc 0) (.lit (.bool false))) none
    (.cons none (.mov (.loc 0)) (some (.i (.o (.i .h))))
    .nil)))))))))))))
  (.seq (.region (.cons none (.cmp .eql (.var (.i (.o (.o (.i (.o .h)))))) (.lit (.int 3 5))) none
    (.cons none (.mov (.loc 0)) (some (.i (.i (.i (.o (.i .h))))))
    .nil)))
  (.cond (.var (.i (.i (.i (.o (.i .h)))))) (.region (.cons none (.mov (.var (.i (.i .h)))) none
    (.cons none (.cmp .neq (.loc 0) (.lit (.int 3 0))) none
    (.cons none (.mov (.loc 0)) none
    (.cons (some (0, true)) (.mov (.var (.i (.i .h)))) none
    (.cons (some (1, true)) (.fieldAddr 1 (.var (.o (.i (.o .h))))) none
    (.cons (some (2, true)) (.load1 (.loc 0)) none
    (.cons (some (3, true)) (.cmp .eql (.loc 2) (.loc 0)) none
    (.cons none (.pick (.loc 4) (.loc 0) (.lit (.bool false))) none
    (.cons none (.mov (.loc 0)) (some (.i (.o (.i .h))))
    .nil))))))))))
  (.seq (.seq (.region (.cons none (.cmp .eql (.var (.i (.o (.o (.i (.o .h)))))) (.lit (.int 3 2))) none
    (.cons none (.mov (.loc 0)) (some (.i (.o (.o (.o (.o (.o .h)))))))
    .nil)))
  (.cond (.var (.i (.o (.o (.o (.o (.o .h))))))) .skip
  (.region (.cons none (.cmp .eql (.var (.i (.o (.o (.i (.o .h)))))) (.lit (.int 3 3))) none
    (.cons none (.mov (.loc 0)) (some (.i (.o (.o (.o (.o (.o .h)))))))
    .nil)))))
  (.cond (.var (.i (.o (.o (.o (.o (.o .h))))))) (.region (.cons none (.mov (.var (.o (.o (.o .h))))) none
    (.cons none (.not (.loc 0)) none
    (.cons none (.mov (.loc 0)) none
    (.cons (some (0, true)) (.fieldAddr 1 (.var (.o (.i (.o .h))))) none
    (.cons (some (1, true)) (.load1 (.loc 0)) none
    (.cons (some (2, true)) (.cmp .eql (.loc 0) (.lit (.int 3 0))) none
    (.cons none (.pick (.loc 3) (.loc 0) (.lit (.bool false))) none
    (.cons none (.mov (.loc 0)) (some (.i (.o (.i .h))))
    .nil)))))))))
  (.seq (.region (.cons none (.cmp .eql (.var (.i (.o (.o (.i (.o .h)))))) (.lit (.int 3 1))) none
    (.cons none (.mov (.loc 0)) (some (.i (.i (.o (.i (.o (.o .h)))))))
    .nil)))
  (.cond (.var (.i (.i (.o (.i (.o (.o .h))))))) (.region (.cons none (.fieldAddr 1 (.var (.o (.i (.o .h))))) none
    (.cons none (.load1 (.loc 0)) none
    (.cons none (.cmp .eql (.loc 0) (.lit (.int 3 0))) none
    (.cons none (.mov (.loc 0)) none
    (.cons (some (0, true)) (.mov (.var (.o (.o (.o .h))))) none
    (.cons (some (1, true)) (.not (.loc 0)) none
    (.cons none (.pick (.loc 2) (.loc 0) (.lit (.bool false))) none
    (.cons none (.mov (.loc 0)) none
    (.cons (some (0, false)) (.fieldAddr 1 (.var (.o (.i (.o .h))))) none
    (.cons (some (1, false)) (.load1 (.loc 0)) none
    (.cons (some (2, false)) (.cmp .neq (.loc 0) (.lit (.int 3 0))) none
    (.cons (some (3, false)) (.mov (.loc 0)) none
    (.cons (some (0, true)) (.fieldAddr 1 (.var (.o (.i (.o .h))))) none
    (.cons (some (1, true)) (.load1 (.loc 0)) none
    (.cons (some (2, true)) (.mov (.var (.i (.i .h)))) none
    (.cons (some (3, true)) (.cmp .eql (.loc 1) (.loc 0)) none
    (.cons (some (8, false)) (.pick (.loc 4) (.loc 0) (.lit (.bool false))) none
    (.cons none (.pick (.loc 9) (.lit (.bool true)) (.loc 0)) none
    (.cons none (.mov (.loc 0)) (some (.i (.o (.i .h))))
    .nil))))))))))))))))))))
  .skip))))))))))
  (.seq (.seq (.region (.cons none (.mov (.var (.i (.o (.i .h))))) none
    (.cons none (.not (.loc 0)) (some (.o (.o (.o (.o (.o (.i .h)))))))
    .nil)))
  (.cond (.var (.o (.o (.o (.o (.o (.i .h))))))) (.seq (.region (.cons none (.mov (.var (.i (.o .h)))) none
    (.cons none (.mov (.var (.i (.o (.o .h))))) none
    (.cons none (.buildSlice (.cons (.int 3 0) .nil) 1 1 (.cons 0 1 (.loc 0) .nil)) none
    (.cons none (.append (.cons (.int 3 0) .nil) 1 (.loc 2) (.loc 0)) none
    (.cons none (.mov (.loc 0)) (some (.i (.o .h)))
    .nil))))))
  (.exit 1))
  .skip))
  (.seq (.region (.cons none (.fieldAddr 0 (.var (.o (.i (.o .h))))) none
    (.cons none (.load1 (.loc 0)) (some (.o (.i (.i (.o (.o (.i .h)))))))
    .nil)))
  (.block 5 (.seq (.region (.cons none (.cmp .eql (.var (.o (.i (.i (.o (.o (.i .h))))))) (.lit (.int 3 4))) none
    (.cons none (.mov (.loc 0)) (some (.i (.i (.i (.o (.o (.i .h)))))))
    .nil)))
  (.cond (.var (.i (.i (.i (.o (.o (.i .h))))))) (.seq (.region (.cons none (.mov (.var (.o (.i .h)))) none
    (.cons none (.fieldAddr 1 (.var (.o (.i (.o .h))))) none
    (.cons none (.load1 (.loc 0)) none
    (.cons none (.buildSlice (.cons (.int 3 0) .nil) 1 1 (.cons 0 1 (.loc 0) .nil)) none
    (.cons none (.append (.cons (.int 3 0) .nil) 1 (.loc 3) (.loc 0)) none
    (.cons none (.mov (.loc 0)) (some (.o (.i .h)))
    .nil)))))))
  (.region (.cons none (.fieldAddr 1 (.var (.o (.i (.o .h))))) none
    (.cons none (.load1 (.loc 0)) none
    (.cons none (.mov (.loc 0)) (some (.i (.i .h)))
    .nil)))))
  (.seq (.region (.cons none (.cmp .eql (.var (.o (.i (.i (.o (.o (.i .h))))))) (.lit (.int 3 5))) none
    (.cons none (.mov (.loc 0)) (some (.o (.o (.o (.o (.i (.i .h)))))))
    .nil)))
  (.cond (.var (.o (.o (.o (.o (.i (.i .h))))))) (.region (.cons none (.mov (.lit (.int 3 0))) (some (.i (.i .h)))
    .nil))
  (.seq (.seq (.region (.cons none (.cmp .eql (.var (.o (.i (.i (.o (.o (.i .h))))))) (.lit (.int 3 2))) none
    (.cons none (.mov (.loc 0)) (some (.o (.i (.o (.o (.i (.i .h)))))))
    .nil)))
  (.cond (.var (.o (.i (.o (.o (.i (.i .h))))))) .skip
  (.region (.cons none (.cmp .eql (.var (.o (.i (.i (.o (.o (.i .h))))))) (.lit (.int 3 3))) none
    (.cons none (.mov (.loc 0)) (some (.o (.i (.o (.o (.i (.i .h)))))))
    .nil)))))
  (.cond (.var (.o (.i (.o (.o (.i (.i .h))))))) (.region (.cons none (.mov (.lit (.bool true))) (some (.o (.o (.o .h))))
    .nil))
  .skip)))))))))))))))
  (.region (.cons none (.mov (.var (.i (.o (.o .h))))) none
    (.cons none (.arith .add 3 (.loc 0) (.lit (.int 3 1))) none
    (.cons none (.mov (.loc 0)) (some (.i (.o (.o .h))))
    .nil)))))))))
  (.seq (.region (.cons none (.mov (.var (.i (.o .h)))) none
    (.cons none (.mov (.loc 0)) (some (.o (.o .h)))
    .nil)))
  .ret))))))),
  [.tmp (.o (.o .h))], none⟩
theorem c10 : FnOk Try.prog 0 10 cf10 :=
  .of Try.func10 (n := 116) (by kernel_rfl) (far := fun t => Nat.testBit 6494193832019301755298633608105981 t) (by kernel_rfl)
def cf11 : CFunc := ⟨(.seq (.region (.cons none (.mov (.lit (.bool false))) (some (.o (.i .h)))
    .nil))
  (.seq (.seq (.region (.cons none (.mov (.var (.o .h))) none
    (.cons none (.lenSl (.loc 0)) none
    (.cons none (.mov (.var (.i .h))) none
    (.cons none (.lenSl (.loc 0)) none
    (.cons none (.cmp .neq (.loc 2) (.loc 0)) (some (.o (.o (.i .h))))
    .nil))))))
  (.cond (.var (.o (.o (.i .h)))) (.seq (.region (.cons none (.mov (.lit (.bool false))) (some (.o (.i .h)))
    .nil))
  .ret)
  .skip))
  (.seq (.seq (.region (.cons none (.mov (.lit (.int 3 0))) (some (.i (.i .h)))
    .nil))
  (.block 0 (.loop (.seq (.seq (.region (.cons none (.mov (.var (.i (.i .h)))) none
    (.cons none (.mov (.var (.o .h))) none
    (.cons none (.lenSl (.loc 0)) none
    (.cons none (.cmp .lss (.loc 2) (.loc 0)) (some (.o (.o (.o (.o .h)))))
    .nil)))))
  (.cond (.var (.o (.o (.o (.o .h))))) .skip
  (.exit 0)))
  (.seq (.block 1 (.seq (.draw (.cons none (.mov (.var (.o .h))) none (.light 0)
    (.cons none (.mov (.var (.i (.i .h)))) none (.light 0)
    (.cons none (.idxSl 1 (.loc 1) (.loc 0)) none (.light 0)
    (.cons none (.load1 (.loc 0)) none (.light 0)
    (.cons none (.mov (.var (.i .h))) none (.light 0)
    (.cons none (.mov (.var (.i (.i .h)))) none (.light 0)
    (.cons none (.idxSl 1 (.loc 1) (.loc 0)) none (.light 0)
    (.cons none (.load1 (.loc 0)) none (.light 0)
    (.cons none (.scmp .neq (.loc 4) (.loc 0)) (some (.i (.i (.o (.i .h))))) (.light 0)
    .nil))))))))) 0)
  (.cond (.var (.i (.i (.o (.i .h))))) (.seq (.region (.cons none (.mov (.lit (.bool false))) (some (.o (.i .h)))
    .nil))
  .ret)
  .skip)))
  (.region (.cons none (.mov (.var (.i (.i .h)))) none
    (.cons none (.arith .add 3 (.loc 0) (.lit (.int 3 1))) none
    (.cons none (.mov (.loc 0)) (some (.i (.i .h)))
    .nil)))))))))
  (.seq (.region (.cons none (.mov (.lit (.bool true))) (some (.o (.i .h)))
    .nil))
  .ret)))),
  [.tmp (.o (.i .h))], none⟩
theorem c11 : FnOk Try.prog 0 11 cf11 :=
  .of Try.func11 (n := 26) (by kernel_rfl) (far := fun t => Nat.testBit 33571891 t) (by kernel_rfl)
def cf12 : CFunc := ⟨(.seq (.region (.cons none (.box (.var (.i .h))) (some (.i (.o .h)))
    (.cons none (.mov (.lit .nilslice)) (some (.o (.i .h)))
    .nil)))
  (.seq (.region (.cons none (.mov (.var (.o .h))) none
    (.cons none (.mkFunc (.func 26) .nil (.cons (.var (.i (.o .h))) .nil)) none
    (.cons none (.callF 25 (.cons (.loc 1) (.cons (.loc 0) .nil))) none
    (.cons none (.mov (.loc 0)) (some (.o (.i .h)))
    .nil)))))
  .ret)),
  [.tmp (.o (.i .h))], none⟩
theorem c12 : FnOk Try.prog 0 12 cf12 :=
  .of Try.func12 (n := 8) (by kernel_rfl) (far := fun t => Nat.testBit 27 t) (by kernel_rfl)
def cf13 : CFunc := ⟨(.seq (.region (.cons none (.mov (.lit .nilslice)) (some (.o (.i .h)))
    .nil))
  (.seq (.region (.cons none (.mov (.lit .nilslice)) (some (.i (.i .h)))
    .nil))
  (.seq (.seq (.region (.cons none (.mov (.lit (.int 3 0))) (some (.o (.o (.o .h))))
    .nil))
  (.block 0 (.loop (.seq (.seq (.region (.cons none (.mov (.var (.o (.o (.o .h))))) none
    (.cons none (.mov (.var (.o .h))) none
    (.cons none (.lenSl (.loc 0)) none
    (.cons none (.cmp .lss (.loc 2) (.loc 0)) (some (.o (.o (.i .h))))
    .nil)))))
  (.cond (.var (.o (.o (.i .h)))) .skip
  (.exit 0)))
  (.seq (.block 1 (.seq (.region (.cons none (.mov (.var (.o .h))) none
    (.cons none (.mov (.var (.o (.o (.o .h))))) none
    (.cons none (.idxSl 3 (.loc 1) (.loc 0)) none
    (.cons none (.fieldAddr 0 (.loc 0)) none
    (.cons none (.load1 (.loc 0)) none
    (.cons none (.cmp .eql (.loc 0) (.lit (.int 3 1))) none
    (.cons none (.mov (.loc 0)) none
    (.cons (some (0, true)) (.mov (.var (.o .h))) none
    (.cons (some (1, true)) (.mov (.var (.o (.o (.o .h))))) none
    (.cons (some (2, true)) (.idxSl 3 (.loc 1) (.loc 0)) none
    (.cons (some (3, true)) (.fieldAddr 1 (.loc 0)) none
    (.cons (some (4, true)) (.load1 (.loc 0)) none
    (.cons (some (5, true)) (.mov (.var (.i .h))) none
    (.cons (some (6, true)) (.cmp .eql (.loc 1) (.loc 0)) none
    (.cons none (.pick (.loc 7) (.loc 0) (.lit (.bool false))) (some (.i (.o (.i (.i .h)))))
    .nil))))))))))))))))
  (.cond (.var (.i (.o (.i (.i .h))))) (.region (.cons none (.mov (.var (.i (.i .h)))) none
    (.cons none (.mov (.var (.o .h))) none
    (.cons none (.mov (.var (.o (.o (.o .h))))) none
    (.cons none (.idxSl 3 (.loc 1) (.loc 0)) none
    (.cons none (.fieldAddr 2 (.loc 0)) none
    (.cons none (.load1 (.loc 0)) none
    (.cons none (.buildSlice (.cons (.str 0 0) .nil) 1 1 (.cons 0 1 (.loc 0) .nil)) none
    (.cons none (.append (.cons (.str 0 0) .nil) 1 (.loc 6) (.loc 0)) none
    (.cons none (.mov (.loc 0)) (some (.i (.i .h)))
    .nil))))))))))
  .skip)))
  (.region (.cons none (.mov (.var (.o (.o (.o .h))))) none
    (.cons none (.arith .add 3 (.loc 0) (.lit (.int 3 1))) none
    (.cons none (.mov (.loc 0)) (some (.o (.o (.o .h))))
    .nil)))))))))
  (.seq (.region (.cons none (.mov (.var (.i (.i .h)))) none
    (.cons none (.mov (.loc 0)) (some (.o (.i .h)))
    .nil)))
  .ret)))),
  [.tmp (.o (.i .h))], none⟩
theorem c13 : FnOk Try.prog 0 13 cf13 :=
  .of Try.func13 (n := 37) (by kernel_rfl) (far := fun t => Nat.testBit 134218867 t) (by kernel_rfl)
def cf14 : CFunc := ⟨(.seq (.region (.cons none (.mov (.lit (.bool false))) (some (.o .h))
    .nil))
  (.seq (.region (.cons none (.callF 27 .nil) none
    (.cons none (.callF 12 (.cons (.loc 0) (.cons (.lit (.int 3 1)) .nil))) none
    (.cons none (.callF 27 .nil) none
    (.cons none (.callF 12 (.cons (.loc 0) (.cons (.lit (.int 3 0)) .nil))) none
    (.cons none (.mov (.loc 2)) (some (.i .h))
    (.cons none (.mov (.loc 1)) (some (.o (.o .h)))
    .nil)))))))
  (.seq (.region (.cons none (.callF 27 .nil) none
    (.cons none (.callF 6 (.cons (.loc 0) .nil)) none
    (.cons none (.mov (.loc 0)) none
    (.cons none (.extract 0 (.loc 0)) none
    (.cons none (.extract 1 (.loc 1)) none
    (.cons none (.mov (.loc 1)) (some (.i (.o .h)))
    (.cons none (.mov (.loc 1)) (some (.o (.i .h)))
    .nil))))))))
  (.seq (.region (.cons none (.callF 27 .nil) none
    (.cons none (.callF 9 (.cons (.loc 0) .nil)) none
    (.cons none (.lenSl (.loc 0)) none
    (.cons none (.cmp .eql (.loc 0) (.lit (.int 3 0))) none
    (.cons none (.mov (.loc 0)) none
    (.cons (some (0, true)) (.callF 28 .nil) none
    (.cons (some (1, true)) (.callF 9 (.cons (.loc 0) .nil)) none
    (.cons (some (2, true)) (.buildSlice (.cons (.int 3 0) .nil) 3 3 (.cons 0 1 (.lit (.int 3 1)) (.cons 1 1 (.lit (.int 3 2)) (.cons 2 1 (.lit (.int 3 4)) .nil)))) none
    (.cons (some (3, true)) (.callF 17 (.cons (.loc 1) (.cons (.loc 0) .nil))) none
    (.cons none (.pick (.loc 4) (.loc 0) (.lit (.bool false))) none
    (.cons none (.mov (.loc 0)) none
    (.cons (some (0, true)) (.mov (.var (.i .h))) none
    (.cons (some (1, true)) (.lenSl (.loc 0)) none
    (.cons (some (2, true)) (.cmp .eql (.loc 0) (.lit (.int 3 1))) none
    (.cons none (.pick (.loc 3) (.loc 0) (.lit (.bool false))) none
    (.cons none (.mov (.loc 0)) none
    (.cons (some (0, true)) (.mov (.var (.i .h))) none
    (.cons (some (1, true)) (.idxSl 1 (.loc 0) (.lit (.int 3 0))) none
    (.cons (some (2, true)) (.load1 (.loc 0)) none
    (.cons (some (3, true)) (.scmp .eql (.loc 0) (.lit (.str 1 97))) none
    (.cons none (.pick (.loc 4) (.loc 0) (.lit (.bool false))) none
    (.cons none (.mov (.loc 0)) none
    (.cons (some (0, true)) (.mov (.var (.o (.o .h)))) none
    (.cons (some (1, true)) (.lenSl (.loc 0)) none
    (.cons (some (2, true)) (.cmp .eql (.loc 0) (.lit (.int 3 1))) none
    (.cons none (.pick (.loc 3) (.loc 0) (.lit (.bool false))) none
    (.cons none (.mov (.loc 0)) none
    (.cons (some (0, true)) (.mov (.var (.o (.o .h)))) none
    (.cons (some (1, true)) (.idxSl 1 (.loc 0) (.lit (.int 3 0))) none
    (.cons (some (2, true)) (.load1 (.loc 0)) none
    (.cons (some (3, true)) (.scmp .eql (.loc 0) (.lit (.str 1 98))) none
    (.cons none (.pick (.loc 4) (.loc 0) (.lit (.bool false))) none
    (.cons none (.mov (.loc 0)) none
    (.cons (some (0, true)) (.mov (.var (.i (.o .h)))) none
    (.cons (some (1, true)) (.cmp .eql (.loc 0) (.lit (.int 3 1))) none
    (.cons none (.pick (.loc 2) (.loc 0) (.lit (.bool false))) none
    (.cons none (.mov (.loc 0)) none
    (.cons (some (0, true)) (.mov (.var (.o (.i .h)))) none
    (.cons (some (1, true)) (.scmp .eql (.loc 0) (.lit (.str 3 7104878))) none
    (.cons none (.pick (.loc 2) (.loc 0) (.lit (.bool false))) none
    (.cons none (.mov (.loc 0)) (some (.o .h))
    .nil))))))))))))))))))))))))))))))))))))))))))
  .ret)))),
  [.tmp (.o .h)], none⟩
theorem c14 : FnOk Try.prog 0 14 cf14 :=
  .of Try.func14 (n := 54) (by kernel_rfl) (far := fun t => Nat.testBit 31 t) (by kernel_rfl)
def cf15 : CFunc := ⟨(.seq (.region (.cons none (.alloc (.cons (.int 3 0) (.cons (.int 3 0) (.cons (.str 0 0) .nil))) 3) (some (.o (.o (.o .h))))
    .nil))
  (.seq (.region (.cons none (.mov (.var (.o .h))) none
    (.cons none (.mov (.var (.i .h))) none
    (.cons none (.mov (.var (.o (.o .h)))) none
    (.cons none (.build (.cons (.int 3 0) (.cons (.int 3 0) (.cons (.str 0 0) .nil))) (.cons 0 1 (.loc 2) (.cons 1 1 (.loc 1) (.cons 2 1 (.loc 0) .nil)))) none
    (.cons none (.store 3 (.var (.o (.o (.o .h)))) (.loc 0)) none
    .nil))))))
  .ret)),
  [.cellN (.o (.o (.o .h))) 3], none⟩
theorem c15 : FnOk Try.prog 0 15 cf15 :=
  .of Try.func15 (n := 11) (by kernel_rfl) (far := fun t => Nat.testBit 71 t) (by kernel_rfl)
def cf16 : CFunc := ⟨(.seq (.region (.cons none (.mov (.lit (.int 3 0))) (some (.o (.o .h)))
    .nil))
  (.seq (.region (.cons none (.mov (.lit (.int 3 0))) (some (.i (.o .h)))
    .nil))
  (.seq (.seq (.region (.cons none (.mov (.lit (.int 3 0))) (some (.o (.i .h)))
    .nil))
  (.block 0 (.loop (.seq (.seq (.region (.cons none (.mov (.var (.o (.i .h)))) none
    (.cons none (.mov (.var (.o .h))) none
    (.cons none (.lenSl (.loc 0)) none
    (.cons none (.cmp .lss (.loc 2) (.loc 0)) none
    (.cons none (.mov (.loc 0)) none
    (.cons (some (0, true)) (.mov (.var (.o (.i .h)))) none
    (.cons (some (1, true)) (.cmp .lss (.loc 0) (.lit (.int 3 10))) none
    (.cons none (.pick (.loc 2) (.loc 0) (.lit (.bool false))) (some (.o (.i (.i .h))))
    .nil)))))))))
  (.cond (.var (.o (.i (.i .h)))) .skip
  (.exit 0)))
  (.seq (.block 1 (.region (.cons none (.mov (.var (.i (.o .h)))) none
    (.cons none (.mov (.var (.o .h))) none
    (.cons none (.mov (.var (.o (.i .h)))) none
    (.cons none (.idxSl 1 (.loc 1) (.loc 0)) none
    (.cons none (.load1 (.loc 0)) none
    (.cons none (.arith .rem 4 (.loc 0) (.lit (.int 4 2))) none
    (.cons none (.convInt 3 (.loc 0)) none
    (.cons none (.arith .add 3 (.loc 6) (.loc 0)) none
    (.cons none (.mov (.loc 0)) (some (.i (.o .h)))
    .nil)))))))))))
  (.region (.cons none (.mov (.var (.o (.i .h)))) none
    (.cons none (.arith .add 3 (.loc 0) (.lit (.int 3 1))) none
    (.cons none (.mov (.loc 0)) (some (.o (.i .h)))
    .nil)))))))))
  (.seq (.region (.cons none (.mov (.var (.i (.o .h)))) none
    (.cons none (.mov (.loc 0)) (some (.o (.o .h)))
    .nil)))
  .ret)))),
  [.tmp (.o (.o .h))], none⟩
theorem c16 : FnOk Try.prog 0 16 cf16 :=
  .of Try.func16 (n := 24) (by kernel_rfl) (far := fun t => Nat.testBit 4125 t) (by kernel_rfl)
def cf17 : CFunc := ⟨(.seq (.region (.cons none (.mov (.lit (.bool false))) (some (.o (.i .h)))
    .nil))
  (.seq (.seq (.region (.cons none (.mov (.var (.o .h))) none
    (.cons none (.lenSl (.loc 0)) none
    (.cons none (.mov (.var (.i .h))) none
    (.cons none (.lenSl (.loc 0)) none
    (.cons none (.cmp .neq (.loc 2) (.loc 0)) (some (.o (.o (.i .h))))
    .nil))))))
  (.cond (.var (.o (.o (.i .h)))) (.seq (.region (.cons none (.mov (.lit (.bool false))) (some (.o (.i .h)))
    .nil))
  .ret)
  .skip))
  (.seq (.seq (.region (.cons none (.mov (.lit (.int 3 0))) (some (.i (.i .h)))
    .nil))
  (.block 0 (.loop (.seq (.seq (.region (.cons none (.mov (.var (.i (.i .h)))) none
    (.cons none (.mov (.var (.o .h))) none
    (.cons none (.lenSl (.loc 0)) none
    (.cons none (.cmp .lss (.loc 2) (.loc 0)) (some (.o (.o (.o (.o .h)))))
    .nil)))))
  (.cond (.var (.o (.o (.o (.o .h))))) .skip
  (.exit 0)))
  (.seq (.block 1 (.seq (.draw (.cons none (.mov (.var (.o .h))) none (.light 0)
    (.cons none (.mov (.var (.i (.i .h)))) none (.light 0)
    (.cons none (.idxSl 1 (.loc 1) (.loc 0)) none (.light 0)
    (.cons none (.load1 (.loc 0)) none (.light 0)
    (.cons none (.mov (.var (.i .h))) none (.light 0)
    (.cons none (.mov (.var (.i (.i .h)))) none (.light 0)
    (.cons none (.idxSl 1 (.loc 1) (.loc 0)) none (.light 0)
    (.cons none (.load1 (.loc 0)) none (.light 0)
    (.cons none (.cmp .neq (.loc 4) (.loc 0)) (some (.i (.i (.o (.i .h))))) (.light 0)
    .nil))))))))) 0)
  (.cond (.var (.i (.i (.o (.i .h))))) (.seq (.region (.cons none (.mov (.lit (.bool false))) (some (.o (.i .h)))
    .nil))
  .ret)
  .skip)))
  (.region (.cons none (.mov (.var (.i (.i .h)))) none
    (.cons none (.arith .add 3 (.loc 0) (.lit (.int 3 1))) none
    (.cons none (.mov (.loc 0)) (some (.i (.i .h)))
    .nil)))))))))
  (.seq (.region (.cons none (.mov (.lit (.bool true))) (some (.o (.i .h)))
    .nil))
  .ret)))),
  [.tmp (.o (.i .h))], none⟩
theorem c17 : FnOk Try.prog 0 17 cf17 :=
  .of Try.func17 (n := 26) (by kernel_rfl) (far := fun t => Nat.testBit 33571891 t) (by kernel_rfl)
def cf20 : CFunc := ⟨(.seq (.region (.cons none (.mov (.lit .nilslice)) (some (.o (.i .h)))
    .nil))
  (.seq (.region (.cons none (.mov (.lit .nilslice)) (some (.i (.i .h)))
    .nil))
  (.seq (.seq (.region (.cons none (.mov (.var (.o .h))) (some (.o (.o (.i .h))))
    (.cons none (.lenSl (.loc 0)) (some (.i (.o (.i .h))))
    (.cons none (.mov (.lit (.int 3 0))) (some (.o (.i (.i .h))))
    .nil))))
  (.block 0 (.loop (.seq (.region (.cons none (.cmp .lss (.var (.o (.i (.i .h)))) (.var (.i (.o (.i .h))))) (some (.i (.i (.i .h))))
    .nil))
  (.seq (.cond (.var (.i (.i (.i .h)))) .skip
  (.exit 0))
  (.seq (.block 1 (.seq (.region (.cons none (.mov (.var (.o (.i (.i .h))))) none
    (.cons none (.idxSl 3 (.var (.o (.o (.i .h)))) (.var (.o (.i (.i .h))))) none
    (.cons none (.loadN 3 (.loc 0)) none
    (.cons none (.alloc (.cons (.int 3 0) (.cons (.int 3 0) (.cons (.str 0 0) .nil))) 3) (some (.i (.o (.o .h))))
    (.cons none (.mov (.loc 3)) (some (.o (.o (.o .h))))
    (.cons none (.store 3 (.loc 1) (.loc 2)) none
    .nil)))))))
  (.seq (.region (.cons none (.mov (.var (.i .h))) none
    (.cons none (.mov (.var (.o (.o (.o .h))))) none
    (.cons none (.loadN 3 (.var (.i (.o (.o .h))))) none
    (.cons none (.callV (.loc 2) (.cons (.loc 1) (.cons (.loc 0) .nil))) none
    (.cons none (.mov (.loc 0)) none
    (.cons none (.extract 0 (.loc 0)) none
    (.cons none (.extract 1 (.loc 1)) none
    (.cons none (.alloc (.cons (.int 3 0) (.cons (.int 3 0) (.cons (.str 0 0) .nil))) 3) (some (.o (.i (.o .h))))
    (.cons none (.store 3 (.loc 0) (.loc 2)) none
    (.cons none (.mov (.loc 2)) (some (.i (.i (.o .h))))
    .nil)))))))))))
  (.seq (.region (.cons none (.mov (.var (.i (.i (.o .h))))) (some (.o (.i (.o (.i .h)))))
    .nil))
  (.cond (.var (.o (.i (.o (.i .h))))) (.region (.cons none (.mov (.var (.i (.i .h)))) none
    (.cons none (.loadN 3 (.var (.o (.i (.o .h))))) none
    (.cons none (.buildSlice (.cons (.int 3 0) (.cons (.int 3 0) (.cons (.str 0 0) .nil))) 3 1 (.cons 0 3 (.loc 0) .nil)) none
    (.cons none (.append (.cons (.int 3 0) (.cons (.int 3 0) (.cons (.str 0 0) .nil))) 3 (.loc 2) (.loc 0)) none
    (.cons none (.mov (.loc 0)) (some (.i (.i .h)))
    .nil))))))
  .skip)))))
  (.region (.cons none (.arith .add 3 (.var (.o (.i (.i .h)))) (.lit (.int 3 1))) none
    (.cons none (.mov (.loc 0)) (some (.o (.i (.i .h))))
    .nil)))))))))
  (.seq (.region (.cons none (.mov (.var (.i (.i .h)))) none
    (.cons none (.mov (.loc 0)) (some (.o (.i .h)))
    .nil)))
  .ret)))),
  [.tmp (.o (.i .h))], none⟩
theorem c20 : FnOk Try.prog 0 20 cf20 :=
  .of Try.func20 (n := 31) (by kernel_rfl) (far := fun t => Nat.testBit 16793587 t) (by kernel_rfl)
def cf21 : CFunc := ⟨(.seq (.region (.cons none (.box (.var (.i .h))) (some (.i (.o .h)))
    (.cons none (.alloc (.cons (.int 3 0) (.cons (.int 3 0) (.cons (.str 0 0) .nil))) 3) (some (.o (.i .h)))
    (.cons none (.mov (.lit (.bool false))) (some (.i (.i .h)))
    .nil))))
  (.seq (.draw (.cons none (.loadN 3 (.var (.i (.o .h)))) none (.light 0)
    (.cons none (.fieldAddr 0 (.var (.i (.o .h)))) none (.light 0)
    (.cons none (.load1 (.loc 0)) none (.light 0)
    (.cons none (.cmp .eql (.loc 0) (.lit (.int 3 2))) none (.light 0)
    (.cons none (.mov (.loc 0)) none (.light 0)
    (.cons none (.store 3 (.var (.o (.i .h))) (.loc 4)) none .heavy
    (.cons (some (1, false)) (.fieldAddr 0 (.var (.i (.o .h)))) none (.light 1)
    (.cons (some (2, false)) (.load1 (.loc 0)) none (.light 1)
    (.cons (some (3, false)) (.cmp .eql (.loc 0) (.lit (.int 3 3))) none (.light 1)
    (.cons none (.pick (.loc 4) (.lit (.bool true)) (.loc 0)) none (.light 1)
    (.cons none (.mov (.loc 0)) (some (.i (.i .h))) (.light 0)
    .nil))))))))))) 0)
  .ret)),
  [.cellN (.o (.i .h)) 3, .tmp (.i (.i .h))], none⟩
theorem c21 : FnOk Try.prog 0 21 cf21 :=
  .of Try.func21 (n := 15) (by kernel_rfl) (far := fun t => Nat.testBit 58 t) (by kernel_rfl)
def cf22 : CFunc := ⟨(.seq (.region (.cons none (.mov (.lit .nilslice)) (some (.o (.i .h)))
    .nil))
  (.seq (.region (.cons none (.mov (.lit .nilslice)) (some (.i (.i .h)))
    .nil))
  (.seq (.seq (.region (.cons none (.mov (.var (.o .h))) (some (.o (.o (.i .h))))
    (.cons none (.lenSl (.loc 0)) (some (.i (.o (.i .h))))
    (.cons none (.mov (.lit (.int 3 0))) (some (.o (.i (.i .h))))
    .nil))))
  (.block 0 (.loop (.seq (.region (.cons none (.cmp .lss (.var (.o (.i (.i .h)))) (.var (.i (.o (.i .h))))) (some (.i (.i (.i .h))))
    .nil))
  (.seq (.cond (.var (.i (.i (.i .h)))) .skip
  (.exit 0))
  (.seq (.block 1 (.seq (.region (.cons none (.mov (.var (.o (.i (.i .h))))) none
    (.cons none (.idxSl 3 (.var (.o (.o (.i .h)))) (.var (.o (.i (.i .h))))) none
    (.cons none (.loadN 3 (.loc 0)) none
    (.cons none (.alloc (.cons (.int 3 0) (.cons (.int 3 0) (.cons (.str 0 0) .nil))) 3) (some (.i (.o (.o .h))))
    (.cons none (.mov (.loc 3)) (some (.o (.o (.o .h))))
    (.cons none (.store 3 (.loc 1) (.loc 2)) none
    .nil)))))))
  (.seq (.region (.cons none (.mov (.var (.i .h))) none
    (.cons none (.mov (.var (.o (.o (.o .h))))) none
    (.cons none (.loadN 3 (.var (.i (.o (.o .h))))) none
    (.cons none (.callV (.loc 2) (.cons (.loc 1) (.cons (.loc 0) .nil))) none
    (.cons none (.mov (.loc 0)) none
    (.cons none (.extract 0 (.loc 0)) none
    (.cons none (.extract 1 (.loc 1)) none
    (.cons none (.mov (.loc 1)) (some (.o (.i (.o .h))))
    (.cons none (.mov (.loc 1)) (some (.i (.i (.o .h))))
    .nil))))))))))
  (.seq (.region (.cons none (.mov (.var (.i (.i (.o .h))))) (some (.o (.i (.o (.i .h)))))
    .nil))
  (.cond (.var (.o (.i (.o (.i .h))))) (.region (.cons none (.mov (.var (.i (.i .h)))) none
    (.cons none (.mov (.var (.o (.i (.o .h))))) none
    (.cons none (.buildSlice (.cons (.int 3 0) .nil) 1 1 (.cons 0 1 (.loc 0) .nil)) none
    (.cons none (.append (.cons (.int 3 0) .nil) 1 (.loc 2) (.loc 0)) none
    (.cons none (.mov (.loc 0)) (some (.i (.i .h)))
    .nil))))))
  .skip)))))
  (.region (.cons none (.arith .add 3 (.var (.o (.i (.i .h)))) (.lit (.int 3 1))) none
    (.cons none (.mov (.loc 0)) (some (.o (.i (.i .h))))
    .nil)))))))))
  (.seq (.region (.cons none (.mov (.var (.i (.i .h)))) none
    (.cons none (.mov (.loc 0)) (some (.o (.i .h)))
    .nil)))
  .ret)))),
  [.tmp (.o (.i .h))], none⟩
theorem c22 : FnOk Try.prog 0 22 cf22 :=
  .of Try.func22 (n := 31) (by kernel_rfl) (far := fun t => Nat.testBit 16793587 t) (by kernel_rfl)
def cf23 : CFunc := ⟨(.seq (.region (.cons none (.box (.var (.i .h))) (some (.o (.i .h)))
    (.cons none (.mov (.lit (.int 3 0))) (some (.i (.i .h)))
    (.cons none (.mov (.lit (.bool false))) (some (.o (.o (.o .h))))
    .nil))))
  (.seq (.region (.cons none (.mov (.var (.o .h))) none
    (.cons none (.load1 (.var (.o (.o .h)))) none
    (.cons none (.loadN 3 (.var (.o (.i .h)))) none
    (.cons none (.callF 24 (.cons (.loc 1) (.cons (.loc 0) .nil))) none
    (.cons none (.not (.loc 0)) none
    (.cons none (.mov (.loc 4)) (some (.i (.i .h)))
    (.cons none (.mov (.loc 1)) (some (.o (.o (.o .h))))
    .nil))))))))
  .ret)),
  [.tmp (.i (.i .h)), .tmp (.o (.o (.o .h)))], none⟩
theorem c23 : FnOk Try.prog 0 23 cf23 :=
  .of Try.func23 (n := 12) (by kernel_rfl) (far := fun t => Nat.testBit 119 t) (by kernel_rfl)
def cf24 : CFunc := ⟨(.seq (.region (.cons none (.box (.var (.i .h))) (some (.i (.o .h)))
    (.cons none (.mov (.lit (.bool false))) (some (.o (.i .h)))
    .nil)))
  (.seq (.seq (.region (.cons none (.fieldAddr 0 (.var (.i (.o .h)))) none
    (.cons none (.load1 (.loc 0)) (some (.o (.o (.o .h))))
    .nil)))
  (.block 0 (.seq (.region (.cons none (.cmp .eql (.var (.o (.o (.o .h)))) (.lit (.int 3 4))) none
    (.cons none (.mov (.loc 0)) (some (.i (.o (.o .h))))
    .nil)))
  (.cond (.var (.i (.o (.o .h)))) (.seq (.seq (.draw (.cons none (.mov (.var (.o .h))) none (.light 0)
    (.cons none (.nilCheck (.loc 0)) none (.light 0)
    (.cons none (.fieldAddr 0 (.loc 0)) none (.light 0)
    (.cons none (.load1 (.loc 0)) none (.light 0)
    (.cons none (.cmp .neq (.loc 0) (.lit (.int 3 0))) none (.light 0)
    (.cons none (.mov (.loc 0)) none (.light 0)
    (.cons (some (0, false)) (.fieldAddr 1 (.var (.i (.o .h)))) none (.light 0)
    (.cons (some (1, false)) (.load1 (.loc 0)) none (.light 0)
    (.cons (some (2, false)) (.cmp .lss (.loc 0) (.lit (.int 3 1))) none (.light 0)
    (.cons none (.pick (.loc 3) (.lit (.bool true)) (.loc 0)) none (.light 0)
    (.cons none (.mov (.loc 0)) none (.light 0)
    (.cons (some (0, false)) (.mov (.var (.o .h))) none (.light 0)
    (.cons (some (1, false)) (.nilCheck (.loc 0)) none (.light 0)
    (.cons (some (2, false)) (.fieldAddr 1 (.loc 0)) none (.light 0)
    (.cons (some (3, false)) (.load1 (.loc 0)) none (.light 0)
    (.cons (some (4, false)) (.fieldAddr 1 (.var (.i (.o .h)))) none (.light 0)
    (.cons (some (5, false)) (.load1 (.loc 0)) none (.light 0)
    (.cons (some (6, false)) (.lookup (.leaf .int) (.int 3 0) false (.loc 2) (.loc 0)) none (.light 0)
    (.cons (some (7, false)) (.cmp .gtr (.loc 0) (.lit (.int 3 0))) none (.light 0)
    (.cons none (.pick (.loc 8) (.lit (.bool true)) (.loc 0)) (some (.o (.i (.i (.i .h))))) (.light 0)
    .nil)))))))))))))))))))) 0)
  (.cond (.var (.o (.i (.i (.i .h))))) (.seq (.region (.cons none (.mov (.lit (.bool false))) (some (.o (.i .h)))
    .nil))
  .ret)
  .skip))
  (.seq (.draw (.cons none (.mov (.var (.o .h))) none (.light 0)
    (.cons none (.nilCheck (.loc 0)) none (.light 0)
    (.cons none (.fieldAddr 1 (.loc 0)) none (.light 0)
    (.cons none (.load1 (.loc 0)) none (.light 0)
    (.cons none (.fieldAddr 1 (.var (.i (.o .h)))) none (.light 0)
    (.cons none (.load1 (.loc 0)) none (.light 0)
    (.cons none (.lookup (.leaf .int) (.int 3 0) false (.loc 2) (.loc 0)) none (.light 0)
    (.cons none (.arith .add 3 (.loc 0) (.lit (.int 3 1))) none (.light 0)
    (.cons none (.update (.leaf .int) (.loc 4) (.loc 2) (.loc 0)) none .heavy
    .nil))))))))) 0)
  (.region (.cons none (.mov (.var (.o .h))) none
    (.cons none (.fieldAddr 1 (.var (.i (.o .h)))) none
    (.cons none (.load1 (.loc 0)) none
    (.cons none (.nilCheck (.loc 2)) none
    (.cons none (.fieldAddr 0 (.loc 0)) none
    (.cons none (.store 1 (.loc 0) (.loc 2)) none
    .nil)))))))))
  (.seq (.region (.cons none (.cmp .eql (.var (.o (.o (.o .h)))) (.lit (.int 3 5))) none
    (.cons none (.mov (.loc 0)) (some (.o (.o (.i (.i (.o .h))))))
    .nil)))
  (.cond (.var (.o (.o (.i (.i (.o .h)))))) (.seq (.seq (.draw (.cons none (.mov (.var (.o .h))) none (.light 0)
    (.cons none (.nilCheck (.loc 0)) none (.light 0)
    (.cons none (.fieldAddr 0 (.loc 0)) none (.light 0)
    (.cons none (.load1 (.loc 0)) none (.light 0)
    (.cons none (.cmp .eql (.loc 0) (.lit (.int 3 0))) none (.light 0)
    (.cons none (.mov (.loc 0)) none (.light 0)
    (.cons (some (0, false)) (.mov (.var (.o .h))) none (.light 0)
    (.cons (some (1, false)) (.nilCheck (.loc 0)) none (.light 0)
    (.cons (some (2, false)) (.fieldAddr 0 (.loc 0)) none (.light 0)
    (.cons (some (3, false)) (.load1 (.loc 0)) none (.light 0)
    (.cons (some (4, false)) (.fieldAddr 1 (.var (.i (.o .h)))) none (.light 0)
    (.cons (some (5, false)) (.load1 (.loc 0)) none (.light 0)
    (.cons (some (6, false)) (.cmp .neq (.loc 2) (.loc 0)) none (.light 0)
    (.cons none (.pick (.loc 7) (.lit (.bool true)) (.loc 0)) (some (.i (.i (.o (.i (.i .h)))))) (.light 0)
    .nil)))))))))))))) 0)
  (.cond (.var (.i (.i (.o (.i (.i .h)))))) (.seq (.region (.cons none (.mov (.lit (.bool false))) (some (.o (.i .h)))
    .nil))
  .ret)
  .skip))
  (.region (.cons none (.mov (.var (.o .h))) none
    (.cons none (.nilCheck (.loc 0)) none
    (.cons none (.fieldAddr 0 (.loc 0)) none
    (.cons none (.store 1 (.loc 0) (.lit (.int 3 0))) none
    .nil))))))
  (.seq (.seq (.region (.cons none (.cmp .eql (.var (.o (.o (.o .h)))) (.lit (.int 3 2))) none
    (.cons none (.mov (.loc 0)) (some (.i (.i (.i (.i (.i .h))))))
    .nil)))
  (.cond (.var (.i (.i (.i (.i (.i .h)))))) .skip
  (.region (.cons none (.cmp .eql (.var (.o (.o (.o .h)))) (.lit (.int 3 3))) none
    (.cons none (.mov (.loc 0)) (some (.i (.i (.i (.i (.i .h))))))
    .nil)))))
  (.cond (.var (.i (.i (.i (.i (.i .h)))))) (.seq (.seq (.region (.cons none (.mov (.var (.o .h))) none
    (.cons none (.nilCheck (.loc 0)) none
    (.cons none (.fieldAddr 2 (.loc 0)) none
    (.cons none (.load1 (.loc 0)) none
    (.cons none (.mov (.loc 0)) none
    (.cons (some (0, false)) (.fieldAddr 1 (.var (.i (.o .h)))) none
    (.cons (some (1, false)) (.load1 (.loc 0)) none
    (.cons (some (2, false)) (.cmp .neq (.loc 0) (.lit (.int 3 0))) none
    (.cons none (.pick (.loc 3) (.lit (.bool true)) (.loc 0)) (some (.o (.i (.o (.i (.o (.o .h)))))))
    .nil))))))))))
  (.cond (.var (.o (.i (.o (.i (.o (.o .h))))))) (.seq (.region (.cons none (.mov (.lit (.bool false))) (some (.o (.i .h)))
    .nil))
  .ret)
  .skip))
  (.region (.cons none (.mov (.var (.o .h))) none
    (.cons none (.nilCheck (.loc 0)) none
    (.cons none (.fieldAddr 2 (.loc 0)) none
    (.cons none (.store 1 (.loc 0) (.lit (.bool true))) none
    .nil))))))
  (.seq (.region (.cons none (.cmp .eql (.var (.o (.o (.o .h)))) (.lit (.int 3 1))) none
    (.cons none (.mov (.loc 0)) (some (.o (.i (.i (.i (.o (.o .h)))))))
    .nil)))
  (.cond (.var (.o (.i (.i (.i (.o (.o .h))))))) (.seq (.draw (.cons none (.fieldAddr 1 (.var (.i (.o .h)))) none (.light 0)
    (.cons none (.load1 (.loc 0)) none (.light 0)
    (.cons none (.cmp .eql (.loc 0) (.lit (.int 3 0))) none (.light 0)
    (.cons none (.mov (.loc 0)) none (.light 0)
    (.cons (some (0, true)) (.mov (.var (.o .h))) none (.light 0)
    (.cons (some (1, true)) (.nilCheck (.loc 0)) none (.light 0)
    (.cons (some (2, true)) (.fieldAddr 2 (.loc 0)) none (.light 0)
    (.cons (some (3, true)) (.load1 (.loc 0)) none (.light 0)
    (.cons (some (4, true)) (.not (.loc 0)) none (.light 0)
    (.cons none (.pick (.loc 5) (.loc 0) (.lit (.bool false))) none (.light 0)
    (.cons none (.mov (.loc 0)) none (.light 0)
    (.cons (some (0, false)) (.fieldAddr 1 (.var (.i (.o .h)))) none (.light 0)
    (.cons (some (1, false)) (.load1 (.loc 0)) none (.light 0)
    (.cons (some (2, false)) (.cmp .neq (.loc 0) (.lit (.int 3 0))) none (.light 0)
    (.cons (some (3, false)) (.mov (.loc 0)) none (.light 0)
    (.cons (some (0, true)) (.fieldAddr 1 (.var (.i (.o .h)))) none (.light 0)
    (.cons (some (1, true)) (.load1 (.loc 0)) none (.light 0)
    (.cons (some (2, true)) (.mov (.var (.o .h))) none (.light 0)
    (.cons (some (3, true)) (.nilCheck (.loc 0)) none (.light 0)
    (.cons (some (4, true)) (.fieldAddr 0 (.loc 0)) none (.light 0)
    (.cons (some (5, true)) (.load1 (.loc 0)) none (.light 0)
    (.cons (some (6, true)) (.cmp .eql (.loc 4) (.loc 0)) none (.light 0)
    (.cons (some (11, false)) (.pick (.loc 7) (.loc 0) (.lit (.bool false))) none (.light 0)
    (.cons none (.pick (.loc 12) (.lit (.bool true)) (.loc 0)) none (.light 0)
    (.cons none (.mov (.loc 0)) (some (.o (.i .h))) (.light 0)
    .nil))))))))))))))))))))))))) 0)
  .ret)
  (.seq (.region (.cons none (.mov (.lit (.bool false))) (some (.o (.i .h)))
    .nil))
  .ret)))))))))))
  (.seq (.region (.cons none (.mov (.lit (.bool true))) (some (.o (.i .h)))
    .nil))
  .ret))),
  [.tmp (.o (.i .h))], none⟩
theorem c24 : FnOk Try.prog 0 24 cf24 :=
  .of Try.func24 (n := 102) (by kernel_rfl) (far := fun t => Nat.testBit 80282680171379573129435 t) (by kernel_rfl)
def cf25 : CFunc := ⟨(.seq (.region (.cons none (.mov (.lit .nilslice)) (some (.o (.i .h)))
    .nil))
  (.seq (.region (.cons none (.mov (.lit .nilslice)) (some (.i (.i .h)))
    .nil))
  (.seq (.seq (.region (.cons none (.mov (.var (.o .h))) (some (.o (.o (.i .h))))
    (.cons none (.lenSl (.loc 0)) (some (.i (.o (.i .h))))
    (.cons none (.mov (.lit (.int 3 0))) (some (.o (.i (.i .h))))
    .nil))))
  (.block 0 (.loop (.seq (.region (.cons none (.cmp .lss (.var (.o (.i (.i .h)))) (.var (.i (.o (.i .h))))) (some (.i (.i (.i .h))))
    .nil))
  (.seq (.cond (.var (.i (.i (.i .h)))) .skip
  (.exit 0))
  (.seq (.block 1 (.seq (.region (.cons none (.mov (.var (.o (.i (.i .h))))) none
    (.cons none (.idxSl 3 (.var (.o (.o (.i .h)))) (.var (.o (.i (.i .h))))) none
    (.cons none (.loadN 3 (.loc 0)) none
    (.cons none (.alloc (.cons (.int 3 0) (.cons (.int 3 0) (.cons (.str 0 0) .nil))) 3) (some (.i (.o (.o .h))))
    (.cons none (.mov (.loc 3)) (some (.o (.o (.o .h))))
    (.cons none (.store 3 (.loc 1) (.loc 2)) none
    .nil)))))))
  (.seq (.region (.cons none (.mov (.var (.i .h))) none
    (.cons none (.mov (.var (.o (.o (.o .h))))) none
    (.cons none (.loadN 3 (.var (.i (.o (.o .h))))) none
    (.cons none (.callV (.loc 2) (.cons (.loc 1) (.cons (.loc 0) .nil))) none
    (.cons none (.mov (.loc 0)) none
    (.cons none (.extract 0 (.loc 0)) none
    (.cons none (.extract 1 (.loc 1)) none
    (.cons none (.mov (.loc 1)) (some (.o (.i (.o .h))))
    (.cons none (.mov (.loc 1)) (some (.i (.i (.o .h))))
    .nil))))))))))
  (.seq (.region (.cons none (.mov (.var (.i (.i (.o .h))))) (some (.o (.i (.o (.i .h)))))
    .nil))
  (.cond (.var (.o (.i (.o (.i .h))))) (.region (.cons none (.mov (.var (.i (.i .h)))) none
    (.cons none (.mov (.var (.o (.i (.o .h))))) none
    (.cons none (.buildSlice (.cons (.str 0 0) .nil) 1 1 (.cons 0 1 (.loc 0) .nil)) none
    (.cons none (.append (.cons (.str 0 0) .nil) 1 (.loc 2) (.loc 0)) none
    (.cons none (.mov (.loc 0)) (some (.i (.i .h)))
    .nil))))))
  .skip)))))
  (.region (.cons none (.arith .add 3 (.var (.o (.i (.i .h)))) (.lit (.int 3 1))) none
    (.cons none (.mov (.loc 0)) (some (.o (.i (.i .h))))
    .nil)))))))))
  (.seq (.region (.cons none (.mov (.var (.i (.i .h)))) none
    (.cons none (.mov (.loc 0)) (some (.o (.i .h)))
    .nil)))
  .ret)))),
  [.tmp (.o (.i .h))], none⟩
theorem c25 : FnOk Try.prog 0 25 cf25 :=
  .of Try.func25 (n := 31) (by kernel_rfl) (far := fun t => Nat.testBit 16793587 t) (by kernel_rfl)
def cf26 : CFunc := ⟨(.seq (.region (.cons none (.box (.var (.i .h))) (some (.o (.i .h)))
    (.cons none (.mov (.lit (.str 0 0))) (some (.i (.i .h)))
    (.cons none (.mov (.lit (.bool false))) (some (.o (.o (.o .h))))
    .nil))))
  (.seq (.draw (.cons none (.fieldAddr 2 (.var (.o (.i .h)))) none (.light 0)
    (.cons none (.load1 (.loc 0)) none (.light 0)
    (.cons none (.fieldAddr 0 (.var (.o (.i .h)))) none (.light 0)
    (.cons none (.load1 (.loc 0)) none (.light 0)
    (.cons none (.cmp .eql (.loc 0) (.lit (.int 3 1))) none (.light 0)
    (.cons none (.mov (.loc 0)) none (.light 0)
    (.cons (some (0, true)) (.fieldAddr 1 (.var (.o (.i .h)))) none (.light 0)
    (.cons (some (1, true)) (.load1 (.loc 0)) none (.light 0)
    (.cons (some (2, true)) (.load1 (.var (.o (.o .h)))) none (.light 0)
    (.cons (some (3, true)) (.cmp .eql (.loc 1) (.loc 0)) none (.light 0)
    (.cons none (.pick (.loc 4) (.loc 0) (.lit (.bool false))) none (.light 0)
    (.cons none (.mov (.loc 9)) (some (.i (.i .h))) (.light 0)
    (.cons none (.mov (.loc 1)) (some (.o (.o (.o .h)))) (.light 0)
    .nil))))))))))))) 0)
  .ret)),
  [.tmp (.i (.i .h)), .tmp (.o (.o (.o .h)))], none⟩
theorem c26 : FnOk Try.prog 0 26 cf26 :=
  .of Try.func26 (n := 18) (by kernel_rfl) (far := fun t => Nat.testBit 118 t) (by kernel_rfl)
def cf27 : CFunc := ⟨(.seq (.region (.cons none (.mov (.lit .nilslice)) (some (.o .h))
    .nil))
  (.seq (.region (.cons none (.callF 15 (.cons (.lit (.int 3 4)) (.cons (.lit (.int 3 1)) (.cons (.lit (.str 0 0)) .nil)))) none
    (.cons none (.callF 15 (.cons (.lit (.int 3 1)) (.cons (.lit (.int 3 1)) (.cons (.lit (.str 1 97)) .nil)))) none
    (.cons none (.callF 15 (.cons (.lit (.int 3 5)) (.cons (.lit (.int 3 1)) (.cons (.lit (.str 0 0)) .nil)))) none
    (.cons none (.callF 15 (.cons (.lit (.int 3 1)) (.cons (.lit (.int 3 0)) (.cons (.lit (.str 1 98)) .nil)))) none
    (.cons none (.callF 15 (.cons (.lit (.int 3 2)) (.cons (.lit (.int 3 0)) (.cons (.lit (.str 3 7104878)) .nil)))) none
    (.cons none (.buildSlice (.cons (.int 3 0) (.cons (.int 3 0) (.cons (.str 0 0) .nil))) 15 5 (.cons 0 3 (.loc 4) (.cons 3 3 (.loc 3) (.cons 6 3 (.loc 2) (.cons 9 3 (.loc 1) (.cons 12 3 (.loc 0) .nil)))))) none
    (.cons none (.mov (.loc 0)) (some (.o .h))
    .nil))))))))
  .ret)),
  [.tmp (.o .h)], none⟩
theorem c27 : FnOk Try.prog 0 27 cf27 :=
  .of Try.func27 (n := 7) (by kernel_rfl) (far := fun t => Nat.testBit 1 t) (by kernel_rfl)
def cf28 : CFunc := ⟨(.seq (.region (.cons none (.mov (.lit .nilslice)) (some (.o .h))
    .nil))
  (.seq (.region (.cons none (.callF 15 (.cons (.lit (.int 3 4)) (.cons (.lit (.int 3 1)) (.cons (.lit (.str 0 0)) .nil)))) none
    (.cons none (.callF 15 (.cons (.lit (.int 3 4)) (.cons (.lit (.int 3 2)) (.cons (.lit (.str 0 0)) .nil)))) none
    (.cons none (.callF 15 (.cons (.lit (.int 3 5)) (.cons (.lit (.int 3 2)) (.cons (.lit (.str 0 0)) .nil)))) none
    (.cons none (.callF 15 (.cons (.lit (.int 3 5)) (.cons (.lit (.int 3 1)) (.cons (.lit (.str 0 0)) .nil)))) none
    (.cons none (.callF 15 (.cons (.lit (.int 3 4)) (.cons (.lit (.int 3 1)) (.cons (.lit (.str 0 0)) .nil)))) none
    (.cons none (.buildSlice (.cons (.int 3 0) (.cons (.int 3 0) (.cons (.str 0 0) .nil))) 15 5 (.cons 0 3 (.loc 4) (.cons 3 3 (.loc 3) (.cons 6 3 (.loc 2) (.cons 9 3 (.loc 1) (.cons 12 3 (.loc 0) .nil)))))) none
    (.cons none (.mov (.loc 0)) (some (.o .h))
    .nil))))))))
  .ret)),
  [.tmp (.o .h)], none⟩
theorem c28 : FnOk Try.prog 0 28 cf28 :=
  .of Try.func28 (n := 7) (by kernel_rfl) (far := fun t => Nat.testBit 1 t) (by kernel_rfl)
def tree0 : Tr CFunc := (.nod (.nod (.val (.val (.val .leaf cf15 .leaf) cf7 (.val .leaf cf23 .leaf)) cf3 (.val .leaf cf11 (.val .leaf cf27 .leaf))) (.nod (.val (.val .leaf cf17 .leaf) cf9 (.val .leaf cf25 .leaf)) (.val (.val .leaf cf21 .leaf) cf13 .leaf))) (.nod (.val (.val (.val .leaf cf16 .leaf) cf8 (.val .leaf cf24 .leaf)) cf4 (.val (.val .leaf cf20 .leaf) cf12 (.val .leaf cf28 .leaf))) (.val (.val .leaf cf10 (.val .leaf cf26 .leaf)) cf6 (.val (.val .leaf cf22 .leaf) cf14 .leaf))))
theorem table0 : TblOk Try.prog 0 (fun f => tree0.get (key f)) :=
  .of (by kernel_rfl) ⟨⟨⟨⟨⟨trivial, c15, trivial⟩, c7, ⟨trivial, c23, trivial⟩⟩, c3, ⟨trivial, c11, ⟨trivial, c27, trivial⟩⟩⟩, ⟨⟨⟨trivial, c17, trivial⟩, c9, ⟨trivial, c25, trivial⟩⟩, ⟨⟨trivial, c21, trivial⟩, c13, trivial⟩⟩⟩, ⟨⟨⟨⟨trivial, c16, trivial⟩, c8, ⟨trivial, c24, trivial⟩⟩, c4, ⟨⟨trivial, c20, trivial⟩, c12, ⟨trivial, c28, trivial⟩⟩⟩, ⟨⟨trivial, c10, ⟨trivial, c26, trivial⟩⟩, c6, ⟨⟨trivial, c22, trivial⟩, c14, trivial⟩⟩⟩⟩
theorem runs14 : isTrue (callN (fun f => tree0.get (key f)) 3000 14 .nil ⟨.h, .leaf⟩) = true := by kernel_rfl
def kf14 : CFunc := ⟨.skip, [], some (.bool true)⟩
theorem k14 : FnOk Try.prog 0 14 kf14 :=
  .konst Try.func14 (n := 54) (x := .bool true) (by kernel_rfl) (fun _ => rfl) (closed_known table0 runs14)
def tree : Tr CFunc := (.nod (.nod (.val (.val (.val .leaf cf15 .leaf) cf7 (.val .leaf cf23 .leaf)) cf3 (.val .leaf cf11 (.val .leaf cf27 .leaf))) (.nod (.val (.val .leaf cf17 .leaf) cf9 (.val .leaf cf25 .leaf)) (.val (.val .leaf cf21 .leaf) cf13 .leaf))) (.nod (.val (.val (.val .leaf cf16 .leaf) cf8 (.val .leaf cf24 .leaf)) cf4 (.val (.val .leaf cf20 .leaf) cf12 (.val .leaf cf28 .leaf))) (.val (.val .leaf cf10 (.val .leaf cf26 .leaf)) cf6 (.val (.val .leaf cf22 .leaf) kf14 .leaf))))
theorem table : TblOk Try.prog 0 (fun f => tree.get (key f)) :=
  .of (by kernel_rfl) ⟨⟨⟨⟨⟨trivial, c15, trivial⟩, c7, ⟨trivial, c23, trivial⟩⟩, c3, ⟨trivial, c11, ⟨trivial, c27, trivial⟩⟩⟩, ⟨⟨⟨trivial, c17, trivial⟩, c9, ⟨trivial, c25, trivial⟩⟩, ⟨⟨trivial, c21, trivial⟩, c13, trivial⟩⟩⟩, ⟨⟨⟨⟨trivial, c16, trivial⟩, c8, ⟨trivial, c24, trivial⟩⟩, c4, ⟨⟨trivial, c20, trivial⟩, c12, ⟨trivial, c28, trivial⟩⟩⟩, ⟨⟨trivial, c10, ⟨trivial, c26, trivial⟩⟩, c6, ⟨⟨trivial, c22, trivial⟩, k14, trivial⟩⟩⟩⟩
end Go.Proofs.Ytfnbbbcnbfhclaa
