/- The functions that the statement reaches, compiled. Printed by a program of mine. -/
import Derived.Test.YtdpdkbkgomninaaProg
import Derived.Test.YtdpdkbkgomninaaDxClaim
import Derived.KernelRfl
namespace Go.Proofs.Ytdpdkbkgomninaa
open Go.Dx
def cf5 : CFunc := ⟨(.seq (.region (.cons none (.mov (.lit (.bool false))) (some (.o .h))
    .nil))
  (.seq (.region (.cons none (.callF 15 (.cons (.lit (.int 3 2)) (.cons (.lit (.int 3 0)) (.cons (.lit (.str 1 120)) .nil)))) none
    (.cons none (.callF 15 (.cons (.lit (.int 3 1)) (.cons (.lit (.int 3 0)) (.cons (.lit (.str 0 0)) .nil)))) none
    (.cons none (.callF 15 (.cons (.lit (.int 3 3)) (.cons (.lit (.int 3 0)) (.cons (.lit (.str 1 121)) .nil)))) none
    (.cons none (.callF 15 (.cons (.lit (.int 3 9)) (.cons (.lit (.int 3 0)) (.cons (.lit (.str 0 0)) .nil)))) none
    (.cons none (.buildSlice (.cons (.int 3 0) (.cons (.int 3 0) (.cons (.str 0 0) .nil))) 12 4 (.cons 0 3 (.loc 3) (.cons 3 3 (.loc 2) (.cons 6 3 (.loc 1) (.cons 9 3 (.loc 0) .nil))))) none
    (.cons none (.mov (.loc 0)) (some (.i .h))
    .nil)))))))
  (.seq (.region (.cons none (.mov (.var (.i .h))) none
    (.cons none (.callF 6 (.cons (.loc 0) .nil)) none
    (.cons none (.mov (.loc 0)) none
    (.cons none (.extract 0 (.loc 0)) none
    (.cons none (.extract 1 (.loc 1)) none
    (.cons none (.mov (.loc 1)) (some (.o (.o .h)))
    (.cons none (.mov (.loc 1)) (some (.i (.o .h)))
    .nil))))))))
  (.seq (.region (.cons none (.callF 15 (.cons (.lit (.int 3 4)) (.cons (.lit (.int 3 0)) (.cons (.lit (.str 0 0)) .nil)))) none
    (.cons none (.callF 15 (.cons (.lit (.int 3 4)) (.cons (.lit (.int 3 (-1))) (.cons (.lit (.str 0 0)) .nil)))) none
    (.cons none (.callF 15 (.cons (.lit (.int 3 5)) (.cons (.lit (.int 3 0)) (.cons (.lit (.str 0 0)) .nil)))) none
    (.cons none (.callF 15 (.cons (.lit (.int 3 1)) (.cons (.lit (.int 3 1)) (.cons (.lit (.str 0 0)) .nil)))) none
    (.cons none (.callF 15 (.cons (.lit (.int 3 3)) (.cons (.lit (.int 3 1)) (.cons (.lit (.str 0 0)) .nil)))) none
    (.cons none (.callF 15 (.cons (.lit (.int 3 3)) (.cons (.lit (.int 3 0)) (.cons (.lit (.str 1 122)) .nil)))) none
    (.cons none (.buildSlice (.cons (.int 3 0) (.cons (.int 3 0) (.cons (.str 0 0) .nil))) 18 6 (.cons 0 3 (.loc 5) (.cons 3 3 (.loc 4) (.cons 6 3 (.loc 3) (.cons 9 3 (.loc 2) (.cons 12 3 (.loc 1) (.cons 15 3 (.loc 0) .nil))))))) none
    (.cons none (.mov (.loc 0)) (some (.o (.i .h)))
    .nil)))))))))
  (.seq (.region (.cons none (.mov (.var (.o (.i .h)))) none
    (.cons none (.sliceSl 3 (.loc 0) (some (.lit (.int 3 5))) none none) none
    (.cons none (.callF 6 (.cons (.loc 0) .nil)) none
    (.cons none (.mov (.loc 0)) none
    (.cons none (.extract 0 (.loc 0)) none
    (.cons none (.extract 1 (.loc 1)) none
    (.cons none (.mov (.loc 1)) (some (.i (.i .h)))
    (.cons none (.mov (.loc 1)) (some (.o (.o (.o .h))))
    .nil)))))))))
  (.seq (.region (.cons none (.callF 6 (.cons (.lit .nilslice) .nil)) none
    (.cons none (.mov (.loc 0)) none
    (.cons none (.extract 0 (.loc 0)) none
    (.cons none (.extract 1 (.loc 1)) none
    (.cons none (.mov (.loc 1)) (some (.i (.o (.o .h))))
    (.cons none (.mov (.loc 1)) (some (.o (.i (.o .h))))
    .nil)))))))
  (.seq (.region (.cons none (.mov (.lit (.bool true))) none
    (.cons (some (0, true)) (.callF 14 .nil) none
    (.cons none (.pick (.loc 1) (.loc 0) (.lit (.bool false))) none
    (.cons none (.mov (.loc 0)) none
    (.cons (some (0, true)) (.mov (.var (.i .h))) none
    (.cons (some (1, true)) (.callF 9 (.cons (.loc 0) .nil)) none
    (.cons (some (2, true)) (.buildSlice (.cons (.int 3 0) .nil) 3 3 (.cons 0 1 (.lit (.int 3 1)) (.cons 1 1 (.lit (.int 3 2)) (.cons 2 1 (.lit (.int 3 3)) .nil)))) none
    (.cons (some (3, true)) (.callF 17 (.cons (.loc 1) (.cons (.loc 0) .nil))) none
    (.cons none (.pick (.loc 4) (.loc 0) (.lit (.bool false))) none
    (.cons none (.mov (.loc 0)) none
    (.cons (some (0, true)) (.mov (.var (.o (.o .h)))) none
    (.cons (some (1, true)) (.cmp .eql (.loc 0) (.lit (.int 3 1))) none
    (.cons none (.pick (.loc 2) (.loc 0) (.lit (.bool false))) none
    (.cons none (.mov (.loc 0)) none
    (.cons (some (0, true)) (.mov (.var (.i (.o .h)))) none
    (.cons (some (1, true)) (.scmp .eql (.loc 0) (.lit (.str 1 120))) none
    (.cons none (.pick (.loc 2) (.loc 0) (.lit (.bool false))) none
    (.cons none (.mov (.loc 0)) none
    (.cons (some (0, true)) (.mov (.var (.o (.i .h)))) none
    (.cons (some (1, true)) (.callF 9 (.cons (.loc 0) .nil)) none
    (.cons (some (2, true)) (.buildSlice (.cons (.int 3 0) .nil) 5 5 (.cons 0 1 (.lit (.int 3 0)) (.cons 1 1 (.lit (.int 3 1)) (.cons 2 1 (.lit (.int 3 2)) (.cons 3 1 (.lit (.int 3 3)) (.cons 4 1 (.lit (.int 3 4)) .nil)))))) none
    (.cons (some (3, true)) (.callF 17 (.cons (.loc 1) (.cons (.loc 0) .nil))) none
    (.cons none (.pick (.loc 4) (.loc 0) (.lit (.bool false))) none
    (.cons none (.mov (.loc 0)) none
    (.cons (some (0, true)) (.mov (.var (.i (.i .h)))) none
    (.cons (some (1, true)) (.cmp .eql (.loc 0) (.lit (.int 3 2))) none
    (.cons none (.pick (.loc 2) (.loc 0) (.lit (.bool false))) none
    (.cons none (.mov (.loc 0)) none
    (.cons (some (0, true)) (.mov (.var (.o (.o (.o .h))))) none
    (.cons (some (1, true)) (.scmp .eql (.loc 0) (.lit (.str 1 122))) none
    (.cons none (.pick (.loc 2) (.loc 0) (.lit (.bool false))) none
    (.cons none (.mov (.loc 0)) none
    (.cons (some (0, true)) (.mov (.var (.i (.o (.o .h))))) none
    (.cons (some (1, true)) (.cmp .eql (.loc 0) (.lit (.int 3 0))) none
    (.cons none (.pick (.loc 2) (.loc 0) (.lit (.bool false))) none
    (.cons none (.mov (.loc 0)) none
    (.cons (some (0, true)) (.mov (.var (.o (.i (.o .h))))) none
    (.cons (some (1, true)) (.scmp .eql (.loc 0) (.lit (.str 0 0))) none
    (.cons none (.pick (.loc 2) (.loc 0) (.lit (.bool false))) none
    (.cons none (.mov (.loc 0)) none
    (.cons (some (0, true)) (.callF 18 (.cons (.lit .nilptr) .nil)) none
    (.cons (some (1, true)) (.lenSl (.loc 0)) none
    (.cons (some (2, true)) (.cmp .eql (.loc 0) (.lit (.int 3 0))) none
    (.cons none (.pick (.loc 3) (.loc 0) (.lit (.bool false))) none
    (.cons none (.mov (.loc 0)) none
    (.cons (some (0, true)) (.callF 19 (.cons (.lit .nilptr) .nil)) none
    (.cons (some (1, true)) (.lenSl (.loc 0)) none
    (.cons (some (2, true)) (.cmp .eql (.loc 0) (.lit (.int 3 0))) none
    (.cons none (.pick (.loc 3) (.loc 0) (.lit (.bool false))) none
    (.cons none (.mov (.loc 0)) none
    (.cons (some (0, true)) (.build (.cons .nilptr (.cons .nilptr (.cons .nilptr (.cons .nilptr (.cons (.bool false) (.cons .nilslice .nil)))))) .nil) none
    (.cons (some (1, true)) (.box (.loc 0)) none
    (.cons (some (2, true)) (.callF 18 (.cons (.loc 0) .nil)) none
    (.cons (some (3, true)) (.lenSl (.loc 0)) none
    (.cons (some (4, true)) (.cmp .eql (.loc 0) (.lit (.int 3 0))) none
    (.cons none (.pick (.loc 5) (.loc 0) (.lit (.bool false))) none
    (.cons none (.mov (.loc 0)) none
    (.cons (some (0, true)) (.build (.cons .nilptr (.cons .nilptr (.cons .nilptr (.cons .nilptr (.cons (.bool false) (.cons .nilslice .nil)))))) .nil) none
    (.cons (some (1, true)) (.box (.loc 0)) none
    (.cons (some (2, true)) (.callF 19 (.cons (.loc 0) .nil)) none
    (.cons (some (3, true)) (.lenSl (.loc 0)) none
    (.cons (some (4, true)) (.cmp .eql (.loc 0) (.lit (.int 3 0))) none
    (.cons none (.pick (.loc 5) (.loc 0) (.lit (.bool false))) none
    (.cons none (.mov (.loc 0)) none
    (.cons (some (0, true)) (.callF 9 (.cons (.lit .nilslice) .nil)) none
    (.cons (some (1, true)) (.lenSl (.loc 0)) none
    (.cons (some (2, true)) (.cmp .eql (.loc 0) (.lit (.int 3 0))) none
    (.cons none (.pick (.loc 3) (.loc 0) (.lit (.bool false))) none
    (.cons none (.mov (.loc 0)) none
    (.cons (some (0, true)) (.callF 12 (.cons (.lit .nilslice) (.cons (.lit (.int 3 0)) .nil))) none
    (.cons (some (1, true)) (.lenSl (.loc 0)) none
    (.cons (some (2, true)) (.cmp .eql (.loc 0) (.lit (.int 3 0))) none
    (.cons none (.pick (.loc 3) (.loc 0) (.lit (.bool false))) none
    (.cons none (.mov (.loc 0)) (some (.o .h))
    .nil)))))))))))))))))))))))))))))))))))))))))))))))))))))))))))))))))))))))))))
  .ret))))))),
  [.tmp (.o .h)]⟩
theorem c5 : FnOk Try.prog 0 5 cf5 :=
  .of Try.func5 (n := 109) (by kernel_rfl) (far := fun t => Nat.testBit 511 t) (by kernel_rfl)
def cf6 : CFunc := ⟨(.seq (.region (.cons none (.mov (.lit (.int 3 0))) (some (.o (.o .h)))
    (.cons none (.mov (.lit (.str 0 0))) (some (.i (.o .h)))
    .nil)))
  (.seq (.region (.cons none (.mov (.var (.o .h))) none
    (.cons none (.callF 20 (.cons (.loc 0) (.cons (.lit (.func (.func 21) .nil .nil)) .nil))) none
    (.cons none (.mov (.loc 0)) (some (.o (.i .h)))
    .nil))))
  (.seq (.block 0 (.seq (.region (.cons none (.mov (.var (.o (.i .h)))) none
    (.cons none (.lenSl (.loc 0)) none
    (.cons none (.cmp .eql (.loc 0) (.lit (.int 3 0))) none
    (.cons none (.mov (.loc 0)) (some (.i (.o (.o .h))))
    .nil)))))
  (.cond (.var (.i (.o (.o .h)))) (.seq (.region (.cons none (.mov (.lit (.int 3 0))) (some (.o (.o .h)))
    (.cons none (.mov (.lit (.str 0 0))) (some (.i (.o .h)))
    .nil)))
  .ret)
  (.seq (.region (.cons none (.mov (.var (.o (.i .h)))) none
    (.cons none (.idxSl 3 (.loc 0) (.lit (.int 3 0))) none
    (.cons none (.fieldAddr 0 (.loc 0)) none
    (.cons none (.load1 (.loc 0)) none
    (.cons none (.cmp .eql (.loc 0) (.lit (.int 3 2))) none
    (.cons none (.mov (.loc 0)) (some (.i (.o (.i .h))))
    .nil)))))))
  (.cond (.var (.i (.o (.i .h)))) (.seq (.draw (.cons none (.mov (.var (.o (.i .h)))) none (.light 0)
    (.cons none (.idxSl 3 (.loc 0) (.lit (.int 3 0))) none (.light 0)
    (.cons none (.fieldAddr 2 (.loc 0)) none (.light 0)
    (.cons none (.load1 (.loc 0)) none (.light 0)
    (.cons none (.mov (.lit (.int 3 1))) (some (.o (.o .h))) (.light 0)
    (.cons none (.mov (.loc 1)) (some (.i (.o .h))) (.light 0)
    .nil)))))) 0)
  .ret)
  .skip)))))
  (.seq (.draw (.cons none (.mov (.var (.o (.i .h)))) none (.light 0)
    (.cons none (.idxSl 3 (.loc 0) (.lit (.int 3 0))) none (.light 0)
    (.cons none (.fieldAddr 2 (.loc 0)) none (.light 0)
    (.cons none (.load1 (.loc 0)) none (.light 0)
    (.cons none (.mov (.lit (.int 3 2))) (some (.o (.o .h))) (.light 0)
    (.cons none (.mov (.loc 1)) (some (.i (.o .h))) (.light 0)
    .nil)))))) 0)
  .ret)))),
  [.tmp (.o (.o .h)), .tmp (.i (.o .h))]⟩
theorem c6 : FnOk Try.prog 0 6 cf6 :=
  .of Try.func6 (n := 25) (by kernel_rfl) (far := fun t => Nat.testBit 2205 t) (by kernel_rfl)
def cf9 : CFunc := ⟨(.seq (.region (.cons none (.mov (.lit .nilslice)) (some (.o (.o .h)))
    .nil))
  (.seq (.region (.cons none .mkMap none
    (.cons none (.build (.cons (.int 3 0) (.cons .nilmap (.cons (.bool false) .nil))) (.cons 1 1 (.loc 0) .nil)) none
    (.cons none (.box (.loc 0)) none
    (.cons none (.alloc (.cons .nilptr .nil) 1) (some (.i (.o .h)))
    (.cons none (.store 1 (.loc 0) (.loc 1)) none
    .nil))))))
  (.seq (.region (.cons none (.mov (.var (.o .h))) none
    (.cons none (.mkFunc (.func 23) .nil (.cons (.var (.i (.o .h))) .nil)) none
    (.cons none (.callF 22 (.cons (.loc 1) (.cons (.loc 0) .nil))) none
    (.cons none (.mov (.loc 0)) (some (.o (.o .h)))
    .nil)))))
  .ret))),
  [.tmp (.o (.o .h))]⟩
theorem c9 : FnOk Try.prog 0 9 cf9 :=
  .of Try.func9 (n := 10) (by kernel_rfl) (far := fun t => Nat.testBit 13 t) (by kernel_rfl)
def cf12 : CFunc := ⟨(.seq (.region (.cons none (.box (.var (.i .h))) (some (.i (.o .h)))
    (.cons none (.mov (.lit .nilslice)) (some (.o (.i .h)))
    .nil)))
  (.seq (.region (.cons none (.mov (.var (.o .h))) none
    (.cons none (.mkFunc (.func 26) .nil (.cons (.var (.i (.o .h))) .nil)) none
    (.cons none (.callF 25 (.cons (.loc 1) (.cons (.loc 0) .nil))) none
    (.cons none (.mov (.loc 0)) (some (.o (.i .h)))
    .nil)))))
  .ret)),
  [.tmp (.o (.i .h))]⟩
theorem c12 : FnOk Try.prog 0 12 cf12 :=
  .of Try.func12 (n := 8) (by kernel_rfl) (far := fun t => Nat.testBit 27 t) (by kernel_rfl)
def cf14 : CFunc := ⟨(.seq (.region (.cons none (.mov (.lit (.bool false))) (some (.o .h))
    .nil))
  (.seq (.region (.cons none (.callF 27 .nil) none
    (.cons none (.callF 12 (.cons (.loc 0) (.cons (.lit (.int 3 1)) .nil))) none
    (.cons none (.callF 27 .nil) none
    (.cons none (.callF 12 (.cons (.loc 0) (.cons (.lit (.int 3 0)) .nil))) none
    (.cons none (.mov (.loc 2)) (some (.i .h))
    (.cons none (.mov (.loc 1)) (some (.o (.o .h)))
    .nil)))))))
  (.seq (.region (.cons none (.callF 27 .nil) none
    (.cons none (.callF 6 (.cons (.loc 0) .nil)) none
    (.cons none (.mov (.loc 0)) none
    (.cons none (.extract 0 (.loc 0)) none
    (.cons none (.extract 1 (.loc 1)) none
    (.cons none (.mov (.loc 1)) (some (.i (.o .h)))
    (.cons none (.mov (.loc 1)) (some (.o (.i .h)))
    .nil))))))))
  (.seq (.region (.cons none (.callF 27 .nil) none
    (.cons none (.callF 9 (.cons (.loc 0) .nil)) none
    (.cons none (.lenSl (.loc 0)) none
    (.cons none (.cmp .eql (.loc 0) (.lit (.int 3 0))) none
    (.cons none (.mov (.loc 0)) none
    (.cons (some (0, true)) (.callF 28 .nil) none
    (.cons (some (1, true)) (.callF 9 (.cons (.loc 0) .nil)) none
    (.cons (some (2, true)) (.buildSlice (.cons (.int 3 0) .nil) 3 3 (.cons 0 1 (.lit (.int 3 1)) (.cons 1 1 (.lit (.int 3 2)) (.cons 2 1 (.lit (.int 3 4)) .nil)))) none
    (.cons (some (3, true)) (.callF 17 (.cons (.loc 1) (.cons (.loc 0) .nil))) none
    (.cons none (.pick (.loc 4) (.loc 0) (.lit (.bool false))) none
    (.cons none (.mov (.loc 0)) none
    (.cons (some (0, true)) (.mov (.var (.i .h))) none
    (.cons (some (1, true)) (.lenSl (.loc 0)) none
    (.cons (some (2, true)) (.cmp .eql (.loc 0) (.lit (.int 3 1))) none
    (.cons none (.pick (.loc 3) (.loc 0) (.lit (.bool false))) none
    (.cons none (.mov (.loc 0)) none
    (.cons (some (0, true)) (.mov (.var (.i .h))) none
    (.cons (some (1, true)) (.idxSl 1 (.loc 0) (.lit (.int 3 0))) none
    (.cons (some (2, true)) (.load1 (.loc 0)) none
    (.cons (some (3, true)) (.scmp .eql (.loc 0) (.lit (.str 1 97))) none
    (.cons none (.pick (.loc 4) (.loc 0) (.lit (.bool false))) none
    (.cons none (.mov (.loc 0)) none
    (.cons (some (0, true)) (.mov (.var (.o (.o .h)))) none
    (.cons (some (1, true)) (.lenSl (.loc 0)) none
    (.cons (some (2, true)) (.cmp .eql (.loc 0) (.lit (.int 3 1))) none
    (.cons none (.pick (.loc 3) (.loc 0) (.lit (.bool false))) none
    (.cons none (.mov (.loc 0)) none
    (.cons (some (0, true)) (.mov (.var (.o (.o .h)))) none
    (.cons (some (1, true)) (.idxSl 1 (.loc 0) (.lit (.int 3 0))) none
    (.cons (some (2, true)) (.load1 (.loc 0)) none
    (.cons (some (3, true)) (.scmp .eql (.loc 0) (.lit (.str 1 98))) none
    (.cons none (.pick (.loc 4) (.loc 0) (.lit (.bool false))) none
    (.cons none (.mov (.loc 0)) none
    (.cons (some (0, true)) (.mov (.var (.i (.o .h)))) none
    (.cons (some (1, true)) (.cmp .eql (.loc 0) (.lit (.int 3 1))) none
    (.cons none (.pick (.loc 2) (.loc 0) (.lit (.bool false))) none
    (.cons none (.mov (.loc 0)) none
    (.cons (some (0, true)) (.mov (.var (.o (.i .h)))) none
    (.cons (some (1, true)) (.scmp .eql (.loc 0) (.lit (.str 3 7104878))) none
    (.cons none (.pick (.loc 2) (.loc 0) (.lit (.bool false))) none
    (.cons none (.mov (.loc 0)) (some (.o .h))
    .nil))))))))))))))))))))))))))))))))))))))))))
  .ret)))),
  [.tmp (.o .h)]⟩
theorem c14 : FnOk Try.prog 0 14 cf14 :=
  .of Try.func14 (n := 54) (by kernel_rfl) (far := fun t => Nat.testBit 31 t) (by kernel_rfl)
def cf15 : CFunc := ⟨(.seq (.region (.cons none (.alloc (.cons (.int 3 0) (.cons (.int 3 0) (.cons (.str 0 0) .nil))) 3) (some (.o (.o (.o .h))))
    .nil))
  (.seq (.region (.cons none (.mov (.var (.o .h))) none
    (.cons none (.mov (.var (.i .h))) none
    (.cons none (.mov (.var (.o (.o .h)))) none
    (.cons none (.build (.cons (.int 3 0) (.cons (.int 3 0) (.cons (.str 0 0) .nil))) (.cons 0 1 (.loc 2) (.cons 1 1 (.loc 1) (.cons 2 1 (.loc 0) .nil)))) none
    (.cons none (.store 3 (.var (.o (.o (.o .h)))) (.loc 0)) none
    .nil))))))
  .ret)),
  [.cellN (.o (.o (.o .h))) 3]⟩
theorem c15 : FnOk Try.prog 0 15 cf15 :=
  .of Try.func15 (n := 11) (by kernel_rfl) (far := fun t => Nat.testBit 71 t) (by kernel_rfl)
def cf17 : CFunc := ⟨(.seq (.region (.cons none (.mov (.lit (.bool false))) (some (.o (.i .h)))
    .nil))
  (.seq (.seq (.region (.cons none (.mov (.var (.o .h))) none
    (.cons none (.lenSl (.loc 0)) none
    (.cons none (.mov (.var (.i .h))) none
    (.cons none (.lenSl (.loc 0)) none
    (.cons none (.cmp .neq (.loc 2) (.loc 0)) (some (.o (.o (.i .h))))
    .nil))))))
  (.cond (.var (.o (.o (.i .h)))) (.seq (.region (.cons none (.mov (.lit (.bool false))) (some (.o (.i .h)))
    .nil))
  .ret)
  .skip))
  (.seq (.seq (.region (.cons none (.mov (.lit (.int 3 0))) (some (.i (.i .h)))
    .nil))
  (.block 0 (.loop (.seq (.seq (.region (.cons none (.mov (.var (.i (.i .h)))) none
    (.cons none (.mov (.var (.o .h))) none
    (.cons none (.lenSl (.loc 0)) none
    (.cons none (.cmp .lss (.loc 2) (.loc 0)) (some (.o (.o (.o (.o .h)))))
    .nil)))))
  (.cond (.var (.o (.o (.o (.o .h))))) .skip
  (.exit 0)))
  (.seq (.block 1 (.seq (.draw (.cons none (.mov (.var (.o .h))) none (.light 0)
    (.cons none (.mov (.var (.i (.i .h)))) none (.light 0)
    (.cons none (.idxSl 1 (.loc 1) (.loc 0)) none (.light 0)
    (.cons none (.load1 (.loc 0)) none (.light 0)
    (.cons none (.mov (.var (.i .h))) none (.light 0)
    (.cons none (.mov (.var (.i (.i .h)))) none (.light 0)
    (.cons none (.idxSl 1 (.loc 1) (.loc 0)) none (.light 0)
    (.cons none (.load1 (.loc 0)) none (.light 0)
    (.cons none (.cmp .neq (.loc 4) (.loc 0)) (some (.i (.i (.o (.i .h))))) (.light 0)
    .nil))))))))) 0)
  (.cond (.var (.i (.i (.o (.i .h))))) (.seq (.region (.cons none (.mov (.lit (.bool false))) (some (.o (.i .h)))
    .nil))
  .ret)
  .skip)))
  (.region (.cons none (.mov (.var (.i (.i .h)))) none
    (.cons none (.arith .add 3 (.loc 0) (.lit (.int 3 1))) none
    (.cons none (.mov (.loc 0)) (some (.i (.i .h)))
    .nil)))))))))
  (.seq (.region (.cons none (.mov (.lit (.bool true))) (some (.o (.i .h)))
    .nil))
  .ret)))),
  [.tmp (.o (.i .h))]⟩
theorem c17 : FnOk Try.prog 0 17 cf17 :=
  .of Try.func17 (n := 26) (by kernel_rfl) (far := fun t => Nat.testBit 33571891 t) (by kernel_rfl)
def cf18 : CFunc := ⟨(.seq (.region (.cons none (.mov (.lit .nilslice)) (some (.o (.o .h)))
    .nil))
  (.seq (.region (.cons none (.mov (.var (.o .h))) none
    (.cons none (.callF 29 (.cons (.loc 0) .nil)) none
    (.cons none (.callF 30 (.cons (.loc 0) .nil)) none
    (.cons none (.mov (.loc 0)) (some (.i (.o .h)))
    .nil)))))
  (.seq (.region (.cons none (.mov (.var (.o .h))) none
    (.cons none (.callF 31 (.cons (.loc 0) .nil)) none
    (.cons none (.mov (.loc 0)) (some (.o (.i .h)))
    .nil))))
  (.seq (.seq (.region (.cons none (.mov (.var (.i (.o .h)))) none
    (.cons none (.callF 32 (.cons (.loc 0) .nil)) (some (.i (.i (.i .h))))
    (.cons none (.lenSl (.loc 0)) (some (.o (.o (.o (.o .h)))))
    (.cons none (.mov (.lit (.int 3 0))) (some (.i (.o (.o (.o .h)))))
    .nil)))))
  (.block 0 (.loop (.seq (.region (.cons none (.cmp .lss (.var (.i (.o (.o (.o .h))))) (.var (.o (.o (.o (.o .h)))))) (some (.o (.i (.o (.o .h)))))
    .nil))
  (.seq (.cond (.var (.o (.i (.o (.o .h))))) .skip
  (.exit 0))
  (.seq (.block 1 (.seq (.region (.cons none (.idxSl 1 (.var (.i (.i (.i .h)))) (.var (.i (.o (.o (.o .h)))))) none
    (.cons none (.load1 (.loc 0)) none
    (.cons none (.mov (.loc 0)) (some (.o (.o (.o .h))))
    .nil))))
  (.region (.cons none (.mov (.var (.o (.i .h)))) none
    (.cons none (.mov (.var (.i (.o .h)))) none
    (.cons none (.mov (.var (.o (.o (.o .h))))) none
    (.cons none (.callF 33 (.cons (.loc 1) (.cons (.loc 0) .nil))) none
    (.cons none (.field1 0 (.loc 0)) none
    (.cons none (.mov (.var (.o (.o (.o .h))))) none
    (.cons none (.build (.cons (.int 3 0) (.cons (.int 3 0) .nil)) (.cons 0 1 (.loc 1) (.cons 1 1 (.loc 0) .nil))) none
    (.cons none (.buildSlice (.cons (.int 3 0) (.cons (.int 3 0) .nil)) 2 1 (.cons 0 2 (.loc 0) .nil)) none
    (.cons none (.append (.cons (.int 3 0) (.cons (.int 3 0) .nil)) 2 (.loc 7) (.loc 0)) none
    (.cons none (.mov (.loc 0)) (some (.o (.i .h)))
    .nil)))))))))))))
  (.region (.cons none (.arith .add 3 (.var (.i (.o (.o (.o .h))))) (.lit (.int 3 1))) none
    (.cons none (.mov (.loc 0)) (some (.i (.o (.o (.o .h)))))
    .nil)))))))))
  (.seq (.region (.cons none (.mov (.var (.i (.o .h)))) none
    (.cons none (.callF 35 (.cons (.loc 0) .nil)) none
    (.cons none (.mov (.var (.o (.i .h)))) none
    (.cons none (.callF 34 (.cons (.loc 1) (.cons (.loc 0) .nil))) none
    (.cons none (.mov (.loc 0)) (some (.o (.o .h)))
    .nil))))))
  .ret))))),
  [.tmp (.o (.o .h))]⟩
theorem c18 : FnOk Try.prog 0 18 cf18 :=
  .of Try.func18 (n := 33) (by kernel_rfl) (far := fun t => Nat.testBit 122973 t) (by kernel_rfl)
def cf19 : CFunc := ⟨(.seq (.region (.cons none (.mov (.lit .nilslice)) (some (.o (.o .h)))
    .nil))
  (.seq (.region (.cons none (.mov (.var (.o .h))) none
    (.cons none (.callF 29 (.cons (.loc 0) .nil)) none
    (.cons none (.mov (.var (.o .h))) none
    (.cons none (.callF 31 (.cons (.loc 0) .nil)) none
    (.cons none (.callF 36 (.cons (.loc 2) (.cons (.loc 0) .nil))) none
    (.cons none (.mov (.loc 0)) (some (.o (.o .h)))
    .nil)))))))
  .ret)),
  [.tmp (.o (.o .h))]⟩
theorem c19 : FnOk Try.prog 0 19 cf19 :=
  .of Try.func19 (n := 8) (by kernel_rfl) (far := fun t => Nat.testBit 5 t) (by kernel_rfl)
def cf20 : CFunc := ⟨(.seq (.region (.cons none (.mov (.lit .nilslice)) (some (.o (.i .h)))
    .nil))
  (.seq (.region (.cons none (.mov (.lit .nilslice)) (some (.i (.i .h)))
    .nil))
  (.seq (.seq (.region (.cons none (.mov (.var (.o .h))) (some (.o (.o (.i .h))))
    (.cons none (.lenSl (.loc 0)) (some (.i (.o (.i .h))))
    (.cons none (.mov (.lit (.int 3 0))) (some (.o (.i (.i .h))))
    .nil))))
  (.block 0 (.loop (.seq (.region (.cons none (.cmp .lss (.var (.o (.i (.i .h)))) (.var (.i (.o (.i .h))))) (some (.i (.i (.i .h))))
    .nil))
  (.seq (.cond (.var (.i (.i (.i .h)))) .skip
  (.exit 0))
  (.seq (.block 1 (.seq (.region (.cons none (.mov (.var (.o (.i (.i .h))))) none
    (.cons none (.idxSl 3 (.var (.o (.o (.i .h)))) (.var (.o (.i (.i .h))))) none
    (.cons none (.loadN 3 (.loc 0)) none
    (.cons none (.alloc (.cons (.int 3 0) (.cons (.int 3 0) (.cons (.str 0 0) .nil))) 3) (some (.i (.o (.o .h))))
    (.cons none (.mov (.loc 3)) (some (.o (.o (.o .h))))
    (.cons none (.store 3 (.loc 1) (.loc 2)) none
    .nil)))))))
  (.seq (.region (.cons none (.mov (.var (.i .h))) none
    (.cons none (.mov (.var (.o (.o (.o .h))))) none
    (.cons none (.loadN 3 (.var (.i (.o (.o .h))))) none
    (.cons none (.callV (.loc 2) (.cons (.loc 1) (.cons (.loc 0) .nil))) none
    (.cons none (.mov (.loc 0)) none
    (.cons none (.extract 0 (.loc 0)) none
    (.cons none (.extract 1 (.loc 1)) none
    (.cons none (.alloc (.cons (.int 3 0) (.cons (.int 3 0) (.cons (.str 0 0) .nil))) 3) (some (.o (.i (.o .h))))
    (.cons none (.store 3 (.loc 0) (.loc 2)) none
    (.cons none (.mov (.loc 2)) (some (.i (.i (.o .h))))
    .nil)))))))))))
  (.seq (.region (.cons none (.mov (.var (.i (.i (.o .h))))) (some (.o (.i (.o (.i .h)))))
    .nil))
  (.cond (.var (.o (.i (.o (.i .h))))) (.region (.cons none (.mov (.var (.i (.i .h)))) none
    (.cons none (.loadN 3 (.var (.o (.i (.o .h))))) none
    (.cons none (.buildSlice (.cons (.int 3 0) (.cons (.int 3 0) (.cons (.str 0 0) .nil))) 3 1 (.cons 0 3 (.loc 0) .nil)) none
    (.cons none (.append (.cons (.int 3 0) (.cons (.int 3 0) (.cons (.str 0 0) .nil))) 3 (.loc 2) (.loc 0)) none
    (.cons none (.mov (.loc 0)) (some (.i (.i .h)))
    .nil))))))
  .skip)))))
  (.region (.cons none (.arith .add 3 (.var (.o (.i (.i .h)))) (.lit (.int 3 1))) none
    (.cons none (.mov (.loc 0)) (some (.o (.i (.i .h))))
    .nil)))))))))
  (.seq (.region (.cons none (.mov (.var (.i (.i .h)))) none
    (.cons none (.mov (.loc 0)) (some (.o (.i .h)))
    .nil)))
  .ret)))),
  [.tmp (.o (.i .h))]⟩
theorem c20 : FnOk Try.prog 0 20 cf20 :=
  .of Try.func20 (n := 31) (by kernel_rfl) (far := fun t => Nat.testBit 16793587 t) (by kernel_rfl)
def cf21 : CFunc := ⟨(.seq (.region (.cons none (.box (.var (.i .h))) (some (.i (.o .h)))
    (.cons none (.alloc (.cons (.int 3 0) (.cons (.int 3 0) (.cons (.str 0 0) .nil))) 3) (some (.o (.i .h)))
    (.cons none (.mov (.lit (.bool false))) (some (.i (.i .h)))
    .nil))))
  (.seq (.draw (.cons none (.loadN 3 (.var (.i (.o .h)))) none (.light 0)
    (.cons none (.fieldAddr 0 (.var (.i (.o .h)))) none (.light 0)
    (.cons none (.load1 (.loc 0)) none (.light 0)
    (.cons none (.cmp .eql (.loc 0) (.lit (.int 3 2))) none (.light 0)
    (.cons none (.mov (.loc 0)) none (.light 0)
    (.cons none (.store 3 (.var (.o (.i .h))) (.loc 4)) none .heavy
    (.cons (some (1, false)) (.fieldAddr 0 (.var (.i (.o .h)))) none (.light 1)
    (.cons (some (2, false)) (.load1 (.loc 0)) none (.light 1)
    (.cons (some (3, false)) (.cmp .eql (.loc 0) (.lit (.int 3 3))) none (.light 1)
    (.cons none (.pick (.loc 4) (.lit (.bool true)) (.loc 0)) none (.light 1)
    (.cons none (.mov (.loc 0)) (some (.i (.i .h))) (.light 0)
    .nil))))))))))) 0)
  .ret)),
  [.cellN (.o (.i .h)) 3, .tmp (.i (.i .h))]⟩
theorem c21 : FnOk Try.prog 0 21 cf21 :=
  .of Try.func21 (n := 15) (by kernel_rfl) (far := fun t => Nat.testBit 58 t) (by kernel_rfl)
def cf22 : CFunc := ⟨(.seq (.region (.cons none (.mov (.lit .nilslice)) (some (.o (.i .h)))
    .nil))
  (.seq (.region (.cons none (.mov (.lit .nilslice)) (some (.i (.i .h)))
    .nil))
  (.seq (.seq (.region (.cons none (.mov (.var (.o .h))) (some (.o (.o (.i .h))))
    (.cons none (.lenSl (.loc 0)) (some (.i (.o (.i .h))))
    (.cons none (.mov (.lit (.int 3 0))) (some (.o (.i (.i .h))))
    .nil))))
  (.block 0 (.loop (.seq (.region (.cons none (.cmp .lss (.var (.o (.i (.i .h)))) (.var (.i (.o (.i .h))))) (some (.i (.i (.i .h))))
    .nil))
  (.seq (.cond (.var (.i (.i (.i .h)))) .skip
  (.exit 0))
  (.seq (.block 1 (.seq (.region (.cons none (.mov (.var (.o (.i (.i .h))))) none
    (.cons none (.idxSl 3 (.var (.o (.o (.i .h)))) (.var (.o (.i (.i .h))))) none
    (.cons none (.loadN 3 (.loc 0)) none
    (.cons none (.alloc (.cons (.int 3 0) (.cons (.int 3 0) (.cons (.str 0 0) .nil))) 3) (some (.i (.o (.o .h))))
    (.cons none (.mov (.loc 3)) (some (.o (.o (.o .h))))
    (.cons none (.store 3 (.loc 1) (.loc 2)) none
    .nil)))))))
  (.seq (.region (.cons none (.mov (.var (.i .h))) none
    (.cons none (.mov (.var (.o (.o (.o .h))))) none
    (.cons none (.loadN 3 (.var (.i (.o (.o .h))))) none
    (.cons none (.callV (.loc 2) (.cons (.loc 1) (.cons (.loc 0) .nil))) none
    (.cons none (.mov (.loc 0)) none
    (.cons none (.extract 0 (.loc 0)) none
    (.cons none (.extract 1 (.loc 1)) none
    (.cons none (.mov (.loc 1)) (some (.o (.i (.o .h))))
    (.cons none (.mov (.loc 1)) (some (.i (.i (.o .h))))
    .nil))))))))))
  (.seq (.region (.cons none (.mov (.var (.i (.i (.o .h))))) (some (.o (.i (.o (.i .h)))))
    .nil))
  (.cond (.var (.o (.i (.o (.i .h))))) (.region (.cons none (.mov (.var (.i (.i .h)))) none
    (.cons none (.mov (.var (.o (.i (.o .h))))) none
    (.cons none (.buildSlice (.cons (.int 3 0) .nil) 1 1 (.cons 0 1 (.loc 0) .nil)) none
    (.cons none (.append (.cons (.int 3 0) .nil) 1 (.loc 2) (.loc 0)) none
    (.cons none (.mov (.loc 0)) (some (.i (.i .h)))
    .nil))))))
  .skip)))))
  (.region (.cons none (.arith .add 3 (.var (.o (.i (.i .h)))) (.lit (.int 3 1))) none
    (.cons none (.mov (.loc 0)) (some (.o (.i (.i .h))))
    .nil)))))))))
  (.seq (.region (.cons none (.mov (.var (.i (.i .h)))) none
    (.cons none (.mov (.loc 0)) (some (.o (.i .h)))
    .nil)))
  .ret)))),
  [.tmp (.o (.i .h))]⟩
theorem c22 : FnOk Try.prog 0 22 cf22 :=
  .of Try.func22 (n := 31) (by kernel_rfl) (far := fun t => Nat.testBit 16793587 t) (by kernel_rfl)
def cf23 : CFunc := ⟨(.seq (.region (.cons none (.box (.var (.i .h))) (some (.o (.i .h)))
    (.cons none (.mov (.lit (.int 3 0))) (some (.i (.i .h)))
    (.cons none (.mov (.lit (.bool false))) (some (.o (.o (.o .h))))
    .nil))))
  (.seq (.region (.cons none (.mov (.var (.o .h))) none
    (.cons none (.load1 (.var (.o (.o .h)))) none
    (.cons none (.loadN 3 (.var (.o (.i .h)))) none
    (.cons none (.callF 24 (.cons (.loc 1) (.cons (.loc 0) .nil))) none
    (.cons none (.not (.loc 0)) none
    (.cons none (.mov (.loc 4)) (some (.i (.i .h)))
    (.cons none (.mov (.loc 1)) (some (.o (.o (.o .h))))
    .nil))))))))
  .ret)),
  [.tmp (.i (.i .h)), .tmp (.o (.o (.o .h)))]⟩
theorem c23 : FnOk Try.prog 0 23 cf23 :=
  .of Try.func23 (n := 12) (by kernel_rfl) (far := fun t => Nat.testBit 119 t) (by kernel_rfl)
def cf24 : CFunc := ⟨(.seq (.region (.cons none (.box (.var (.i .h))) (some (.i (.o .h)))
    (.cons none (.mov (.lit (.bool false))) (some (.o (.i .h)))
    .nil)))
  (.seq (.seq (.region (.cons none (.fieldAddr 0 (.var (.i (.o .h)))) none
    (.cons none (.load1 (.loc 0)) (some (.o (.o (.o .h))))
    .nil)))
  (.block 0 (.seq (.region (.cons none (.cmp .eql (.var (.o (.o (.o .h)))) (.lit (.int 3 4))) none
    (.cons none (.mov (.loc 0)) (some (.i (.o (.o .h))))
    .nil)))
  (.cond (.var (.i (.o (.o .h)))) (.seq (.seq (.draw (.cons none (.mov (.var (.o .h))) none (.light 0)
    (.cons none (.nilCheck (.loc 0)) none (.light 0)
    (.cons none (.fieldAddr 0 (.loc 0)) none (.light 0)
    (.cons none (.load1 (.loc 0)) none (.light 0)
    (.cons none (.cmp .neq (.loc 0) (.lit (.int 3 0))) none (.light 0)
    (.cons none (.mov (.loc 0)) none (.light 0)
    (.cons (some (0, false)) (.fieldAddr 1 (.var (.i (.o .h)))) none (.light 0)
    (.cons (some (1, false)) (.load1 (.loc 0)) none (.light 0)
    (.cons (some (2, false)) (.cmp .lss (.loc 0) (.lit (.int 3 1))) none (.light 0)
    (.cons none (.pick (.loc 3) (.lit (.bool true)) (.loc 0)) none (.light 0)
    (.cons none (.mov (.loc 0)) none (.light 0)
    (.cons (some (0, false)) (.mov (.var (.o .h))) none (.light 0)
    (.cons (some (1, false)) (.nilCheck (.loc 0)) none (.light 0)
    (.cons (some (2, false)) (.fieldAddr 1 (.loc 0)) none (.light 0)
    (.cons (some (3, false)) (.load1 (.loc 0)) none (.light 0)
    (.cons (some (4, false)) (.fieldAddr 1 (.var (.i (.o .h)))) none (.light 0)
    (.cons (some (5, false)) (.load1 (.loc 0)) none (.light 0)
    (.cons (some (6, false)) (.lookup (.leaf .int) (.int 3 0) false (.loc 2) (.loc 0)) none (.light 0)
    (.cons (some (7, false)) (.cmp .gtr (.loc 0) (.lit (.int 3 0))) none (.light 0)
    (.cons none (.pick (.loc 8) (.lit (.bool true)) (.loc 0)) (some (.o (.i (.i (.i .h))))) (.light 0)
    .nil)))))))))))))))))))) 0)
  (.cond (.var (.o (.i (.i (.i .h))))) (.seq (.region (.cons none (.mov (.lit (.bool false))) (some (.o (.i .h)))
    .nil))
  .ret)
  .skip))
  (.seq (.draw (.cons none (.mov (.var (.o .h))) none (.light 0)
    (.cons none (.nilCheck (.loc 0)) none (.light 0)
    (.cons none (.fieldAddr 1 (.loc 0)) none (.light 0)
    (.cons none (.load1 (.loc 0)) none (.light 0)
    (.cons none (.fieldAddr 1 (.var (.i (.o .h)))) none (.light 0)
    (.cons none (.load1 (.loc 0)) none (.light 0)
    (.cons none (.lookup (.leaf .int) (.int 3 0) false (.loc 2) (.loc 0)) none (.light 0)
    (.cons none (.arith .add 3 (.loc 0) (.lit (.int 3 1))) none (.light 0)
    (.cons none (.update (.leaf .int) (.loc 4) (.loc 2) (.loc 0)) none .heavy
    .nil))))))))) 0)
  (.region (.cons none (.mov (.var (.o .h))) none
    (.cons none (.fieldAddr 1 (.var (.i (.o .h)))) none
    (.cons none (.load1 (.loc 0)) none
    (.cons none (.nilCheck (.loc 2)) none
    (.cons none (.fieldAddr 0 (.loc 0)) none
    (.cons none (.store 1 (.loc 0) (.loc 2)) none
    .nil)))))))))
  (.seq (.region (.cons none (.cmp .eql (.var (.o (.o (.o .h)))) (.lit (.int 3 5))) none
    (.cons none (.mov (.loc 0)) (some (.o (.o (.i (.i (.o .h))))))
    .nil)))
  (.cond (.var (.o (.o (.i (.i (.o .h)))))) (.seq (.seq (.draw (.cons none (.mov (.var (.o .h))) none (.light 0)
    (.cons none (.nilCheck (.loc 0)) none (.light 0)
    (.cons none (.fieldAddr 0 (.loc 0)) none (.light 0)
    (.cons none (.load1 (.loc 0)) none (.light 0)
    (.cons none (.cmp .eql (.loc 0) (.lit (.int 3 0))) none (.light 0)
    (.cons none (.mov (.loc 0)) none (.light 0)
    (.cons (some (0, false)) (.mov (.var (.o .h))) none (.light 0)
    (.cons (some (1, false)) (.nilCheck (.loc 0)) none (.light 0)
    (.cons (some (2, false)) (.fieldAddr 0 (.loc 0)) none (.light 0)
    (.cons (some (3, false)) (.load1 (.loc 0)) none (.light 0)
    (.cons (some (4, false)) (.fieldAddr 1 (.var (.i (.o .h)))) none (.light 0)
    (.cons (some (5, false)) (.load1 (.loc 0)) none (.light 0)
    (.cons (some (6, false)) (.cmp .neq (.loc 2) (.loc 0)) none (.light 0)
    (.cons none (.pick (.loc 7) (.lit (.bool true)) (.loc 0)) (some (.i (.i (.o (.i (.i .h)))))) (.light 0)
    .nil)))))))))))))) 0)
  (.cond (.var (.i (.i (.o (.i (.i .h)))))) (.seq (.region (.cons none (.mov (.lit (.bool false))) (some (.o (.i .h)))
    .nil))
  .ret)
  .skip))
  (.region (.cons none (.mov (.var (.o .h))) none
    (.cons none (.nilCheck (.loc 0)) none
    (.cons none (.fieldAddr 0 (.loc 0)) none
    (.cons none (.store 1 (.loc 0) (.lit (.int 3 0))) none
    .nil))))))
  (.seq (.seq (.region (.cons none (.cmp .eql (.var (.o (.o (.o .h)))) (.lit (.int 3 2))) none
    (.cons none (.mov (.loc 0)) (some (.i (.i (.i (.i (.i .h))))))
    .nil)))
  (.cond (.var (.i (.i (.i (.i (.i .h)))))) .skip
  (.region (.cons none (.cmp .eql (.var (.o (.o (.o .h)))) (.lit (.int 3 3))) none
    (.cons none (.mov (.loc 0)) (some (.i (.i (.i (.i (.i .h))))))
    .nil)))))
  (.cond (.var (.i (.i (.i (.i (.i .h)))))) (.seq (.seq (.region (.cons none (.mov (.var (.o .h))) none
    (.cons none (.nilCheck (.loc 0)) none
    (.cons none (.fieldAddr 2 (.loc 0)) none
    (.cons none (.load1 (.loc 0)) none
    (.cons none (.mov (.loc 0)) none
    (.cons (some (0, false)) (.fieldAddr 1 (.var (.i (.o .h)))) none
    (.cons (some (1, false)) (.load1 (.loc 0)) none
    (.cons (some (2, false)) (.cmp .neq (.loc 0) (.lit (.int 3 0))) none
    (.cons none (.pick (.loc 3) (.lit (.bool true)) (.loc 0)) (some (.o (.i (.o (.i (.o (.o .h)))))))
    .nil))))))))))
  (.cond (.var (.o (.i (.o (.i (.o (.o .h))))))) (.seq (.region (.cons none (.mov (.lit (.bool false))) (some (.o (.i .h)))
    .nil))
  .ret)
  .skip))
  (.region (.cons none (.mov (.var (.o .h))) none
    (.cons none (.nilCheck (.loc 0)) none
    (.cons none (.fieldAddr 2 (.loc 0)) none
    (.cons none (.store 1 (.loc 0) (.lit (.bool true))) none
    .nil))))))
  (.seq (.region (.cons none (.cmp .eql (.var (.o (.o (.o .h)))) (.lit (.int 3 1))) none
    (.cons none (.mov (.loc 0)) (some (.o (.i (.i (.i (.o (.o .h)))))))
    .nil)))
  (.cond (.var (.o (.i (.i (.i (.o (.o .h))))))) (.seq (.draw (.cons none (.fieldAddr 1 (.var (.i (.o .h)))) none (.light 0)
    (.cons none (.load1 (.loc 0)) none (.light 0)
    (.cons none (.cmp .eql (.loc 0) (.lit (.int 3 0))) none (.light 0)
    (.cons none (.mov (.loc 0)) none (.light 0)
    (.cons (some (0, true)) (.mov (.var (.o .h))) none (.light 0)
    (.cons (some (1, true)) (.nilCheck (.loc 0)) none (.light 0)
    (.cons (some (2, true)) (.fieldAddr 2 (.loc 0)) none (.light 0)
    (.cons (some (3, true)) (.load1 (.loc 0)) none (.light 0)
    (.cons (some (4, true)) (.not (.loc 0)) none (.light 0)
    (.cons none (.pick (.loc 5) (.loc 0) (.lit (.bool false))) none (.light 0)
    (.cons none (.mov (.loc 0)) none (.light 0)
    (.cons (some (0, false)) (.fieldAddr 1 (.var (.i (.o .h)))) none (.light 0)
    (.cons (some (1, false)) (.load1 (.loc 0)) none (.light 0)
    (.cons (some (2, false)) (.cmp .neq (.loc 0) (.lit (.int 3 0))) none (.light 0)
    (.cons (some (3, false)) (.mov (.loc 0)) none (.light 0)
    (.cons (some (0, true)) (.fieldAddr 1 (.var (.i (.o .h)))) none (.light 0)
    (.cons (some (1, true)) (.load1 (.loc 0)) none (.light 0)
    (.cons (some (2, true)) (.mov (.var (.o .h))) none (.light 0)
    (.cons (some (3, true)) (.nilCheck (.loc 0)) none (.light 0)
    (.cons (some (4, true)) (.fieldAddr 0 (.loc 0)) none (.light 0)
    (.cons (some (5, true)) (.load1 (.loc 0)) none (.light 0)
    (.cons (some (6, true)) (.cmp .eql (.loc 4) (.loc 0)) none (.light 0)
    (.cons (some (11, false)) (.pick (.loc 7) (.loc 0) (.lit (.bool false))) none (.light 0)
    (.cons none (.pick (.loc 12) (.lit (.bool true)) (.loc 0)) none (.light 0)
    (.cons none (.mov (.loc 0)) (some (.o (.i .h))) (.light 0)
    .nil))))))))))))))))))))))))) 0)
  .ret)
  (.seq (.region (.cons none (.mov (.lit (.bool false))) (some (.o (.i .h)))
    .nil))
  .ret)))))))))))
  (.seq (.region (.cons none (.mov (.lit (.bool true))) (some (.o (.i .h)))
    .nil))
  .ret))),
  [.tmp (.o (.i .h))]⟩
theorem c24 : FnOk Try.prog 0 24 cf24 :=
  .of Try.func24 (n := 102) (by kernel_rfl) (far := fun t => Nat.testBit 80282680171379573129435 t) (by kernel_rfl)
def cf25 : CFunc := ⟨(.seq (.region (.cons none (.mov (.lit .nilslice)) (some (.o (.i .h)))
    .nil))
  (.seq (.region (.cons none (.mov (.lit .nilslice)) (some (.i (.i .h)))
    .nil))
  (.seq (.seq (.region (.cons none (.mov (.var (.o .h))) (some (.o (.o (.i .h))))
    (.cons none (.lenSl (.loc 0)) (some (.i (.o (.i .h))))
    (.cons none (.mov (.lit (.int 3 0))) (some (.o (.i (.i .h))))
    .nil))))
  (.block 0 (.loop (.seq (.region (.cons none (.cmp .lss (.var (.o (.i (.i .h)))) (.var (.i (.o (.i .h))))) (some (.i (.i (.i .h))))
    .nil))
  (.seq (.cond (.var (.i (.i (.i .h)))) .skip
  (.exit 0))
  (.seq (.block 1 (.seq (.region (.cons none (.mov (.var (.o (.i (.i .h))))) none
    (.cons none (.idxSl 3 (.var (.o (.o (.i .h)))) (.var (.o (.i (.i .h))))) none
    (.cons none (.loadN 3 (.loc 0)) none
    (.cons none (.alloc (.cons (.int 3 0) (.cons (.int 3 0) (.cons (.str 0 0) .nil))) 3) (some (.i (.o (.o .h))))
    (.cons none (.mov (.loc 3)) (some (.o (.o (.o .h))))
    (.cons none (.store 3 (.loc 1) (.loc 2)) none
    .nil)))))))
  (.seq (.region (.cons none (.mov (.var (.i .h))) none
    (.cons none (.mov (.var (.o (.o (.o .h))))) none
    (.cons none (.loadN 3 (.var (.i (.o (.o .h))))) none
    (.cons none (.callV (.loc 2) (.cons (.loc 1) (.cons (.loc 0) .nil))) none
    (.cons none (.mov (.loc 0)) none
    (.cons none (.extract 0 (.loc 0)) none
    (.cons none (.extract 1 (.loc 1)) none
    (.cons none (.mov (.loc 1)) (some (.o (.i (.o .h))))
    (.cons none (.mov (.loc 1)) (some (.i (.i (.o .h))))
    .nil))))))))))
  (.seq (.region (.cons none (.mov (.var (.i (.i (.o .h))))) (some (.o (.i (.o (.i .h)))))
    .nil))
  (.cond (.var (.o (.i (.o (.i .h))))) (.region (.cons none (.mov (.var (.i (.i .h)))) none
    (.cons none (.mov (.var (.o (.i (.o .h))))) none
    (.cons none (.buildSlice (.cons (.str 0 0) .nil) 1 1 (.cons 0 1 (.loc 0) .nil)) none
    (.cons none (.append (.cons (.str 0 0) .nil) 1 (.loc 2) (.loc 0)) none
    (.cons none (.mov (.loc 0)) (some (.i (.i .h)))
    .nil))))))
  .skip)))))
  (.region (.cons none (.arith .add 3 (.var (.o (.i (.i .h)))) (.lit (.int 3 1))) none
    (.cons none (.mov (.loc 0)) (some (.o (.i (.i .h))))
    .nil)))))))))
  (.seq (.region (.cons none (.mov (.var (.i (.i .h)))) none
    (.cons none (.mov (.loc 0)) (some (.o (.i .h)))
    .nil)))
  .ret)))),
  [.tmp (.o (.i .h))]⟩
theorem c25 : FnOk Try.prog 0 25 cf25 :=
  .of Try.func25 (n := 31) (by kernel_rfl) (far := fun t => Nat.testBit 16793587 t) (by kernel_rfl)
def cf26 : CFunc := ⟨(.seq (.region (.cons none (.box (.var (.i .h))) (some (.o (.i .h)))
    (.cons none (.mov (.lit (.str 0 0))) (some (.i (.i .h)))
    (.cons none (.mov (.lit (.bool false))) (some (.o (.o (.o .h))))
    .nil))))
  (.seq (.draw (.cons none (.fieldAddr 2 (.var (.o (.i .h)))) none (.light 0)
    (.cons none (.load1 (.loc 0)) none (.light 0)
    (.cons none (.fieldAddr 0 (.var (.o (.i .h)))) none (.light 0)
    (.cons none (.load1 (.loc 0)) none (.light 0)
    (.cons none (.cmp .eql (.loc 0) (.lit (.int 3 1))) none (.light 0)
    (.cons none (.mov (.loc 0)) none (.light 0)
    (.cons (some (0, true)) (.fieldAddr 1 (.var (.o (.i .h)))) none (.light 0)
    (.cons (some (1, true)) (.load1 (.loc 0)) none (.light 0)
    (.cons (some (2, true)) (.load1 (.var (.o (.o .h)))) none (.light 0)
    (.cons (some (3, true)) (.cmp .eql (.loc 1) (.loc 0)) none (.light 0)
    (.cons none (.pick (.loc 4) (.loc 0) (.lit (.bool false))) none (.light 0)
    (.cons none (.mov (.loc 9)) (some (.i (.i .h))) (.light 0)
    (.cons none (.mov (.loc 1)) (some (.o (.o (.o .h)))) (.light 0)
    .nil))))))))))))) 0)
  .ret)),
  [.tmp (.i (.i .h)), .tmp (.o (.o (.o .h)))]⟩
theorem c26 : FnOk Try.prog 0 26 cf26 :=
  .of Try.func26 (n := 18) (by kernel_rfl) (far := fun t => Nat.testBit 118 t) (by kernel_rfl)
def cf27 : CFunc := ⟨(.seq (.region (.cons none (.mov (.lit .nilslice)) (some (.o .h))
    .nil))
  (.seq (.region (.cons none (.callF 15 (.cons (.lit (.int 3 4)) (.cons (.lit (.int 3 1)) (.cons (.lit (.str 0 0)) .nil)))) none
    (.cons none (.callF 15 (.cons (.lit (.int 3 1)) (.cons (.lit (.int 3 1)) (.cons (.lit (.str 1 97)) .nil)))) none
    (.cons none (.callF 15 (.cons (.lit (.int 3 5)) (.cons (.lit (.int 3 1)) (.cons (.lit (.str 0 0)) .nil)))) none
    (.cons none (.callF 15 (.cons (.lit (.int 3 1)) (.cons (.lit (.int 3 0)) (.cons (.lit (.str 1 98)) .nil)))) none
    (.cons none (.callF 15 (.cons (.lit (.int 3 2)) (.cons (.lit (.int 3 0)) (.cons (.lit (.str 3 7104878)) .nil)))) none
    (.cons none (.buildSlice (.cons (.int 3 0) (.cons (.int 3 0) (.cons (.str 0 0) .nil))) 15 5 (.cons 0 3 (.loc 4) (.cons 3 3 (.loc 3) (.cons 6 3 (.loc 2) (.cons 9 3 (.loc 1) (.cons 12 3 (.loc 0) .nil)))))) none
    (.cons none (.mov (.loc 0)) (some (.o .h))
    .nil))))))))
  .ret)),
  [.tmp (.o .h)]⟩
theorem c27 : FnOk Try.prog 0 27 cf27 :=
  .of Try.func27 (n := 7) (by kernel_rfl) (far := fun t => Nat.testBit 1 t) (by kernel_rfl)
def cf28 : CFunc := ⟨(.seq (.region (.cons none (.mov (.lit .nilslice)) (some (.o .h))
    .nil))
  (.seq (.region (.cons none (.callF 15 (.cons (.lit (.int 3 4)) (.cons (.lit (.int 3 1)) (.cons (.lit (.str 0 0)) .nil)))) none
    (.cons none (.callF 15 (.cons (.lit (.int 3 4)) (.cons (.lit (.int 3 2)) (.cons (.lit (.str 0 0)) .nil)))) none
    (.cons none (.callF 15 (.cons (.lit (.int 3 5)) (.cons (.lit (.int 3 2)) (.cons (.lit (.str 0 0)) .nil)))) none
    (.cons none (.callF 15 (.cons (.lit (.int 3 5)) (.cons (.lit (.int 3 1)) (.cons (.lit (.str 0 0)) .nil)))) none
    (.cons none (.callF 15 (.cons (.lit (.int 3 4)) (.cons (.lit (.int 3 1)) (.cons (.lit (.str 0 0)) .nil)))) none
    (.cons none (.buildSlice (.cons (.int 3 0) (.cons (.int 3 0) (.cons (.str 0 0) .nil))) 15 5 (.cons 0 3 (.loc 4) (.cons 3 3 (.loc 3) (.cons 6 3 (.loc 2) (.cons 9 3 (.loc 1) (.cons 12 3 (.loc 0) .nil)))))) none
    (.cons none (.mov (.loc 0)) (some (.o .h))
    .nil))))))))
  .ret)),
  [.tmp (.o .h)]⟩
theorem c28 : FnOk Try.prog 0 28 cf28 :=
  .of Try.func28 (n := 7) (by kernel_rfl) (far := fun t => Nat.testBit 1 t) (by kernel_rfl)
def cf29 : CFunc := ⟨(.seq (.region (.cons none (.mov (.lit .nilptr)) (some (.o (.o .h)))
    .nil))
  (.seq (.seq (.region (.cons none (.mov (.var (.o .h))) none
    (.cons none (.callF 37 (.cons (.loc 0) .nil)) (some (.o (.i .h)))
    .nil)))
  (.cond (.var (.o (.i .h))) (.seq (.region (.cons none (.mov (.lit .nilptr)) (some (.o (.o .h)))
    .nil))
  .ret)
  .skip))
  (.seq (.region (.cons none (.mov (.var (.o .h))) none
    (.cons none (.nilCheck (.loc 0)) none
    (.cons none (.fieldAddr 0 (.loc 0)) none
    (.cons none (.load1 (.loc 0)) none
    (.cons none (.callF 38 (.cons (.loc 0) .nil)) none
    (.cons none (.mov (.loc 0)) (some (.o (.o .h)))
    .nil)))))))
  .ret))),
  [.tmp (.o (.o .h))]⟩
theorem c29 : FnOk Try.prog 0 29 cf29 :=
  .of Try.func29 (n := 10) (by kernel_rfl) (far := fun t => Nat.testBit 21 t) (by kernel_rfl)
def cf30 : CFunc := ⟨(.seq (.region (.cons none (.mov (.lit .nilptr)) (some (.o (.o .h)))
    .nil))
  (.seq (.seq (.region (.cons none (.mov (.var (.o .h))) none
    (.cons none (.callF 39 (.cons (.loc 0) .nil)) (some (.o (.i .h)))
    .nil)))
  (.cond (.var (.o (.i .h))) (.seq (.region (.cons none (.mov (.lit .nilptr)) (some (.o (.o .h)))
    .nil))
  .ret)
  .skip))
  (.seq (.region (.cons none (.mov (.var (.o .h))) none
    (.cons none (.nilCheck (.loc 0)) none
    (.cons none (.fieldAddr 1 (.loc 0)) none
    (.cons none (.load1 (.loc 0)) none
    (.cons none (.mov (.loc 0)) (some (.o (.o .h)))
    .nil))))))
  .ret))),
  [.tmp (.o (.o .h))]⟩
theorem c30 : FnOk Try.prog 0 30 cf30 :=
  .of Try.func30 (n := 9) (by kernel_rfl) (far := fun t => Nat.testBit 21 t) (by kernel_rfl)
def cf31 : CFunc := ⟨(.seq (.region (.cons none (.mov (.lit .nilslice)) (some (.o (.o .h)))
    .nil))
  (.seq (.seq (.region (.cons none (.mov (.var (.o .h))) none
    (.cons none (.callF 37 (.cons (.loc 0) .nil)) (some (.i (.i .h)))
    .nil)))
  (.cond (.var (.i (.i .h))) (.seq (.region (.cons none (.mov (.lit .nilslice)) (some (.o (.o .h)))
    .nil))
  .ret)
  .skip))
  (.seq (.draw (.cons none (.mov (.var (.o .h))) none (.light 0)
    (.cons none (.nilCheck (.loc 0)) none (.light 0)
    (.cons none (.fieldAddr 0 (.loc 0)) none (.light 0)
    (.cons none (.load1 (.loc 0)) none (.light 0)
    (.cons none (.callF 41 (.cons (.loc 0) .nil)) none .heavy
    (.cons none (.mov (.var (.o .h))) none (.light 1)
    (.cons none (.nilCheck (.loc 0)) none (.light 1)
    (.cons none (.fieldAddr 0 (.loc 0)) none (.light 1)
    (.cons none (.load1 (.loc 0)) none (.light 1)
    (.cons none (.callF 42 (.cons (.loc 0) .nil)) none .heavy
    (.cons none (.mov (.var (.o .h))) none (.light 2)
    (.cons none (.nilCheck (.loc 0)) none (.light 2)
    (.cons none (.fieldAddr 0 (.loc 0)) none (.light 2)
    (.cons none (.load1 (.loc 0)) none (.light 2)
    (.cons none (.callF 43 (.cons (.loc 0) .nil)) none .heavy
    (.cons none (.mov (.var (.o .h))) none (.light 3)
    (.cons none (.nilCheck (.loc 0)) none (.light 3)
    (.cons none (.fieldAddr 2 (.loc 0)) none (.light 3)
    (.cons none (.load1 (.loc 0)) none (.light 3)
    (.cons none (.callF 44 (.cons (.loc 0) .nil)) none .heavy
    (.cons none (.buildSlice (.cons (.int 3 0) (.cons (.int 3 0) .nil)) 4 2 (.cons 0 2 (.loc 15) (.cons 2 2 (.loc 10) .nil))) none .float
    (.cons none (.buildSlice (.cons .nilslice .nil) 3 3 (.cons 0 1 (.loc 0) (.cons 1 1 (.loc 6) (.cons 2 1 (.loc 1) .nil)))) none .float
    (.cons none (.callF 40 (.cons (.loc 0) .nil)) none .heavy
    (.cons none (.mov (.loc 0)) (some (.i (.o .h))) (.light 0)
    .nil)))))))))))))))))))))))) 2)
  (.seq (.seq (.region (.cons none (.mov (.var (.o .h))) none
    (.cons none (.nilCheck (.loc 0)) none
    (.cons none (.fieldAddr 3 (.loc 0)) none
    (.cons none (.load1 (.loc 0)) none
    (.cons none (.eq .ptr true (.loc 0) (.lit .nilptr)) (some (.i (.i (.o (.o (.o .h))))))
    .nil))))))
  (.cond (.var (.i (.i (.o (.o (.o .h)))))) (.region (.cons none (.mov (.var (.i (.o .h)))) none
    (.cons none (.mov (.var (.o .h))) none
    (.cons none (.nilCheck (.loc 0)) none
    (.cons none (.fieldAddr 3 (.loc 0)) none
    (.cons none (.load1 (.loc 0)) none
    (.cons none (.nilCheck (.loc 0)) none
    (.cons none (.fieldAddr 0 (.loc 0)) none
    (.cons none (.load1 (.loc 0)) none
    (.cons none (.callF 44 (.cons (.loc 0) .nil)) none
    (.cons none (.append (.cons (.int 3 0) (.cons (.int 3 0) .nil)) 2 (.loc 8) (.loc 0)) none
    (.cons none (.mov (.loc 0)) (some (.i (.o .h)))
    .nil))))))))))))
  .skip))
  (.seq (.region (.cons none (.mov (.var (.i (.o .h)))) none
    (.cons none (.mov (.loc 0)) (some (.o (.o .h)))
    .nil)))
  .ret))))),
  [.tmp (.o (.o .h))]⟩
theorem c31 : FnOk Try.prog 0 31 cf31 :=
  .of Try.func31 (n := 45) (by kernel_rfl) (far := fun t => Nat.testBit 8589934637 t) (by kernel_rfl)
def cf32 : CFunc := ⟨(.seq (.region (.cons none (.mov (.lit .nilslice)) (some (.o (.o .h)))
    .nil))
  (.seq (.seq (.region (.cons none (.mov (.var (.o .h))) none
    (.cons none (.eq .ptr false (.loc 0) (.lit .nilptr)) (some (.i (.o (.o .h))))
    .nil)))
  (.cond (.var (.i (.o (.o .h)))) (.seq (.region (.cons none (.mov (.lit .nilslice)) (some (.o (.o .h)))
    .nil))
  .ret)
  .skip))
  (.seq (.region (.cons none (.mov (.lit .nilslice)) (some (.i (.o .h)))
    .nil))
  (.seq (.seq (.region (.cons none (.mov (.var (.o .h))) none
    (.cons none (.nilCheck (.loc 0)) none
    (.cons none (.fieldAddr 4 (.loc 0)) none
    (.cons none (.load1 (.loc 0)) (some (.i (.o (.i .h))))
    (.cons none (.lenSl (.loc 0)) (some (.o (.i (.i .h))))
    (.cons none (.mov (.lit (.int 3 0))) (some (.i (.i (.i .h))))
    .nil)))))))
  (.block 0 (.loop (.seq (.region (.cons none (.cmp .lss (.var (.i (.i (.i .h)))) (.var (.o (.i (.i .h))))) (some (.o (.o (.o (.o .h)))))
    .nil))
  (.seq (.cond (.var (.o (.o (.o (.o .h))))) .skip
  (.exit 0))
  (.seq (.block 1 (.seq (.region (.cons none (.idxSl 2 (.var (.i (.o (.i .h)))) (.var (.i (.i (.i .h))))) none
    (.cons none (.loadN 2 (.loc 0)) none
    (.cons none (.alloc (.cons (.int 3 0) (.cons (.int 3 0) .nil)) 2) (some (.i (.i .h)))
    (.cons none (.store 2 (.loc 0) (.loc 1)) none
    .nil)))))
  (.region (.cons none (.mov (.var (.i (.o .h)))) none
    (.cons none (.fieldAddr 0 (.var (.i (.i .h)))) none
    (.cons none (.load1 (.loc 0)) none
    (.cons none (.buildSlice (.cons (.int 3 0) .nil) 1 1 (.cons 0 1 (.loc 0) .nil)) none
    (.cons none (.append (.cons (.int 3 0) .nil) 1 (.loc 3) (.loc 0)) none
    (.cons none (.mov (.loc 0)) (some (.i (.o .h)))
    .nil)))))))))
  (.region (.cons none (.arith .add 3 (.var (.i (.i (.i .h)))) (.lit (.int 3 1))) none
    (.cons none (.mov (.loc 0)) (some (.i (.i (.i .h))))
    .nil)))))))))
  (.seq (.region (.cons none (.mov (.var (.i (.o .h)))) none
    (.cons none (.mov (.loc 0)) (some (.o (.o .h)))
    .nil)))
  .ret))))),
  [.tmp (.o (.o .h))]⟩
theorem c32 : FnOk Try.prog 0 32 cf32 :=
  .of Try.func32 (n := 24) (by kernel_rfl) (far := fun t => Nat.testBit 30893 t) (by kernel_rfl)
def cf33 : CFunc := ⟨(.seq (.region (.cons none (.alloc (.cons (.int 3 0) (.cons (.int 3 0) (.cons .nilslice (.cons (.str 0 0) (.cons (.int 3 0) .nil))))) 5) (some (.o (.i .h)))
    .nil))
  (.seq (.region (.cons none (.mov (.var (.o .h))) none
    (.cons none (.mov (.var (.i .h))) none
    (.cons none (.callF 45 (.cons (.loc 1) (.cons (.loc 0) .nil))) none
    (.cons none (.mov (.loc 0)) none
    (.cons none (.extract 0 (.loc 0)) none
    (.cons none (.extract 1 (.loc 1)) none
    (.cons none (.mov (.loc 1)) (some (.i (.i .h)))
    (.cons none (.mov (.loc 1)) (some (.o (.o (.o .h))))
    .nil)))))))))
  (.seq (.seq (.region (.cons none (.mov (.var (.o (.o (.o .h))))) none
    (.cons none (.cmp .neq (.loc 0) (.lit (.int 3 0))) (some (.i (.o (.o (.o .h)))))
    .nil)))
  (.cond (.var (.i (.o (.o (.o .h))))) (.seq (.region (.cons none (.build (.cons (.int 3 0) (.cons (.int 3 0) (.cons .nilslice (.cons (.str 0 0) (.cons (.int 3 0) .nil))))) .nil) none
    (.cons none (.store 5 (.var (.o (.i .h))) (.loc 0)) none
    .nil)))
  .ret)
  .skip))
  (.seq (.region (.cons none (.mov (.var (.i (.i .h)))) none
    (.cons none (.nilCheck (.loc 0)) none
    (.cons none (.loadN 5 (.loc 0)) none
    (.cons none (.alloc (.cons (.int 3 0) (.cons (.int 3 0) (.cons .nilslice (.cons (.str 0 0) (.cons (.int 3 0) .nil))))) 5) (some (.i (.o (.o .h))))
    (.cons none (.store 5 (.loc 0) (.loc 1)) none
    .nil))))))
  (.seq (.region (.cons none (.mov (.var (.i (.i .h)))) none
    (.cons none (.nilCheck (.loc 0)) none
    (.cons none (.fieldAddr 2 (.loc 0)) none
    (.cons none (.load1 (.loc 0)) none
    (.cons none (.callF 46 (.cons (.loc 0) .nil)) none
    (.cons none (.fieldAddr 2 (.var (.i (.o (.o .h))))) none
    (.cons none (.store 1 (.loc 0) (.loc 1)) none
    .nil))))))))
  (.seq (.region (.cons none (.loadN 5 (.var (.i (.o (.o .h))))) none
    (.cons none (.store 5 (.var (.o (.i .h))) (.loc 0)) none
    .nil)))
  .ret)))))),
  [.cellN (.o (.i .h)) 5]⟩
theorem c33 : FnOk Try.prog 0 33 cf33 :=
  .of Try.func33 (n := 27) (by kernel_rfl) (far := fun t => Nat.testBit 33011 t) (by kernel_rfl)
def cf34 : CFunc := ⟨(.seq (.region (.cons none (.box (.var (.o .h))) (some (.o (.o .h)))
    (.cons none (.mov (.lit .nilslice)) (some (.o (.i .h)))
    .nil)))
  (.seq (.region (.cons none .mkMap none
    (.cons none (.mov (.loc 0)) (some (.i (.i .h)))
    .nil)))
  (.seq (.seq (.region (.cons none (.mov (.var (.i .h))) none
    (.cons none (.callF 47 (.cons (.loc 0) .nil)) (some (.o (.o (.o (.o .h)))))
    (.cons none (.lenSl (.loc 0)) (some (.i (.o (.o (.o .h)))))
    (.cons none (.mov (.lit (.int 3 0))) (some (.o (.i (.o (.o .h)))))
    .nil)))))
  (.block 0 (.loop (.seq (.region (.cons none (.cmp .lss (.var (.o (.i (.o (.o .h))))) (.var (.i (.o (.o (.o .h)))))) (some (.i (.i (.o (.o .h)))))
    .nil))
  (.seq (.cond (.var (.i (.i (.o (.o .h))))) .skip
  (.exit 0))
  (.seq (.block 1 (.seq (.region (.cons none (.idxSl 1 (.var (.o (.o (.o (.o .h))))) (.var (.o (.i (.o (.o .h)))))) none
    (.cons none (.load1 (.loc 0)) none
    (.cons none (.mov (.loc 0)) (some (.i (.o (.o .h))))
    .nil))))
  (.region (.cons none (.mov (.var (.i (.i .h)))) none
    (.cons none (.mov (.var (.i (.o (.o .h))))) none
    (.cons none (.lookup (.leaf .int) (.int 3 0) false (.loc 1) (.loc 0)) none
    (.cons none (.arith .add 3 (.loc 0) (.lit (.int 3 1))) none
    (.cons none (.update (.leaf .int) (.loc 3) (.loc 2) (.loc 0)) none
    .nil))))))))
  (.region (.cons none (.arith .add 3 (.var (.o (.i (.o (.o .h))))) (.lit (.int 3 1))) none
    (.cons none (.mov (.loc 0)) (some (.o (.i (.o (.o .h)))))
    .nil)))))))))
  (.seq (.region (.cons none (.mov (.lit .nilslice)) (some (.o (.i (.o .h))))
    .nil))
  (.seq (.seq (.region (.cons none (.loadN 1 (.var (.o (.o .h)))) none
    (.cons none (.callF 48 (.cons (.loc 0) .nil)) (some (.o (.o (.i (.i .h)))))
    (.cons none (.lenSl (.loc 0)) (some (.i (.o (.i (.i .h)))))
    (.cons none (.mov (.lit (.int 3 0))) (some (.o (.i (.i (.i .h)))))
    .nil)))))
  (.block 2 (.loop (.seq (.region (.cons none (.cmp .lss (.var (.o (.i (.i (.i .h))))) (.var (.i (.o (.i (.i .h)))))) (some (.i (.i (.i (.i .h)))))
    .nil))
  (.seq (.cond (.var (.i (.i (.i (.i .h))))) .skip
  (.exit 2))
  (.seq (.block 3 (.seq (.region (.cons none (.mov (.var (.o (.i (.i (.i .h)))))) none
    (.cons none (.idxSl 1 (.var (.o (.o (.i (.i .h))))) (.var (.o (.i (.i (.i .h)))))) none
    (.cons none (.load1 (.loc 0)) none
    (.cons none (.mov (.loc 2)) (some (.i (.i (.o .h))))
    (.cons none (.mov (.loc 1)) (some (.o (.o (.i .h))))
    .nil))))))
  (.seq (.region (.cons none (.fieldAddr 0 (.var (.o (.o .h)))) none
    (.cons none (.load1 (.loc 0)) none
    (.cons none (.mov (.var (.i (.i (.o .h))))) none
    (.cons none (.idxSl 5 (.loc 1) (.loc 0)) none
    (.cons none (.loadN 5 (.loc 0)) none
    (.cons none (.alloc (.cons (.int 3 0) (.cons (.int 3 0) (.cons .nilslice (.cons (.str 0 0) (.cons (.int 3 0) .nil))))) 5) (some (.i (.o (.i .h))))
    (.cons none (.store 5 (.loc 0) (.loc 1)) none
    .nil))))))))
  (.seq (.region (.cons none (.fieldAddr 0 (.var (.i (.o (.i .h))))) none
    (.cons none (.load1 (.loc 0)) none
    (.cons none (.cmp .neq (.loc 0) (.lit (.int 3 0))) none
    (.cons none (.mov (.loc 0)) none
    (.cons (some (0, true)) (.fieldAddr 1 (.var (.i (.o (.i .h))))) none
    (.cons (some (1, true)) (.load1 (.loc 0)) none
    (.cons (some (2, true)) (.mov (.var (.o (.o (.i .h))))) none
    (.cons (some (3, true)) (.mov (.var (.i (.i .h)))) none
    (.cons (some (4, true)) (.mov (.var (.i (.i (.o .h))))) none
    (.cons (some (5, true)) (.arith .add 3 (.loc 0) (.lit (.int 3 1))) none
    (.cons (some (6, true)) (.lookup (.leaf .int) (.int 3 0) false (.loc 2) (.loc 0)) none
    (.cons (some (7, true)) (.arith .add 3 (.loc 4) (.loc 0)) none
    (.cons (some (8, true)) (.cmp .neq (.loc 6) (.loc 0)) none
    (.cons none (.pick (.loc 9) (.loc 0) (.lit (.bool false))) (some (.i (.o (.i (.o (.i .h))))))
    .nil)))))))))))))))
  (.cond (.var (.i (.o (.i (.o (.i .h)))))) (.region (.cons none (.mov (.var (.o (.i (.o .h))))) none
    (.cons none (.mov (.var (.i (.i (.o .h))))) none
    (.cons none (.arith .add 3 (.loc 0) (.lit (.int 3 1))) none
    (.cons none (.buildSlice (.cons (.int 3 0) .nil) 1 1 (.cons 0 1 (.loc 0) .nil)) none
    (.cons none (.append (.cons (.int 3 0) .nil) 1 (.loc 3) (.loc 0)) none
    (.cons none (.mov (.loc 0)) (some (.o (.i (.o .h))))
    .nil)))))))
  .skip)))))
  (.region (.cons none (.arith .add 3 (.var (.o (.i (.i (.i .h))))) (.lit (.int 3 1))) none
    (.cons none (.mov (.loc 0)) (some (.o (.i (.i (.i .h)))))
    .nil)))))))))
  (.seq (.region (.cons none (.mov (.var (.o (.i (.o .h))))) none
    (.cons none (.mov (.loc 0)) (some (.o (.i .h)))
    .nil)))
  .ret)))))),
  [.tmp (.o (.i .h))]⟩
theorem c34 : FnOk Try.prog 0 34 cf34 :=
  .of Try.func34 (n := 59) (by kernel_rfl) (far := fun t => Nat.testBit 2251800820567991 t) (by kernel_rfl)
def cf35 : CFunc := ⟨(.seq (.region (.cons none (.alloc (.cons .nilslice .nil) 1) (some (.o (.o .h)))
    .nil))
  (.seq (.region (.cons none (.alloc (.cons .nilslice .nil) 1) (some (.i (.o .h)))
    .nil))
  (.seq (.seq (.region (.cons none (.mov (.var (.o .h))) none
    (.cons none (.eq .ptr false (.loc 0) (.lit .nilptr)) (some (.o (.o (.o .h))))
    .nil)))
  (.cond (.var (.o (.o (.o .h)))) (.seq (.region (.cons none (.loadN 1 (.var (.i (.o .h)))) none
    (.cons none (.store 1 (.var (.o (.o .h))) (.loc 0)) none
    .nil)))
  .ret)
  .skip))
  (.seq (.seq (.region (.cons none (.mov (.var (.o .h))) none
    (.cons none (.nilCheck (.loc 0)) none
    (.cons none (.fieldAddr 0 (.loc 0)) none
    (.cons none (.load1 (.loc 0)) none
    (.cons none (.callF 49 (.cons (.loc 0) .nil)) (some (.o (.i (.i .h))))
    (.cons none (.mov (.lit (.int 3 0))) (some (.i (.i (.i .h))))
    .nil)))))))
  (.block 0 (.loop (.seq (.region (.cons none (.cmp .lss (.var (.i (.i (.i .h)))) (.var (.o (.i (.i .h))))) (some (.o (.o (.o (.o .h)))))
    .nil))
  (.seq (.cond (.var (.o (.o (.o (.o .h))))) .skip
  (.exit 0))
  (.seq (.block 1 (.seq (.region (.cons none (.mov (.var (.i (.i (.i .h))))) none
    (.cons none (.mov (.loc 0)) (some (.o (.i .h)))
    .nil)))
  (.draw (.cons none (.mov (.var (.o .h))) none (.light 0)
    (.cons none (.mov (.var (.o (.i .h)))) none (.light 0)
    (.cons none (.arith .add 3 (.loc 0) (.lit (.int 3 1))) none (.light 0)
    (.cons none (.callF 33 (.cons (.loc 2) (.cons (.loc 0) .nil))) none .heavy
    (.cons none (.fieldAddr 0 (.var (.i (.o .h)))) none (.light 1)
    (.cons none (.load1 (.loc 0)) none (.light 1)
    (.cons none (.buildSlice (.cons (.int 3 0) (.cons (.int 3 0) (.cons .nilslice (.cons (.str 0 0) (.cons (.int 3 0) .nil))))) 5 1 (.cons 0 5 (.loc 2) .nil)) none .float
    (.cons none (.append (.cons (.int 3 0) (.cons (.int 3 0) (.cons .nilslice (.cons (.str 0 0) (.cons (.int 3 0) .nil))))) 5 (.loc 1) (.loc 0)) none .heavy
    (.cons none (.fieldAddr 0 (.var (.i (.o .h)))) none (.light 0)
    (.cons none (.store 1 (.loc 0) (.loc 1)) none .heavy
    .nil)))))))))) 1)))
  (.region (.cons none (.arith .add 3 (.var (.i (.i (.i .h)))) (.lit (.int 3 1))) none
    (.cons none (.mov (.loc 0)) (some (.i (.i (.i .h))))
    .nil)))))))))
  (.seq (.region (.cons none (.loadN 1 (.var (.i (.o .h)))) none
    (.cons none (.store 1 (.var (.o (.o .h))) (.loc 0)) none
    .nil)))
  .ret))))),
  [.cellN (.o (.o .h)) 1]⟩
theorem c35 : FnOk Try.prog 0 35 cf35 :=
  .of Try.func35 (n := 27) (by kernel_rfl) (far := fun t => Nat.testBit 28765 t) (by kernel_rfl)
def cf36 : CFunc := ⟨(.seq (.region (.cons none (.mov (.lit .nilslice)) (some (.o (.i .h)))
    .nil))
  (.seq (.seq (.region (.cons none (.mov (.var (.o .h))) none
    (.cons none (.callF 39 (.cons (.loc 0) .nil)) (some (.i (.i (.o .h))))
    .nil)))
  (.cond (.var (.i (.i (.o .h)))) (.seq (.region (.cons none (.mov (.lit .nilslice)) (some (.o (.i .h)))
    .nil))
  .ret)
  .skip))
  (.seq (.region (.cons none (.mov (.var (.i .h))) none
    (.cons none (.append (.cons (.int 3 0) (.cons (.int 3 0) .nil)) 2 (.lit .nilslice) (.loc 0)) none
    (.cons none (.mov (.loc 0)) (some (.i (.i .h)))
    .nil))))
  (.seq (.seq (.region (.cons none (.mov (.var (.o .h))) none
    (.cons none (.nilCheck (.loc 0)) none
    (.cons none (.fieldAddr 1 (.loc 0)) none
    (.cons none (.load1 (.loc 0)) none
    (.cons none (.callF 32 (.cons (.loc 0) .nil)) (some (.o (.i (.o (.o .h)))))
    (.cons none (.lenSl (.loc 0)) (some (.i (.i (.o (.o .h)))))
    (.cons none (.mov (.lit (.int 3 0))) (some (.o (.o (.i (.o .h)))))
    .nil))))))))
  (.block 0 (.loop (.seq (.region (.cons none (.cmp .lss (.var (.o (.o (.i (.o .h))))) (.var (.i (.i (.o (.o .h)))))) (some (.i (.o (.i (.o .h)))))
    .nil))
  (.seq (.cond (.var (.i (.o (.i (.o .h))))) .skip
  (.exit 0))
  (.seq (.block 1 (.seq (.region (.cons none (.idxSl 1 (.var (.o (.i (.o (.o .h))))) (.var (.o (.o (.i (.o .h)))))) none
    (.cons none (.load1 (.loc 0)) none
    (.cons none (.mov (.loc 0)) (some (.i (.o (.o .h))))
    .nil))))
  (.region (.cons none (.mov (.var (.i (.i .h)))) none
    (.cons none (.mov (.var (.o .h))) none
    (.cons none (.nilCheck (.loc 0)) none
    (.cons none (.fieldAddr 1 (.loc 0)) none
    (.cons none (.load1 (.loc 0)) none
    (.cons none (.mov (.var (.i (.o (.o .h))))) none
    (.cons none (.callF 33 (.cons (.loc 1) (.cons (.loc 0) .nil))) none
    (.cons none (.field1 0 (.loc 0)) none
    (.cons none (.mov (.var (.i (.o (.o .h))))) none
    (.cons none (.build (.cons (.int 3 0) (.cons (.int 3 0) .nil)) (.cons 0 1 (.loc 1) (.cons 1 1 (.loc 0) .nil))) none
    (.cons none (.buildSlice (.cons (.int 3 0) (.cons (.int 3 0) .nil)) 2 1 (.cons 0 2 (.loc 0) .nil)) none
    (.cons none (.append (.cons (.int 3 0) (.cons (.int 3 0) .nil)) 2 (.loc 10) (.loc 0)) none
    (.cons none (.mov (.loc 0)) (some (.i (.i .h)))
    .nil))))))))))))))))
  (.region (.cons none (.arith .add 3 (.var (.o (.o (.i (.o .h))))) (.lit (.int 3 1))) none
    (.cons none (.mov (.loc 0)) (some (.o (.o (.i (.o .h)))))
    .nil)))))))))
  (.seq (.region (.cons none (.mov (.var (.o .h))) none
    (.cons none (.nilCheck (.loc 0)) none
    (.cons none (.fieldAddr 1 (.loc 0)) none
    (.cons none (.load1 (.loc 0)) none
    (.cons none (.callF 35 (.cons (.loc 0) .nil)) none
    (.cons none (.mov (.var (.i (.i .h)))) none
    (.cons none (.callF 50 (.cons (.loc 1) (.cons (.loc 0) .nil))) none
    (.cons none (.mov (.loc 0)) (some (.o (.i .h)))
    .nil)))))))))
  .ret))))),
  [.tmp (.o (.i .h))]⟩
theorem c36 : FnOk Try.prog 0 36 cf36 :=
  .of Try.func36 (n := 42) (by kernel_rfl) (far := fun t => Nat.testBit 983731 t) (by kernel_rfl)
def cf37 : CFunc := ⟨(.seq (.region (.cons none (.mov (.lit (.bool false))) (some (.o (.o .h)))
    .nil))
  (.seq (.region (.cons none (.mov (.var (.o .h))) none
    (.cons none (.eq .ptr false (.loc 0) (.lit .nilptr)) none
    (.cons none (.mov (.loc 0)) none
    (.cons (some (0, false)) (.mov (.var (.o .h))) none
    (.cons (some (1, false)) (.nilCheck (.loc 0)) none
    (.cons (some (2, false)) (.fieldAddr 0 (.loc 0)) none
    (.cons (some (3, false)) (.load1 (.loc 0)) none
    (.cons (some (4, false)) (.eq .ptr false (.loc 0) (.lit .nilptr)) none
    (.cons none (.pick (.loc 5) (.lit (.bool true)) (.loc 0)) none
    (.cons none (.mov (.loc 0)) (some (.o (.o .h)))
    .nil)))))))))))
  .ret)),
  [.tmp (.o (.o .h))]⟩
theorem c37 : FnOk Try.prog 0 37 cf37 :=
  .of Try.func37 (n := 12) (by kernel_rfl) (far := fun t => Nat.testBit 5 t) (by kernel_rfl)
def cf38 : CFunc := ⟨(.seq (.region (.cons none (.mov (.lit .nilptr)) (some (.o (.o .h)))
    .nil))
  (.seq (.seq (.region (.cons none (.mov (.var (.o .h))) none
    (.cons none (.eq .ptr false (.loc 0) (.lit .nilptr)) (some (.o (.i .h)))
    .nil)))
  (.cond (.var (.o (.i .h))) (.seq (.region (.cons none (.mov (.lit .nilptr)) (some (.o (.o .h)))
    .nil))
  .ret)
  .skip))
  (.seq (.region (.cons none (.mov (.var (.o .h))) none
    (.cons none (.nilCheck (.loc 0)) none
    (.cons none (.fieldAddr 0 (.loc 0)) none
    (.cons none (.load1 (.loc 0)) none
    (.cons none (.mov (.loc 0)) (some (.o (.o .h)))
    .nil))))))
  .ret))),
  [.tmp (.o (.o .h))]⟩
theorem c38 : FnOk Try.prog 0 38 cf38 :=
  .of Try.func38 (n := 9) (by kernel_rfl) (far := fun t => Nat.testBit 21 t) (by kernel_rfl)
def cf39 : CFunc := ⟨(.seq (.region (.cons none (.mov (.lit (.bool false))) (some (.o (.o .h)))
    .nil))
  (.seq (.region (.cons none (.mov (.var (.o .h))) none
    (.cons none (.eq .ptr false (.loc 0) (.lit .nilptr)) none
    (.cons none (.mov (.loc 0)) none
    (.cons (some (0, false)) (.mov (.var (.o .h))) none
    (.cons (some (1, false)) (.nilCheck (.loc 0)) none
    (.cons (some (2, false)) (.fieldAddr 1 (.loc 0)) none
    (.cons (some (3, false)) (.load1 (.loc 0)) none
    (.cons (some (4, false)) (.eq .ptr false (.loc 0) (.lit .nilptr)) none
    (.cons none (.pick (.loc 5) (.lit (.bool true)) (.loc 0)) none
    (.cons none (.mov (.loc 0)) (some (.o (.o .h)))
    .nil)))))))))))
  .ret)),
  [.tmp (.o (.o .h))]⟩
theorem c39 : FnOk Try.prog 0 39 cf39 :=
  .of Try.func39 (n := 12) (by kernel_rfl) (far := fun t => Nat.testBit 5 t) (by kernel_rfl)
def cf40 : CFunc := ⟨(.seq (.region (.cons none (.mov (.lit .nilslice)) (some (.o (.o .h)))
    .nil))
  (.seq (.region (.cons none (.mov (.lit (.int 3 0))) (some (.i (.o .h)))
    .nil))
  (.seq (.seq (.region (.cons none (.mov (.var (.o .h))) (some (.i (.i (.o .h))))
    (.cons none (.lenSl (.loc 0)) (some (.o (.o (.i .h))))
    (.cons none (.mov (.lit (.int 3 0))) (some (.i (.o (.i .h))))
    .nil))))
  (.block 0 (.loop (.seq (.region (.cons none (.cmp .lss (.var (.i (.o (.i .h)))) (.var (.o (.o (.i .h))))) (some (.o (.i (.i .h))))
    .nil))
  (.seq (.cond (.var (.o (.i (.i .h)))) .skip
  (.exit 0))
  (.seq (.block 1 (.seq (.region (.cons none (.idxSl 1 (.var (.i (.i (.o .h)))) (.var (.i (.o (.i .h))))) none
    (.cons none (.load1 (.loc 0)) none
    (.cons none (.mov (.loc 0)) (some (.i (.i .h)))
    .nil))))
  (.seq (.region (.cons none (.mov (.var (.i (.o .h)))) none
    (.cons none (.mov (.var (.i (.i .h)))) none
    (.cons none (.lenSl (.loc 0)) none
    (.cons none (.arith .add 3 (.loc 2) (.loc 0)) none
    (.cons none (.mov (.loc 0)) (some (.i (.o .h)))
    .nil))))))
  (.seq (.region (.cons none (.mov (.var (.i (.o .h)))) none
    (.cons none (.cmp .lss (.loc 0) (.lit (.int 3 0))) (some (.o (.i (.i (.o .h)))))
    .nil)))
  (.cond (.var (.o (.i (.i (.o .h))))) (.region (.cons none (.mkIface 9 (.lit (.str 16 134789072936214216453580009062074836332))) none
    (.cons none (.panic (.loc 0)) none
    .nil)))
  .skip)))))
  (.region (.cons none (.arith .add 3 (.var (.i (.o (.i .h)))) (.lit (.int 3 1))) none
    (.cons none (.mov (.loc 0)) (some (.i (.o (.i .h))))
    .nil)))))))))
  (.seq (.region (.cons none (.mov (.var (.i (.o .h)))) none
    (.cons none (.callF 51 (.cons (.lit .nilslice) (.cons (.loc 0) .nil))) none
    (.cons none (.mov (.loc 0)) (some (.o (.o (.o .h))))
    .nil))))
  (.seq (.seq (.region (.cons none (.mov (.var (.o .h))) (some (.i (.i (.o (.i .h)))))
    (.cons none (.lenSl (.loc 0)) (some (.o (.o (.i (.i .h)))))
    (.cons none (.mov (.lit (.int 3 0))) (some (.i (.o (.i (.i .h)))))
    .nil))))
  (.block 2 (.loop (.seq (.region (.cons none (.cmp .lss (.var (.i (.o (.i (.i .h))))) (.var (.o (.o (.i (.i .h)))))) (some (.o (.i (.i (.i .h)))))
    .nil))
  (.seq (.cond (.var (.o (.i (.i (.i .h))))) .skip
  (.exit 2))
  (.seq (.block 3 (.seq (.region (.cons none (.idxSl 1 (.var (.i (.i (.o (.i .h))))) (.var (.i (.o (.i (.i .h)))))) none
    (.cons none (.load1 (.loc 0)) none
    (.cons none (.mov (.loc 0)) (some (.o (.i (.o .h))))
    .nil))))
  (.region (.cons none (.mov (.var (.o (.o (.o .h))))) none
    (.cons none (.mov (.var (.o (.i (.o .h))))) none
    (.cons none (.append (.cons (.int 3 0) (.cons (.int 3 0) .nil)) 2 (.loc 1) (.loc 0)) none
    (.cons none (.mov (.loc 0)) (some (.o (.o (.o .h))))
    .nil)))))))
  (.region (.cons none (.arith .add 3 (.var (.i (.o (.i (.i .h))))) (.lit (.int 3 1))) none
    (.cons none (.mov (.loc 0)) (some (.i (.o (.i (.i .h)))))
    .nil)))))))))
  (.seq (.region (.cons none (.mov (.var (.o (.o (.o .h))))) none
    (.cons none (.mov (.loc 0)) (some (.o (.o .h)))
    .nil)))
  .ret)))))),
  [.tmp (.o (.o .h))]⟩
theorem c40 : FnOk Try.prog 0 40 cf40 :=
  .of Try.func40 (n := 36) (by kernel_rfl) (far := fun t => Nat.testBit 504373101 t) (by kernel_rfl)
def cf41 : CFunc := ⟨(.seq (.region (.cons none (.alloc (.cons (.int 3 0) (.cons (.int 3 0) .nil)) 2) (some (.o (.o .h)))
    .nil))
  (.seq (.seq (.region (.cons none (.mov (.var (.o .h))) none
    (.cons none (.eq .ptr false (.loc 0) (.lit .nilptr)) (some (.o (.i .h)))
    .nil)))
  (.cond (.var (.o (.i .h))) (.seq (.region (.cons none (.build (.cons (.int 3 0) (.cons (.int 3 0) .nil)) .nil) none
    (.cons none (.store 2 (.var (.o (.o .h))) (.loc 0)) none
    .nil)))
  .ret)
  .skip))
  (.seq (.region (.cons none (.mov (.var (.o .h))) none
    (.cons none (.nilCheck (.loc 0)) none
    (.cons none (.fieldAddr 4 (.loc 0)) none
    (.cons none (.loadN 2 (.loc 0)) none
    (.cons none (.store 2 (.var (.o (.o .h))) (.loc 0)) none
    .nil))))))
  .ret))),
  [.cellN (.o (.o .h)) 2]⟩
theorem c41 : FnOk Try.prog 0 41 cf41 :=
  .of Try.func41 (n := 10) (by kernel_rfl) (far := fun t => Nat.testBit 21 t) (by kernel_rfl)
def cf42 : CFunc := ⟨(.seq (.region (.cons none (.alloc (.cons (.int 3 0) (.cons (.int 3 0) .nil)) 2) (some (.o (.o .h)))
    .nil))
  (.seq (.seq (.region (.cons none (.mov (.var (.o .h))) none
    (.cons none (.eq .ptr false (.loc 0) (.lit .nilptr)) (some (.o (.i .h)))
    .nil)))
  (.cond (.var (.o (.i .h))) (.seq (.region (.cons none (.build (.cons (.int 3 0) (.cons (.int 3 0) .nil)) .nil) none
    (.cons none (.store 2 (.var (.o (.o .h))) (.loc 0)) none
    .nil)))
  .ret)
  .skip))
  (.seq (.region (.cons none (.mov (.var (.o .h))) none
    (.cons none (.nilCheck (.loc 0)) none
    (.cons none (.fieldAddr 6 (.loc 0)) none
    (.cons none (.loadN 2 (.loc 0)) none
    (.cons none (.store 2 (.var (.o (.o .h))) (.loc 0)) none
    .nil))))))
  .ret))),
  [.cellN (.o (.o .h)) 2]⟩
theorem c42 : FnOk Try.prog 0 42 cf42 :=
  .of Try.func42 (n := 10) (by kernel_rfl) (far := fun t => Nat.testBit 21 t) (by kernel_rfl)
def cf43 : CFunc := ⟨(.seq (.region (.cons none (.mov (.lit .nilslice)) (some (.o (.o .h)))
    .nil))
  (.seq (.region (.cons none (.mov (.lit .nilslice)) (some (.i (.o .h)))
    .nil))
  (.seq (.seq (.region (.cons none (.mov (.var (.o .h))) none
    (.cons none (.eq .ptr false (.loc 0) (.lit .nilptr)) (some (.i (.o (.o .h))))
    .nil)))
  (.cond (.var (.i (.o (.o .h)))) (.seq (.region (.cons none (.mov (.lit .nilslice)) (some (.o (.o .h)))
    .nil))
  .ret)
  .skip))
  (.seq (.seq (.region (.cons none (.mov (.var (.o .h))) none
    (.cons none (.nilCheck (.loc 0)) none
    (.cons none (.fieldAddr 3 (.loc 0)) none
    (.cons none (.load1 (.loc 0)) (some (.i (.o (.i .h))))
    (.cons none (.lenSl (.loc 0)) (some (.o (.i (.i .h))))
    (.cons none (.mov (.lit (.int 3 0))) (some (.i (.i (.i .h))))
    .nil)))))))
  (.block 0 (.loop (.seq (.region (.cons none (.cmp .lss (.var (.i (.i (.i .h)))) (.var (.o (.i (.i .h))))) (some (.o (.o (.o (.o .h)))))
    .nil))
  (.seq (.cond (.var (.o (.o (.o (.o .h))))) .skip
  (.exit 0))
  (.seq (.block 1 (.seq (.region (.cons none (.idxSl 1 (.var (.i (.o (.i .h)))) (.var (.i (.i (.i .h))))) none
    (.cons none (.load1 (.loc 0)) none
    (.cons none (.mov (.loc 0)) (some (.i (.i .h)))
    .nil))))
  (.region (.cons none (.mov (.var (.i (.o .h)))) none
    (.cons none (.mov (.var (.i (.i .h)))) none
    (.cons none (.append (.cons (.int 3 0) (.cons (.int 3 0) .nil)) 2 (.loc 1) (.loc 0)) none
    (.cons none (.mov (.loc 0)) (some (.i (.o .h)))
    .nil)))))))
  (.region (.cons none (.arith .add 3 (.var (.i (.i (.i .h)))) (.lit (.int 3 1))) none
    (.cons none (.mov (.loc 0)) (some (.i (.i (.i .h))))
    .nil)))))))))
  (.seq (.region (.cons none (.mov (.var (.i (.o .h)))) none
    (.cons none (.mov (.loc 0)) (some (.o (.o .h)))
    .nil)))
  .ret))))),
  [.tmp (.o (.o .h))]⟩
theorem c43 : FnOk Try.prog 0 43 cf43 :=
  .of Try.func43 (n := 22) (by kernel_rfl) (far := fun t => Nat.testBit 30893 t) (by kernel_rfl)
def cf44 : CFunc := ⟨(.seq (.region (.cons none (.mov (.lit .nilslice)) (some (.o (.o .h)))
    .nil))
  (.seq (.seq (.region (.cons none (.mov (.var (.o .h))) none
    (.cons none (.eq .ptr false (.loc 0) (.lit .nilptr)) (some (.i (.o (.o .h))))
    .nil)))
  (.cond (.var (.i (.o (.o .h)))) (.seq (.region (.cons none (.mov (.lit .nilslice)) (some (.o (.o .h)))
    .nil))
  .ret)
  .skip))
  (.seq (.region (.cons none (.mov (.lit .nilslice)) (some (.i (.o .h)))
    .nil))
  (.seq (.seq (.region (.cons none (.mov (.var (.o .h))) none
    (.cons none (.nilCheck (.loc 0)) none
    (.cons none (.fieldAddr 1 (.loc 0)) none
    (.cons none (.load1 (.loc 0)) (some (.i (.o (.i .h))))
    (.cons none (.lenSl (.loc 0)) (some (.o (.i (.i .h))))
    (.cons none (.mov (.lit (.int 3 0))) (some (.i (.i (.i .h))))
    .nil)))))))
  (.block 0 (.loop (.seq (.region (.cons none (.cmp .lss (.var (.i (.i (.i .h)))) (.var (.o (.i (.i .h))))) (some (.o (.o (.o (.o .h)))))
    .nil))
  (.seq (.cond (.var (.o (.o (.o (.o .h))))) .skip
  (.exit 0))
  (.seq (.block 1 (.seq (.region (.cons none (.idxSl 1 (.var (.i (.o (.i .h)))) (.var (.i (.i (.i .h))))) none
    (.cons none (.load1 (.loc 0)) none
    (.cons none (.mov (.loc 0)) (some (.i (.i .h)))
    .nil))))
  (.region (.cons none (.mov (.var (.i (.o .h)))) none
    (.cons none (.mov (.var (.i (.i .h)))) none
    (.cons none (.nilCheck (.loc 0)) none
    (.cons none (.fieldAddr 0 (.loc 0)) none
    (.cons none (.loadN 2 (.loc 0)) none
    (.cons none (.buildSlice (.cons (.int 3 0) (.cons (.int 3 0) .nil)) 2 1 (.cons 0 2 (.loc 0) .nil)) none
    (.cons none (.append (.cons (.int 3 0) (.cons (.int 3 0) .nil)) 2 (.loc 5) (.loc 0)) none
    (.cons none (.mov (.loc 0)) (some (.i (.o .h)))
    .nil)))))))))))
  (.region (.cons none (.arith .add 3 (.var (.i (.i (.i .h)))) (.lit (.int 3 1))) none
    (.cons none (.mov (.loc 0)) (some (.i (.i (.i .h))))
    .nil)))))))))
  (.seq (.region (.cons none (.mov (.var (.i (.o .h)))) none
    (.cons none (.mov (.loc 0)) (some (.o (.o .h)))
    .nil)))
  .ret))))),
  [.tmp (.o (.o .h))]⟩
theorem c44 : FnOk Try.prog 0 44 cf44 :=
  .of Try.func44 (n := 26) (by kernel_rfl) (far := fun t => Nat.testBit 30893 t) (by kernel_rfl)
def cf45 : CFunc := ⟨(.seq (.region (.cons none (.mov (.lit .nilptr)) (some (.o (.i .h)))
    (.cons none (.mov (.lit (.int 3 0))) (some (.i (.i .h)))
    .nil)))
  (.seq (.seq (.region (.cons none (.mov (.var (.o .h))) none
    (.cons none (.eq .ptr false (.loc 0) (.lit .nilptr)) (some (.o (.i (.o .h))))
    .nil)))
  (.cond (.var (.o (.i (.o .h)))) (.seq (.region (.cons none (.mov (.lit .nilptr)) (some (.o (.i .h)))
    (.cons none (.mov (.lit (.int 3 1))) (some (.i (.i .h)))
    .nil)))
  .ret)
  .skip))
  (.seq (.seq (.region (.cons none (.mov (.var (.o .h))) none
    (.cons none (.nilCheck (.loc 0)) none
    (.cons none (.fieldAddr 1 (.loc 0)) none
    (.cons none (.load1 (.loc 0)) none
    (.cons none (.mov (.var (.i .h))) none
    (.cons none (.lookup (.leaf .int) .nilptr false (.loc 1) (.loc 0)) none
    (.cons none (.mov (.loc 0)) (some (.o (.o (.o .h))))
    .nil))))))))
  (.seq (.region (.cons none (.mov (.var (.o (.o (.o .h))))) none
    (.cons none (.eq .ptr true (.loc 0) (.lit .nilptr)) (some (.o (.i (.o (.o .h)))))
    .nil)))
  (.cond (.var (.o (.i (.o (.o .h))))) (.seq (.region (.cons none (.mov (.var (.o (.o (.o .h))))) none
    (.cons none (.mov (.loc 0)) (some (.o (.i .h)))
    (.cons none (.mov (.lit (.int 3 0))) (some (.i (.i .h)))
    .nil))))
  .ret)
  .skip)))
  (.seq (.region (.cons none (.mov (.lit .nilptr)) (some (.o (.i .h)))
    (.cons none (.mov (.lit (.int 3 5))) (some (.i (.i .h)))
    .nil)))
  .ret)))),
  [.tmp (.o (.i .h)), .tmp (.i (.i .h))]⟩
theorem c45 : FnOk Try.prog 0 45 cf45 :=
  .of Try.func45 (n := 18) (by kernel_rfl) (far := fun t => Nat.testBit 65907 t) (by kernel_rfl)
def cf46 : CFunc := ⟨(.seq (.region (.cons none (.mov (.lit .nilslice)) (some (.o (.o .h)))
    .nil))
  (.seq (.seq (.region (.cons none (.mov (.var (.o .h))) none
    (.cons none (.eq .slice false (.loc 0) (.lit .nilslice)) (some (.o (.i .h)))
    .nil)))
  (.cond (.var (.o (.i .h))) (.seq (.region (.cons none (.mov (.lit .nilslice)) (some (.o (.o .h)))
    .nil))
  .ret)
  .skip))
  (.seq (.region (.cons none (.buildSlice (.cons (.int 3 0) (.cons (.int 3 0) .nil)) 0 0 .nil) none
    (.cons none (.mov (.var (.o .h))) none
    (.cons none (.append (.cons (.int 3 0) (.cons (.int 3 0) .nil)) 2 (.loc 1) (.loc 0)) none
    (.cons none (.mov (.loc 0)) (some (.o (.o .h)))
    .nil)))))
  .ret))),
  [.tmp (.o (.o .h))]⟩
theorem c46 : FnOk Try.prog 0 46 cf46 :=
  .of Try.func46 (n := 8) (by kernel_rfl) (far := fun t => Nat.testBit 21 t) (by kernel_rfl)
def cf47 : CFunc := ⟨(.seq (.region (.cons none (.mov (.lit .nilslice)) (some (.o (.o .h)))
    .nil))
  (.seq (.region (.cons none (.mov (.lit .nilslice)) (some (.i (.o .h)))
    .nil))
  (.seq (.seq (.region (.cons none (.mov (.var (.o .h))) (some (.o (.o (.o .h))))
    (.cons none (.lenSl (.loc 0)) (some (.i (.o (.o .h))))
    (.cons none (.mov (.lit (.int 3 0))) (some (.o (.i (.o .h))))
    .nil))))
  (.block 0 (.loop (.seq (.region (.cons none (.cmp .lss (.var (.o (.i (.o .h)))) (.var (.i (.o (.o .h))))) (some (.i (.i (.o .h))))
    .nil))
  (.seq (.cond (.var (.i (.i (.o .h)))) .skip
  (.exit 0))
  (.seq (.block 1 (.seq (.region (.cons none (.idxSl 2 (.var (.o (.o (.o .h)))) (.var (.o (.i (.o .h))))) none
    (.cons none (.loadN 2 (.loc 0)) none
    (.cons none (.alloc (.cons (.int 3 0) (.cons (.int 3 0) .nil)) 2) (some (.i (.i .h)))
    (.cons none (.store 2 (.loc 0) (.loc 1)) none
    .nil)))))
  (.seq (.region (.cons none (.loadN 2 (.var (.i (.i .h)))) none
    (.cons none (.callF 52 (.cons (.loc 0) .nil)) (some (.i (.i (.i .h))))
    .nil)))
  (.cond (.var (.i (.i (.i .h)))) (.region (.cons none (.mov (.var (.i (.o .h)))) none
    (.cons none (.fieldAddr 1 (.var (.i (.i .h)))) none
    (.cons none (.load1 (.loc 0)) none
    (.cons none (.buildSlice (.cons (.int 3 0) .nil) 1 1 (.cons 0 1 (.loc 0) .nil)) none
    (.cons none (.append (.cons (.int 3 0) .nil) 1 (.loc 3) (.loc 0)) none
    (.cons none (.mov (.loc 0)) (some (.i (.o .h)))
    .nil)))))))
  .skip))))
  (.region (.cons none (.arith .add 3 (.var (.o (.i (.o .h)))) (.lit (.int 3 1))) none
    (.cons none (.mov (.loc 0)) (some (.o (.i (.o .h))))
    .nil)))))))))
  (.seq (.region (.cons none (.mov (.var (.i (.o .h)))) none
    (.cons none (.mov (.loc 0)) (some (.o (.o .h)))
    .nil)))
  .ret)))),
  [.tmp (.o (.o .h))]⟩
theorem c47 : FnOk Try.prog 0 47 cf47 :=
  .of Try.func47 (n := 21) (by kernel_rfl) (far := fun t => Nat.testBit 9197 t) (by kernel_rfl)
def cf48 : CFunc := ⟨(.seq (.region (.cons none (.box (.var (.o .h))) (some (.i .h))
    (.cons none (.mov (.lit .nilslice)) (some (.o (.o .h)))
    .nil)))
  (.seq (.seq (.region (.cons none (.loadN 1 (.var (.i .h))) none
    (.cons none (.callF 53 (.cons (.loc 0) .nil)) none
    (.cons none (.not (.loc 0)) (some (.o (.i (.i .h))))
    .nil))))
  (.cond (.var (.o (.i (.i .h)))) (.seq (.region (.cons none (.mov (.lit .nilslice)) (some (.o (.o .h)))
    .nil))
  .ret)
  .skip))
  (.seq (.region (.cons none .mkMap none
    (.cons none (.mov (.loc 0)) (some (.i (.o .h)))
    .nil)))
  (.seq (.seq (.region (.cons none (.fieldAddr 0 (.var (.i .h))) none
    (.cons none (.load1 (.loc 0)) (some (.i (.o (.o (.o .h)))))
    (.cons none (.lenSl (.loc 0)) (some (.o (.i (.o (.o .h)))))
    (.cons none (.mov (.lit (.int 3 0))) (some (.i (.i (.o (.o .h)))))
    .nil)))))
  (.block 0 (.loop (.seq (.region (.cons none (.cmp .lss (.var (.i (.i (.o (.o .h))))) (.var (.o (.i (.o (.o .h)))))) (some (.o (.o (.i (.o .h)))))
    .nil))
  (.seq (.cond (.var (.o (.o (.i (.o .h))))) .skip
  (.exit 0))
  (.seq (.block 1 (.seq (.region (.cons none (.idxSl 5 (.var (.i (.o (.o (.o .h))))) (.var (.i (.i (.o (.o .h)))))) none
    (.cons none (.loadN 5 (.loc 0)) none
    (.cons none (.alloc (.cons (.int 3 0) (.cons (.int 3 0) (.cons .nilslice (.cons (.str 0 0) (.cons (.int 3 0) .nil))))) 5) (some (.i (.i .h)))
    (.cons none (.store 5 (.loc 0) (.loc 1)) none
    .nil)))))
  (.seq (.region (.cons none (.fieldAddr 2 (.var (.i (.i .h)))) none
    (.cons none (.load1 (.loc 0)) none
    (.cons none (.callF 47 (.cons (.loc 0) .nil)) (some (.i (.o (.o (.i .h)))))
    (.cons none (.lenSl (.loc 0)) (some (.o (.i (.o (.i .h)))))
    (.cons none (.mov (.lit (.int 3 0))) (some (.i (.i (.o (.i .h)))))
    .nil))))))
  (.block 2 (.loop (.seq (.region (.cons none (.cmp .lss (.var (.i (.i (.o (.i .h))))) (.var (.o (.i (.o (.i .h)))))) (some (.o (.o (.i (.i .h)))))
    .nil))
  (.seq (.cond (.var (.o (.o (.i (.i .h))))) .skip
  (.exit 2))
  (.seq (.block 3 (.seq (.region (.cons none (.idxSl 1 (.var (.i (.o (.o (.i .h))))) (.var (.i (.i (.o (.i .h)))))) none
    (.cons none (.load1 (.loc 0)) none
    (.cons none (.mov (.loc 0)) (some (.i (.o (.o .h))))
    .nil))))
  (.region (.cons none (.mov (.var (.i (.o .h)))) none
    (.cons none (.mov (.var (.i (.o (.o .h))))) none
    (.cons none (.lookup (.leaf .int) (.int 3 0) false (.loc 1) (.loc 0)) none
    (.cons none (.arith .add 3 (.loc 0) (.lit (.int 3 1))) none
    (.cons none (.update (.leaf .int) (.loc 3) (.loc 2) (.loc 0)) none
    .nil))))))))
  (.region (.cons none (.arith .add 3 (.var (.i (.i (.o (.i .h))))) (.lit (.int 3 1))) none
    (.cons none (.mov (.loc 0)) (some (.i (.i (.o (.i .h)))))
    .nil)))))))))))
  (.region (.cons none (.arith .add 3 (.var (.i (.i (.o (.o .h))))) (.lit (.int 3 1))) none
    (.cons none (.mov (.loc 0)) (some (.i (.i (.o (.o .h)))))
    .nil)))))))))
  (.seq (.region (.cons none (.fieldAddr 0 (.var (.i .h))) none
    (.cons none (.load1 (.loc 0)) none
    (.cons none (.lenSl (.loc 0)) none
    (.cons none (.makeSlice (.cons (.int 3 0) .nil) 1 (.loc 0) (.loc 0)) none
    (.cons none (.mov (.loc 0)) (some (.o (.i (.o .h))))
    .nil))))))
  (.seq (.seq (.region (.cons none (.mov (.var (.o (.i (.o .h))))) none
    (.cons none (.lenSl (.loc 0)) (some (.o (.i (.o (.i (.o .h))))))
    (.cons none (.mov (.lit (.int 3 0))) (some (.i (.i (.o (.i (.o .h))))))
    .nil))))
  (.block 4 (.loop (.seq (.region (.cons none (.cmp .lss (.var (.i (.i (.o (.i (.o .h)))))) (.var (.o (.i (.o (.i (.o .h))))))) (some (.o (.o (.i (.i (.o .h))))))
    .nil))
  (.seq (.cond (.var (.o (.o (.i (.i (.o .h)))))) .skip
  (.exit 4))
  (.seq (.block 5 (.seq (.region (.cons none (.mov (.var (.i (.i (.o (.i (.o .h))))))) none
    (.cons none (.mov (.loc 0)) (some (.i (.i (.o .h))))
    .nil)))
  (.region (.cons none (.mov (.var (.o (.i (.o .h))))) none
    (.cons none (.mov (.var (.i (.i (.o .h))))) none
    (.cons none (.mov (.var (.i (.o .h)))) none
    (.cons none (.mov (.var (.i (.i (.o .h))))) none
    (.cons none (.arith .add 3 (.loc 0) (.lit (.int 3 1))) none
    (.cons none (.lookup (.leaf .int) (.int 3 0) false (.loc 2) (.loc 0)) none
    (.cons none (.idxSl 1 (.loc 5) (.loc 4)) none
    (.cons none (.store 1 (.loc 0) (.loc 1)) none
    .nil)))))))))))
  (.region (.cons none (.arith .add 3 (.var (.i (.i (.o (.i (.o .h)))))) (.lit (.int 3 1))) none
    (.cons none (.mov (.loc 0)) (some (.i (.i (.o (.i (.o .h))))))
    .nil)))))))))
  (.seq (.region (.cons none (.mov (.var (.o (.i (.o .h))))) none
    (.cons none (.mov (.loc 0)) (some (.o (.o .h)))
    .nil)))
  .ret))))))),
  [.tmp (.o (.o .h))]⟩
theorem c48 : FnOk Try.prog 0 48 cf48 :=
  .of Try.func48 (n := 53) (by kernel_rfl) (far := fun t => Nat.testBit 7696707720111 t) (by kernel_rfl)
-- 49 not compiled
def cf50 : CFunc := ⟨(.seq (.region (.cons none (.box (.var (.o .h))) (some (.o (.o .h)))
    (.cons none (.mov (.lit .nilslice)) (some (.o (.i .h)))
    .nil)))
  (.seq (.region (.cons none (.loadN 1 (.var (.o (.o .h)))) none
    (.cons none (.mov (.var (.i .h))) none
    (.cons none (.callF 55 (.cons (.loc 1) (.cons (.loc 0) (.cons (.lit (.bool false)) .nil)))) none
    (.cons none (.mov (.loc 0)) (some (.o (.i .h)))
    .nil)))))
  .ret)),
  [.tmp (.o (.i .h))]⟩
theorem c50 : FnOk Try.prog 0 50 cf50 :=
  .of Try.func50 (n := 8) (by kernel_rfl) (far := fun t => Nat.testBit 23 t) (by kernel_rfl)
def cf51 : CFunc := ⟨(.seq (.region (.cons none (.mov (.lit .nilslice)) (some (.o (.i .h)))
    .nil))
  (.seq (.seq (.region (.cons none (.mov (.var (.i .h))) none
    (.cons none (.cmp .lss (.loc 0) (.lit (.int 3 0))) (some (.o (.o (.o .h))))
    .nil)))
  (.cond (.var (.o (.o (.o .h)))) (.region (.cons none (.mkIface 9 (.lit (.str 18 8838634371626034279618351153450530198413667))) none
    (.cons none (.panic (.loc 0)) none
    .nil)))
  .skip))
  (.seq (.seq (.region (.cons none (.mov (.var (.i .h))) none
    (.cons none (.mov (.var (.o .h))) none
    (.cons none (.capSl (.loc 0)) none
    (.cons none (.mov (.var (.o .h))) none
    (.cons none (.lenSl (.loc 0)) none
    (.cons none (.arith .sub 3 (.loc 2) (.loc 0)) none
    (.cons none (.arith .sub 3 (.loc 5) (.loc 0)) none
    (.cons none (.mov (.loc 0)) (some (.i .h))
    .nil)))))))))
  (.seq (.region (.cons none (.mov (.var (.i .h))) none
    (.cons none (.cmp .gtr (.loc 0) (.lit (.int 3 0))) (some (.o (.i (.o (.o .h)))))
    .nil)))
  (.cond (.var (.o (.i (.o (.o .h))))) (.region (.cons none (.mov (.var (.o .h))) none
    (.cons none (.mov (.var (.o .h))) none
    (.cons none (.capSl (.loc 0)) none
    (.cons none (.sliceSl 2 (.loc 2) none (some (.loc 0)) none) none
    (.cons none (.mov (.var (.i .h))) none
    (.cons none (.appendZ (.cons (.int 3 0) (.cons (.int 3 0) .nil)) 2 (.loc 1) (.loc 0)) none
    (.cons none (.mov (.var (.o .h))) none
    (.cons none (.lenSl (.loc 0)) none
    (.cons none (.sliceSl 2 (.loc 2) none (some (.loc 0)) none) none
    (.cons none (.mov (.loc 0)) (some (.o .h))
    .nil)))))))))))
  .skip)))
  (.seq (.region (.cons none (.mov (.var (.o .h))) none
    (.cons none (.mov (.loc 0)) (some (.o (.i .h)))
    .nil)))
  .ret)))),
  [.tmp (.o (.i .h))]⟩
theorem c51 : FnOk Try.prog 0 51 cf51 :=
  .of Try.func51 (n := 27) (by kernel_rfl) (far := fun t => Nat.testBit 65619 t) (by kernel_rfl)
def cf52 : CFunc := ⟨(.seq (.region (.cons none (.box (.var (.o .h))) (some (.i .h))
    (.cons none (.mov (.lit (.bool false))) (some (.o (.o .h)))
    .nil)))
  (.seq (.region (.cons none (.fieldAddr 0 (.var (.i .h))) none
    (.cons none (.load1 (.loc 0)) none
    (.cons none (.cmp .geq (.loc 0) (.lit (.int 3 5))) none
    (.cons none (.mov (.loc 0)) none
    (.cons (some (0, true)) (.loadN 2 (.var (.i .h))) none
    (.cons (some (1, true)) (.callF 56 (.cons (.loc 0) .nil)) none
    (.cons none (.pick (.loc 2) (.loc 0) (.lit (.bool false))) none
    (.cons none (.mov (.loc 0)) (some (.o (.o .h)))
    .nil)))))))))
  .ret)),
  [.tmp (.o (.o .h))]⟩
theorem c52 : FnOk Try.prog 0 52 cf52 :=
  .of Try.func52 (n := 10) (by kernel_rfl) (far := fun t => Nat.testBit 7 t) (by kernel_rfl)
def cf53 : CFunc := ⟨(.seq (.region (.cons none (.box (.var (.o .h))) (some (.i .h))
    (.cons none (.mov (.lit (.bool false))) (some (.o (.o .h)))
    .nil)))
  (.seq (.region (.cons none (.fieldAddr 0 (.var (.i .h))) none
    (.cons none (.load1 (.loc 0)) none
    (.cons none (.mkFunc (.func 58) .nil (.cons (.var (.i .h)) .nil)) none
    (.cons none (.callF 57 (.cons (.loc 1) (.cons (.loc 0) .nil))) none
    (.cons none (.not (.loc 0)) none
    (.cons none (.mov (.loc 0)) (some (.o (.o .h)))
    .nil)))))))
  .ret)),
  [.tmp (.o (.o .h))]⟩
theorem c53 : FnOk Try.prog 0 53 cf53 :=
  .of Try.func53 (n := 8) (by kernel_rfl) (far := fun t => Nat.testBit 7 t) (by kernel_rfl)
def cf54 : CFunc := ⟨(.seq (.region (.cons none (.mov (.lit (.bool false))) (some (.o (.o .h)))
    .nil))
  (.seq (.region (.cons none (.mov (.var (.o .h))) none
    (.cons none (.eq .ptr false (.loc 0) (.lit .nilptr)) none
    (.cons none (.mov (.loc 0)) none
    (.cons (some (0, false)) (.mov (.var (.o .h))) none
    (.cons (some (1, false)) (.nilCheck (.loc 0)) none
    (.cons (some (2, false)) (.fieldAddr 0 (.loc 0)) none
    (.cons (some (3, false)) (.load1 (.loc 0)) none
    (.cons (some (4, false)) (.eq .map false (.loc 0) (.lit .nilmap)) none
    (.cons none (.pick (.loc 5) (.lit (.bool true)) (.loc 0)) none
    (.cons none (.mov (.loc 0)) (some (.o (.o .h)))
    .nil)))))))))))
  .ret)),
  [.tmp (.o (.o .h))]⟩
theorem c54 : FnOk Try.prog 0 54 cf54 :=
  .of Try.func54 (n := 12) (by kernel_rfl) (far := fun t => Nat.testBit 5 t) (by kernel_rfl)
def cf55 : CFunc := ⟨(.seq (.region (.cons none (.box (.var (.o .h))) (some (.i (.o .h)))
    (.cons none (.mov (.lit .nilslice)) (some (.o (.o (.o .h))))
    .nil)))
  (.seq (.seq (.region (.cons none (.loadN 1 (.var (.i (.o .h)))) none
    (.cons none (.callF 53 (.cons (.loc 0) .nil)) none
    (.cons none (.not (.loc 0)) (some (.i (.i (.i .h))))
    .nil))))
  (.cond (.var (.i (.i (.i .h)))) (.seq (.region (.cons none (.mov (.lit .nilslice)) (some (.o (.o (.o .h))))
    .nil))
  .ret)
  .skip))
  (.seq (.region (.cons none (.mov (.lit .nilslice)) (some (.i (.o (.o .h))))
    .nil))
  (.seq (.region (.cons none (.loadN 1 (.var (.i (.o .h)))) none
    (.cons none (.mov (.var (.i .h))) none
    (.cons none (.callF 60 (.cons (.loc 1) (.cons (.loc 0) .nil))) none
    (.cons none (.mov (.loc 0)) (some (.o (.i (.o .h))))
    .nil)))))
  (.seq (.seq (.region (.cons none (.fieldAddr 0 (.var (.i (.o .h)))) none
    (.cons none (.load1 (.loc 0)) (some (.o (.o (.i (.o .h)))))
    (.cons none (.lenSl (.loc 0)) (some (.i (.o (.i (.o .h)))))
    (.cons none (.mov (.lit (.int 3 0))) (some (.o (.i (.i (.o .h)))))
    .nil)))))
  (.block 0 (.loop (.seq (.region (.cons none (.cmp .lss (.var (.o (.i (.i (.o .h))))) (.var (.i (.o (.i (.o .h)))))) (some (.i (.i (.i (.o .h)))))
    .nil))
  (.seq (.cond (.var (.i (.i (.i (.o .h))))) .skip
  (.exit 0))
  (.seq (.block 1 (.seq (.region (.cons none (.mov (.var (.o (.i (.i (.o .h)))))) none
    (.cons none (.idxSl 5 (.var (.o (.o (.i (.o .h))))) (.var (.o (.i (.i (.o .h)))))) none
    (.cons none (.loadN 5 (.loc 0)) none
    (.cons none (.alloc (.cons (.int 3 0) (.cons (.int 3 0) (.cons .nilslice (.cons (.str 0 0) (.cons (.int 3 0) .nil))))) 5) (some (.o (.o (.i .h))))
    (.cons none (.mov (.loc 3)) (some (.i (.i (.o .h))))
    (.cons none (.store 5 (.loc 1) (.loc 2)) none
    .nil)))))))
  (.seq (.region (.cons none (.fieldAddr 0 (.var (.o (.o (.i .h))))) none
    (.cons none (.load1 (.loc 0)) none
    (.cons none (.cmp .neq (.loc 0) (.lit (.int 3 0))) none
    (.cons none (.mov (.loc 0)) none
    (.cons (some (0, true)) (.mov (.var (.o (.i (.o .h))))) none
    (.cons (some (1, true)) (.mov (.var (.i (.i (.o .h))))) none
    (.cons (some (2, true)) (.arith .add 3 (.loc 0) (.lit (.int 3 1))) none
    (.cons (some (3, true)) (.lookup (.leaf .int) (.int 3 0) false (.loc 2) (.loc 0)) none
    (.cons (some (4, true)) (.cmp .gtr (.loc 0) (.lit (.int 3 0))) none
    (.cons (some (5, true)) (.mov (.var (.o (.o .h)))) none
    (.cons (some (6, true)) (.eq (.leaf .bool) false (.loc 1) (.loc 0)) none
    (.cons none (.pick (.loc 7) (.loc 0) (.lit (.bool false))) (some (.o (.i (.i (.o (.o .h))))))
    .nil)))))))))))))
  (.cond (.var (.o (.i (.i (.o (.o .h)))))) (.region (.cons none (.mov (.var (.i (.o (.o .h))))) none
    (.cons none (.mov (.var (.i (.i (.o .h))))) none
    (.cons none (.arith .add 3 (.loc 0) (.lit (.int 3 1))) none
    (.cons none (.buildSlice (.cons (.int 3 0) .nil) 1 1 (.cons 0 1 (.loc 0) .nil)) none
    (.cons none (.append (.cons (.int 3 0) .nil) 1 (.loc 3) (.loc 0)) none
    (.cons none (.mov (.loc 0)) (some (.i (.o (.o .h))))
    .nil)))))))
  .skip))))
  (.region (.cons none (.arith .add 3 (.var (.o (.i (.i (.o .h))))) (.lit (.int 3 1))) none
    (.cons none (.mov (.loc 0)) (some (.o (.i (.i (.o .h)))))
    .nil)))))))))
  (.seq (.region (.cons none (.mov (.var (.i (.o (.o .h))))) none
    (.cons none (.mov (.loc 0)) (some (.o (.o (.o .h))))
    .nil)))
  .ret)))))),
  [.tmp (.o (.o (.o .h)))]⟩
theorem c55 : FnOk Try.prog 0 55 cf55 :=
  .of Try.func55 (n := 44) (by kernel_rfl) (far := fun t => Nat.testBit 68723419087 t) (by kernel_rfl)
def cf56 : CFunc := ⟨(.seq (.region (.cons none (.box (.var (.o .h))) (some (.i .h))
    (.cons none (.mov (.lit (.bool false))) (some (.o (.o .h)))
    .nil)))
  (.seq (.region (.cons none (.mkFunc (.func 61) .nil (.cons (.var (.i .h)) .nil)) none
    (.cons none (.mov (.loc 0)) (some (.i (.o .h)))
    .nil)))
  (.seq (.seq (.region (.cons none (.fieldAddr 0 (.var (.i .h))) none
    (.cons none (.load1 (.loc 0)) (some (.o (.o (.o .h))))
    .nil)))
  (.block 0 (.seq (.seq (.region (.cons none (.cmp .eql (.var (.o (.o (.o .h)))) (.lit (.int 3 0))) none
    (.cons none (.mov (.loc 0)) (some (.i (.o (.o .h))))
    .nil)))
  (.cond (.var (.i (.o (.o .h)))) .skip
  (.region (.cons none (.cmp .eql (.var (.o (.o (.o .h)))) (.lit (.int 3 1))) none
    (.cons none (.mov (.loc 0)) (some (.i (.o (.o .h))))
    .nil)))))
  (.cond (.var (.i (.o (.o .h)))) (.seq (.region (.cons none (.mov (.var (.i (.o .h)))) none
    (.cons none (.callV (.loc 0) (.cons (.lit (.int 3 0)) (.cons (.lit (.int 3 0)) .nil))) none
    (.cons none (.mov (.loc 0)) (some (.o (.o .h)))
    .nil))))
  .ret)
  (.seq (.region (.cons none (.cmp .eql (.var (.o (.o (.o .h)))) (.lit (.int 3 2))) none
    (.cons none (.mov (.loc 0)) (some (.o (.i (.i .h))))
    .nil)))
  (.cond (.var (.o (.i (.i .h)))) (.seq (.region (.cons none (.mov (.var (.i (.o .h)))) none
    (.cons none (.callV (.loc 0) (.cons (.lit (.int 3 0)) (.cons (.lit (.int 3 1)) .nil))) none
    (.cons none (.mov (.loc 0)) (some (.o (.o .h)))
    .nil))))
  .ret)
  (.seq (.region (.cons none (.cmp .eql (.var (.o (.o (.o .h)))) (.lit (.int 3 3))) none
    (.cons none (.mov (.loc 0)) (some (.o (.i (.o (.o .h)))))
    .nil)))
  (.cond (.var (.o (.i (.o (.o .h))))) (.seq (.region (.cons none (.mov (.lit (.bool true))) (some (.o (.o .h)))
    .nil))
  .ret)
  (.seq (.region (.cons none (.cmp .eql (.var (.o (.o (.o .h)))) (.lit (.int 3 4))) none
    (.cons none (.mov (.loc 0)) (some (.o (.o (.i (.o .h)))))
    .nil)))
  (.cond (.var (.o (.o (.i (.o .h))))) (.seq (.region (.cons none (.mov (.var (.i (.o .h)))) none
    (.cons none (.callV (.loc 0) (.cons (.lit (.int 3 0)) (.cons (.lit (.int 3 12)) .nil))) none
    (.cons none (.mov (.loc 0)) (some (.o (.o .h)))
    .nil))))
  .ret)
  .skip))))))))))
  (.seq (.region (.cons none (.fieldAddr 0 (.var (.i .h))) none
    (.cons none (.load1 (.loc 0)) none
    (.cons none (.cmp .geq (.loc 0) (.lit (.int 3 5))) none
    (.cons none (.mov (.loc 0)) none
    (.cons (some (0, true)) (.fieldAddr 0 (.var (.i .h))) none
    (.cons (some (1, true)) (.load1 (.loc 0)) none
    (.cons (some (2, true)) (.cmp .leq (.loc 0) (.lit (.int 3 9))) none
    (.cons none (.pick (.loc 3) (.loc 0) (.lit (.bool false))) none
    (.cons none (.mov (.loc 0)) none
    (.cons (some (0, true)) (.mov (.var (.i (.o .h)))) none
    (.cons (some (1, true)) (.callV (.loc 0) (.cons (.lit (.int 3 1)) (.cons (.lit (.int 3 2147483647)) .nil))) none
    (.cons none (.pick (.loc 2) (.loc 0) (.lit (.bool false))) none
    (.cons none (.mov (.loc 0)) (some (.o (.o .h)))
    .nil))))))))))))))
  .ret)))),
  [.tmp (.o (.o .h))]⟩
theorem c56 : FnOk Try.prog 0 56 cf56 :=
  .of Try.func56 (n := 34) (by kernel_rfl) (far := fun t => Nat.testBit 331983 t) (by kernel_rfl)
def cf57 : CFunc := ⟨(.seq (.region (.cons none (.mov (.lit (.bool false))) (some (.o (.i .h)))
    .nil))
  (.seq (.region (.cons none (.mov (.var (.o .h))) none
    (.cons none (.mov (.var (.i .h))) none
    (.cons none (.callF 62 (.cons (.loc 1) (.cons (.loc 0) .nil))) none
    (.cons none (.cmp .geq (.loc 0) (.lit (.int 3 0))) none
    (.cons none (.mov (.loc 0)) (some (.o (.i .h)))
    .nil))))))
  .ret)),
  [.tmp (.o (.i .h))]⟩
theorem c57 : FnOk Try.prog 0 57 cf57 :=
  .of Try.func57 (n := 9) (by kernel_rfl) (far := fun t => Nat.testBit 19 t) (by kernel_rfl)
def cf58 : CFunc := ⟨(.seq (.region (.cons none (.box (.var (.o .h))) (some (.o (.o .h)))
    (.cons none (.mov (.lit (.bool false))) (some (.i (.o .h)))
    .nil)))
  (.seq (.region (.cons none (.loadN 1 (.var (.i .h))) none
    (.cons none (.loadN 5 (.var (.o (.o .h)))) none
    (.cons none (.callF 59 (.cons (.loc 1) (.cons (.loc 0) .nil))) none
    (.cons none (.not (.loc 0)) none
    (.cons none (.mov (.loc 0)) (some (.i (.o .h)))
    .nil))))))
  .ret)),
  [.tmp (.i (.o .h))]⟩
theorem c58 : FnOk Try.prog 0 58 cf58 :=
  .of Try.func58 (n := 8) (by kernel_rfl) (far := fun t => Nat.testBit 15 t) (by kernel_rfl)
def cf59 : CFunc := ⟨(.seq (.region (.cons none (.box (.var (.o .h))) (some (.o (.o .h)))
    (.cons none (.box (.var (.i .h))) (some (.i (.o .h)))
    (.cons none (.mov (.lit (.bool false))) (some (.o (.i .h)))
    .nil))))
  (.seq (.seq (.region (.cons none (.fieldAddr 0 (.var (.i (.o .h)))) none
    (.cons none (.load1 (.loc 0)) none
    (.cons none (.cmp .eql (.loc 0) (.lit (.int 3 0))) (some (.o (.i (.o .h))))
    .nil))))
  (.cond (.var (.o (.i (.o .h)))) (.seq (.region (.cons none (.fieldAddr 1 (.var (.i (.o .h)))) none
    (.cons none (.load1 (.loc 0)) none
    (.cons none (.cmp .eql (.loc 0) (.lit (.int 3 0))) none
    (.cons none (.mov (.loc 0)) none
    (.cons (some (0, true)) (.fieldAddr 2 (.var (.i (.o .h)))) none
    (.cons (some (1, true)) (.load1 (.loc 0)) none
    (.cons (some (2, true)) (.lenSl (.loc 0)) none
    (.cons (some (3, true)) (.cmp .eql (.loc 0) (.lit (.int 3 0))) none
    (.cons none (.pick (.loc 4) (.loc 0) (.lit (.bool false))) none
    (.cons none (.mov (.loc 0)) none
    (.cons (some (0, true)) (.fieldAddr 3 (.var (.i (.o .h)))) none
    (.cons (some (1, true)) (.load1 (.loc 0)) none
    (.cons (some (2, true)) (.scmp .eql (.loc 0) (.lit (.str 0 0))) none
    (.cons none (.pick (.loc 3) (.loc 0) (.lit (.bool false))) none
    (.cons none (.mov (.loc 0)) none
    (.cons (some (0, true)) (.fieldAddr 4 (.var (.i (.o .h)))) none
    (.cons (some (1, true)) (.load1 (.loc 0)) none
    (.cons (some (2, true)) (.cmp .eql (.loc 0) (.lit (.int 3 0))) none
    (.cons none (.pick (.loc 3) (.loc 0) (.lit (.bool false))) none
    (.cons none (.mov (.loc 0)) (some (.o (.i .h)))
    .nil)))))))))))))))))))))
  .ret)
  .skip))
  (.seq (.region (.cons none (.fieldAddr 0 (.var (.i (.o .h)))) none
    (.cons none (.load1 (.loc 0)) none
    (.cons none (.cmp .eql (.loc 0) (.lit (.int 3 5))) none
    (.cons none (.alloc (.cons (.bool false) .nil) 1) (some (.i (.i .h)))
    (.cons none (.store 1 (.loc 0) (.loc 1)) none
    .nil))))))
  (.seq (.region (.cons none (.mkFunc (.func 64) .nil (.cons (.var (.i (.o .h))) .nil)) none
    (.cons none (.mkFunc (.func 65) .nil (.cons (.var (.i (.i .h))) (.cons (.var (.i (.o .h))) .nil))) none
    (.cons none (.mkFunc (.func 66) .nil (.cons (.var (.i (.o .h))) (.cons (.var (.o (.o .h))) .nil))) none
    (.cons none (.buildSlice (.cons .nilfunc .nil) 3 3 (.cons 0 1 (.loc 2) (.cons 1 1 (.loc 1) (.cons 2 1 (.loc 0) .nil)))) none
    (.cons none (.callF 63 (.cons (.loc 0) .nil)) none
    (.cons none (.mov (.loc 0)) (some (.o (.i .h)))
    .nil)))))))
  .ret)))),
  [.tmp (.o (.i .h))]⟩
theorem c59 : FnOk Try.prog 0 59 cf59 :=
  .of Try.func59 (n := 36) (by kernel_rfl) (far := fun t => Nat.testBit 319 t) (by kernel_rfl)
def cf60 : CFunc := ⟨(.seq (.region (.cons none (.box (.var (.o .h))) (some (.o (.o .h)))
    (.cons none (.mov (.lit .nilmap)) (some (.o (.i .h)))
    .nil)))
  (.seq (.region (.cons none .mkMap none
    (.cons none (.alloc (.cons .nilmap .nil) 1) (some (.i (.i .h)))
    (.cons none (.store 1 (.loc 0) (.loc 1)) none
    .nil))))
  (.seq (.region (.cons none (.alloc (.cons .nilfunc .nil) 1) (some (.o (.o (.o .h))))
    .nil))
  (.seq (.region (.cons none (.mkFunc (.func 70) .nil (.cons (.var (.o (.o .h))) (.cons (.var (.i (.i .h))) (.cons (.var (.o (.o (.o .h)))) .nil)))) none
    (.cons none (.store 1 (.var (.o (.o (.o .h)))) (.loc 0)) none
    .nil)))
  (.seq (.region (.cons none (.load1 (.var (.o (.o (.o .h))))) none
    (.cons none (.mov (.var (.i .h))) none
    (.cons none (.callV (.loc 1) (.cons (.loc 0) .nil)) none
    .nil))))
  (.seq (.region (.cons none (.load1 (.var (.i (.i .h)))) none
    (.cons none (.mov (.loc 0)) (some (.o (.i .h)))
    .nil)))
  .ret)))))),
  [.tmp (.o (.i .h))]⟩
theorem c60 : FnOk Try.prog 0 60 cf60 :=
  .of Try.func60 (n := 13) (by kernel_rfl) (far := fun t => Nat.testBit 119 t) (by kernel_rfl)
def cf61 : CFunc := ⟨(.seq (.region (.cons none (.mov (.lit (.bool false))) (some (.i (.i .h)))
    .nil))
  (.seq (.region (.cons none (.fieldAddr 1 (.var (.o (.o .h)))) none
    (.cons none (.load1 (.loc 0)) none
    (.cons none (.mov (.var (.o .h))) none
    (.cons none (.cmp .geq (.loc 1) (.loc 0)) none
    (.cons none (.mov (.loc 0)) none
    (.cons (some (0, true)) (.fieldAddr 1 (.var (.o (.o .h)))) none
    (.cons (some (1, true)) (.load1 (.loc 0)) none
    (.cons (some (2, true)) (.mov (.var (.i .h))) none
    (.cons (some (3, true)) (.cmp .leq (.loc 1) (.loc 0)) none
    (.cons none (.pick (.loc 4) (.loc 0) (.lit (.bool false))) none
    (.cons none (.mov (.loc 0)) (some (.i (.i .h)))
    .nil))))))))))))
  .ret)),
  [.tmp (.i (.i .h))]⟩
theorem c61 : FnOk Try.prog 0 61 cf61 :=
  .of Try.func61 (n := 16) (by kernel_rfl) (far := fun t => Nat.testBit 39 t) (by kernel_rfl)
def cf62 : CFunc := ⟨(.seq (.region (.cons none (.mov (.lit (.int 3 0))) (some (.o (.i .h)))
    .nil))
  (.seq (.seq (.region (.cons none (.mov (.var (.o .h))) none
    (.cons none (.lenSl (.loc 0)) (some (.i (.o (.o .h))))
    (.cons none (.mov (.lit (.int 3 0))) (some (.o (.i (.o .h))))
    .nil))))
  (.block 0 (.loop (.seq (.region (.cons none (.cmp .lss (.var (.o (.i (.o .h)))) (.var (.i (.o (.o .h))))) (some (.i (.i (.o .h))))
    .nil))
  (.seq (.cond (.var (.i (.i (.o .h)))) .skip
  (.exit 0))
  (.seq (.block 1 (.seq (.region (.cons none (.mov (.var (.o (.i (.o .h))))) none
    (.cons none (.mov (.loc 0)) (some (.i (.i .h)))
    .nil)))
  (.seq (.region (.cons none (.mov (.var (.i .h))) none
    (.cons none (.mov (.var (.o .h))) none
    (.cons none (.mov (.var (.i (.i .h)))) none
    (.cons none (.idxSl 5 (.loc 1) (.loc 0)) none
    (.cons none (.loadN 5 (.loc 0)) none
    (.cons none (.callV (.loc 4) (.cons (.loc 0) .nil)) (some (.o (.i (.o (.o .h)))))
    .nil)))))))
  (.cond (.var (.o (.i (.o (.o .h))))) (.seq (.region (.cons none (.mov (.var (.i (.i .h)))) none
    (.cons none (.mov (.loc 0)) (some (.o (.i .h)))
    .nil)))
  .ret)
  .skip))))
  (.region (.cons none (.arith .add 3 (.var (.o (.i (.o .h)))) (.lit (.int 3 1))) none
    (.cons none (.mov (.loc 0)) (some (.o (.i (.o .h))))
    .nil)))))))))
  (.seq (.region (.cons none (.mov (.lit (.int 3 (-1)))) (some (.o (.i .h)))
    .nil))
  .ret))),
  [.tmp (.o (.i .h))]⟩
theorem c62 : FnOk Try.prog 0 62 cf62 :=
  .of Try.func62 (n := 19) (by kernel_rfl) (far := fun t => Nat.testBit 66483 t) (by kernel_rfl)
def cf63 : CFunc := ⟨(.seq (.region (.cons none (.mov (.lit (.bool false))) (some (.o (.o .h)))
    .nil))
  (.seq (.seq (.region (.cons none (.mov (.var (.o .h))) (some (.i (.i .h)))
    (.cons none (.lenSl (.loc 0)) (some (.o (.o (.o .h))))
    (.cons none (.mov (.lit (.int 3 0))) (some (.i (.o (.o .h))))
    .nil))))
  (.block 0 (.loop (.seq (.region (.cons none (.cmp .lss (.var (.i (.o (.o .h)))) (.var (.o (.o (.o .h))))) (some (.o (.i (.o .h))))
    .nil))
  (.seq (.cond (.var (.o (.i (.o .h)))) .skip
  (.exit 0))
  (.seq (.block 1 (.seq (.region (.cons none (.idxSl 1 (.var (.i (.i .h))) (.var (.i (.o (.o .h))))) none
    (.cons none (.load1 (.loc 0)) none
    (.cons none (.mov (.loc 0)) (some (.o (.i .h)))
    .nil))))
  (.seq (.region (.cons none (.mov (.var (.o (.i .h)))) none
    (.cons none (.callV (.loc 0) .nil) none
    (.cons none (.not (.loc 0)) (some (.i (.i (.i .h))))
    .nil))))
  (.cond (.var (.i (.i (.i .h)))) (.seq (.region (.cons none (.mov (.lit (.bool false))) (some (.o (.o .h)))
    .nil))
  .ret)
  .skip))))
  (.region (.cons none (.arith .add 3 (.var (.i (.o (.o .h)))) (.lit (.int 3 1))) none
    (.cons none (.mov (.loc 0)) (some (.i (.o (.o .h))))
    .nil)))))))))
  (.seq (.region (.cons none (.mov (.lit (.bool true))) (some (.o (.o .h)))
    .nil))
  .ret))),
  [.tmp (.o (.o .h))]⟩
theorem c63 : FnOk Try.prog 0 63 cf63 :=
  .of Try.func63 (n := 15) (by kernel_rfl) (far := fun t => Nat.testBit 8693 t) (by kernel_rfl)
def cf64 : CFunc := ⟨(.seq (.region (.cons none (.mov (.lit (.bool false))) (some (.i .h))
    .nil))
  (.seq (.region (.cons none (.fieldAddr 0 (.var (.o .h))) none
    (.cons none (.load1 (.loc 0)) none
    (.cons none (.cmp .geq (.loc 0) (.lit (.int 3 5))) none
    (.cons none (.mov (.loc 0)) none
    (.cons (some (0, true)) (.fieldAddr 0 (.var (.o .h))) none
    (.cons (some (1, true)) (.load1 (.loc 0)) none
    (.cons (some (2, true)) (.cmp .leq (.loc 0) (.lit (.int 3 9))) none
    (.cons none (.pick (.loc 3) (.loc 0) (.lit (.bool false))) none
    (.cons none (.mov (.loc 0)) none
    (.cons (some (0, true)) (.fieldAddr 1 (.var (.o .h))) none
    (.cons (some (1, true)) (.load1 (.loc 0)) none
    (.cons (some (2, true)) (.cmp .geq (.loc 0) (.lit (.int 3 0))) none
    (.cons none (.pick (.loc 3) (.loc 0) (.lit (.bool false))) none
    (.cons none (.mov (.loc 0)) none
    (.cons (some (0, true)) (.fieldAddr 4 (.var (.o .h))) none
    (.cons (some (1, true)) (.load1 (.loc 0)) none
    (.cons (some (2, true)) (.cmp .geq (.loc 0) (.lit (.int 3 (-1)))) none
    (.cons none (.pick (.loc 3) (.loc 0) (.lit (.bool false))) none
    (.cons none (.mov (.loc 0)) (some (.i .h))
    .nil))))))))))))))))))))
  .ret)),
  [.tmp (.i .h)]⟩
theorem c64 : FnOk Try.prog 0 64 cf64 :=
  .of Try.func64 (n := 20) (by kernel_rfl) (far := fun t => Nat.testBit 3 t) (by kernel_rfl)
def cf65 : CFunc := ⟨(.seq (.region (.cons none (.mov (.lit (.bool false))) (some (.o (.o .h)))
    .nil))
  (.seq (.region (.cons none (.load1 (.var (.o .h))) none
    (.cons none (.mov (.loc 0)) none
    (.cons (some (0, true)) (.fieldAddr 2 (.var (.i .h))) none
    (.cons (some (1, true)) (.load1 (.loc 0)) none
    (.cons (some (2, true)) (.lenSl (.loc 0)) none
    (.cons (some (3, true)) (.cmp .eql (.loc 0) (.lit (.int 3 0))) none
    (.cons none (.pick (.loc 4) (.loc 0) (.lit (.bool false))) none
    (.cons none (.mov (.loc 0)) none
    (.cons (some (0, false)) (.load1 (.var (.o .h))) none
    (.cons (some (1, false)) (.not (.loc 0)) none
    (.cons (some (2, false)) (.mov (.loc 0)) none
    (.cons (some (0, true)) (.fieldAddr 3 (.var (.i .h))) none
    (.cons (some (1, true)) (.load1 (.loc 0)) none
    (.cons (some (2, true)) (.scmp .eql (.loc 0) (.lit (.str 0 0))) none
    (.cons (some (6, false)) (.pick (.loc 3) (.loc 0) (.lit (.bool false))) none
    (.cons none (.pick (.loc 7) (.lit (.bool true)) (.loc 0)) none
    (.cons none (.mov (.loc 0)) (some (.o (.o .h)))
    .nil))))))))))))))))))
  .ret)),
  [.tmp (.o (.o .h))]⟩
theorem c65 : FnOk Try.prog 0 65 cf65 :=
  .of Try.func65 (n := 19) (by kernel_rfl) (far := fun t => Nat.testBit 7 t) (by kernel_rfl)
def cf66 : CFunc := ⟨(.seq (.region (.cons none (.mov (.lit (.bool false))) (some (.o (.o .h)))
    .nil))
  (.seq (.region (.cons none (.fieldAddr 2 (.var (.o .h))) none
    (.cons none (.load1 (.loc 0)) none
    (.cons none (.mkFunc (.func 68) .nil (.cons (.var (.i .h)) .nil)) none
    (.cons none (.callF 67 (.cons (.loc 1) (.cons (.loc 0) .nil))) none
    (.cons none (.not (.loc 0)) none
    (.cons none (.mov (.loc 0)) (some (.o (.o .h)))
    .nil)))))))
  .ret)),
  [.tmp (.o (.o .h))]⟩
theorem c66 : FnOk Try.prog 0 66 cf66 :=
  .of Try.func66 (n := 8) (by kernel_rfl) (far := fun t => Nat.testBit 7 t) (by kernel_rfl)
def cf67 : CFunc := ⟨(.seq (.region (.cons none (.mov (.lit (.bool false))) (some (.o (.i .h)))
    .nil))
  (.seq (.region (.cons none (.mov (.var (.o .h))) none
    (.cons none (.mov (.var (.i .h))) none
    (.cons none (.callF 72 (.cons (.loc 1) (.cons (.loc 0) .nil))) none
    (.cons none (.cmp .geq (.loc 0) (.lit (.int 3 0))) none
    (.cons none (.mov (.loc 0)) (some (.o (.i .h)))
    .nil))))))
  .ret)),
  [.tmp (.o (.i .h))]⟩
theorem c67 : FnOk Try.prog 0 67 cf67 :=
  .of Try.func67 (n := 9) (by kernel_rfl) (far := fun t => Nat.testBit 19 t) (by kernel_rfl)
def cf68 : CFunc := ⟨(.seq (.region (.cons none (.box (.var (.o .h))) (some (.o (.o .h)))
    (.cons none (.mov (.lit (.bool false))) (some (.i (.o .h)))
    .nil)))
  (.seq (.region (.cons none (.loadN 1 (.var (.i .h))) none
    (.cons none (.loadN 2 (.var (.o (.o .h)))) none
    (.cons none (.callF 69 (.cons (.loc 1) (.cons (.loc 0) .nil))) none
    (.cons none (.not (.loc 0)) none
    (.cons none (.mov (.loc 0)) (some (.i (.o .h)))
    .nil))))))
  .ret)),
  [.tmp (.i (.o .h))]⟩
theorem c68 : FnOk Try.prog 0 68 cf68 :=
  .of Try.func68 (n := 8) (by kernel_rfl) (far := fun t => Nat.testBit 15 t) (by kernel_rfl)
def cf69 : CFunc := ⟨(.seq (.region (.cons none (.box (.var (.o .h))) (some (.o (.o .h)))
    (.cons none (.box (.var (.i .h))) (some (.i (.o .h)))
    (.cons none (.mov (.lit (.bool false))) (some (.o (.i .h)))
    .nil))))
  (.seq (.seq (.region (.cons none (.loadN 2 (.var (.i (.o .h)))) none
    (.cons none (.callF 56 (.cons (.loc 0) .nil)) none
    (.cons none (.not (.loc 0)) none
    (.cons none (.mov (.loc 0)) none
    (.cons (some (0, false)) (.fieldAddr 0 (.var (.i (.o .h)))) none
    (.cons (some (1, false)) (.load1 (.loc 0)) none
    (.cons (some (2, false)) (.cmp .eql (.loc 0) (.lit (.int 3 0))) none
    (.cons none (.pick (.loc 3) (.lit (.bool true)) (.loc 0)) (some (.o (.i (.i .h))))
    .nil)))))))))
  (.cond (.var (.o (.i (.i .h)))) (.seq (.region (.cons none (.mov (.lit (.bool false))) (some (.o (.i .h)))
    .nil))
  .ret)
  .skip))
  (.seq (.draw (.cons none (.loadN 2 (.var (.i (.o .h)))) none (.light 0)
    (.cons none (.callF 52 (.cons (.loc 0) .nil)) none .heavy
    (.cons none (.not (.loc 0)) none (.light 0)
    (.cons none (.mov (.loc 0)) none (.light 0)
    (.cons (some (0, false)) (.fieldAddr 1 (.var (.i (.o .h)))) none (.light 0)
    (.cons (some (1, false)) (.load1 (.loc 0)) none (.light 0)
    (.cons (some (2, false)) (.fieldAddr 0 (.var (.o (.o .h)))) none (.light 0)
    (.cons (some (3, false)) (.load1 (.loc 0)) none (.light 0)
    (.cons (some (4, false)) (.lenSl (.loc 0)) none (.light 0)
    (.cons (some (5, false)) (.cmp .leq (.loc 3) (.loc 0)) none (.light 0)
    (.cons (some (6, false)) (.mov (.loc 0)) none (.light 0)
    (.cons (some (0, true)) (.fieldAddr 0 (.var (.o (.o .h)))) none (.light 0)
    (.cons (some (1, true)) (.load1 (.loc 0)) none (.light 0)
    (.cons (some (2, true)) (.fieldAddr 1 (.var (.i (.o .h)))) none (.light 0)
    (.cons (some (3, true)) (.load1 (.loc 0)) none (.light 0)
    (.cons (some (4, true)) (.arith .sub 3 (.loc 0) (.lit (.int 3 1))) none (.light 0)
    (.cons (some (5, true)) (.idxSl 5 (.loc 3) (.loc 0)) none (.light 0)
    (.cons (some (6, true)) (.fieldAddr 0 (.loc 0)) none (.light 0)
    (.cons (some (7, true)) (.load1 (.loc 0)) none (.light 0)
    (.cons (some (8, true)) (.fieldAddr 0 (.var (.i (.o .h)))) none (.light 0)
    (.cons (some (9, true)) (.load1 (.loc 0)) none (.light 0)
    (.cons (some (10, true)) (.cmp .eql (.loc 2) (.loc 0)) none (.light 0)
    (.cons (some (18, false)) (.pick (.loc 11) (.loc 0) (.lit (.bool false))) none (.light 0)
    (.cons none (.pick (.loc 19) (.lit (.bool true)) (.loc 0)) none (.light 0)
    (.cons none (.mov (.loc 0)) (some (.o (.i .h))) (.light 0)
    .nil))))))))))))))))))))))))) 0)
  .ret))),
  [.tmp (.o (.i .h))]⟩
theorem c69 : FnOk Try.prog 0 69 cf69 :=
  .of Try.func69 (n := 37) (by kernel_rfl) (far := fun t => Nat.testBit 4127 t) (by kernel_rfl)
def cf70 : CFunc := ⟨(.seq (.draw (.cons none (.mov (.var (.o .h))) none (.light 0)
    (.cons none (.callF 47 (.cons (.loc 0) .nil)) none .heavy
    (.cons none (.loadN 1 (.var (.i .h))) none (.light 1)
    (.cons none (.callF 71 (.cons (.loc 0) (.cons (.loc 1) .nil))) (some (.o (.o (.i .h)))) .heavy
    (.cons none (.lenSl (.loc 0)) (some (.i (.o (.i .h)))) (.light 0)
    (.cons none (.mov (.lit (.int 3 0))) (some (.o (.i (.i .h)))) (.light 2)
    .nil)))))) 0)
  (.block 0 (.loop (.seq (.region (.cons none (.cmp .lss (.var (.o (.i (.i .h)))) (.var (.i (.o (.i .h))))) (some (.i (.i (.i .h))))
    .nil))
  (.seq (.cond (.var (.i (.i (.i .h)))) .skip
  (.exit 0))
  (.seq (.block 1 (.seq (.region (.cons none (.idxSl 1 (.var (.o (.o (.i .h)))) (.var (.o (.i (.i .h))))) none
    (.cons none (.load1 (.loc 0)) none
    (.cons none (.mov (.loc 0)) (some (.o (.o (.o .h))))
    .nil))))
  (.seq (.region (.cons none (.load1 (.var (.o (.o .h)))) none
    (.cons none (.mov (.var (.o (.o (.o .h))))) none
    (.cons none (.lookup (.leaf .int) (.int 3 0) false (.loc 1) (.loc 0)) none
    (.cons none (.cmp .eql (.loc 0) (.lit (.int 3 0))) (some (.i (.o (.i (.o .h)))))
    .nil)))))
  (.cond (.var (.i (.o (.i (.o .h))))) (.seq (.region (.cons none (.load1 (.var (.o (.o .h)))) none
    (.cons none (.mov (.var (.o (.o (.o .h))))) none
    (.cons none (.update (.leaf .int) (.loc 1) (.loc 0) (.lit (.int 3 1))) none
    .nil))))
  (.draw (.cons none (.load1 (.var (.i (.o .h)))) none (.light 0)
    (.cons none (.fieldAddr 0 (.var (.i .h))) none (.light 0)
    (.cons none (.load1 (.loc 0)) none (.light 0)
    (.cons none (.mov (.var (.o (.o (.o .h))))) none (.light 0)
    (.cons none (.arith .sub 3 (.loc 0) (.lit (.int 3 1))) none (.light 0)
    (.cons none (.idxSl 5 (.loc 2) (.loc 0)) none (.light 0)
    (.cons none (.fieldAddr 2 (.loc 0)) none (.light 0)
    (.cons none (.load1 (.loc 0)) none (.light 0)
    (.cons none (.callV (.loc 7) (.cons (.loc 0) .nil)) none .heavy
    .nil))))))))) 0))
  .skip))))
  (.region (.cons none (.arith .add 3 (.var (.o (.i (.i .h)))) (.lit (.int 3 1))) none
    (.cons none (.mov (.loc 0)) (some (.o (.i (.i .h))))
    .nil))))))))),
  []⟩
theorem c70 : FnOk Try.prog 0 70 cf70 :=
  .of Try.func70 (n := 32) (by kernel_rfl) (far := fun t => Nat.testBit 539727 t) (by kernel_rfl)
def cf71 : CFunc := ⟨(.seq (.region (.cons none (.box (.var (.o .h))) (some (.o (.o .h)))
    (.cons none (.mov (.lit .nilslice)) (some (.o (.i .h)))
    .nil)))
  (.seq (.region (.cons none (.mov (.var (.i .h))) none
    (.cons none (.mkFunc (.func 74) .nil (.cons (.var (.o (.o .h))) .nil)) none
    (.cons none (.callF 73 (.cons (.loc 1) (.cons (.loc 0) .nil))) none
    (.cons none (.mov (.loc 0)) (some (.o (.i .h)))
    .nil)))))
  .ret)),
  [.tmp (.o (.i .h))]⟩
theorem c71 : FnOk Try.prog 0 71 cf71 :=
  .of Try.func71 (n := 8) (by kernel_rfl) (far := fun t => Nat.testBit 23 t) (by kernel_rfl)
def cf72 : CFunc := ⟨(.seq (.region (.cons none (.mov (.lit (.int 3 0))) (some (.o (.i .h)))
    .nil))
  (.seq (.seq (.region (.cons none (.mov (.var (.o .h))) none
    (.cons none (.lenSl (.loc 0)) (some (.i (.o (.o .h))))
    (.cons none (.mov (.lit (.int 3 0))) (some (.o (.i (.o .h))))
    .nil))))
  (.block 0 (.loop (.seq (.region (.cons none (.cmp .lss (.var (.o (.i (.o .h)))) (.var (.i (.o (.o .h))))) (some (.i (.i (.o .h))))
    .nil))
  (.seq (.cond (.var (.i (.i (.o .h)))) .skip
  (.exit 0))
  (.seq (.block 1 (.seq (.region (.cons none (.mov (.var (.o (.i (.o .h))))) none
    (.cons none (.mov (.loc 0)) (some (.i (.i .h)))
    .nil)))
  (.seq (.region (.cons none (.mov (.var (.i .h))) none
    (.cons none (.mov (.var (.o .h))) none
    (.cons none (.mov (.var (.i (.i .h)))) none
    (.cons none (.idxSl 2 (.loc 1) (.loc 0)) none
    (.cons none (.loadN 2 (.loc 0)) none
    (.cons none (.callV (.loc 4) (.cons (.loc 0) .nil)) (some (.o (.i (.o (.o .h)))))
    .nil)))))))
  (.cond (.var (.o (.i (.o (.o .h))))) (.seq (.region (.cons none (.mov (.var (.i (.i .h)))) none
    (.cons none (.mov (.loc 0)) (some (.o (.i .h)))
    .nil)))
  .ret)
  .skip))))
  (.region (.cons none (.arith .add 3 (.var (.o (.i (.o .h)))) (.lit (.int 3 1))) none
    (.cons none (.mov (.loc 0)) (some (.o (.i (.o .h))))
    .nil)))))))))
  (.seq (.region (.cons none (.mov (.lit (.int 3 (-1)))) (some (.o (.i .h)))
    .nil))
  .ret))),
  [.tmp (.o (.i .h))]⟩
theorem c72 : FnOk Try.prog 0 72 cf72 :=
  .of Try.func72 (n := 19) (by kernel_rfl) (far := fun t => Nat.testBit 66483 t) (by kernel_rfl)
def cf73 : CFunc := ⟨(.seq (.region (.cons none (.mov (.lit .nilslice)) (some (.o (.i .h)))
    .nil))
  (.seq (.region (.cons none (.mov (.var (.o .h))) none
    (.cons none (.mov (.var (.i .h))) none
    (.cons none (.callF 75 (.cons (.loc 1) (.cons (.loc 0) .nil))) none
    (.cons none (.mov (.loc 0)) (some (.i (.i .h)))
    .nil)))))
  (.seq (.seq (.region (.cons none (.mov (.var (.i (.i .h)))) none
    (.cons none (.cmp .eql (.loc 0) (.lit (.int 3 (-1)))) (some (.o (.i (.i .h))))
    .nil)))
  (.cond (.var (.o (.i (.i .h)))) (.seq (.region (.cons none (.mov (.var (.o .h))) none
    (.cons none (.mov (.loc 0)) (some (.o (.i .h)))
    .nil)))
  .ret)
  .skip))
  (.seq (.seq (.region (.cons none (.mov (.var (.i (.i .h)))) none
    (.cons none (.arith .add 3 (.loc 0) (.lit (.int 3 1))) none
    (.cons none (.mov (.loc 0)) (some (.o (.o (.o .h))))
    .nil))))
  (.block 0 (.loop (.seq (.seq (.region (.cons none (.mov (.var (.o (.o (.o .h))))) none
    (.cons none (.mov (.var (.o .h))) none
    (.cons none (.lenSl (.loc 0)) none
    (.cons none (.cmp .lss (.loc 2) (.loc 0)) (some (.i (.o (.i (.o .h)))))
    .nil)))))
  (.cond (.var (.i (.o (.i (.o .h))))) .skip
  (.exit 0)))
  (.seq (.block 1 (.seq (.region (.cons none (.mov (.var (.o .h))) none
    (.cons none (.mov (.var (.o (.o (.o .h))))) none
    (.cons none (.idxSl 1 (.loc 1) (.loc 0)) none
    (.cons none (.load1 (.loc 0)) none
    (.cons none (.mov (.loc 0)) (some (.i (.o (.o .h))))
    .nil))))))
  (.seq (.region (.cons none (.mov (.var (.i .h))) none
    (.cons none (.mov (.var (.i (.o (.o .h))))) none
    (.cons none (.callV (.loc 1) (.cons (.loc 0) .nil)) none
    (.cons none (.not (.loc 0)) (some (.i (.i (.i (.i .h)))))
    .nil)))))
  (.cond (.var (.i (.i (.i (.i .h))))) (.seq (.region (.cons none (.mov (.var (.o .h))) none
    (.cons none (.mov (.var (.i (.i .h)))) none
    (.cons none (.mov (.var (.i (.o (.o .h))))) none
    (.cons none (.idxSl 1 (.loc 2) (.loc 1)) none
    (.cons none (.store 1 (.loc 0) (.loc 1)) none
    .nil))))))
  (.region (.cons none (.mov (.var (.i (.i .h)))) none
    (.cons none (.arith .add 3 (.loc 0) (.lit (.int 3 1))) none
    (.cons none (.mov (.loc 0)) (some (.i (.i .h)))
    .nil)))))
  .skip))))
  (.region (.cons none (.mov (.var (.o (.o (.o .h))))) none
    (.cons none (.arith .add 3 (.loc 0) (.lit (.int 3 1))) none
    (.cons none (.mov (.loc 0)) (some (.o (.o (.o .h))))
    .nil)))))))))
  (.seq (.region (.cons none (.mov (.var (.o .h))) none
    (.cons none (.mov (.var (.i (.i .h)))) none
    (.cons none (.sliceSl 1 (.loc 1) (some (.loc 0)) none none) none
    (.cons none (.clear (.cons (.int 3 0) .nil) 1 (.loc 0)) none
    .nil)))))
  (.seq (.region (.cons none (.mov (.var (.o .h))) none
    (.cons none (.mov (.var (.i (.i .h)))) none
    (.cons none (.sliceSl 1 (.loc 1) none (some (.loc 0)) none) none
    (.cons none (.mov (.loc 0)) (some (.o (.i .h)))
    .nil)))))
  .ret)))))),
  [.tmp (.o (.i .h))]⟩
theorem c73 : FnOk Try.prog 0 73 cf73 :=
  .of Try.func73 (n := 42) (by kernel_rfl) (far := fun t => Nat.testBit 537399539 t) (by kernel_rfl)
def cf74 : CFunc := ⟨(.seq (.region (.cons none (.mov (.lit (.bool false))) (some (.i (.o .h)))
    .nil))
  (.seq (.region (.cons none (.mov (.var (.o .h))) none
    (.cons none (.cmp .lss (.loc 0) (.lit (.int 3 1))) none
    (.cons none (.mov (.loc 0)) none
    (.cons (some (0, false)) (.mov (.var (.o .h))) none
    (.cons (some (1, false)) (.fieldAddr 0 (.var (.i .h))) none
    (.cons (some (2, false)) (.load1 (.loc 0)) none
    (.cons (some (3, false)) (.lenSl (.loc 0)) none
    (.cons (some (4, false)) (.cmp .gtr (.loc 3) (.loc 0)) none
    (.cons none (.pick (.loc 5) (.lit (.bool true)) (.loc 0)) none
    (.cons none (.mov (.loc 0)) none
    (.cons (some (0, false)) (.fieldAddr 0 (.var (.i .h))) none
    (.cons (some (1, false)) (.load1 (.loc 0)) none
    (.cons (some (2, false)) (.mov (.var (.o .h))) none
    (.cons (some (3, false)) (.arith .sub 3 (.loc 0) (.lit (.int 3 1))) none
    (.cons (some (4, false)) (.idxSl 5 (.loc 2) (.loc 0)) none
    (.cons (some (5, false)) (.fieldAddr 0 (.loc 0)) none
    (.cons (some (6, false)) (.load1 (.loc 0)) none
    (.cons (some (7, false)) (.cmp .eql (.loc 0) (.lit (.int 3 0))) none
    (.cons none (.pick (.loc 8) (.lit (.bool true)) (.loc 0)) none
    (.cons none (.mov (.loc 0)) (some (.i (.o .h)))
    .nil)))))))))))))))))))))
  .ret)),
  [.tmp (.i (.o .h))]⟩
theorem c74 : FnOk Try.prog 0 74 cf74 :=
  .of Try.func74 (n := 23) (by kernel_rfl) (far := fun t => Nat.testBit 11 t) (by kernel_rfl)
def cf75 : CFunc := ⟨(.seq (.region (.cons none (.mov (.lit (.int 3 0))) (some (.o (.i .h)))
    .nil))
  (.seq (.seq (.region (.cons none (.mov (.var (.o .h))) none
    (.cons none (.lenSl (.loc 0)) (some (.i (.o (.o .h))))
    (.cons none (.mov (.lit (.int 3 0))) (some (.o (.i (.o .h))))
    .nil))))
  (.block 0 (.loop (.seq (.region (.cons none (.cmp .lss (.var (.o (.i (.o .h)))) (.var (.i (.o (.o .h))))) (some (.i (.i (.o .h))))
    .nil))
  (.seq (.cond (.var (.i (.i (.o .h)))) .skip
  (.exit 0))
  (.seq (.block 1 (.seq (.region (.cons none (.mov (.var (.o (.i (.o .h))))) none
    (.cons none (.mov (.loc 0)) (some (.i (.i .h)))
    .nil)))
  (.seq (.region (.cons none (.mov (.var (.i .h))) none
    (.cons none (.mov (.var (.o .h))) none
    (.cons none (.mov (.var (.i (.i .h)))) none
    (.cons none (.idxSl 1 (.loc 1) (.loc 0)) none
    (.cons none (.load1 (.loc 0)) none
    (.cons none (.callV (.loc 4) (.cons (.loc 0) .nil)) (some (.o (.i (.o (.o .h)))))
    .nil)))))))
  (.cond (.var (.o (.i (.o (.o .h))))) (.seq (.region (.cons none (.mov (.var (.i (.i .h)))) none
    (.cons none (.mov (.loc 0)) (some (.o (.i .h)))
    .nil)))
  .ret)
  .skip))))
  (.region (.cons none (.arith .add 3 (.var (.o (.i (.o .h)))) (.lit (.int 3 1))) none
    (.cons none (.mov (.loc 0)) (some (.o (.i (.o .h))))
    .nil)))))))))
  (.seq (.region (.cons none (.mov (.lit (.int 3 (-1)))) (some (.o (.i .h)))
    .nil))
  .ret))),
  [.tmp (.o (.i .h))]⟩
theorem c75 : FnOk Try.prog 0 75 cf75 :=
  .of Try.func75 (n := 19) (by kernel_rfl) (far := fun t => Nat.testBit 66483 t) (by kernel_rfl)
def tree : Tr CFunc := (.nod (.nod (.nod (.nod (.val (.val (.val .leaf cf63 .leaf) cf31 .leaf) cf15 (.val .leaf cf47 .leaf)) (.val (.val (.val .leaf cf71 .leaf) cf39 .leaf) cf23 (.val .leaf cf55 .leaf))) (.nod (.val (.val (.val .leaf cf67 .leaf) cf35 .leaf) cf19 (.val .leaf cf51 .leaf)) (.val (.val (.val .leaf cf75 .leaf) cf43 .leaf) cf27 (.val .leaf cf59 .leaf)))) (.val (.val (.val (.val (.val .leaf cf65 .leaf) cf33 .leaf) cf17 .leaf) cf9 (.val (.val (.val .leaf cf73 .leaf) cf41 .leaf) cf25 (.val .leaf cf57 .leaf))) cf5 (.nod (.val (.val (.val .leaf cf69 .leaf) cf37 .leaf) cf21 (.val .leaf cf53 .leaf)) (.val (.val .leaf cf45 .leaf) cf29 (.val .leaf cf61 .leaf))))) (.nod (.nod (.nod (.nod (.val (.val .leaf cf64 .leaf) cf32 .leaf) (.val .leaf cf48 .leaf)) (.val (.val (.val .leaf cf72 .leaf) cf40 .leaf) cf24 (.val .leaf cf56 .leaf))) (.val (.val (.val (.val .leaf cf68 .leaf) cf36 .leaf) cf20 (.val .leaf cf52 .leaf)) cf12 (.val (.val .leaf cf44 .leaf) cf28 (.val .leaf cf60 .leaf)))) (.val (.nod (.val (.val (.val .leaf cf66 .leaf) cf34 .leaf) cf18 (.val .leaf cf50 .leaf)) (.val (.val (.val .leaf cf74 .leaf) cf42 .leaf) cf26 (.val .leaf cf58 .leaf))) cf6 (.val (.val (.val (.val .leaf cf70 .leaf) cf38 .leaf) cf22 (.val .leaf cf54 .leaf)) cf14 (.val (.val .leaf cf46 .leaf) cf30 (.val .leaf cf62 .leaf))))))
theorem table : TblOk Try.prog 0 (fun f => tree.get (key f)) :=
  .of (by kernel_rfl) ⟨⟨⟨⟨⟨⟨⟨trivial, c63, trivial⟩, c31, trivial⟩, c15, ⟨trivial, c47, trivial⟩⟩, ⟨⟨⟨trivial, c71, trivial⟩, c39, trivial⟩, c23, ⟨trivial, c55, trivial⟩⟩⟩, ⟨⟨⟨⟨trivial, c67, trivial⟩, c35, trivial⟩, c19, ⟨trivial, c51, trivial⟩⟩, ⟨⟨⟨trivial, c75, trivial⟩, c43, trivial⟩, c27, ⟨trivial, c59, trivial⟩⟩⟩⟩, ⟨⟨⟨⟨⟨trivial, c65, trivial⟩, c33, trivial⟩, c17, trivial⟩, c9, ⟨⟨⟨trivial, c73, trivial⟩, c41, trivial⟩, c25, ⟨trivial, c57, trivial⟩⟩⟩, c5, ⟨⟨⟨⟨trivial, c69, trivial⟩, c37, trivial⟩, c21, ⟨trivial, c53, trivial⟩⟩, ⟨⟨trivial, c45, trivial⟩, c29, ⟨trivial, c61, trivial⟩⟩⟩⟩⟩, ⟨⟨⟨⟨⟨⟨trivial, c64, trivial⟩, c32, trivial⟩, ⟨trivial, c48, trivial⟩⟩, ⟨⟨⟨trivial, c72, trivial⟩, c40, trivial⟩, c24, ⟨trivial, c56, trivial⟩⟩⟩, ⟨⟨⟨⟨trivial, c68, trivial⟩, c36, trivial⟩, c20, ⟨trivial, c52, trivial⟩⟩, c12, ⟨⟨trivial, c44, trivial⟩, c28, ⟨trivial, c60, trivial⟩⟩⟩⟩, ⟨⟨⟨⟨⟨trivial, c66, trivial⟩, c34, trivial⟩, c18, ⟨trivial, c50, trivial⟩⟩, ⟨⟨⟨trivial, c74, trivial⟩, c42, trivial⟩, c26, ⟨trivial, c58, trivial⟩⟩⟩, c6, ⟨⟨⟨⟨trivial, c70, trivial⟩, c38, trivial⟩, c22, ⟨trivial, c54, trivial⟩⟩, c14, ⟨⟨trivial, c46, trivial⟩, c30, ⟨trivial, c62, trivial⟩⟩⟩⟩⟩⟩
end Go.Proofs.Ytdpdkbkgomninaa
