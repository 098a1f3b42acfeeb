/- The functions that the statement reaches, compiled. Printed by a program of mine. -/
import Derived.Test.YthpnhdopheofcaaProg
import Derived.Test.YthpnhdopheofcaaDxClaim
import Derived.KernelRfl
namespace Go.Proofs.Ythpnhdopheofcaa
open Go.Dx
noncomputable section
-- tallow/tallowlaw19.MetaKnown
def cf11 : CFunc := ⟨(.seq (.region (.cons none (.mov (.lit (.bool false))) (some (.o .h))
    .nil))
  (.seq (.region (.cons none (.callF 40 .nil) none
    (.cons none (.mov (.loc 0)) (some (.i .h))
    .nil)))
  (.seq (.region (.cons none (.mov (.var (.i .h))) none
    (.cons none (.callF 56 (.cons (.loc 0) .nil)) none
    (.cons none (.mov (.loc 0)) (some (.o (.o .h)))
    .nil))))
  (.seq (.seq (.region (.cons none (.mov (.var (.o (.o .h)))) none
    (.cons none (.eq .ptr false (.loc 0) (.lit .nilptr)) (some (.o (.i (.o (.o (.o .h))))))
    .nil)))
  (.cond (.var (.o (.i (.o (.o (.o .h)))))) (.seq (.region (.cons none (.mov (.lit (.bool false))) (some (.o .h))
    .nil))
  .ret)
  .skip))
  (.seq (.region (.cons none (.mov (.var (.i .h))) none
    (.cons none (.callF 41 (.cons (.loc 0) .nil)) none
    (.cons none (.mov (.var (.i .h))) none
    (.cons none (.callF 41 (.cons (.loc 0) .nil)) none
    (.cons none (.mov (.var (.i .h))) none
    (.cons none (.callF 41 (.cons (.loc 0) .nil)) none
    (.cons none (.alloc (.cons (.int 3 0) (.cons (.int 3 0) .nil)) 2) (some (.i (.o .h)))
    (.cons none (.alloc (.cons (.int 3 0) (.cons (.int 3 0) .nil)) 2) (some (.o (.i .h)))
    (.cons none (.alloc (.cons (.int 3 0) (.cons (.int 3 0) .nil)) 2) (some (.i (.i .h)))
    (.cons none (.store 2 (.loc 2) (.loc 7)) none
    (.cons none (.store 2 (.loc 2) (.loc 6)) none
    (.cons none (.store 2 (.loc 2) (.loc 5)) none
    .nil)))))))))))))
  (.seq (.region (.cons none (.build (.cons (.int 3 0) (.cons (.int 3 0) .nil)) (.cons 0 1 (.lit (.int 3 2)) (.cons 1 1 (.lit (.int 3 1)) .nil))) none
    (.cons none (.alloc (.cons (.int 3 0) (.cons (.int 3 0) .nil)) 2) (some (.o (.o (.o .h))))
    (.cons none (.store 2 (.loc 0) (.loc 1)) none
    .nil))))
  (.seq (.region (.cons none (.mov (.var (.i .h))) none
    (.cons none (.loadN 2 (.var (.o (.i .h)))) none
    (.cons none (.callF 18 (.cons (.loc 1) (.cons (.loc 0) .nil))) none
    .nil))))
  (.seq (.region (.cons none (.mov (.var (.i .h))) none
    (.cons none (.loadN 2 (.var (.i (.i .h)))) none
    (.cons none (.callF 18 (.cons (.loc 1) (.cons (.loc 0) .nil))) none
    .nil))))
  (.seq (.seq (.draw (.cons none (.mov (.var (.i .h))) none (.light 0)
    (.cons none (.mov (.var (.o (.o .h)))) none (.light 0)
    (.cons none (.loadN 2 (.var (.o (.i .h)))) none (.light 0)
    (.cons none (.loadN 2 (.var (.i (.i .h)))) none (.light 0)
    (.cons none (.callF 57 (.cons (.loc 3) (.cons (.loc 2) (.cons (.loc 1) (.cons (.lit (.str 7 33888479228813151)) (.cons (.loc 0) .nil)))))) none .heavy
    (.cons none (.not (.loc 0)) none (.light 0)
    (.cons none (.mov (.loc 0)) none (.light 0)
    (.cons (some (0, false)) (.callF 58 (.cons (.lit (.int 3 1)) .nil)) none .heavy
    (.cons (some (1, false)) (.callF 58 (.cons (.lit (.int 3 7)) .nil)) none .heavy
    (.cons (some (2, false)) (.mov (.var (.i .h))) none (.light 2)
    (.cons (some (3, false)) (.loadN 2 (.var (.i (.i .h)))) none (.light 2)
    (.cons (some (4, false)) (.callF 62 (.cons (.loc 1) (.cons (.loc 0) (.cons (.loc 3) (.cons (.loc 2) .nil))))) none .heavy
    (.cons (some (5, false)) (.not (.loc 0)) none (.light 0)
    (.cons none (.pick (.loc 6) (.lit (.bool true)) (.loc 0)) none (.light 0)
    (.cons none (.mov (.loc 0)) none (.light 0)
    (.cons (some (0, false)) (.callF 58 (.cons (.lit (.int 3 5)) .nil)) none .heavy
    (.cons (some (1, false)) (.mov (.var (.i .h))) none (.light 1)
    (.cons (some (2, false)) (.mov (.var (.o (.o .h)))) none (.light 1)
    (.cons (some (3, false)) (.loadN 2 (.var (.i (.i .h)))) none (.light 1)
    (.cons (some (4, false)) (.callF 57 (.cons (.loc 2) (.cons (.loc 1) (.cons (.loc 0) (.cons (.lit (.str 7 33888479228813151)) (.cons (.loc 3) .nil)))))) none .heavy
    (.cons (some (5, false)) (.not (.loc 0)) none (.light 0)
    (.cons none (.pick (.loc 6) (.lit (.bool true)) (.loc 0)) none (.light 0)
    (.cons none (.mov (.loc 0)) none (.light 0)
    (.cons (some (0, false)) (.mov (.var (.i .h))) none (.light 0)
    (.cons (some (1, false)) (.mov (.var (.o (.o .h)))) none (.light 0)
    (.cons (some (2, false)) (.loadN 2 (.var (.i (.i .h)))) none (.light 0)
    (.cons (some (3, false)) (.loadN 2 (.var (.o (.o (.o .h))))) none (.light 0)
    (.cons (some (4, false)) (.callF 57 (.cons (.loc 3) (.cons (.loc 2) (.cons (.loc 1) (.cons (.lit (.str 4 1667719007)) (.cons (.loc 0) .nil)))))) none .heavy
    (.cons (some (5, false)) (.not (.loc 0)) none (.light 0)
    (.cons none (.pick (.loc 6) (.lit (.bool true)) (.loc 0)) none (.light 0)
    (.cons none (.mov (.loc 0)) none (.light 0)
    (.cons (some (0, false)) (.mov (.var (.i .h))) none (.light 0)
    (.cons (some (1, false)) (.mov (.var (.o (.o .h)))) none (.light 0)
    (.cons (some (2, false)) (.loadN 2 (.var (.i (.o .h)))) none (.light 0)
    (.cons (some (3, false)) (.loadN 2 (.var (.o (.i .h)))) none (.light 0)
    (.cons (some (4, false)) (.callF 60 (.cons (.loc 3) (.cons (.loc 2) (.cons (.loc 1) (.cons (.loc 0) .nil))))) none .heavy
    (.cons (some (5, false)) (.cmp .neq (.loc 0) (.lit (.int 3 0))) none (.light 0)
    (.cons none (.pick (.loc 6) (.lit (.bool true)) (.loc 0)) none (.light 0)
    (.cons none (.mov (.loc 0)) none (.light 0)
    (.cons (some (0, false)) (.mov (.var (.i .h))) none (.light 0)
    (.cons (some (1, false)) (.mov (.var (.o (.o .h)))) none (.light 0)
    (.cons (some (2, false)) (.loadN 2 (.var (.o (.i .h)))) none (.light 0)
    (.cons (some (3, false)) (.loadN 2 (.var (.i (.i .h)))) none (.light 0)
    (.cons (some (4, false)) (.callF 60 (.cons (.loc 3) (.cons (.loc 2) (.cons (.loc 1) (.cons (.loc 0) .nil))))) none .heavy
    (.cons (some (5, false)) (.cmp .neq (.loc 0) (.lit (.int 3 0))) none (.light 0)
    (.cons none (.pick (.loc 6) (.lit (.bool true)) (.loc 0)) (some (.i (.o (.i (.i (.i (.o .h))))))) (.light 0)
    .nil)))))))))))))))))))))))))))))))))))))))))))))) 0)
  (.cond (.var (.i (.o (.i (.i (.i (.o .h))))))) (.seq (.region (.cons none (.mov (.lit (.bool false))) (some (.o .h))
    .nil))
  .ret)
  .skip))
  (.seq (.seq (.draw (.cons none (.mov (.var (.i .h))) none (.light 0)
    (.cons none (.mov (.var (.o (.o .h)))) none (.light 0)
    (.cons none (.loadN 2 (.var (.i (.o .h)))) none (.light 0)
    (.cons none (.callF 63 (.cons (.loc 2) (.cons (.loc 1) (.cons (.loc 0) (.cons (.lit (.str 7 33888479228813151)) .nil))))) none .heavy
    (.cons none (.loadN 2 (.var (.i (.i .h)))) none (.light 1)
    (.cons none (.eq (.flat [.int, .int]) true (.loc 1) (.loc 0)) none (.light 0)
    (.cons none (.mov (.loc 0)) none (.light 0)
    (.cons (some (0, false)) (.mov (.var (.i .h))) none (.light 0)
    (.cons (some (1, false)) (.mov (.var (.o (.o .h)))) none (.light 0)
    (.cons (some (2, false)) (.loadN 2 (.var (.o (.i .h)))) none (.light 0)
    (.cons (some (3, false)) (.callF 63 (.cons (.loc 2) (.cons (.loc 1) (.cons (.loc 0) (.cons (.lit (.str 4 1667719007)) .nil))))) none .heavy
    (.cons (some (4, false)) (.loadN 2 (.var (.o (.o (.o .h))))) none (.light 1)
    (.cons (some (5, false)) (.eq (.flat [.int, .int]) true (.loc 1) (.loc 0)) none (.light 0)
    (.cons none (.pick (.loc 6) (.lit (.bool true)) (.loc 0)) none (.light 0)
    (.cons none (.mov (.loc 0)) none (.light 0)
    (.cons (some (0, false)) (.mov (.var (.i .h))) none (.light 0)
    (.cons (some (1, false)) (.mov (.var (.o (.o .h)))) none (.light 0)
    (.cons (some (2, false)) (.loadN 2 (.var (.i (.i .h)))) none (.light 0)
    (.cons (some (3, false)) (.callF 63 (.cons (.loc 2) (.cons (.loc 1) (.cons (.loc 0) (.cons (.lit (.str 4 1667719007)) .nil))))) none .heavy
    (.cons (some (4, false)) (.callF 59 .nil) none .heavy
    (.cons (some (5, false)) (.eq (.flat [.int, .int]) true (.loc 1) (.loc 0)) none (.light 0)
    (.cons none (.pick (.loc 6) (.lit (.bool true)) (.loc 0)) none (.light 0)
    (.cons none (.mov (.loc 0)) none (.light 0)
    (.cons (some (0, false)) (.mov (.var (.i .h))) none (.light 0)
    (.cons (some (1, false)) (.mov (.var (.o (.o .h)))) none (.light 0)
    (.cons (some (2, false)) (.loadN 2 (.var (.i (.o .h)))) none (.light 0)
    (.cons (some (3, false)) (.callF 63 (.cons (.loc 2) (.cons (.loc 1) (.cons (.loc 0) (.cons (.lit (.str 5 491327616111)) .nil))))) none .heavy
    (.cons (some (4, false)) (.callF 59 .nil) none .heavy
    (.cons (some (5, false)) (.eq (.flat [.int, .int]) true (.loc 1) (.loc 0)) none (.light 0)
    (.cons none (.pick (.loc 6) (.lit (.bool true)) (.loc 0)) none (.light 0)
    (.cons none (.mov (.loc 0)) none (.light 0)
    (.cons (some (0, false)) (.callF 58 (.cons (.lit (.int 3 1)) .nil)) none .heavy
    (.cons (some (1, false)) (.mov (.var (.i .h))) none (.light 1)
    (.cons (some (2, false)) (.mov (.var (.o (.o .h)))) none (.light 1)
    (.cons (some (3, false)) (.callF 63 (.cons (.loc 1) (.cons (.loc 0) (.cons (.loc 2) (.cons (.lit (.str 4 1667719007)) .nil))))) none .heavy
    (.cons (some (4, false)) (.callF 59 .nil) none .heavy
    (.cons (some (5, false)) (.eq (.flat [.int, .int]) true (.loc 1) (.loc 0)) none (.light 0)
    (.cons none (.pick (.loc 6) (.lit (.bool true)) (.loc 0)) (some (.i (.i (.o (.o (.o (.o (.o .h)))))))) (.light 0)
    .nil)))))))))))))))))))))))))))))))))))))) 0)
  (.cond (.var (.i (.i (.o (.o (.o (.o (.o .h)))))))) (.seq (.region (.cons none (.mov (.lit (.bool false))) (some (.o .h))
    .nil))
  .ret)
  .skip))
  (.seq (.seq (.region (.cons none (.mov (.var (.i .h))) none
    (.cons none (.fieldAddr 1 (.var (.i (.o .h)))) none
    (.cons none (.load1 (.loc 0)) none
    (.cons none (.callF 25 (.cons (.loc 2) (.cons (.loc 0) .nil))) none
    (.cons none (.field1 4 (.loc 0)) none
    (.cons none (.cmp .neq (.loc 0) (.lit (.int 3 0))) none
    (.cons none (.mov (.loc 0)) none
    (.cons (some (0, false)) (.mov (.var (.i .h))) none
    (.cons (some (1, false)) (.fieldAddr 1 (.var (.o (.i .h)))) none
    (.cons (some (2, false)) (.load1 (.loc 0)) none
    (.cons (some (3, false)) (.callF 25 (.cons (.loc 2) (.cons (.loc 0) .nil))) none
    (.cons (some (4, false)) (.field1 4 (.loc 0)) none
    (.cons (some (5, false)) (.cmp .neq (.loc 0) (.lit (.int 3 1))) none
    (.cons none (.pick (.loc 6) (.lit (.bool true)) (.loc 0)) (some (.i (.o (.o (.o (.i (.o (.o .h))))))))
    .nil)))))))))))))))
  (.cond (.var (.i (.o (.o (.o (.i (.o (.o .h)))))))) (.seq (.region (.cons none (.mov (.lit (.bool false))) (some (.o .h))
    .nil))
  .ret)
  .skip))
  (.seq (.draw (.cons none (.callF 58 (.cons (.lit (.int 3 1)) .nil)) none .heavy
    (.cons none (.mov (.var (.i .h))) none (.light 1)
    (.cons none (.mov (.var (.o (.o .h)))) none (.light 1)
    (.cons none (.loadN 2 (.var (.i (.o .h)))) none (.light 1)
    (.cons none (.callF 64 (.cons (.loc 2) (.cons (.loc 1) (.cons (.loc 0) (.cons (.loc 3) .nil))))) none .heavy
    (.cons none (.mov (.loc 0)) none (.light 0)
    (.cons none (.extract 0 (.loc 0)) none (.light 0)
    (.cons none (.alloc (.cons (.int 3 0) (.cons (.int 3 0) .nil)) 2) (some (.i (.o (.o .h)))) .float
    (.cons none (.store 2 (.loc 0) (.loc 1)) none .heavy
    (.cons none (.extract 1 (.loc 3)) none (.light 1)
    (.cons none (.mov (.loc 0)) (some (.o (.i (.o .h)))) (.light 0)
    .nil))))))))))) 1)
  (.seq (.draw (.cons none (.callF 58 (.cons (.lit (.int 3 2)) .nil)) none .heavy
    (.cons none (.mov (.var (.i .h))) none (.light 1)
    (.cons none (.mov (.var (.o (.o .h)))) none (.light 1)
    (.cons none (.loadN 2 (.var (.i (.o .h)))) none (.light 1)
    (.cons none (.callF 64 (.cons (.loc 2) (.cons (.loc 1) (.cons (.loc 0) (.cons (.loc 3) .nil))))) none .heavy
    (.cons none (.mov (.loc 0)) none (.light 0)
    (.cons none (.extract 0 (.loc 0)) none (.light 0)
    (.cons none (.alloc (.cons (.int 3 0) (.cons (.int 3 0) .nil)) 2) (some (.i (.i (.o .h)))) .float
    (.cons none (.store 2 (.loc 0) (.loc 1)) none .heavy
    (.cons none (.extract 1 (.loc 3)) none (.light 1)
    (.cons none (.mov (.loc 0)) (some (.o (.o (.i .h)))) (.light 0)
    .nil))))))))))) 1)
  (.seq (.draw (.cons none (.callF 58 (.cons (.lit (.int 3 1)) .nil)) none .heavy
    (.cons none (.mov (.var (.i .h))) none (.light 1)
    (.cons none (.mov (.var (.o (.o .h)))) none (.light 1)
    (.cons none (.loadN 2 (.var (.o (.i .h)))) none (.light 1)
    (.cons none (.callF 64 (.cons (.loc 2) (.cons (.loc 1) (.cons (.loc 0) (.cons (.loc 3) .nil))))) none .heavy
    (.cons none (.mov (.loc 0)) none (.light 0)
    (.cons none (.extract 0 (.loc 0)) none (.light 0)
    (.cons none (.alloc (.cons (.int 3 0) (.cons (.int 3 0) .nil)) 2) (some (.i (.o (.i .h)))) .float
    (.cons none (.store 2 (.loc 0) (.loc 1)) none .heavy
    (.cons none (.extract 1 (.loc 3)) none (.light 1)
    (.cons none (.mov (.loc 0)) (some (.o (.i (.i .h)))) (.light 0)
    .nil))))))))))) 1)
  (.seq (.region (.cons none (.mov (.var (.i .h))) none
    (.cons none (.mov (.var (.o (.o .h)))) none
    (.cons none (.callF 58 (.cons (.lit (.int 3 7)) .nil)) none
    (.cons none (.callF 58 (.cons (.lit (.int 3 1)) .nil)) none
    (.cons none (.callF 64 (.cons (.loc 3) (.cons (.loc 2) (.cons (.loc 1) (.cons (.loc 0) .nil))))) none
    (.cons none (.mov (.loc 0)) none
    (.cons none (.extract 0 (.loc 0)) none
    (.cons none (.extract 1 (.loc 1)) none
    (.cons none (.alloc (.cons (.int 3 0) (.cons (.int 3 0) .nil)) 2) none
    (.cons none (.store 2 (.loc 0) (.loc 2)) none
    (.cons none (.mov (.loc 2)) (some (.o (.o (.o (.o .h)))))
    .nil))))))))))))
  (.seq (.seq (.draw (.cons none (.callF 58 (.cons (.lit (.int 3 7)) .nil)) none .heavy
    (.cons none (.loadN 2 (.var (.i (.o (.o .h))))) none (.light 1)
    (.cons none (.eq (.flat [.int, .int]) true (.loc 0) (.loc 1)) none (.light 0)
    (.cons none (.mov (.loc 0)) none (.light 0)
    (.cons (some (0, false)) (.mov (.var (.o (.i (.o .h))))) none (.light 0)
    (.cons (some (1, false)) (.cmp .neq (.loc 0) (.lit (.int 3 0))) none (.light 0)
    (.cons none (.pick (.loc 2) (.lit (.bool true)) (.loc 0)) none (.light 0)
    (.cons none (.mov (.loc 0)) none (.light 0)
    (.cons (some (0, false)) (.callF 59 .nil) none .heavy
    (.cons (some (1, false)) (.loadN 2 (.var (.i (.i (.o .h))))) none (.light 1)
    (.cons (some (2, false)) (.eq (.flat [.int, .int]) true (.loc 0) (.loc 1)) none (.light 0)
    (.cons none (.pick (.loc 3) (.lit (.bool true)) (.loc 0)) none (.light 0)
    (.cons none (.mov (.loc 0)) none (.light 0)
    (.cons (some (0, false)) (.mov (.var (.o (.o (.i .h))))) none (.light 0)
    (.cons (some (1, false)) (.cmp .neq (.loc 0) (.lit (.int 3 0))) none (.light 0)
    (.cons none (.pick (.loc 2) (.lit (.bool true)) (.loc 0)) none (.light 0)
    (.cons none (.mov (.loc 0)) none (.light 0)
    (.cons (some (0, false)) (.callF 59 .nil) none .heavy
    (.cons (some (1, false)) (.loadN 2 (.var (.i (.o (.i .h))))) none (.light 1)
    (.cons (some (2, false)) (.eq (.flat [.int, .int]) true (.loc 0) (.loc 1)) none (.light 0)
    (.cons none (.pick (.loc 3) (.lit (.bool true)) (.loc 0)) none (.light 0)
    (.cons none (.mov (.loc 0)) none (.light 0)
    (.cons (some (0, false)) (.mov (.var (.o (.i (.i .h))))) none (.light 0)
    (.cons (some (1, false)) (.cmp .neq (.loc 0) (.lit (.int 3 0))) none (.light 0)
    (.cons none (.pick (.loc 2) (.lit (.bool true)) (.loc 0)) none (.light 0)
    (.cons none (.mov (.loc 0)) none (.light 0)
    (.cons (some (0, false)) (.mov (.var (.o (.o (.o (.o .h)))))) none (.light 0)
    (.cons (some (1, false)) (.cmp .neq (.loc 0) (.lit (.int 3 7))) none (.light 0)
    (.cons none (.pick (.loc 2) (.lit (.bool true)) (.loc 0)) (some (.o (.i (.i (.i (.o (.o (.i .h)))))))) (.light 0)
    .nil))))))))))))))))))))))))))))) 0)
  (.cond (.var (.o (.i (.i (.i (.o (.o (.i .h)))))))) (.seq (.region (.cons none (.mov (.lit (.bool false))) (some (.o .h))
    .nil))
  .ret)
  .skip))
  (.seq (.region (.cons none (.mov (.var (.i .h))) none
    (.cons none (.loadN 2 (.var (.i (.i .h)))) none
    (.cons none (.callF 18 (.cons (.loc 1) (.cons (.loc 0) .nil))) none
    .nil))))
  (.seq (.seq (.draw (.cons none (.mov (.var (.i .h))) none (.light 0)
    (.cons none (.mov (.var (.o (.o .h)))) none (.light 0)
    (.cons none (.loadN 2 (.var (.i (.o .h)))) none (.light 0)
    (.cons none (.loadN 2 (.var (.i (.i .h)))) none (.light 0)
    (.cons none (.callF 60 (.cons (.loc 3) (.cons (.loc 2) (.cons (.loc 1) (.cons (.loc 0) .nil))))) none .heavy
    (.cons none (.cmp .neq (.loc 0) (.lit (.int 3 0))) none (.light 0)
    (.cons none (.mov (.loc 0)) none (.light 0)
    (.cons (some (0, false)) (.mov (.var (.i .h))) none (.light 0)
    (.cons (some (1, false)) (.fieldAddr 1 (.var (.i (.o .h)))) none (.light 0)
    (.cons (some (2, false)) (.load1 (.loc 0)) none (.light 0)
    (.cons (some (3, false)) (.callF 25 (.cons (.loc 2) (.cons (.loc 0) .nil))) none .heavy
    (.cons (some (4, false)) (.field1 4 (.loc 0)) none (.light 0)
    (.cons (some (5, false)) (.cmp .neq (.loc 0) (.lit (.int 3 2))) none (.light 0)
    (.cons none (.pick (.loc 6) (.lit (.bool true)) (.loc 0)) none (.light 0)
    (.cons none (.mov (.loc 0)) none (.light 0)
    (.cons (some (0, false)) (.callF 59 .nil) none .heavy
    (.cons (some (1, false)) (.mov (.var (.i .h))) none (.light 1)
    (.cons (some (2, false)) (.mov (.var (.o (.o .h)))) none (.light 1)
    (.cons (some (3, false)) (.loadN 2 (.var (.i (.o .h)))) none (.light 1)
    (.cons (some (4, false)) (.callF 60 (.cons (.loc 2) (.cons (.loc 1) (.cons (.loc 0) (.cons (.loc 3) .nil))))) none .heavy
    (.cons (some (5, false)) (.cmp .neq (.loc 0) (.lit (.int 3 0))) none (.light 0)
    (.cons none (.pick (.loc 6) (.lit (.bool true)) (.loc 0)) none (.light 0)
    (.cons none (.mov (.loc 0)) none (.light 0)
    (.cons (some (0, false)) (.mov (.var (.i .h))) none (.light 0)
    (.cons (some (1, false)) (.fieldAddr 1 (.var (.i (.o .h)))) none (.light 0)
    (.cons (some (2, false)) (.load1 (.loc 0)) none (.light 0)
    (.cons (some (3, false)) (.callF 25 (.cons (.loc 2) (.cons (.loc 0) .nil))) none .heavy
    (.cons (some (4, false)) (.field1 4 (.loc 0)) none (.light 0)
    (.cons (some (5, false)) (.cmp .neq (.loc 0) (.lit (.int 3 2))) none (.light 0)
    (.cons none (.pick (.loc 6) (.lit (.bool true)) (.loc 0)) none (.light 0)
    (.cons none (.mov (.loc 0)) none (.light 0)
    (.cons (some (0, false)) (.callF 58 (.cons (.lit (.int 3 1)) .nil)) none .heavy
    (.cons (some (1, false)) (.mov (.var (.i .h))) none (.light 1)
    (.cons (some (2, false)) (.mov (.var (.o (.o .h)))) none (.light 1)
    (.cons (some (3, false)) (.loadN 2 (.var (.i (.o .h)))) none (.light 1)
    (.cons (some (4, false)) (.callF 60 (.cons (.loc 2) (.cons (.loc 1) (.cons (.loc 0) (.cons (.loc 3) .nil))))) none .heavy
    (.cons (some (5, false)) (.cmp .neq (.loc 0) (.lit (.int 3 7))) none (.light 0)
    (.cons none (.pick (.loc 6) (.lit (.bool true)) (.loc 0)) none (.light 0)
    (.cons none (.mov (.loc 0)) none (.light 0)
    (.cons (some (0, false)) (.callF 58 (.cons (.lit (.int 3 1)) .nil)) none .heavy
    (.cons (some (1, false)) (.callF 59 .nil) none .heavy
    (.cons (some (2, false)) (.mov (.var (.i .h))) none (.light 2)
    (.cons (some (3, false)) (.mov (.var (.o (.o .h)))) none (.light 2)
    (.cons (some (4, false)) (.callF 60 (.cons (.loc 1) (.cons (.loc 0) (.cons (.loc 3) (.cons (.loc 2) .nil))))) none .heavy
    (.cons (some (5, false)) (.cmp .neq (.loc 0) (.lit (.int 3 7))) none (.light 0)
    (.cons none (.pick (.loc 6) (.lit (.bool true)) (.loc 0)) (some (.i (.i (.i (.i (.i (.i (.i .h)))))))) (.light 0)
    .nil)))))))))))))))))))))))))))))))))))))))))))))) 0)
  (.cond (.var (.i (.i (.i (.i (.i (.i (.i .h)))))))) (.seq (.region (.cons none (.mov (.lit (.bool false))) (some (.o .h))
    .nil))
  .ret)
  .skip))
  (.seq (.region (.cons none (.mov (.var (.i .h))) none
    (.cons none (.loadN 2 (.var (.i (.i .h)))) none
    (.cons none (.callF 18 (.cons (.loc 1) (.cons (.loc 0) .nil))) none
    .nil))))
  (.seq (.region (.cons none (.mov (.var (.i .h))) none
    (.cons none (.loadN 2 (.var (.i (.i .h)))) none
    (.cons none (.callF 18 (.cons (.loc 1) (.cons (.loc 0) .nil))) none
    .nil))))
  (.seq (.seq (.draw (.cons none (.mov (.var (.i .h))) none (.light 0)
    (.cons none (.mov (.var (.o (.o .h)))) none (.light 0)
    (.cons none (.loadN 2 (.var (.i (.i .h)))) none (.light 0)
    (.cons none (.loadN 2 (.var (.i (.i .h)))) none (.light 0)
    (.cons none (.callF 60 (.cons (.loc 3) (.cons (.loc 2) (.cons (.loc 1) (.cons (.loc 0) .nil))))) none .heavy
    (.cons none (.cmp .neq (.loc 0) (.lit (.int 3 0))) none (.light 0)
    (.cons none (.mov (.loc 0)) none (.light 0)
    (.cons (some (0, false)) (.mov (.var (.o (.o .h)))) none (.light 0)
    (.cons (some (1, false)) (.callF 65 (.cons (.loc 0) (.cons (.lit (.str 7 33888479228813151)) .nil))) none .heavy
    (.cons (some (2, false)) (.mov (.var (.i .h))) none (.light 1)
    (.cons (some (3, false)) (.loadN 2 (.var (.i (.i .h)))) none (.light 1)
    (.cons (some (4, false)) (.loadN 2 (.var (.i (.i .h)))) none (.light 1)
    (.cons (some (5, false)) (.callF 44 (.cons (.loc 2) (.cons (.loc 1) (.cons (.loc 3) (.cons (.loc 0) .nil))))) none .heavy
    (.cons (some (6, false)) (.cmp .neq (.loc 0) (.lit (.int 3 0))) none (.light 0)
    (.cons none (.pick (.loc 7) (.lit (.bool true)) (.loc 0)) none (.light 0)
    (.cons none (.mov (.loc 0)) none (.light 0)
    (.cons (some (0, false)) (.mov (.var (.i .h))) none (.light 0)
    (.cons (some (1, false)) (.fieldAddr 1 (.var (.i (.i .h)))) none (.light 0)
    (.cons (some (2, false)) (.load1 (.loc 0)) none (.light 0)
    (.cons (some (3, false)) (.callF 25 (.cons (.loc 2) (.cons (.loc 0) .nil))) none .heavy
    (.cons (some (4, false)) (.field1 4 (.loc 0)) none (.light 0)
    (.cons (some (5, false)) (.cmp .neq (.loc 0) (.lit (.int 3 3))) none (.light 0)
    (.cons none (.pick (.loc 6) (.lit (.bool true)) (.loc 0)) (some (.o (.o (.i (.i (.i (.o (.o (.o .h))))))))) (.light 0)
    .nil))))))))))))))))))))))) 0)
  (.cond (.var (.o (.o (.i (.i (.i (.o (.o (.o .h))))))))) (.seq (.region (.cons none (.mov (.lit (.bool false))) (some (.o .h))
    .nil))
  .ret)
  .skip))
  (.seq (.draw (.cons none (.callF 58 (.cons (.lit (.int 3 2)) .nil)) none .heavy
    (.cons none (.mov (.var (.i .h))) none (.light 1)
    (.cons none (.mov (.var (.o (.o .h)))) none (.light 1)
    (.cons none (.loadN 2 (.var (.i (.i .h)))) none (.light 1)
    (.cons none (.callF 64 (.cons (.loc 2) (.cons (.loc 1) (.cons (.loc 0) (.cons (.loc 3) .nil))))) none .heavy
    (.cons none (.mov (.loc 0)) none (.light 0)
    (.cons none (.extract 0 (.loc 0)) none (.light 0)
    (.cons none (.alloc (.cons (.int 3 0) (.cons (.int 3 0) .nil)) 2) none .float
    (.cons none (.store 2 (.loc 0) (.loc 1)) none .heavy
    (.cons none (.extract 1 (.loc 3)) none (.light 1)
    (.cons none (.mov (.loc 0)) (some (.o (.i (.o (.o .h))))) (.light 0)
    .nil))))))))))) 1)
  (.seq (.draw (.cons none (.callF 58 (.cons (.lit (.int 3 2)) .nil)) none .heavy
    (.cons none (.mov (.var (.o (.o .h)))) none (.light 1)
    (.cons none (.loadN 2 (.var (.i (.i .h)))) none (.light 1)
    (.cons none (.callF 64 (.cons (.lit .nilptr) (.cons (.loc 1) (.cons (.loc 0) (.cons (.loc 2) .nil))))) none .heavy
    (.cons none (.mov (.loc 0)) none (.light 0)
    (.cons none (.extract 0 (.loc 0)) none (.light 0)
    (.cons none (.alloc (.cons (.int 3 0) (.cons (.int 3 0) .nil)) 2) none .float
    (.cons none (.store 2 (.loc 0) (.loc 1)) none .heavy
    (.cons none (.extract 1 (.loc 3)) none (.light 1)
    (.cons none (.mov (.loc 0)) (some (.o (.o (.i (.o .h))))) (.light 0)
    .nil)))))))))) 1)
  (.seq (.draw (.cons none (.callF 58 (.cons (.lit (.int 3 1)) .nil)) none .heavy
    (.cons none (.mov (.var (.i .h))) none (.light 1)
    (.cons none (.mov (.var (.o (.o .h)))) none (.light 1)
    (.cons none (.loadN 2 (.var (.i (.i .h)))) none (.light 1)
    (.cons none (.callF 64 (.cons (.loc 2) (.cons (.loc 1) (.cons (.loc 0) (.cons (.loc 3) .nil))))) none .heavy
    (.cons none (.mov (.loc 0)) none (.light 0)
    (.cons none (.extract 0 (.loc 0)) none (.light 0)
    (.cons none (.alloc (.cons (.int 3 0) (.cons (.int 3 0) .nil)) 2) (some (.i (.o (.i (.o .h))))) .float
    (.cons none (.store 2 (.loc 0) (.loc 1)) none .heavy
    (.cons none (.extract 1 (.loc 3)) none (.light 1)
    (.cons none (.mov (.loc 0)) (some (.o (.i (.i (.o .h))))) (.light 0)
    .nil))))))))))) 1)
  (.seq (.region (.cons none (.mov (.var (.i .h))) none
    (.cons none (.callF 41 (.cons (.loc 0) .nil)) none
    (.cons none (.alloc (.cons (.int 3 0) (.cons (.int 3 0) .nil)) 2) (some (.i (.i (.i (.o .h)))))
    (.cons none (.store 2 (.loc 0) (.loc 1)) none
    .nil)))))
  (.seq (.seq (.draw (.cons none (.callF 58 (.cons (.lit (.int 3 1)) .nil)) none .heavy
    (.cons none (.callF 58 (.cons (.lit (.int 3 9)) .nil)) none .heavy
    (.cons none (.mov (.var (.i .h))) none (.light 2)
    (.cons none (.loadN 2 (.var (.i (.i (.i (.o .h)))))) none (.light 2)
    (.cons none (.callF 62 (.cons (.loc 1) (.cons (.loc 0) (.cons (.loc 3) (.cons (.loc 2) .nil))))) none .heavy
    (.cons none (.not (.loc 0)) (some (.i (.i (.o (.i (.i (.i (.o (.o .h))))))))) (.light 0)
    .nil)))))) 0)
  (.cond (.var (.i (.i (.o (.i (.i (.i (.o (.o .h))))))))) (.seq (.region (.cons none (.mov (.lit (.bool false))) (some (.o .h))
    .nil))
  .ret)
  .skip))
  (.seq (.seq (.region (.cons none (.mov (.lit (.int 3 1))) (some (.o (.o (.o (.i .h)))))
    .nil))
  (.block 0 (.loop (.seq (.seq (.region (.cons none (.mov (.var (.o (.o (.o (.i .h)))))) none
    (.cons none (.cmp .leq (.loc 0) (.lit (.int 3 51))) (some (.i (.o (.i (.i (.i (.i (.o (.o .h)))))))))
    .nil)))
  (.cond (.var (.i (.o (.i (.i (.i (.i (.o (.o .h))))))))) .skip
  (.exit 0)))
  (.seq (.block 1 (.seq (.region (.cons none (.mov (.var (.i .h))) none
    (.cons none (.callF 41 (.cons (.loc 0) .nil)) none
    (.cons none (.alloc (.cons (.int 3 0) (.cons (.int 3 0) .nil)) 2) (some (.i (.o (.o (.i .h)))))
    (.cons none (.store 2 (.loc 0) (.loc 1)) none
    .nil)))))
  (.seq (.region (.cons none (.mov (.var (.i .h))) none
    (.cons none (.loadN 2 (.var (.i (.o (.o (.i .h)))))) none
    (.cons none (.callF 18 (.cons (.loc 1) (.cons (.loc 0) .nil))) none
    .nil))))
  (.seq (.seq (.region (.cons none (.mov (.var (.i .h))) none
    (.cons none (.mov (.var (.o (.o .h)))) none
    (.cons none (.loadN 2 (.var (.i (.o (.o (.i .h)))))) none
    (.cons none (.loadN 2 (.var (.i (.i (.i (.o .h)))))) none
    (.cons none (.callF 57 (.cons (.loc 3) (.cons (.loc 2) (.cons (.loc 1) (.cons (.lit (.str 7 33888479228813151)) (.cons (.loc 0) .nil)))))) none
    (.cons none (.not (.loc 0)) none
    (.cons none (.mov (.loc 0)) none
    (.cons (some (0, false)) (.mov (.var (.i .h))) none
    (.cons (some (1, false)) (.mov (.var (.o (.o .h)))) none
    (.cons (some (2, false)) (.loadN 2 (.var (.i (.o (.o (.i .h)))))) none
    (.cons (some (3, false)) (.loadN 2 (.var (.i (.o (.o (.i .h)))))) none
    (.cons (some (4, false)) (.callF 60 (.cons (.loc 3) (.cons (.loc 2) (.cons (.loc 1) (.cons (.loc 0) .nil))))) none
    (.cons (some (5, false)) (.cmp .neq (.loc 0) (.lit (.int 3 0))) none
    (.cons none (.pick (.loc 6) (.lit (.bool true)) (.loc 0)) (some (.o (.i (.o (.o (.i (.o (.i (.o .h)))))))))
    .nil)))))))))))))))
  (.cond (.var (.o (.i (.o (.o (.i (.o (.i (.o .h))))))))) (.seq (.region (.cons none (.mov (.lit (.bool false))) (some (.o .h))
    .nil))
  .ret)
  .skip))
  (.seq (.region (.cons none (.loadN 2 (.var (.i (.o (.o (.i .h)))))) none
    (.cons none (.store 2 (.var (.i (.i (.i (.o .h))))) (.loc 0)) none
    .nil)))
  (.seq (.draw (.cons none (.callF 58 (.cons (.lit (.int 3 1)) .nil)) none .heavy
    (.cons none (.mov (.var (.i .h))) none (.light 1)
    (.cons none (.mov (.var (.o (.o .h)))) none (.light 1)
    (.cons none (.loadN 2 (.var (.i (.i (.i (.o .h)))))) none (.light 1)
    (.cons none (.callF 64 (.cons (.loc 2) (.cons (.loc 1) (.cons (.loc 0) (.cons (.loc 3) .nil))))) none .heavy
    (.cons none (.mov (.loc 0)) none (.light 0)
    (.cons none (.extract 0 (.loc 0)) none (.light 0)
    (.cons none (.alloc (.cons (.int 3 0) (.cons (.int 3 0) .nil)) 2) (some (.o (.i (.o (.i .h))))) .float
    (.cons none (.store 2 (.loc 0) (.loc 1)) none .heavy
    (.cons none (.extract 1 (.loc 3)) none (.light 1)
    (.cons none (.mov (.loc 0)) (some (.i (.i (.o (.i .h))))) (.light 0)
    .nil))))))))))) 1)
  (.seq (.draw (.cons none (.mov (.var (.o (.o (.o (.i .h)))))) none (.light 0)
    (.cons none (.cmp .leq (.loc 0) (.lit (.int 3 50))) none (.light 0)
    (.cons none (.mov (.loc 0)) none (.light 0)
    (.cons (some (0, true)) (.callF 58 (.cons (.lit (.int 3 9)) .nil)) none .heavy
    (.cons (some (1, true)) (.loadN 2 (.var (.o (.i (.o (.i .h)))))) none (.light 1)
    (.cons (some (2, true)) (.eq (.flat [.int, .int]) true (.loc 0) (.loc 1)) none (.light 0)
    (.cons (some (3, true)) (.mov (.loc 0)) none (.light 0)
    (.cons (some (0, false)) (.mov (.var (.i (.i (.o (.i .h)))))) none (.light 0)
    (.cons (some (1, false)) (.cmp .neq (.loc 0) (.lit (.int 3 0))) none (.light 0)
    (.cons (some (6, true)) (.pick (.loc 2) (.lit (.bool true)) (.loc 0)) none (.light 0)
    (.cons none (.pick (.loc 7) (.loc 0) (.lit (.bool false))) none (.light 0)
    (.cons none (.mov (.loc 0)) none (.light 0)
    (.cons (some (0, false)) (.mov (.var (.o (.o (.o (.i .h)))))) none (.light 0)
    (.cons (some (1, false)) (.cmp .gtr (.loc 0) (.lit (.int 3 50))) none (.light 0)
    (.cons (some (2, false)) (.mov (.loc 0)) none (.light 0)
    (.cons (some (0, true)) (.mov (.var (.i (.i (.o (.i .h)))))) none (.light 0)
    (.cons (some (1, true)) (.cmp .neq (.loc 0) (.lit (.int 3 12))) none (.light 0)
    (.cons (some (5, false)) (.pick (.loc 2) (.loc 0) (.lit (.bool false))) none (.light 0)
    (.cons none (.pick (.loc 6) (.lit (.bool true)) (.loc 0)) (some (.o (.i (.i (.i (.o (.i (.i (.o .h))))))))) (.light 0)
    .nil))))))))))))))))))) 0)
  (.cond (.var (.o (.i (.i (.i (.o (.i (.i (.o .h))))))))) (.seq (.region (.cons none (.mov (.lit (.bool false))) (some (.o .h))
    .nil))
  .ret)
  .skip))))))))
  (.region (.cons none (.mov (.var (.o (.o (.o (.i .h)))))) none
    (.cons none (.arith .add 3 (.loc 0) (.lit (.int 3 1))) none
    (.cons none (.mov (.loc 0)) (some (.o (.o (.o (.i .h)))))
    .nil)))))))))
  (.seq (.region (.cons none (.mov (.var (.i .h))) none
    (.cons none (.callF 41 (.cons (.loc 0) .nil)) none
    (.cons none (.mov (.var (.i .h))) none
    (.cons none (.callF 41 (.cons (.loc 0) .nil)) none
    (.cons none (.alloc (.cons (.int 3 0) (.cons (.int 3 0) .nil)) 2) (some (.o (.o (.i (.i .h)))))
    (.cons none (.alloc (.cons (.int 3 0) (.cons (.int 3 0) .nil)) 2) (some (.i (.o (.i (.i .h)))))
    (.cons none (.store 2 (.loc 1) (.loc 4)) none
    (.cons none (.store 2 (.loc 1) (.loc 3)) none
    .nil)))))))))
  (.seq (.seq (.region (.cons none (.mov (.var (.i .h))) none
    (.cons none (.mov (.var (.o (.o .h)))) none
    (.cons none (.loadN 2 (.var (.i (.o (.i (.i .h)))))) none
    (.cons none (.build (.cons (.int 3 0) (.cons (.int 3 0) .nil)) (.cons 0 1 (.lit (.int 3 2)) .nil)) none
    (.cons none (.callF 57 (.cons (.loc 3) (.cons (.loc 2) (.cons (.loc 1) (.cons (.lit (.str 4 1667719007)) (.cons (.loc 0) .nil)))))) none
    (.cons none (.not (.loc 0)) none
    (.cons none (.mov (.loc 0)) none
    (.cons (some (0, false)) (.mov (.var (.i .h))) none
    (.cons (some (1, false)) (.mov (.var (.o (.o .h)))) none
    (.cons (some (2, false)) (.loadN 2 (.var (.o (.o (.i (.i .h)))))) none
    (.cons (some (3, false)) (.loadN 2 (.var (.i (.o (.i (.i .h)))))) none
    (.cons (some (4, false)) (.callF 60 (.cons (.loc 3) (.cons (.loc 2) (.cons (.loc 1) (.cons (.loc 0) .nil))))) none
    (.cons (some (5, false)) (.cmp .neq (.loc 0) (.lit (.int 3 0))) none
    (.cons none (.pick (.loc 6) (.lit (.bool true)) (.loc 0)) none
    (.cons none (.mov (.loc 0)) none
    (.cons (some (0, false)) (.mov (.var (.i .h))) none
    (.cons (some (1, false)) (.fieldAddr 1 (.var (.o (.o (.i (.i .h)))))) none
    (.cons (some (2, false)) (.load1 (.loc 0)) none
    (.cons (some (3, false)) (.callF 25 (.cons (.loc 2) (.cons (.loc 0) .nil))) none
    (.cons (some (4, false)) (.field1 4 (.loc 0)) none
    (.cons (some (5, false)) (.cmp .neq (.loc 0) (.lit (.int 3 4))) none
    (.cons none (.pick (.loc 6) (.lit (.bool true)) (.loc 0)) (some (.o (.o (.o (.i (.o (.o (.o (.i .h)))))))))
    .nil)))))))))))))))))))))))
  (.cond (.var (.o (.o (.o (.i (.o (.o (.o (.i .h))))))))) (.seq (.region (.cons none (.mov (.lit (.bool false))) (some (.o .h))
    .nil))
  .ret)
  .skip))
  (.seq (.draw (.cons none (.mov (.var (.o (.i (.o (.o .h)))))) none (.light 0)
    (.cons none (.cmp .eql (.loc 0) (.lit (.int 3 12))) none (.light 0)
    (.cons none (.mov (.loc 0)) none (.light 0)
    (.cons (some (0, true)) (.mov (.var (.o (.o (.i (.o .h)))))) none (.light 0)
    (.cons (some (1, true)) (.cmp .eql (.loc 0) (.lit (.int 3 7))) none (.light 0)
    (.cons none (.pick (.loc 2) (.loc 0) (.lit (.bool false))) none (.light 0)
    (.cons none (.mov (.loc 0)) none (.light 0)
    (.cons (some (0, true)) (.callF 58 (.cons (.lit (.int 3 7)) .nil)) none .heavy
    (.cons (some (1, true)) (.loadN 2 (.var (.i (.o (.i (.o .h)))))) none (.light 1)
    (.cons (some (2, true)) (.eq (.flat [.int, .int]) false (.loc 0) (.loc 1)) none (.light 0)
    (.cons none (.pick (.loc 3) (.loc 0) (.lit (.bool false))) none (.light 0)
    (.cons none (.mov (.loc 0)) none (.light 0)
    (.cons (some (0, true)) (.mov (.var (.o (.i (.i (.o .h)))))) none (.light 0)
    (.cons (some (1, true)) (.cmp .eql (.loc 0) (.lit (.int 3 0))) none (.light 0)
    (.cons none (.pick (.loc 2) (.loc 0) (.lit (.bool false))) none (.light 0)
    (.cons none (.mov (.loc 0)) none (.light 0)
    (.cons (some (0, true)) (.mov (.var (.o (.o .h)))) none (.light 0)
    (.cons (some (1, true)) (.loadN 2 (.var (.i (.i .h)))) none (.light 0)
    (.cons (some (2, true)) (.callF 63 (.cons (.lit .nilptr) (.cons (.loc 1) (.cons (.loc 0) (.cons (.lit (.str 4 1667719007)) .nil))))) none .heavy
    (.cons (some (3, true)) (.callF 59 .nil) none .heavy
    (.cons (some (4, true)) (.eq (.flat [.int, .int]) false (.loc 1) (.loc 0)) none (.light 0)
    (.cons none (.pick (.loc 5) (.loc 0) (.lit (.bool false))) none (.light 0)
    (.cons none (.mov (.loc 0)) none (.light 0)
    (.cons (some (0, true)) (.mov (.var (.i .h))) none (.light 0)
    (.cons (some (1, true)) (.loadN 2 (.var (.i (.i .h)))) none (.light 0)
    (.cons (some (2, true)) (.callF 63 (.cons (.loc 1) (.cons (.lit .nilptr) (.cons (.loc 0) (.cons (.lit (.str 4 1667719007)) .nil))))) none .heavy
    (.cons (some (3, true)) (.callF 59 .nil) none .heavy
    (.cons (some (4, true)) (.eq (.flat [.int, .int]) false (.loc 1) (.loc 0)) none (.light 0)
    (.cons none (.pick (.loc 5) (.loc 0) (.lit (.bool false))) none (.light 0)
    (.cons none (.mov (.loc 0)) none (.light 0)
    (.cons (some (0, true)) (.mov (.var (.o (.o .h)))) none (.light 0)
    (.cons (some (1, true)) (.loadN 2 (.var (.i (.i .h)))) none (.light 0)
    (.cons (some (2, true)) (.loadN 2 (.var (.i (.i .h)))) none (.light 0)
    (.cons (some (3, true)) (.callF 60 (.cons (.lit .nilptr) (.cons (.loc 2) (.cons (.loc 1) (.cons (.loc 0) .nil))))) none .heavy
    (.cons (some (4, true)) (.cmp .eql (.loc 0) (.lit (.int 3 7))) none (.light 0)
    (.cons none (.pick (.loc 5) (.loc 0) (.lit (.bool false))) none (.light 0)
    (.cons none (.mov (.loc 0)) none (.light 0)
    (.cons (some (0, true)) (.callF 61 .nil) none .heavy
    (.cons none (.pick (.loc 1) (.loc 0) (.lit (.bool false))) none (.light 0)
    (.cons none (.mov (.loc 0)) (some (.o .h)) (.light 0)
    .nil)))))))))))))))))))))))))))))))))))))))) 0)
  .ret)))))))))))))))))))))))))))))),
  [.tmp (.o .h)], none⟩
theorem c11 : FnOk Try.prog 0 11 cf11 :=
  .of Try.func11 (n := 430) (by kernel_rfl) (far := fun t => Nat.testBit 2521728434145928133951320035747242423220315219311312342411895203656278725924971061461671609833989967916218135313473535 t) (by kernel_rfl)
-- (*tallow/cells.Heap).Keep
def cf18 : CFunc := ⟨(.seq (.region (.cons none (.box (.var (.i .h))) (some (.i (.o .h)))
    (.cons none (.mov (.lit (.int 3 0))) (some (.o (.i .h)))
    .nil)))
  (.seq (.region (.cons none (.mov (.var (.o .h))) none
    (.cons none (.loadN 2 (.var (.i (.o .h)))) none
    (.cons none (.callF 71 (.cons (.loc 1) (.cons (.loc 0) .nil))) none
    (.cons none (.mov (.loc 0)) none
    (.cons none (.extract 0 (.loc 0)) none
    (.cons none (.extract 1 (.loc 1)) none
    (.cons none (.mov (.loc 1)) (some (.i (.i .h)))
    (.cons none (.mov (.loc 1)) (some (.o (.o (.o .h))))
    .nil)))))))))
  (.seq (.seq (.region (.cons none (.mov (.var (.i (.i .h)))) none
    (.cons none (.eq .ptr true (.loc 0) (.lit .nilptr)) (some (.o (.o (.o (.o .h)))))
    .nil)))
  (.cond (.var (.o (.o (.o (.o .h))))) (.region (.cons none (.mov (.var (.i (.i .h)))) none
    (.cons none (.nilCheck (.loc 0)) none
    (.cons none (.fieldAddr 1 (.loc 0)) none
    (.cons none (.load1 (.loc 0)) none
    (.cons none (.arith .add 3 (.loc 0) (.lit (.int 3 1))) none
    (.cons none (.nilCheck (.loc 4)) none
    (.cons none (.fieldAddr 1 (.loc 0)) none
    (.cons none (.store 1 (.loc 0) (.loc 2)) none
    .nil)))))))))
  .skip))
  (.seq (.region (.cons none (.mov (.var (.o (.o (.o .h))))) none
    (.cons none (.mov (.loc 0)) (some (.o (.i .h)))
    .nil)))
  .ret)))),
  [.tmp (.o (.i .h))], none⟩
theorem c18 : FnOk Try.prog 0 18 cf18 :=
  .of Try.func18 (n := 23) (by kernel_rfl) (far := fun t => Nat.testBit 16507 t) (by kernel_rfl)
-- (*tallow/cells.Heap).Obj
def cf25 : CFunc := ⟨(.seq (.region (.cons none (.alloc (.cons (.int 3 0) (.cons (.int 3 0) (.cons .nilslice (.cons (.str 0 0) (.cons (.int 3 0) .nil))))) 5) (some (.o (.i .h)))
    .nil))
  (.seq (.region (.cons none (.mov (.var (.o .h))) none
    (.cons none (.mov (.var (.i .h))) none
    (.cons none (.callF 75 (.cons (.loc 1) (.cons (.loc 0) .nil))) none
    (.cons none (.mov (.loc 0)) none
    (.cons none (.extract 0 (.loc 0)) none
    (.cons none (.extract 1 (.loc 1)) none
    (.cons none (.mov (.loc 1)) (some (.i (.i .h)))
    (.cons none (.mov (.loc 1)) (some (.o (.o (.o .h))))
    .nil)))))))))
  (.seq (.seq (.region (.cons none (.mov (.var (.o (.o (.o .h))))) none
    (.cons none (.cmp .neq (.loc 0) (.lit (.int 3 0))) (some (.i (.o (.o (.o .h)))))
    .nil)))
  (.cond (.var (.i (.o (.o (.o .h))))) (.seq (.region (.cons none (.build (.cons (.int 3 0) (.cons (.int 3 0) (.cons .nilslice (.cons (.str 0 0) (.cons (.int 3 0) .nil))))) .nil) none
    (.cons none (.store 5 (.var (.o (.i .h))) (.loc 0)) none
    .nil)))
  .ret)
  .skip))
  (.seq (.region (.cons none (.mov (.var (.i (.i .h)))) none
    (.cons none (.nilCheck (.loc 0)) none
    (.cons none (.loadN 5 (.loc 0)) none
    (.cons none (.alloc (.cons (.int 3 0) (.cons (.int 3 0) (.cons .nilslice (.cons (.str 0 0) (.cons (.int 3 0) .nil))))) 5) (some (.i (.o (.o .h))))
    (.cons none (.store 5 (.loc 0) (.loc 1)) none
    .nil))))))
  (.seq (.region (.cons none (.mov (.var (.i (.i .h)))) none
    (.cons none (.nilCheck (.loc 0)) none
    (.cons none (.fieldAddr 2 (.loc 0)) none
    (.cons none (.load1 (.loc 0)) none
    (.cons none (.callF 76 (.cons (.loc 0) .nil)) none
    (.cons none (.fieldAddr 2 (.var (.i (.o (.o .h))))) none
    (.cons none (.store 1 (.loc 0) (.loc 1)) none
    .nil))))))))
  (.seq (.region (.cons none (.loadN 5 (.var (.i (.o (.o .h))))) none
    (.cons none (.store 5 (.var (.o (.i .h))) (.loc 0)) none
    .nil)))
  .ret)))))),
  [.cellN (.o (.i .h)) 5], none⟩
theorem c25 : FnOk Try.prog 0 25 cf25 :=
  .of Try.func25 (n := 27) (by kernel_rfl) (far := fun t => Nat.testBit 33011 t) (by kernel_rfl)
-- (*tallow/cells.Heap).Drop
def cf38 : CFunc := ⟨(.seq (.region (.cons none (.box (.var (.i .h))) (some (.i (.o .h)))
    (.cons none (.mov (.lit (.int 3 0))) (some (.o (.i .h)))
    .nil)))
  (.seq (.region (.cons none (.mov (.var (.o .h))) none
    (.cons none (.loadN 2 (.var (.i (.o .h)))) none
    (.cons none (.callF 71 (.cons (.loc 1) (.cons (.loc 0) .nil))) none
    (.cons none (.mov (.loc 0)) none
    (.cons none (.extract 0 (.loc 0)) none
    (.cons none (.extract 1 (.loc 1)) none
    (.cons none (.mov (.loc 1)) (some (.i (.i .h)))
    (.cons none (.mov (.loc 1)) (some (.o (.o (.o .h))))
    .nil)))))))))
  (.seq (.seq (.region (.cons none (.mov (.var (.i (.i .h)))) none
    (.cons none (.eq .ptr false (.loc 0) (.lit .nilptr)) (some (.i (.o (.o (.o .h)))))
    .nil)))
  (.cond (.var (.i (.o (.o (.o .h))))) (.seq (.region (.cons none (.mov (.var (.o (.o (.o .h))))) none
    (.cons none (.mov (.loc 0)) (some (.o (.i .h)))
    .nil)))
  .ret)
  .skip))
  (.seq (.region (.cons none (.fieldAddr 1 (.var (.i (.o .h)))) none
    (.cons none (.load1 (.loc 0)) none
    (.cons none (.mov (.loc 0)) (some (.i (.o (.o .h))))
    .nil))))
  (.seq (.region (.cons none (.mov (.var (.i (.i .h)))) none
    (.cons none (.nilCheck (.loc 0)) none
    (.cons none (.fieldAddr 1 (.loc 0)) none
    (.cons none (.load1 (.loc 0)) none
    (.cons none (.arith .sub 3 (.loc 0) (.lit (.int 3 1))) none
    (.cons none (.nilCheck (.loc 4)) none
    (.cons none (.fieldAddr 1 (.loc 0)) none
    (.cons none (.store 1 (.loc 0) (.loc 2)) none
    .nil)))))))))
  (.seq (.block 0 (.seq (.region (.cons none (.mov (.var (.i (.i .h)))) none
    (.cons none (.nilCheck (.loc 0)) none
    (.cons none (.fieldAddr 1 (.loc 0)) none
    (.cons none (.load1 (.loc 0)) none
    (.cons none (.cmp .eql (.loc 0) (.lit (.int 3 0))) none
    (.cons none (.mov (.loc 0)) (some (.o (.o (.i (.i .h)))))
    .nil)))))))
  (.cond (.var (.o (.o (.i (.i .h))))) (.seq (.region (.cons none (.mov (.var (.o .h))) none
    (.cons none (.mov (.var (.o .h))) none
    (.cons none (.nilCheck (.loc 0)) none
    (.cons none (.fieldAddr 2 (.loc 0)) none
    (.cons none (.load1 (.loc 0)) none
    (.cons none (.mov (.var (.i (.o (.o .h))))) none
    (.cons none (.buildSlice (.cons (.int 3 0) .nil) 1 1 (.cons 0 1 (.loc 0) .nil)) none
    (.cons none (.append (.cons (.int 3 0) .nil) 1 (.loc 2) (.loc 0)) none
    (.cons none (.nilCheck (.loc 7)) none
    (.cons none (.fieldAddr 2 (.loc 0)) none
    (.cons none (.store 1 (.loc 0) (.loc 2)) none
    .nil))))))))))))
  (.region (.cons none (.mov (.var (.o .h))) none
    (.cons none (.mov (.var (.o .h))) none
    (.cons none (.nilCheck (.loc 0)) none
    (.cons none (.fieldAddr 3 (.loc 0)) none
    (.cons none (.load1 (.loc 0)) none
    (.cons none (.mov (.var (.i (.o (.o .h))))) none
    (.cons none (.callF 82 (.cons (.loc 1) (.cons (.loc 0) .nil))) none
    (.cons none (.nilCheck (.loc 6)) none
    (.cons none (.fieldAddr 3 (.loc 0)) none
    (.cons none (.store 1 (.loc 0) (.loc 2)) none
    .nil))))))))))))
  (.seq (.region (.cons none (.mov (.var (.i (.i .h)))) none
    (.cons none (.nilCheck (.loc 0)) none
    (.cons none (.fieldAddr 0 (.loc 0)) none
    (.cons none (.load1 (.loc 0)) none
    (.cons none (.cmp .neq (.loc 0) (.lit (.int 3 5))) none
    (.cons none (.mov (.loc 0)) none
    (.cons (some (0, true)) (.mov (.var (.o .h))) none
    (.cons (some (1, true)) (.nilCheck (.loc 0)) none
    (.cons (some (2, true)) (.fieldAddr 3 (.loc 0)) none
    (.cons (some (3, true)) (.load1 (.loc 0)) none
    (.cons (some (4, true)) (.mov (.var (.i (.o (.o .h))))) none
    (.cons (some (5, true)) (.callF 83 (.cons (.loc 1) (.cons (.loc 0) .nil))) none
    (.cons (some (6, true)) (.not (.loc 0)) none
    (.cons none (.pick (.loc 7) (.loc 0) (.lit (.bool false))) none
    (.cons none (.mov (.loc 0)) (some (.i (.o (.i (.o (.i .h))))))
    .nil))))))))))))))))
  (.cond (.var (.i (.o (.i (.o (.i .h)))))) (.region (.cons none (.mov (.var (.o .h))) none
    (.cons none (.mov (.var (.o .h))) none
    (.cons none (.nilCheck (.loc 0)) none
    (.cons none (.fieldAddr 3 (.loc 0)) none
    (.cons none (.load1 (.loc 0)) none
    (.cons none (.mov (.var (.i (.o (.o .h))))) none
    (.cons none (.buildSlice (.cons (.int 3 0) .nil) 1 1 (.cons 0 1 (.loc 0) .nil)) none
    (.cons none (.append (.cons (.int 3 0) .nil) 1 (.loc 2) (.loc 0)) none
    (.cons none (.nilCheck (.loc 7)) none
    (.cons none (.fieldAddr 3 (.loc 0)) none
    (.cons none (.store 1 (.loc 0) (.loc 2)) none
    .nil))))))))))))
  .skip)))))
  (.seq (.region (.cons none (.mov (.lit (.int 3 0))) (some (.o (.i .h)))
    .nil))
  .ret))))))),
  [.tmp (.o (.i .h))], none⟩
theorem c38 : FnOk Try.prog 0 38 cf38 :=
  .of Try.func38 (n := 76) (by kernel_rfl) (far := fun t => Nat.testBit 2251799880827131 t) (by kernel_rfl)
-- tallow/cells.New
def cf40 : CFunc := ⟨(.seq (.region (.cons none (.mov (.lit .nilptr)) (some (.o .h))
    .nil))
  (.seq (.region (.cons none (.callF 84 .nil) none
    (.cons none .mkMap none
    (.cons none (.build (.cons .nilptr (.cons .nilmap (.cons .nilslice (.cons .nilslice (.cons .nilslice (.cons (.int 3 0) (.cons .nilfunc (.cons (.bool false) .nil)))))))) (.cons 0 1 (.loc 1) (.cons 1 1 (.loc 0) (.cons 6 1 (.lit (.func (.func 85) .nil .nil)) .nil)))) none
    (.cons none (.box (.loc 0)) none
    (.cons none (.mov (.loc 0)) (some (.o .h))
    .nil))))))
  .ret)),
  [.tmp (.o .h)], none⟩
theorem c40 : FnOk Try.prog 0 40 cf40 :=
  .of Try.func40 (n := 5) (by kernel_rfl) (far := fun t => Nat.testBit 1 t) (by kernel_rfl)
-- tallow/table.New
def cf41 : CFunc := ⟨(.seq (.region (.cons none (.alloc (.cons (.int 3 0) (.cons (.int 3 0) .nil)) 2) (some (.o (.o .h)))
    .nil))
  (.seq (.region (.cons none (.mov (.var (.o .h))) none
    (.cons none (.callF 48 (.cons (.loc 0) (.cons (.lit (.int 3 6)) (.cons (.lit (.str 0 0)) .nil)))) none
    (.cons none (.alloc (.cons (.int 3 0) (.cons (.int 3 0) .nil)) 2) (some (.i (.o .h)))
    (.cons none (.store 2 (.loc 0) (.loc 1)) none
    .nil)))))
  (.seq (.draw (.cons none (.callF 87 .nil) none .heavy
    (.cons none (.mov (.var (.o .h))) none (.light 1)
    (.cons none (.fieldAddr 1 (.var (.i (.o .h)))) none (.light 1)
    (.cons none (.load1 (.loc 0)) none (.light 1)
    (.cons none (.callF 86 (.cons (.loc 2) (.cons (.loc 0) (.cons (.loc 3) .nil)))) none .heavy
    .nil))))) 0)
  (.seq (.region (.cons none (.loadN 2 (.var (.i (.o .h)))) none
    (.cons none (.store 2 (.var (.o (.o .h))) (.loc 0)) none
    .nil)))
  .ret)))),
  [.cellN (.o (.o .h)) 2], none⟩
theorem c41 : FnOk Try.prog 0 41 cf41 :=
  .of Try.func41 (n := 12) (by kernel_rfl) (far := fun t => Nat.testBit 13 t) (by kernel_rfl)
-- tallow/table.Put
def cf44 : CFunc := ⟨(.seq (.region (.cons none (.box (.var (.o .h))) (some (.o (.i .h)))
    (.cons none (.box (.var (.i .h))) (some (.i (.i .h)))
    (.cons none (.box (.var (.o (.o .h)))) (some (.o (.o (.o .h))))
    (.cons none (.box (.var (.i (.o .h)))) (some (.i (.o (.o .h))))
    (.cons none (.mov (.lit (.int 3 0))) (some (.o (.i (.o .h))))
    .nil))))))
  (.seq (.region (.cons none (.load1 (.var (.o (.i .h)))) none
    (.cons none (.loadN 2 (.var (.i (.i .h)))) none
    (.cons none (.mkFunc (.func 89) .nil (.cons (.var (.o (.o (.o .h)))) (.cons (.var (.i (.o (.o .h)))) (.cons (.var (.o (.i .h))) (.cons (.var (.i (.i .h))) .nil))))) none
    (.cons none (.callF 88 (.cons (.loc 2) (.cons (.loc 1) (.cons (.loc 0) .nil)))) none
    (.cons none (.mov (.loc 0)) none
    (.cons none (.extract 0 (.loc 0)) none
    (.cons none (.extract 1 (.loc 1)) none
    (.cons none (.mov (.loc 1)) (some (.i (.i (.o .h))))
    (.cons none (.mov (.loc 1)) (some (.o (.o (.i .h))))
    .nil))))))))))
  (.seq (.seq (.region (.cons none (.mov (.var (.o (.o (.i .h))))) none
    (.cons none (.cmp .neq (.loc 0) (.lit (.int 3 0))) (some (.i (.i (.i (.o .h)))))
    .nil)))
  (.cond (.var (.i (.i (.i (.o .h))))) (.seq (.region (.cons none (.mov (.var (.o (.o (.i .h))))) none
    (.cons none (.mov (.loc 0)) (some (.o (.i (.o .h))))
    .nil)))
  .ret)
  .skip))
  (.seq (.seq (.region (.cons none (.mov (.var (.i (.i (.o .h))))) (some (.i (.o (.o (.i .h)))))
    (.cons none (.lenSl (.loc 0)) (some (.o (.i (.o (.i .h)))))
    (.cons none (.mov (.lit (.int 3 0))) (some (.i (.i (.o (.i .h)))))
    .nil))))
  (.block 0 (.loop (.seq (.region (.cons none (.cmp .lss (.var (.i (.i (.o (.i .h))))) (.var (.o (.i (.o (.i .h)))))) (some (.o (.o (.i (.i .h)))))
    .nil))
  (.seq (.cond (.var (.o (.o (.i (.i .h))))) .skip
  (.exit 0))
  (.seq (.block 1 (.seq (.region (.cons none (.idxSl 2 (.var (.i (.o (.o (.i .h))))) (.var (.i (.i (.o (.i .h)))))) none
    (.cons none (.loadN 2 (.loc 0)) none
    (.cons none (.alloc (.cons (.int 3 0) (.cons (.int 3 0) .nil)) 2) (some (.o (.i (.i .h))))
    (.cons none (.store 2 (.loc 0) (.loc 1)) none
    .nil)))))
  (.region (.cons none (.load1 (.var (.o (.i .h)))) none
    (.cons none (.loadN 2 (.var (.o (.i (.i .h))))) none
    (.cons none (.callF 38 (.cons (.loc 1) (.cons (.loc 0) .nil))) none
    .nil))))))
  (.region (.cons none (.arith .add 3 (.var (.i (.i (.o (.i .h))))) (.lit (.int 3 1))) none
    (.cons none (.mov (.loc 0)) (some (.i (.i (.o (.i .h)))))
    .nil)))))))))
  (.seq (.region (.cons none (.mov (.lit (.int 3 0))) (some (.o (.i (.o .h))))
    .nil))
  .ret))))),
  [.tmp (.o (.i (.o .h)))], none⟩
theorem c44 : FnOk Try.prog 0 44 cf44 :=
  .of Try.func44 (n := 33) (by kernel_rfl) (far := fun t => Nat.testBit 127932415 t) (by kernel_rfl)
-- tallow/table.Get
def cf45 : CFunc := ⟨(.seq (.region (.cons none (.box (.var (.i .h))) (some (.o (.i .h)))
    (.cons none (.box (.var (.o (.o .h)))) (some (.i (.i .h)))
    (.cons none (.alloc (.cons (.int 3 0) (.cons (.int 3 0) .nil)) 2) (some (.o (.o (.o .h))))
    (.cons none (.mov (.lit (.int 3 0))) (some (.i (.o (.o .h))))
    .nil)))))
  (.seq (.region (.cons none (.mov (.var (.o .h))) none
    (.cons none (.loadN 2 (.var (.o (.i .h)))) none
    (.cons none (.mkFunc (.func 92) .nil (.cons (.var (.i (.i .h))) .nil)) none
    (.cons none (.callF 91 (.cons (.loc 2) (.cons (.loc 1) (.cons (.loc 0) .nil)))) none
    (.cons none (.extract 0 (.loc 0)) none
    (.cons none (.extract 1 (.loc 1)) none
    (.cons none (.store 2 (.var (.o (.o (.o .h)))) (.loc 1)) none
    (.cons none (.mov (.loc 1)) (some (.i (.o (.o .h))))
    .nil)))))))))
  .ret)),
  [.cellN (.o (.o (.o .h))) 2, .tmp (.i (.o (.o .h)))], none⟩
theorem c45 : FnOk Try.prog 0 45 cf45 :=
  .of Try.func45 (n := 14) (by kernel_rfl) (far := fun t => Nat.testBit 247 t) (by kernel_rfl)
-- tallow/table.Len
def cf47 : CFunc := ⟨(.seq (.region (.cons none (.box (.var (.i .h))) (some (.i (.o .h)))
    (.cons none (.mov (.lit (.int 3 0))) (some (.o (.i .h)))
    (.cons none (.mov (.lit (.int 3 0))) (some (.i (.i .h)))
    .nil))))
  (.seq (.region (.cons none (.mov (.var (.o .h))) none
    (.cons none (.loadN 2 (.var (.i (.o .h)))) none
    (.cons none (.callF 96 (.cons (.loc 1) (.cons (.loc 0) (.cons (.lit (.func (.func 97) .nil .nil)) .nil)))) none
    (.cons none (.extract 0 (.loc 0)) none
    (.cons none (.extract 1 (.loc 1)) none
    (.cons none (.mov (.loc 1)) (some (.o (.i .h)))
    (.cons none (.mov (.loc 1)) (some (.i (.i .h)))
    .nil))))))))
  .ret)),
  [.tmp (.o (.i .h)), .tmp (.i (.i .h))], none⟩
theorem c47 : FnOk Try.prog 0 47 cf47 :=
  .of Try.func47 (n := 11) (by kernel_rfl) (far := fun t => Nat.testBit 59 t) (by kernel_rfl)
-- (*tallow/cells.Heap).Make
def cf48 : CFunc := ⟨(.seq (.region (.cons none (.alloc (.cons (.int 3 0) (.cons (.int 3 0) .nil)) 2) (some (.o (.o (.o .h))))
    .nil))
  (.seq (.seq (.region (.cons none (.mov (.var (.o .h))) none
    (.cons none (.eq .ptr false (.loc 0) (.lit .nilptr)) none
    (.cons none (.mov (.loc 0)) none
    (.cons (some (0, false)) (.mov (.var (.i .h))) none
    (.cons (some (1, false)) (.cmp .lss (.loc 0) (.lit (.int 3 5))) none
    (.cons none (.pick (.loc 2) (.lit (.bool true)) (.loc 0)) none
    (.cons none (.mov (.loc 0)) none
    (.cons (some (0, false)) (.mov (.var (.i .h))) none
    (.cons (some (1, false)) (.cmp .gtr (.loc 0) (.lit (.int 3 9))) none
    (.cons none (.pick (.loc 2) (.lit (.bool true)) (.loc 0)) none
    (.cons none (.mov (.loc 0)) none
    (.cons (some (0, false)) (.mov (.var (.o (.o .h)))) none
    (.cons (some (1, false)) (.lenStr (.loc 0)) none
    (.cons (some (2, false)) (.cmp .gtr (.loc 0) (.lit (.int 3 4096))) none
    (.cons none (.pick (.loc 3) (.lit (.bool true)) (.loc 0)) (some (.i (.o (.o (.i .h)))))
    .nil))))))))))))))))
  (.cond (.var (.i (.o (.o (.i .h))))) (.seq (.region (.cons none (.build (.cons (.int 3 0) (.cons (.int 3 0) .nil)) .nil) none
    (.cons none (.store 2 (.var (.o (.o (.o .h)))) (.loc 0)) none
    .nil)))
  .ret)
  .skip))
  (.seq (.region (.cons none (.mov (.var (.i .h))) none
    (.cons none (.build (.cons (.int 3 0) (.cons (.int 3 0) (.cons .nilslice (.cons (.str 0 0) (.cons (.int 3 0) .nil))))) (.cons 0 1 (.loc 0) (.cons 1 1 (.lit (.int 3 1)) .nil))) none
    (.cons none (.box (.loc 0)) none
    (.cons none (.mov (.loc 0)) (some (.i (.o (.o .h))))
    .nil)))))
  (.seq (.seq (.region (.cons none (.mov (.var (.i .h))) none
    (.cons none (.cmp .eql (.loc 0) (.lit (.int 3 5))) (some (.i (.i (.i (.i .h)))))
    .nil)))
  (.cond (.var (.i (.i (.i (.i .h))))) (.region (.cons none (.mov (.var (.i (.o (.o .h))))) none
    (.cons none (.mov (.var (.o (.o .h)))) none
    (.cons none (.nilCheck (.loc 1)) none
    (.cons none (.fieldAddr 3 (.loc 0)) none
    (.cons none (.store 1 (.loc 0) (.loc 2)) none
    .nil))))))
  .skip))
  (.seq (.region (.cons none (.mov (.var (.o .h))) none
    (.cons none (.nilCheck (.loc 0)) none
    (.cons none (.fieldAddr 0 (.loc 0)) none
    (.cons none (.load1 (.loc 0)) none
    (.cons none (.callF 99 (.cons (.loc 0) .nil)) none
    (.cons none (.mov (.loc 0)) (some (.o (.i (.o .h))))
    .nil)))))))
  (.seq (.region (.cons none (.mov (.var (.o .h))) none
    (.cons none (.nilCheck (.loc 0)) none
    (.cons none (.fieldAddr 1 (.loc 0)) none
    (.cons none (.load1 (.loc 0)) none
    (.cons none (.mov (.var (.o (.i (.o .h))))) none
    (.cons none (.mov (.var (.i (.o (.o .h))))) none
    (.cons none (.update (.leaf .int) (.loc 2) (.loc 1) (.loc 0)) none
    .nil))))))))
  (.seq (.region (.cons none (.mov (.var (.i .h))) none
    (.cons none (.mov (.var (.o (.i (.o .h))))) none
    (.cons none (.build (.cons (.int 3 0) (.cons (.int 3 0) .nil)) (.cons 0 1 (.loc 1) (.cons 1 1 (.loc 0) .nil))) none
    (.cons none (.store 2 (.var (.o (.o (.o .h)))) (.loc 0)) none
    .nil)))))
  .ret))))))),
  [.cellN (.o (.o (.o .h))) 2], none⟩
theorem c48 : FnOk Try.prog 0 48 cf48 :=
  .of Try.func48 (n := 48) (by kernel_rfl) (far := fun t => Nat.testBit 545259975 t) (by kernel_rfl)
-- tallow/table.SetMeta
def cf49 : CFunc := ⟨(.seq (.region (.cons none (.box (.var (.o .h))) (some (.i (.o .h)))
    (.cons none (.box (.var (.i .h))) (some (.o (.i .h)))
    (.cons none (.box (.var (.o (.o .h)))) (some (.i (.i .h)))
    (.cons none (.mov (.lit (.int 3 0))) (some (.o (.o (.o .h))))
    .nil)))))
  (.seq (.seq (.region (.cons none (.load1 (.var (.i (.o .h)))) none
    (.cons none (.loadN 2 (.var (.i (.i .h)))) none
    (.cons none (.callF 100 (.cons (.loc 1) (.cons (.loc 0) .nil))) none
    (.cons none (.mov (.loc 0)) none
    (.cons none (.extract 0 (.loc 0)) none
    (.cons none (.extract 1 (.loc 1)) none
    (.cons none (.mov (.loc 1)) none
    (.cons none (.mov (.loc 1)) (some (.o (.i (.o .h))))
    .nil)))))))))
  (.seq (.region (.cons none (.mov (.var (.o (.i (.o .h))))) none
    (.cons none (.not (.loc 0)) none
    (.cons none (.mov (.loc 0)) none
    (.cons (some (0, true)) (.loadN 2 (.var (.i (.i .h)))) none
    (.cons (some (1, true)) (.build (.cons (.int 3 0) (.cons (.int 3 0) .nil)) (.cons 0 1 (.lit (.int 3 1)) .nil)) none
    (.cons (some (2, true)) (.eq (.flat [.int, .int]) true (.loc 1) (.loc 0)) none
    (.cons none (.pick (.loc 3) (.loc 0) (.lit (.bool false))) (some (.i (.o (.o (.i .h)))))
    .nil))))))))
  (.cond (.var (.i (.o (.o (.i .h))))) (.seq (.region (.cons none (.mov (.lit (.int 3 7))) (some (.o (.o (.o .h))))
    .nil))
  .ret)
  .skip)))
  (.seq (.region (.cons none (.load1 (.var (.i (.o .h)))) none
    (.cons none (.loadN 2 (.var (.o (.i .h)))) none
    (.cons none (.mkFunc (.func 101) .nil (.cons (.var (.i (.o .h))) (.cons (.var (.o (.i .h))) (.cons (.var (.i (.i .h))) .nil)))) none
    (.cons none (.callF 91 (.cons (.loc 2) (.cons (.loc 1) (.cons (.loc 0) .nil)))) none
    (.cons none (.mov (.loc 0)) none
    (.cons none (.extract 0 (.loc 0)) none
    (.cons none (.extract 1 (.loc 1)) none
    (.cons none (.alloc (.cons (.int 3 0) (.cons (.int 3 0) .nil)) 2) (some (.i (.i (.o .h))))
    (.cons none (.store 2 (.loc 0) (.loc 2)) none
    (.cons none (.mov (.loc 2)) (some (.o (.o (.i .h))))
    .nil)))))))))))
  (.seq (.seq (.region (.cons none (.mov (.var (.o (.o (.i .h))))) none
    (.cons none (.cmp .eql (.loc 0) (.lit (.int 3 0))) (some (.o (.i (.o (.o (.o .h))))))
    .nil)))
  (.cond (.var (.o (.i (.o (.o (.o .h)))))) (.region (.cons none (.load1 (.var (.i (.o .h)))) none
    (.cons none (.loadN 2 (.var (.i (.i (.o .h))))) none
    (.cons none (.callF 38 (.cons (.loc 1) (.cons (.loc 0) .nil))) none
    .nil))))
  .skip))
  (.seq (.region (.cons none (.mov (.var (.o (.o (.i .h))))) none
    (.cons none (.mov (.loc 0)) (some (.o (.o (.o .h))))
    .nil)))
  .ret))))),
  [.tmp (.o (.o (.o .h)))], none⟩
theorem c49 : FnOk Try.prog 0 49 cf49 :=
  .of Try.func49 (n := 37) (by kernel_rfl) (far := fun t => Nat.testBit 4303357823 t) (by kernel_rfl)
-- tallow/table.Meta
def cf50 : CFunc := ⟨(.seq (.region (.cons none (.box (.var (.i .h))) (some (.i (.o .h)))
    (.cons none (.alloc (.cons (.int 3 0) (.cons (.int 3 0) .nil)) 2) (some (.o (.i .h)))
    (.cons none (.mov (.lit (.int 3 0))) (some (.i (.i .h)))
    .nil))))
  (.seq (.region (.cons none (.mov (.var (.o .h))) none
    (.cons none (.loadN 2 (.var (.i (.o .h)))) none
    (.cons none (.callF 91 (.cons (.loc 1) (.cons (.loc 0) (.cons (.lit (.func (.func 102) .nil .nil)) .nil)))) none
    (.cons none (.extract 0 (.loc 0)) none
    (.cons none (.extract 1 (.loc 1)) none
    (.cons none (.store 2 (.var (.o (.i .h))) (.loc 1)) none
    (.cons none (.mov (.loc 1)) (some (.i (.i .h)))
    .nil))))))))
  .ret)),
  [.cellN (.o (.i .h)) 2, .tmp (.i (.i .h))], none⟩
theorem c50 : FnOk Try.prog 0 50 cf50 :=
  .of Try.func50 (n := 11) (by kernel_rfl) (far := fun t => Nat.testBit 59 t) (by kernel_rfl)
-- tallow/intern.New
def cf56 : CFunc := ⟨(.seq (.region (.cons none (.mov (.lit .nilptr)) (some (.o (.o .h)))
    .nil))
  (.seq (.seq (.region (.cons none (.mov (.var (.o .h))) none
    (.cons none (.eq .ptr false (.loc 0) (.lit .nilptr)) (some (.o (.i .h)))
    .nil)))
  (.cond (.var (.o (.i .h))) (.seq (.region (.cons none (.mov (.lit .nilptr)) (some (.o (.o .h)))
    .nil))
  .ret)
  .skip))
  (.seq (.region (.cons none (.mov (.var (.o .h))) none
    (.cons none .mkMap none
    (.cons none (.build (.cons .nilptr (.cons .nilmap .nil)) (.cons 0 1 (.loc 1) (.cons 1 1 (.loc 0) .nil))) none
    (.cons none (.box (.loc 0)) none
    (.cons none (.mov (.loc 0)) (some (.o (.o .h)))
    .nil))))))
  .ret))),
  [.tmp (.o (.o .h))], none⟩
theorem c56 : FnOk Try.prog 0 56 cf56 :=
  .of Try.func56 (n := 9) (by kernel_rfl) (far := fun t => Nat.testBit 21 t) (by kernel_rfl)
-- tallow/tallowlaw19.named
def cf57 : CFunc := ⟨(.seq (.region (.cons none (.box (.var (.o (.o .h)))) (some (.i (.o (.o .h))))
    (.cons none (.box (.var (.o (.i .h)))) (some (.i (.i (.o .h))))
    (.cons none (.mov (.lit (.bool false))) (some (.o (.o (.i .h))))
    .nil))))
  (.seq (.region (.cons none (.mov (.var (.i .h))) none
    (.cons none (.mov (.var (.i (.o .h)))) none
    (.cons none (.callF 65 (.cons (.loc 1) (.cons (.loc 0) .nil))) none
    (.cons none (.alloc (.cons (.int 3 0) (.cons (.int 3 0) .nil)) 2) (some (.i (.o (.i .h))))
    (.cons none (.store 2 (.loc 0) (.loc 1)) none
    .nil))))))
  (.seq (.region (.cons none (.mov (.var (.o .h))) none
    (.cons none (.loadN 2 (.var (.i (.i (.o .h))))) none
    (.cons none (.callF 18 (.cons (.loc 1) (.cons (.loc 0) .nil))) none
    .nil))))
  (.seq (.region (.cons none (.mov (.var (.o .h))) none
    (.cons none (.loadN 2 (.var (.i (.o (.o .h))))) none
    (.cons none (.loadN 2 (.var (.i (.o (.i .h))))) none
    (.cons none (.loadN 2 (.var (.i (.i (.o .h))))) none
    (.cons none (.callF 44 (.cons (.loc 3) (.cons (.loc 2) (.cons (.loc 1) (.cons (.loc 0) .nil))))) none
    (.cons none (.cmp .eql (.loc 0) (.lit (.int 3 0))) none
    (.cons none (.mov (.loc 0)) (some (.o (.o (.i .h))))
    .nil))))))))
  .ret)))),
  [.tmp (.o (.o (.i .h)))], none⟩
theorem c57 : FnOk Try.prog 0 57 cf57 :=
  .of Try.func57 (n := 24) (by kernel_rfl) (far := fun t => Nat.testBit 3743 t) (by kernel_rfl)
-- tallow/tallowlaw19.in
def cf58 : CFunc := ⟨(.seq (.region (.cons none (.alloc (.cons (.int 3 0) (.cons (.int 3 0) .nil)) 2) (some (.o (.o .h)))
    .nil))
  (.seq (.region (.cons none (.mov (.var (.o .h))) none
    (.cons none (.build (.cons (.int 3 0) (.cons (.int 3 0) .nil)) (.cons 0 1 (.lit (.int 3 3)) (.cons 1 1 (.loc 0) .nil))) none
    (.cons none (.store 2 (.var (.o (.o .h))) (.loc 0)) none
    .nil))))
  .ret)),
  [.cellN (.o (.o .h)) 2], none⟩
theorem c58 : FnOk Try.prog 0 58 cf58 :=
  .of Try.func58 (n := 5) (by kernel_rfl) (far := fun t => Nat.testBit 5 t) (by kernel_rfl)
-- tallow/tallowlaw19.null
def cf59 : CFunc := ⟨(.seq (.region (.cons none (.alloc (.cons (.int 3 0) (.cons (.int 3 0) .nil)) 2) (some (.o .h))
    .nil))
  (.seq (.region (.cons none (.build (.cons (.int 3 0) (.cons (.int 3 0) .nil)) (.cons 0 1 (.lit (.int 3 1)) .nil)) none
    (.cons none (.store 2 (.var (.o .h)) (.loc 0)) none
    .nil)))
  .ret)),
  [.cellN (.o .h) 2], none⟩
theorem c59 : FnOk Try.prog 0 59 cf59 :=
  .of Try.func59 (n := 2) (by kernel_rfl) (far := fun t => Nat.testBit 1 t) (by kernel_rfl)
-- tallow/meta.Set
def cf60 : CFunc := ⟨(.seq (.region (.cons none (.box (.var (.o (.o .h)))) (some (.o (.o (.o .h))))
    (.cons none (.box (.var (.i (.o .h)))) (some (.i (.o (.o .h))))
    (.cons none (.mov (.lit (.int 3 0))) (some (.o (.i (.o .h))))
    .nil))))
  (.seq (.seq (.region (.cons none (.mov (.var (.o .h))) none
    (.cons none (.loadN 2 (.var (.o (.o (.o .h))))) none
    (.cons none (.loadN 2 (.var (.i (.o (.o .h))))) none
    (.cons none (.callF 49 (.cons (.loc 2) (.cons (.loc 1) (.cons (.loc 0) .nil)))) none
    (.cons none (.mov (.loc 0)) (some (.i (.i (.o .h))))
    .nil))))))
  (.seq (.region (.cons none (.mov (.var (.i (.i (.o .h))))) none
    (.cons none (.cmp .neq (.loc 0) (.lit (.int 3 0))) (some (.i (.o (.o (.o .h)))))
    .nil)))
  (.cond (.var (.i (.o (.o (.o .h))))) (.seq (.region (.cons none (.mov (.var (.i (.i (.o .h))))) none
    (.cons none (.mov (.loc 0)) (some (.o (.i (.o .h))))
    .nil)))
  .ret)
  .skip)))
  (.seq (.seq (.region (.cons none (.mov (.var (.o .h))) none
    (.cons none (.mov (.var (.i .h))) none
    (.cons none (.loadN 2 (.var (.o (.o (.o .h))))) none
    (.cons none (.callF 63 (.cons (.loc 2) (.cons (.loc 1) (.cons (.loc 0) (.cons (.lit (.str 4 1667719007)) .nil))))) none
    (.cons none (.callF 109 .nil) none
    (.cons none (.eq (.flat [.int, .int]) true (.loc 1) (.loc 0)) (some (.o (.o (.o (.i .h)))))
    .nil)))))))
  (.cond (.var (.o (.o (.o (.i .h))))) (.region (.cons none (.mov (.var (.o .h))) none
    (.cons none (.fieldAddr 1 (.var (.o (.o (.o .h))))) none
    (.cons none (.load1 (.loc 0)) none
    (.cons none (.callF 110 (.cons (.loc 2) (.cons (.loc 0) .nil))) none
    .nil)))))
  .skip))
  (.seq (.region (.cons none (.mov (.lit (.int 3 0))) (some (.o (.i (.o .h))))
    .nil))
  .ret)))),
  [.tmp (.o (.i (.o .h)))], none⟩
theorem c60 : FnOk Try.prog 0 60 cf60 :=
  .of Try.func60 (n := 27) (by kernel_rfl) (far := fun t => Nat.testBit 4228047 t) (by kernel_rfl)
-- tallow/tallowlaw19.works
def cf61 : CFunc := ⟨(.seq (.region (.cons none (.mov (.lit (.bool false))) (some (.o .h))
    .nil))
  (.seq (.region (.cons none (.callF 111 (.cons (.lit (.int 3 2)) (.cons (.lit (.bool false)) .nil))) none
    (.cons none (.mov (.loc 0)) none
    (.cons none (.extract 0 (.loc 0)) none
    (.cons none (.extract 1 (.loc 1)) none
    (.cons none (.extract 2 (.loc 2)) none
    (.cons none (.mov (.loc 2)) (some (.i .h))
    (.cons none (.mov (.loc 2)) (some (.o (.o .h)))
    (.cons none (.mov (.loc 2)) (some (.i (.o .h)))
    .nil)))))))))
  (.seq (.seq (.draw (.cons none (.mov (.var (.i .h))) none (.light 0)
    (.cons none (.eq .ptr false (.loc 0) (.lit .nilptr)) none (.light 0)
    (.cons none (.mov (.loc 0)) none (.light 0)
    (.cons (some (0, false)) (.callF 58 (.cons (.lit (.int 3 1)) .nil)) none .heavy
    (.cons (some (1, false)) (.callF 58 (.cons (.lit (.int 3 7)) .nil)) none .heavy
    (.cons (some (2, false)) (.mov (.var (.i .h))) none (.light 2)
    (.cons (some (3, false)) (.mov (.var (.i (.o .h)))) none (.light 2)
    (.cons (some (4, false)) (.idxSl 2 (.loc 0) (.lit (.int 3 1))) none (.light 2)
    (.cons (some (5, false)) (.loadN 2 (.loc 0)) none (.light 2)
    (.cons (some (6, false)) (.callF 62 (.cons (.loc 3) (.cons (.loc 0) (.cons (.loc 5) (.cons (.loc 4) .nil))))) none .heavy
    (.cons (some (7, false)) (.not (.loc 0)) none (.light 0)
    (.cons none (.pick (.loc 8) (.lit (.bool true)) (.loc 0)) (some (.o (.i (.o (.i .h))))) (.light 0)
    .nil)))))))))))) 0)
  (.cond (.var (.o (.i (.o (.i .h))))) (.seq (.region (.cons none (.mov (.lit (.bool false))) (some (.o .h))
    .nil))
  .ret)
  .skip))
  (.seq (.draw (.cons none (.callF 58 (.cons (.lit (.int 3 1)) .nil)) none .heavy
    (.cons none (.mov (.var (.i .h))) none (.light 1)
    (.cons none (.mov (.var (.o (.o .h)))) none (.light 1)
    (.cons none (.mov (.var (.i (.o .h)))) none (.light 1)
    (.cons none (.idxSl 2 (.loc 0) (.lit (.int 3 0))) none (.light 1)
    (.cons none (.loadN 2 (.loc 0)) none (.light 1)
    (.cons none (.callF 64 (.cons (.loc 4) (.cons (.loc 3) (.cons (.loc 0) (.cons (.loc 5) .nil))))) none .heavy
    (.cons none (.mov (.loc 0)) none (.light 0)
    (.cons none (.extract 0 (.loc 0)) none (.light 0)
    (.cons none (.alloc (.cons (.int 3 0) (.cons (.int 3 0) .nil)) 2) (some (.o (.i .h))) .float
    (.cons none (.store 2 (.loc 0) (.loc 1)) none .heavy
    (.cons none (.extract 1 (.loc 3)) none (.light 1)
    (.cons none (.mov (.loc 0)) (some (.i (.i .h))) (.light 0)
    .nil))))))))))))) 1)
  (.seq (.draw (.cons none (.callF 58 (.cons (.lit (.int 3 2)) .nil)) none .heavy
    (.cons none (.mov (.var (.i .h))) none (.light 1)
    (.cons none (.mov (.var (.o (.o .h)))) none (.light 1)
    (.cons none (.mov (.var (.i (.o .h)))) none (.light 1)
    (.cons none (.idxSl 2 (.loc 0) (.lit (.int 3 0))) none (.light 1)
    (.cons none (.loadN 2 (.loc 0)) none (.light 1)
    (.cons none (.callF 64 (.cons (.loc 4) (.cons (.loc 3) (.cons (.loc 0) (.cons (.loc 5) .nil))))) none .heavy
    (.cons none (.mov (.loc 0)) none (.light 0)
    (.cons none (.extract 0 (.loc 0)) none (.light 0)
    (.cons none (.alloc (.cons (.int 3 0) (.cons (.int 3 0) .nil)) 2) (some (.o (.o (.o .h)))) .float
    (.cons none (.store 2 (.loc 0) (.loc 1)) none .heavy
    (.cons none (.extract 1 (.loc 3)) none (.light 1)
    (.cons none (.mov (.loc 0)) (some (.i (.o (.o .h)))) (.light 0)
    .nil))))))))))))) 1)
  (.seq (.draw (.cons none (.mov (.var (.i (.i .h)))) none (.light 0)
    (.cons none (.cmp .eql (.loc 0) (.lit (.int 3 0))) none (.light 0)
    (.cons none (.mov (.loc 0)) none (.light 0)
    (.cons (some (0, true)) (.callF 58 (.cons (.lit (.int 3 7)) .nil)) none .heavy
    (.cons (some (1, true)) (.loadN 2 (.var (.o (.i .h)))) none (.light 1)
    (.cons (some (2, true)) (.eq (.flat [.int, .int]) false (.loc 0) (.loc 1)) none (.light 0)
    (.cons none (.pick (.loc 3) (.loc 0) (.lit (.bool false))) none (.light 0)
    (.cons none (.mov (.loc 0)) none (.light 0)
    (.cons (some (0, true)) (.mov (.var (.i (.o (.o .h))))) none (.light 0)
    (.cons (some (1, true)) (.cmp .eql (.loc 0) (.lit (.int 3 0))) none (.light 0)
    (.cons none (.pick (.loc 2) (.loc 0) (.lit (.bool false))) none (.light 0)
    (.cons none (.mov (.loc 0)) none (.light 0)
    (.cons (some (0, true)) (.callF 59 .nil) none .heavy
    (.cons (some (1, true)) (.loadN 2 (.var (.o (.o (.o .h))))) none (.light 1)
    (.cons (some (2, true)) (.eq (.flat [.int, .int]) false (.loc 0) (.loc 1)) none (.light 0)
    (.cons none (.pick (.loc 3) (.loc 0) (.lit (.bool false))) none (.light 0)
    (.cons none (.mov (.loc 0)) none (.light 0)
    (.cons (some (0, true)) (.mov (.var (.i .h))) none (.light 0)
    (.cons (some (1, true)) (.mov (.var (.o (.o .h)))) none (.light 0)
    (.cons (some (2, true)) (.mov (.var (.i (.o .h)))) none (.light 0)
    (.cons (some (3, true)) (.idxSl 2 (.loc 0) (.lit (.int 3 0))) none (.light 0)
    (.cons (some (4, true)) (.loadN 2 (.loc 0)) none (.light 0)
    (.cons (some (5, true)) (.callF 63 (.cons (.loc 4) (.cons (.loc 3) (.cons (.loc 0) (.cons (.lit (.str 7 33888479228813151)) .nil))))) none .heavy
    (.cons (some (6, true)) (.mov (.var (.i (.o .h)))) none (.light 1)
    (.cons (some (7, true)) (.idxSl 2 (.loc 0) (.lit (.int 3 1))) none (.light 1)
    (.cons (some (8, true)) (.loadN 2 (.loc 0)) none (.light 1)
    (.cons (some (9, true)) (.eq (.flat [.int, .int]) false (.loc 3) (.loc 0)) none (.light 0)
    (.cons none (.pick (.loc 10) (.loc 0) (.lit (.bool false))) none (.light 0)
    (.cons none (.mov (.loc 0)) (some (.o .h)) (.light 0)
    .nil))))))))))))))))))))))))))))) 0)
  .ret)))))),
  [.tmp (.o .h)], none⟩
theorem c61 : FnOk Try.prog 0 61 cf61 :=
  .of Try.func61 (n := 73) (by kernel_rfl) (far := fun t => Nat.testBit 16777471 t) (by kernel_rfl)
-- tallow/tallowlaw19.put
def cf62 : CFunc := ⟨(.seq (.region (.cons none (.box (.var (.i .h))) (some (.i (.i .h)))
    (.cons none (.box (.var (.o (.o .h)))) (some (.o (.o (.o .h))))
    (.cons none (.box (.var (.i (.o .h)))) (some (.i (.o (.o .h))))
    (.cons none (.mov (.lit (.bool false))) (some (.o (.i (.o .h))))
    .nil)))))
  (.seq (.region (.cons none (.mov (.var (.o .h))) none
    (.cons none (.loadN 2 (.var (.o (.o (.o .h))))) none
    (.cons none (.callF 18 (.cons (.loc 1) (.cons (.loc 0) .nil))) none
    .nil))))
  (.seq (.region (.cons none (.mov (.var (.o .h))) none
    (.cons none (.loadN 2 (.var (.i (.o (.o .h))))) none
    (.cons none (.callF 18 (.cons (.loc 1) (.cons (.loc 0) .nil))) none
    .nil))))
  (.seq (.region (.cons none (.mov (.var (.o .h))) none
    (.cons none (.loadN 2 (.var (.i (.i .h)))) none
    (.cons none (.loadN 2 (.var (.o (.o (.o .h))))) none
    (.cons none (.loadN 2 (.var (.i (.o (.o .h))))) none
    (.cons none (.callF 44 (.cons (.loc 3) (.cons (.loc 2) (.cons (.loc 1) (.cons (.loc 0) .nil))))) none
    (.cons none (.cmp .eql (.loc 0) (.lit (.int 3 0))) none
    (.cons none (.mov (.loc 0)) (some (.o (.i (.o .h))))
    .nil))))))))
  .ret)))),
  [.tmp (.o (.i (.o .h)))], none⟩
theorem c62 : FnOk Try.prog 0 62 cf62 :=
  .of Try.func62 (n := 21) (by kernel_rfl) (far := fun t => Nat.testBit 495 t) (by kernel_rfl)
-- tallow/meta.Event
def cf63 : CFunc := ⟨(.seq (.region (.cons none (.box (.var (.o (.o .h)))) (some (.o (.o (.o .h))))
    (.cons none (.alloc (.cons (.int 3 0) (.cons (.int 3 0) .nil)) 2) (some (.o (.i (.o .h))))
    .nil)))
  (.seq (.region (.cons none (.mov (.var (.o .h))) none
    (.cons none (.mov (.var (.i .h))) none
    (.cons none (.loadN 2 (.var (.o (.o (.o .h))))) none
    (.cons none (.mov (.var (.i (.o .h)))) none
    (.cons none (.callF 112 (.cons (.loc 3) (.cons (.loc 2) (.cons (.loc 1) (.cons (.loc 0) .nil))))) none
    (.cons none (.mov (.loc 0)) none
    (.cons none (.extract 0 (.loc 0)) none
    (.cons none (.extract 1 (.loc 1)) none
    (.cons none (.alloc (.cons (.int 3 0) (.cons (.int 3 0) .nil)) 2) (some (.i (.i (.o .h))))
    (.cons none (.store 2 (.loc 0) (.loc 2)) none
    (.cons none (.mov (.loc 2)) none
    .nil))))))))))))
  (.seq (.region (.cons none (.loadN 2 (.var (.i (.i (.o .h))))) none
    (.cons none (.store 2 (.var (.o (.i (.o .h)))) (.loc 0)) none
    .nil)))
  .ret))),
  [.cellN (.o (.i (.o .h))) 2], none⟩
theorem c63 : FnOk Try.prog 0 63 cf63 :=
  .of Try.func63 (n := 20) (by kernel_rfl) (far := fun t => Nat.testBit 847 t) (by kernel_rfl)
-- tallow/meta.Index
noncomputable def cf64 : CFunc := ⟨(.seq (.region (.cons none (.box (.var (.o .h))) (some (.o (.i .h)))
    (.cons none (.box (.var (.o (.o .h)))) (some (.o (.o (.o .h))))
    (.cons none (.box (.var (.i (.o .h)))) (some (.i (.o (.o .h))))
    (.cons none (.alloc (.cons (.int 3 0) (.cons (.int 3 0) .nil)) 2) (some (.o (.i (.o .h))))
    (.cons none (.alloc (.cons (.int 3 0) .nil) 1) (some (.i (.i (.o .h))))
    .nil))))))
  (.seq (.seq (.region (.cons none (.load1 (.var (.o (.i .h)))) none
    (.cons none (.loadN 2 (.var (.o (.o (.o .h))))) none
    (.cons none (.callF 47 (.cons (.loc 1) (.cons (.loc 0) .nil))) none
    (.cons none (.mov (.loc 0)) none
    (.cons none (.extract 0 (.loc 0)) none
    (.cons none (.extract 1 (.loc 1)) none
    (.cons none (.mov (.loc 1)) none
    (.cons none (.mov (.loc 1)) (some (.i (.o (.i .h))))
    .nil)))))))))
  (.seq (.region (.cons none (.mov (.var (.i (.o (.i .h))))) none
    (.cons none (.cmp .neq (.loc 0) (.lit (.int 3 0))) (some (.i (.o (.o (.i .h)))))
    .nil)))
  (.cond (.var (.i (.o (.o (.i .h))))) (.seq (.region (.cons none (.build (.cons (.int 3 0) (.cons (.int 3 0) .nil)) .nil) none
    (.cons none (.mov (.var (.i (.o (.i .h))))) none
    (.cons none (.store 2 (.var (.o (.i (.o .h)))) (.loc 1)) none
    (.cons none (.store 1 (.var (.i (.i (.o .h)))) (.loc 1)) none
    .nil)))))
  .ret)
  .skip)))
  (.seq (.region (.cons none (.alloc (.cons (.int 3 0) .nil) 1) (some (.o (.i (.i .h))))
    (.cons none (.store 1 (.loc 0) (.lit (.int 3 (-1)))) none
    .nil)))
  (.seq (.seq (.region (.cons none (.load1 (.var (.o (.i .h)))) none
    (.cons none (.mov (.var (.i .h))) none
    (.cons none (.loadN 2 (.var (.o (.o (.o .h))))) none
    (.cons none (.callF 113 (.cons (.loc 2) (.cons (.loc 1) (.cons (.loc 0) .nil)))) (some (.i (.i (.i (.i .h)))))
    .nil)))))
  (.block 0 (.rangeFunc (.var (.i (.i (.i (.i .h))))) [30] (.region (.cons none (.alloc (.cons (.int 3 0) (.cons (.int 3 0) .nil)) 2) (some (.i (.i (.i .h))))
    (.cons none (.store 2 (.loc 0) (.var (.o (.o (.o (.o (.o .h))))))) none
    .nil)))
  (.block 1 (.seq (.region (.cons none (.load1 (.var (.o (.i (.i .h))))) none
    (.cons none (.arith .add 3 (.loc 0) (.lit (.int 3 1))) none
    (.cons none (.store 1 (.var (.o (.i (.i .h)))) (.loc 0)) none
    .nil))))
  (.seq (.seq (.region (.cons none (.load1 (.var (.o (.i (.i .h))))) none
    (.cons none (.cmp .gtr (.loc 0) (.lit (.int 3 50))) (some (.o (.o (.i (.o (.o .h))))))
    .nil)))
  (.cond (.var (.o (.o (.i (.o (.o .h)))))) (.seq (.region (.cons none (.build (.cons (.int 3 0) (.cons (.int 3 0) .nil)) .nil) none
    (.cons none (.store 2 (.var (.o (.i (.o .h)))) (.loc 0)) none
    (.cons none (.store 1 (.var (.i (.i (.o .h)))) (.lit (.int 3 12))) none
    .nil))))
  .ret)
  .skip))
  (.seq (.region (.cons none (.load1 (.var (.o (.i .h)))) none
    (.cons none (.loadN 2 (.var (.i (.i (.i .h))))) none
    (.cons none (.loadN 2 (.var (.i (.o (.o .h))))) none
    (.cons none (.callF 45 (.cons (.loc 2) (.cons (.loc 1) (.cons (.loc 0) .nil)))) none
    (.cons none (.mov (.loc 0)) none
    (.cons none (.extract 0 (.loc 0)) none
    (.cons none (.extract 1 (.loc 1)) none
    (.cons none (.alloc (.cons (.int 3 0) (.cons (.int 3 0) .nil)) 2) (some (.o (.o (.o (.o .h)))))
    (.cons none (.store 2 (.loc 0) (.loc 2)) none
    (.cons none (.mov (.loc 2)) none
    .nil)))))))))))
  (.seq (.draw (.cons none (.callF 109 .nil) none .heavy
    (.cons none (.loadN 2 (.var (.o (.o (.o (.o .h)))))) none (.light 1)
    (.cons none (.eq (.flat [.int, .int]) true (.loc 0) (.loc 1)) (some (.i (.i (.i (.i (.o .h)))))) (.light 0)
    .nil))) 0)
  (.cond (.var (.i (.i (.i (.i (.o .h)))))) (.seq (.region (.cons none (.loadN 2 (.var (.o (.o (.o (.o .h)))))) none
    (.cons none (.store 2 (.var (.o (.i (.o .h)))) (.loc 0)) none
    (.cons none (.store 1 (.var (.i (.i (.o .h)))) (.lit (.int 3 0))) none
    .nil))))
  .ret)
  .skip)))))) (srcOf (Try.prog.funcs[64]?) 0).1 (srcOf (Try.prog.funcs[64]?) 0).2 48 (fun t => Nat.testBit 35203170991071 t))))
  (.seq (.region (.cons none (.callF 109 .nil) none
    (.cons none (.store 2 (.var (.o (.i (.o .h)))) (.loc 0)) none
    (.cons none (.store 1 (.var (.i (.i (.o .h)))) (.lit (.int 3 0))) none
    .nil))))
  .ret))))),
  [.cellN (.o (.i (.o .h))) 2, .cell1 (.i (.i (.o .h)))], none⟩
theorem c64 : FnOk Try.prog 0 64 cf64 :=
  .of Try.func64 (n := 48) (by kernel_rfl) (far := fun t => Nat.testBit 35203170991071 t) (by kernel_rfl)
-- (*tallow/intern.Strings).Of
def cf65 : CFunc := ⟨(.seq (.region (.cons none (.alloc (.cons (.int 3 0) (.cons (.int 3 0) .nil)) 2) (some (.o (.i .h)))
    .nil))
  (.seq (.seq (.region (.cons none (.mov (.var (.o .h))) none
    (.cons none (.eq .ptr false (.loc 0) (.lit .nilptr)) (some (.i (.i (.o .h))))
    .nil)))
  (.cond (.var (.i (.i (.o .h)))) (.seq (.region (.cons none (.build (.cons (.int 3 0) (.cons (.int 3 0) .nil)) .nil) none
    (.cons none (.store 2 (.var (.o (.i .h))) (.loc 0)) none
    .nil)))
  .ret)
  .skip))
  (.seq (.seq (.region (.cons none (.mov (.var (.o .h))) none
    (.cons none (.mov (.var (.i .h))) none
    (.cons none (.callF 114 (.cons (.loc 1) (.cons (.loc 0) .nil))) none
    (.cons none (.mov (.loc 0)) none
    (.cons none (.extract 0 (.loc 0)) none
    (.cons none (.extract 1 (.loc 1)) none
    (.cons none (.alloc (.cons (.int 3 0) (.cons (.int 3 0) .nil)) 2) (some (.i (.i .h)))
    (.cons none (.store 2 (.loc 0) (.loc 2)) none
    (.cons none (.mov (.loc 2)) (some (.o (.o (.o .h))))
    .nil))))))))))
  (.seq (.region (.cons none (.mov (.var (.o (.o (.o .h))))) (some (.i (.i (.o (.o .h)))))
    .nil))
  (.cond (.var (.i (.i (.o (.o .h))))) (.seq (.draw (.cons none (.mov (.var (.o .h))) none (.light 0)
    (.cons none (.nilCheck (.loc 0)) none (.light 0)
    (.cons none (.fieldAddr 0 (.loc 0)) none (.light 0)
    (.cons none (.load1 (.loc 0)) none (.light 0)
    (.cons none (.loadN 2 (.var (.i (.i .h)))) none (.light 0)
    (.cons none (.callF 18 (.cons (.loc 1) (.cons (.loc 0) .nil))) none .heavy
    .nil)))))) 0)
  (.seq (.region (.cons none (.loadN 2 (.var (.i (.i .h)))) none
    (.cons none (.store 2 (.var (.o (.i .h))) (.loc 0)) none
    .nil)))
  .ret))
  .skip)))
  (.seq (.region (.cons none (.mov (.var (.o .h))) none
    (.cons none (.nilCheck (.loc 0)) none
    (.cons none (.fieldAddr 0 (.loc 0)) none
    (.cons none (.load1 (.loc 0)) none
    (.cons none (.mov (.var (.i .h))) none
    (.cons none (.callF 48 (.cons (.loc 1) (.cons (.lit (.int 3 5)) (.cons (.loc 0) .nil)))) none
    (.cons none (.alloc (.cons (.int 3 0) (.cons (.int 3 0) .nil)) 2) (some (.i (.o (.o .h))))
    (.cons none (.store 2 (.loc 0) (.loc 1)) none
    .nil)))))))))
  (.seq (.seq (.region (.cons none (.fieldAddr 0 (.var (.i (.o (.o .h))))) none
    (.cons none (.load1 (.loc 0)) none
    (.cons none (.cmp .eql (.loc 0) (.lit (.int 3 5))) (some (.i (.i (.o (.o (.o .h))))))
    .nil))))
  (.cond (.var (.i (.i (.o (.o (.o .h)))))) (.draw (.cons none (.mov (.var (.o .h))) none (.light 0)
    (.cons none (.nilCheck (.loc 0)) none (.light 0)
    (.cons none (.fieldAddr 1 (.loc 0)) none (.light 0)
    (.cons none (.load1 (.loc 0)) none (.light 0)
    (.cons none (.mov (.var (.i .h))) none (.light 0)
    (.cons none (.fieldAddr 1 (.var (.i (.o (.o .h))))) none (.light 0)
    (.cons none (.load1 (.loc 0)) none (.light 0)
    (.cons none (.update (.leaf .str) (.loc 3) (.loc 2) (.loc 0)) none .heavy
    .nil)))))))) 0)
  .skip))
  (.seq (.region (.cons none (.loadN 2 (.var (.i (.o (.o .h))))) none
    (.cons none (.store 2 (.var (.o (.i .h))) (.loc 0)) none
    .nil)))
  .ret)))))),
  [.cellN (.o (.i .h)) 2], none⟩
theorem c65 : FnOk Try.prog 0 65 cf65 :=
  .of Try.func65 (n := 42) (by kernel_rfl) (far := fun t => Nat.testBit 8590066419 t) (by kernel_rfl)
-- (*tallow/cells.Heap).counted
def cf71 : CFunc := ⟨(.seq (.region (.cons none (.box (.var (.i .h))) (some (.i (.o .h)))
    (.cons none (.mov (.lit .nilptr)) (some (.o (.i .h)))
    (.cons none (.mov (.lit (.int 3 0))) (some (.i (.i .h)))
    .nil))))
  (.seq (.seq (.region (.cons none (.mov (.var (.o .h))) none
    (.cons none (.eq .ptr false (.loc 0) (.lit .nilptr)) (some (.o (.i (.o .h))))
    .nil)))
  (.cond (.var (.o (.i (.o .h)))) (.seq (.region (.cons none (.mov (.lit .nilptr)) (some (.o (.i .h)))
    (.cons none (.mov (.lit (.int 3 1))) (some (.i (.i .h)))
    .nil)))
  .ret)
  .skip))
  (.seq (.seq (.region (.cons none (.loadN 2 (.var (.i (.o .h)))) none
    (.cons none (.callF 77 (.cons (.loc 0) .nil)) none
    (.cons none (.not (.loc 0)) (some (.i (.o (.i .h))))
    .nil))))
  (.cond (.var (.i (.o (.i .h)))) (.seq (.region (.cons none (.mov (.lit .nilptr)) (some (.o (.i .h)))
    (.cons none (.mov (.lit (.int 3 0))) (some (.i (.i .h)))
    .nil)))
  .ret)
  .skip))
  (.seq (.draw (.cons none (.mov (.var (.o .h))) none (.light 0)
    (.cons none (.nilCheck (.loc 0)) none (.light 0)
    (.cons none (.fieldAddr 1 (.loc 0)) none (.light 0)
    (.cons none (.load1 (.loc 0)) none (.light 0)
    (.cons none (.fieldAddr 1 (.var (.i (.o .h)))) none (.light 0)
    (.cons none (.load1 (.loc 0)) none (.light 0)
    (.cons none (.lookup (.leaf .int) .nilptr false (.loc 2) (.loc 0)) none (.light 0)
    (.cons none (.mov (.loc 0)) (some (.o (.o (.o .h)))) (.light 0)
    .nil)))))))) 0)
  (.seq (.seq (.region (.cons none (.mov (.var (.o .h))) none
    (.cons none (.loadN 2 (.var (.i (.o .h)))) none
    (.cons none (.callF 115 (.cons (.loc 1) (.cons (.loc 0) .nil))) none
    (.cons none (.not (.loc 0)) none
    (.cons none (.mov (.loc 0)) none
    (.cons (some (0, false)) (.mov (.var (.o (.o (.o .h))))) none
    (.cons (some (1, false)) (.nilCheck (.loc 0)) none
    (.cons (some (2, false)) (.fieldAddr 1 (.loc 0)) none
    (.cons (some (3, false)) (.load1 (.loc 0)) none
    (.cons (some (4, false)) (.cmp .eql (.loc 0) (.lit (.int 3 0))) none
    (.cons none (.pick (.loc 5) (.lit (.bool true)) (.loc 0)) (some (.i (.i (.i (.i .h)))))
    .nil))))))))))))
  (.cond (.var (.i (.i (.i (.i .h))))) (.seq (.region (.cons none (.mov (.lit .nilptr)) (some (.o (.i .h)))
    (.cons none (.mov (.lit (.int 3 5))) (some (.i (.i .h)))
    .nil)))
  .ret)
  .skip))
  (.seq (.region (.cons none (.mov (.var (.o .h))) none
    (.cons none (.fieldAddr 1 (.var (.i (.o .h)))) none
    (.cons none (.load1 (.loc 0)) none
    (.cons none (.callF 81 (.cons (.loc 2) (.cons (.loc 0) .nil))) none
    .nil)))))
  (.seq (.region (.cons none (.mov (.var (.o (.o (.o .h))))) none
    (.cons none (.mov (.loc 0)) (some (.o (.i .h)))
    (.cons none (.mov (.lit (.int 3 0))) (some (.i (.i .h)))
    .nil))))
  .ret))))))),
  [.tmp (.o (.i .h)), .tmp (.i (.i .h))], none⟩
theorem c71 : FnOk Try.prog 0 71 cf71 :=
  .of Try.func71 (n := 35) (by kernel_rfl) (far := fun t => Nat.testBit 536873339 t) (by kernel_rfl)
-- (*tallow/cells.Heap).find
def cf75 : CFunc := ⟨(.seq (.region (.cons none (.mov (.lit .nilptr)) (some (.o (.i .h)))
    (.cons none (.mov (.lit (.int 3 0))) (some (.i (.i .h)))
    .nil)))
  (.seq (.seq (.region (.cons none (.mov (.var (.o .h))) none
    (.cons none (.eq .ptr false (.loc 0) (.lit .nilptr)) (some (.o (.i (.o .h))))
    .nil)))
  (.cond (.var (.o (.i (.o .h)))) (.seq (.region (.cons none (.mov (.lit .nilptr)) (some (.o (.i .h)))
    (.cons none (.mov (.lit (.int 3 1))) (some (.i (.i .h)))
    .nil)))
  .ret)
  .skip))
  (.seq (.seq (.region (.cons none (.mov (.var (.o .h))) none
    (.cons none (.nilCheck (.loc 0)) none
    (.cons none (.fieldAddr 1 (.loc 0)) none
    (.cons none (.load1 (.loc 0)) none
    (.cons none (.mov (.var (.i .h))) none
    (.cons none (.lookup (.leaf .int) .nilptr false (.loc 1) (.loc 0)) none
    (.cons none (.mov (.loc 0)) (some (.o (.o (.o .h))))
    .nil))))))))
  (.seq (.region (.cons none (.mov (.var (.o (.o (.o .h))))) none
    (.cons none (.eq .ptr true (.loc 0) (.lit .nilptr)) (some (.o (.i (.o (.o .h)))))
    .nil)))
  (.cond (.var (.o (.i (.o (.o .h))))) (.seq (.region (.cons none (.mov (.var (.o (.o (.o .h))))) none
    (.cons none (.mov (.loc 0)) (some (.o (.i .h)))
    (.cons none (.mov (.lit (.int 3 0))) (some (.i (.i .h)))
    .nil))))
  .ret)
  .skip)))
  (.seq (.region (.cons none (.mov (.lit .nilptr)) (some (.o (.i .h)))
    (.cons none (.mov (.lit (.int 3 5))) (some (.i (.i .h)))
    .nil)))
  .ret)))),
  [.tmp (.o (.i .h)), .tmp (.i (.i .h))], none⟩
theorem c75 : FnOk Try.prog 0 75 cf75 :=
  .of Try.func75 (n := 18) (by kernel_rfl) (far := fun t => Nat.testBit 65907 t) (by kernel_rfl)
-- slices.Clone[[]tallow/api.Value,tallow/api.Value]
def cf76 : CFunc := ⟨(.seq (.region (.cons none (.mov (.lit .nilslice)) (some (.o (.o .h)))
    .nil))
  (.seq (.seq (.region (.cons none (.mov (.var (.o .h))) none
    (.cons none (.eq .slice false (.loc 0) (.lit .nilslice)) (some (.o (.i .h)))
    .nil)))
  (.cond (.var (.o (.i .h))) (.seq (.region (.cons none (.mov (.lit .nilslice)) (some (.o (.o .h)))
    .nil))
  .ret)
  .skip))
  (.seq (.region (.cons none (.buildSlice (.cons (.int 3 0) (.cons (.int 3 0) .nil)) 0 0 .nil) none
    (.cons none (.mov (.var (.o .h))) none
    (.cons none (.append (.cons (.int 3 0) (.cons (.int 3 0) .nil)) 2 (.loc 1) (.loc 0)) none
    (.cons none (.mov (.loc 0)) (some (.o (.o .h)))
    .nil)))))
  .ret))),
  [.tmp (.o (.o .h))], none⟩
theorem c76 : FnOk Try.prog 0 76 cf76 :=
  .of Try.func76 (n := 8) (by kernel_rfl) (far := fun t => Nat.testBit 21 t) (by kernel_rfl)
-- tallow/val.Ref
def cf77 : CFunc := ⟨(.seq (.region (.cons none (.box (.var (.o .h))) (some (.i .h))
    (.cons none (.mov (.lit (.bool false))) (some (.o (.o .h)))
    .nil)))
  (.seq (.region (.cons none (.fieldAddr 0 (.var (.i .h))) none
    (.cons none (.load1 (.loc 0)) none
    (.cons none (.cmp .geq (.loc 0) (.lit (.int 3 5))) none
    (.cons none (.mov (.loc 0)) none
    (.cons (some (0, true)) (.loadN 2 (.var (.i .h))) none
    (.cons (some (1, true)) (.callF 117 (.cons (.loc 0) .nil)) none
    (.cons none (.pick (.loc 2) (.loc 0) (.lit (.bool false))) none
    (.cons none (.mov (.loc 0)) (some (.o (.o .h)))
    .nil)))))))))
  .ret)),
  [.tmp (.o (.o .h))], none⟩
theorem c77 : FnOk Try.prog 0 77 cf77 :=
  .of Try.func77 (n := 10) (by kernel_rfl) (far := fun t => Nat.testBit 7 t) (by kernel_rfl)
-- (*tallow/cells.Heap).Swap
def cf79 : CFunc := ⟨(.seq (.region (.cons none (.box (.var (.i (.o .h)))) (some (.i (.o (.o .h))))
    (.cons none (.alloc (.cons (.int 3 0) (.cons (.int 3 0) .nil)) 2) (some (.o (.i (.o .h))))
    (.cons none (.mov (.lit (.int 3 0))) (some (.i (.i (.o .h))))
    .nil))))
  (.seq (.region (.cons none (.mov (.var (.o .h))) none
    (.cons none (.mov (.var (.i .h))) none
    (.cons none (.mov (.var (.o (.o .h)))) none
    (.cons none (.callF 80 (.cons (.loc 2) (.cons (.loc 1) (.cons (.loc 0) .nil)))) none
    (.cons none (.mov (.loc 0)) none
    (.cons none (.extract 0 (.loc 0)) none
    (.cons none (.extract 1 (.loc 1)) none
    (.cons none (.alloc (.cons (.int 3 0) (.cons (.int 3 0) .nil)) 2) (some (.o (.o (.i .h))))
    (.cons none (.store 2 (.loc 0) (.loc 2)) none
    (.cons none (.mov (.loc 2)) (some (.i (.o (.i .h))))
    .nil)))))))))))
  (.seq (.seq (.region (.cons none (.mov (.var (.i (.o (.i .h))))) none
    (.cons none (.cmp .neq (.loc 0) (.lit (.int 3 0))) (some (.o (.i (.i (.o .h)))))
    .nil)))
  (.cond (.var (.o (.i (.i (.o .h))))) (.seq (.region (.cons none (.build (.cons (.int 3 0) (.cons (.int 3 0) .nil)) .nil) none
    (.cons none (.mov (.var (.i (.o (.i .h))))) none
    (.cons none (.store 2 (.var (.o (.i (.o .h)))) (.loc 1)) none
    (.cons none (.mov (.loc 1)) (some (.i (.i (.o .h))))
    .nil)))))
  .ret)
  .skip))
  (.seq (.seq (.region (.cons none (.mov (.var (.o .h))) none
    (.cons none (.loadN 2 (.var (.i (.o (.o .h))))) none
    (.cons none (.callF 115 (.cons (.loc 1) (.cons (.loc 0) .nil))) none
    (.cons none (.not (.loc 0)) (some (.o (.o (.i (.i .h)))))
    .nil)))))
  (.cond (.var (.o (.o (.i (.i .h))))) (.seq (.region (.cons none (.build (.cons (.int 3 0) (.cons (.int 3 0) .nil)) .nil) none
    (.cons none (.store 2 (.var (.o (.i (.o .h)))) (.loc 0)) none
    (.cons none (.mov (.lit (.int 3 2))) (some (.i (.i (.o .h))))
    .nil))))
  .ret)
  .skip))
  (.seq (.draw (.cons none (.mov (.var (.o .h))) none (.light 0)
    (.cons none (.nilCheck (.loc 0)) none (.light 0)
    (.cons none (.fieldAddr 1 (.loc 0)) none (.light 0)
    (.cons none (.load1 (.loc 0)) none (.light 0)
    (.cons none (.mov (.var (.i .h))) none (.light 0)
    (.cons none (.lookup (.leaf .int) .nilptr false (.loc 1) (.loc 0)) none (.light 0)
    (.cons none (.nilCheck (.loc 0)) none (.light 0)
    (.cons none (.fieldAddr 2 (.loc 0)) none (.light 0)
    (.cons none (.load1 (.loc 0)) none (.light 0)
    (.cons none (.mov (.var (.o (.o .h)))) none (.light 0)
    (.cons none (.loadN 2 (.var (.i (.o (.o .h))))) none (.light 0)
    (.cons none (.idxSl 2 (.loc 2) (.loc 1)) none (.light 0)
    (.cons none (.store 2 (.loc 0) (.loc 1)) none .heavy
    .nil))))))))))))) 0)
  (.seq (.region (.cons none (.mov (.var (.o .h))) none
    (.cons none (.mov (.var (.i .h))) none
    (.cons none (.callF 81 (.cons (.loc 1) (.cons (.loc 0) .nil))) none
    .nil))))
  (.seq (.region (.cons none (.loadN 2 (.var (.o (.o (.i .h))))) none
    (.cons none (.store 2 (.var (.o (.i (.o .h)))) (.loc 0)) none
    (.cons none (.mov (.lit (.int 3 0))) (some (.i (.i (.o .h))))
    .nil))))
  .ret))))))),
  [.cellN (.o (.i (.o .h))) 2, .tmp (.i (.i (.o .h)))], none⟩
theorem c79 : FnOk Try.prog 0 79 cf79 :=
  .of Try.func79 (n := 44) (by kernel_rfl) (far := fun t => Nat.testBit 68161423 t) (by kernel_rfl)
-- (*tallow/cells.Heap).At
def cf80 : CFunc := ⟨(.seq (.region (.cons none (.alloc (.cons (.int 3 0) (.cons (.int 3 0) .nil)) 2) (some (.o (.o (.o .h))))
    (.cons none (.mov (.lit (.int 3 0))) (some (.i (.o (.o .h))))
    .nil)))
  (.seq (.region (.cons none (.mov (.var (.o .h))) none
    (.cons none (.mov (.var (.i .h))) none
    (.cons none (.callF 75 (.cons (.loc 1) (.cons (.loc 0) .nil))) none
    (.cons none (.mov (.loc 0)) none
    (.cons none (.extract 0 (.loc 0)) none
    (.cons none (.extract 1 (.loc 1)) none
    (.cons none (.mov (.loc 1)) (some (.o (.i (.o .h))))
    (.cons none (.mov (.loc 1)) (some (.i (.i (.o .h))))
    .nil)))))))))
  (.seq (.seq (.region (.cons none (.mov (.var (.i (.i (.o .h))))) none
    (.cons none (.cmp .neq (.loc 0) (.lit (.int 3 0))) (some (.i (.i (.o (.o .h)))))
    .nil)))
  (.cond (.var (.i (.i (.o (.o .h))))) (.seq (.region (.cons none (.build (.cons (.int 3 0) (.cons (.int 3 0) .nil)) .nil) none
    (.cons none (.mov (.var (.i (.i (.o .h))))) none
    (.cons none (.store 2 (.var (.o (.o (.o .h)))) (.loc 1)) none
    (.cons none (.mov (.loc 1)) (some (.i (.o (.o .h))))
    .nil)))))
  .ret)
  .skip))
  (.seq (.seq (.region (.cons none (.mov (.var (.o (.o .h)))) none
    (.cons none (.cmp .lss (.loc 0) (.lit (.int 3 0))) none
    (.cons none (.mov (.loc 0)) none
    (.cons (some (0, false)) (.mov (.var (.o (.o .h)))) none
    (.cons (some (1, false)) (.mov (.var (.o (.i (.o .h))))) none
    (.cons (some (2, false)) (.nilCheck (.loc 0)) none
    (.cons (some (3, false)) (.fieldAddr 2 (.loc 0)) none
    (.cons (some (4, false)) (.load1 (.loc 0)) none
    (.cons (some (5, false)) (.lenSl (.loc 0)) none
    (.cons (some (6, false)) (.cmp .geq (.loc 5) (.loc 0)) none
    (.cons none (.pick (.loc 7) (.lit (.bool true)) (.loc 0)) (some (.o (.o (.o (.o (.o .h))))))
    .nil))))))))))))
  (.cond (.var (.o (.o (.o (.o (.o .h)))))) (.seq (.region (.cons none (.build (.cons (.int 3 0) (.cons (.int 3 0) .nil)) .nil) none
    (.cons none (.store 2 (.var (.o (.o (.o .h)))) (.loc 0)) none
    (.cons none (.mov (.lit (.int 3 5))) (some (.i (.o (.o .h))))
    .nil))))
  .ret)
  .skip))
  (.seq (.region (.cons none (.mov (.var (.o (.i (.o .h))))) none
    (.cons none (.nilCheck (.loc 0)) none
    (.cons none (.fieldAddr 2 (.loc 0)) none
    (.cons none (.load1 (.loc 0)) none
    (.cons none (.mov (.var (.o (.o .h)))) none
    (.cons none (.idxSl 2 (.loc 1) (.loc 0)) none
    (.cons none (.loadN 2 (.loc 0)) none
    (.cons none (.store 2 (.var (.o (.o (.o .h)))) (.loc 0)) none
    (.cons none (.mov (.lit (.int 3 0))) (some (.i (.o (.o .h))))
    .nil))))))))))
  .ret))))),
  [.cellN (.o (.o (.o .h))) 2, .tmp (.i (.o (.o .h)))], none⟩
theorem c80 : FnOk Try.prog 0 80 cf80 :=
  .of Try.func80 (n := 39) (by kernel_rfl) (far := fun t => Nat.testBit 1073873863 t) (by kernel_rfl)
-- (*tallow/cells.Heap).touch
def cf81 : CFunc := ⟨(.region (.cons none (.mov (.var (.o .h))) none
    (.cons none (.mov (.var (.o .h))) none
    (.cons none (.nilCheck (.loc 0)) none
    (.cons none (.fieldAddr 7 (.loc 0)) none
    (.cons none (.load1 (.loc 0)) none
    (.cons none (.mov (.loc 0)) none
    (.cons (some (0, false)) (.mov (.var (.o .h))) none
    (.cons (some (1, false)) (.nilCheck (.loc 0)) none
    (.cons (some (2, false)) (.fieldAddr 6 (.loc 0)) none
    (.cons (some (3, false)) (.load1 (.loc 0)) none
    (.cons (some (4, false)) (.mov (.var (.i .h))) none
    (.cons (some (5, false)) (.callV (.loc 1) (.cons (.loc 0) .nil)) none
    (.cons none (.pick (.loc 6) (.lit (.bool true)) (.loc 0)) none
    (.cons none (.nilCheck (.loc 12)) none
    (.cons none (.fieldAddr 7 (.loc 0)) none
    (.cons none (.store 1 (.loc 0) (.loc 2)) none
    .nil))))))))))))))))),
  [], none⟩
theorem c81 : FnOk Try.prog 0 81 cf81 :=
  .of Try.func81 (n := 19) (by kernel_rfl) (far := fun t => Nat.testBit 3 t) (by kernel_rfl)
-- tallow/cells.without[int]
def cf82 : CFunc := ⟨(.seq (.region (.cons none (.box (.var (.i .h))) (some (.i (.o .h)))
    (.cons none (.mov (.lit .nilslice)) (some (.o (.i .h)))
    .nil)))
  (.seq (.region (.cons none (.mov (.var (.o .h))) none
    (.cons none (.mkFunc (.func 119) .nil (.cons (.var (.i (.o .h))) .nil)) none
    (.cons none (.callF 118 (.cons (.loc 1) (.cons (.loc 0) .nil))) none
    (.cons none (.mov (.loc 0)) (some (.o (.i .h)))
    .nil)))))
  .ret)),
  [.tmp (.o (.i .h))], none⟩
theorem c82 : FnOk Try.prog 0 82 cf82 :=
  .of Try.func82 (n := 8) (by kernel_rfl) (far := fun t => Nat.testBit 27 t) (by kernel_rfl)
-- slices.Contains[[]int,int]
def cf83 : CFunc := ⟨(.seq (.region (.cons none (.mov (.lit (.bool false))) (some (.o (.i .h)))
    .nil))
  (.seq (.region (.cons none (.mov (.var (.o .h))) none
    (.cons none (.mov (.var (.i .h))) none
    (.cons none (.callF 120 (.cons (.loc 1) (.cons (.loc 0) .nil))) none
    (.cons none (.cmp .geq (.loc 0) (.lit (.int 3 0))) none
    (.cons none (.mov (.loc 0)) (some (.o (.i .h)))
    .nil))))))
  .ret)),
  [.tmp (.o (.i .h))], none⟩
theorem c83 : FnOk Try.prog 0 83 cf83 :=
  .of Try.func83 (n := 9) (by kernel_rfl) (far := fun t => Nat.testBit 19 t) (by kernel_rfl)
-- tallow/pool.New
def cf84 : CFunc := ⟨(.seq (.region (.cons none (.mov (.lit .nilptr)) (some (.o .h))
    .nil))
  (.seq (.region (.cons none .mkMap none
    (.cons none (.build (.cons .nilmap (.cons .nilslice (.cons (.int 3 0) .nil))) (.cons 0 1 (.loc 0) (.cons 2 1 (.lit (.int 3 1)) .nil))) none
    (.cons none (.box (.loc 0)) none
    (.cons none (.mov (.loc 0)) (some (.o .h))
    .nil)))))
  .ret)),
  [.tmp (.o .h)], none⟩
theorem c84 : FnOk Try.prog 0 84 cf84 :=
  .of Try.func84 (n := 4) (by kernel_rfl) (far := fun t => Nat.testBit 1 t) (by kernel_rfl)
-- tallow/cells.New$1
def cf85 : CFunc := ⟨(.seq (.region (.cons none (.mov (.lit (.bool false))) (some (.o (.o .h)))
    .nil))
  (.seq (.region (.cons none (.mov (.lit (.bool false))) (some (.o (.o .h)))
    .nil))
  .ret)),
  [.tmp (.o (.o .h))], none⟩
theorem c85 : FnOk Try.prog 0 85 cf85 :=
  .of Try.func85 (n := 3) (by kernel_rfl) (far := fun t => Nat.testBit 4 t) (by kernel_rfl)
-- (*tallow/cells.Heap).Lay
def cf86 : CFunc := ⟨(.seq (.region (.cons none (.box (.var (.o .h))) (some (.i (.o .h)))
    (.cons none (.mov (.lit (.int 3 0))) (some (.o (.o (.o .h))))
    .nil)))
  (.seq (.region (.cons none (.load1 (.var (.i (.o .h)))) none
    (.cons none (.mov (.var (.i .h))) none
    (.cons none (.callF 75 (.cons (.loc 1) (.cons (.loc 0) .nil))) none
    (.cons none (.mov (.loc 0)) none
    (.cons none (.extract 0 (.loc 0)) none
    (.cons none (.extract 1 (.loc 1)) none
    (.cons none (.mov (.loc 1)) (some (.i (.o (.o .h))))
    (.cons none (.mov (.loc 1)) (some (.o (.i (.o .h))))
    .nil)))))))))
  (.seq (.seq (.region (.cons none (.mov (.var (.o (.i (.o .h))))) none
    (.cons none (.cmp .neq (.loc 0) (.lit (.int 3 0))) (some (.o (.i (.o (.o .h)))))
    .nil)))
  (.cond (.var (.o (.i (.o (.o .h))))) (.seq (.region (.cons none (.mov (.var (.o (.i (.o .h))))) none
    (.cons none (.mov (.loc 0)) (some (.o (.o (.o .h))))
    .nil)))
  .ret)
  .skip))
  (.seq (.seq (.region (.cons none (.mov (.var (.i (.o (.o .h))))) none
    (.cons none (.nilCheck (.loc 0)) none
    (.cons none (.fieldAddr 0 (.loc 0)) none
    (.cons none (.load1 (.loc 0)) none
    (.cons none (.cmp .eql (.loc 0) (.lit (.int 3 5))) none
    (.cons none (.mov (.loc 0)) none
    (.cons (some (0, false)) (.mov (.var (.o (.o .h)))) none
    (.cons (some (1, false)) (.mkFunc (.func 122) .nil (.cons (.var (.i (.o .h))) .nil)) none
    (.cons (some (2, false)) (.callF 121 (.cons (.loc 1) (.cons (.loc 0) .nil))) none
    (.cons none (.pick (.loc 3) (.lit (.bool true)) (.loc 0)) (some (.i (.o (.i (.i .h)))))
    .nil)))))))))))
  (.cond (.var (.i (.o (.i (.i .h))))) (.seq (.region (.cons none (.mov (.lit (.int 3 2))) (some (.o (.o (.o .h))))
    .nil))
  .ret)
  .skip))
  (.seq (.region (.cons none (.mov (.var (.i (.o (.o .h))))) none
    (.cons none (.mov (.var (.o (.o .h)))) none
    (.cons none (.callF 76 (.cons (.loc 0) .nil)) none
    (.cons none (.nilCheck (.loc 2)) none
    (.cons none (.fieldAddr 2 (.loc 0)) none
    (.cons none (.store 1 (.loc 0) (.loc 2)) none
    .nil)))))))
  (.seq (.region (.cons none (.load1 (.var (.i (.o .h)))) none
    (.cons none (.mov (.var (.i .h))) none
    (.cons none (.callF 81 (.cons (.loc 1) (.cons (.loc 0) .nil))) none
    .nil))))
  (.seq (.region (.cons none (.mov (.lit (.int 3 0))) (some (.o (.o (.o .h))))
    .nil))
  .ret))))))),
  [.tmp (.o (.o (.o .h)))], none⟩
theorem c86 : FnOk Try.prog 0 86 cf86 :=
  .of Try.func86 (n := 36) (by kernel_rfl) (far := fun t => Nat.testBit 134283727 t) (by kernel_rfl)
-- tallow/dict.New
def cf87 : CFunc := ⟨(.seq (.region (.cons none (.mov (.lit .nilslice)) (some (.o .h))
    .nil))
  (.seq (.region (.cons none (.build (.cons (.int 3 0) (.cons (.int 3 0) .nil)) (.cons 0 1 (.lit (.int 3 1)) .nil)) none
    (.cons none (.callF 123 (.cons (.lit (.int 3 0)) .nil)) none
    (.cons none (.buildSlice (.cons (.int 3 0) (.cons (.int 3 0) .nil)) 4 2 (.cons 0 2 (.loc 1) (.cons 2 2 (.loc 0) .nil))) none
    (.cons none (.mov (.loc 0)) (some (.o .h))
    .nil)))))
  .ret)),
  [.tmp (.o .h)], none⟩
theorem c87 : FnOk Try.prog 0 87 cf87 :=
  .of Try.func87 (n := 4) (by kernel_rfl) (far := fun t => Nat.testBit 1 t) (by kernel_rfl)
-- tallow/table.told[[]tallow/api.Value]
def cf88 : CFunc := ⟨(.seq (.region (.cons none (.box (.var (.i .h))) (some (.o (.i .h)))
    (.cons none (.mov (.lit .nilslice)) (some (.o (.o (.o .h))))
    (.cons none (.mov (.lit (.int 3 0))) (some (.i (.o (.o .h))))
    .nil))))
  (.seq (.region (.cons none (.mov (.var (.o .h))) none
    (.cons none (.loadN 2 (.var (.o (.i .h)))) none
    (.cons none (.callF 100 (.cons (.loc 1) (.cons (.loc 0) .nil))) none
    (.cons none (.mov (.loc 0)) none
    (.cons none (.extract 0 (.loc 0)) none
    (.cons none (.extract 1 (.loc 1)) none
    (.cons none (.mov (.loc 1)) (some (.o (.i (.o .h))))
    (.cons none (.mov (.loc 1)) (some (.i (.i (.o .h))))
    .nil)))))))))
  (.seq (.seq (.region (.cons none (.mov (.var (.i (.i (.o .h))))) none
    (.cons none (.not (.loc 0)) (some (.o (.o (.i (.o .h)))))
    .nil)))
  (.cond (.var (.o (.o (.i (.o .h))))) (.seq (.region (.cons none (.mov (.lit .nilslice)) (some (.o (.o (.i .h))))
    .nil))
  (.seq (.region (.cons none (.mov (.var (.o (.o (.i .h))))) none
    (.cons none (.mov (.loc 0)) (some (.o (.o (.o .h))))
    (.cons none (.mov (.lit (.int 3 7))) (some (.i (.o (.o .h))))
    .nil))))
  .ret))
  .skip))
  (.seq (.region (.cons none (.mov (.var (.o (.o .h)))) none
    (.cons none (.mov (.var (.o (.i (.o .h))))) none
    (.cons none (.callV (.loc 1) (.cons (.loc 0) .nil)) none
    (.cons none (.extract 0 (.loc 0)) none
    (.cons none (.extract 1 (.loc 1)) none
    (.cons none (.mov (.loc 1)) (some (.o (.o (.o .h))))
    (.cons none (.mov (.loc 1)) (some (.i (.o (.o .h))))
    .nil))))))))
  .ret)))),
  [.tmp (.o (.o (.o .h))), .tmp (.i (.o (.o .h)))], none⟩
theorem c88 : FnOk Try.prog 0 88 cf88 :=
  .of Try.func88 (n := 25) (by kernel_rfl) (far := fun t => Nat.testBit 264151 t) (by kernel_rfl)
-- tallow/table.Put$1
def cf89 : CFunc := ⟨(.seq (.region (.cons none (.mov (.lit .nilslice)) (some (.o (.o (.o .h))))
    (.cons none (.mov (.lit (.int 3 0))) (some (.i (.o (.o .h))))
    .nil)))
  (.seq (.region (.cons none (.mov (.var (.o .h))) none
    (.cons none (.loadN 2 (.var (.i .h))) none
    (.cons none (.loadN 2 (.var (.o (.o .h)))) none
    (.cons none (.callF 90 (.cons (.loc 2) (.cons (.loc 1) (.cons (.loc 0) .nil)))) none
    (.cons none (.mov (.loc 0)) none
    (.cons none (.extract 0 (.loc 0)) none
    (.cons none (.extract 1 (.loc 1)) none
    (.cons none (.extract 2 (.loc 2)) none
    (.cons none (.mov (.loc 2)) (some (.o (.i (.o .h))))
    (.cons none (.mov (.loc 2)) (some (.i (.i (.o .h))))
    (.cons none (.mov (.loc 2)) (some (.o (.o (.i .h))))
    .nil))))))))))))
  (.seq (.seq (.region (.cons none (.mov (.var (.o (.o (.i .h))))) none
    (.cons none (.cmp .eql (.loc 0) (.lit (.int 3 0))) (some (.o (.i (.i (.o .h)))))
    .nil)))
  (.cond (.var (.o (.i (.i (.o .h))))) (.region (.cons none (.load1 (.var (.i (.o .h)))) none
    (.cons none (.fieldAddr 1 (.var (.o (.i .h)))) none
    (.cons none (.load1 (.loc 0)) none
    (.cons none (.mov (.var (.o (.i (.o .h))))) none
    (.cons none (.callF 86 (.cons (.loc 3) (.cons (.loc 1) (.cons (.loc 0) .nil)))) none
    (.cons none (.mov (.loc 0)) (some (.o (.o (.i .h))))
    .nil)))))))
  .skip))
  (.seq (.region (.cons none (.mov (.var (.i (.i (.o .h))))) none
    (.cons none (.mov (.var (.o (.o (.i .h))))) none
    (.cons none (.mov (.loc 1)) (some (.o (.o (.o .h))))
    (.cons none (.mov (.loc 1)) (some (.i (.o (.o .h))))
    .nil)))))
  .ret)))),
  [.tmp (.o (.o (.o .h))), .tmp (.i (.o (.o .h)))], none⟩
theorem c89 : FnOk Try.prog 0 89 cf89 :=
  .of Try.func89 (n := 28) (by kernel_rfl) (far := fun t => Nat.testBit 1050591 t) (by kernel_rfl)
-- tallow/dict.Put
def cf90 : CFunc := ⟨(.seq (.region (.cons none (.box (.var (.i .h))) (some (.o (.i .h)))
    (.cons none (.box (.var (.o (.o .h)))) (some (.i (.i .h)))
    (.cons none (.mov (.lit .nilslice)) (some (.o (.o (.o .h))))
    (.cons none (.mov (.lit .nilslice)) (some (.i (.o (.o .h))))
    (.cons none (.mov (.lit (.int 3 0))) (some (.o (.i (.o .h))))
    .nil))))))
  (.seq (.region (.cons none (.mov (.var (.o .h))) none
    (.cons none (.callF 124 (.cons (.loc 0) .nil)) none
    (.cons none (.mov (.loc 0)) none
    (.cons none (.extract 0 (.loc 0)) none
    (.cons none (.extract 1 (.loc 1)) none
    (.cons none (.extract 2 (.loc 2)) none
    (.cons none (.extract 3 (.loc 3)) none
    (.cons none (.mov (.loc 3)) (some (.i (.i (.o .h))))
    (.cons none (.mov (.loc 3)) (some (.o (.o (.i .h))))
    (.cons none (.mov (.loc 3)) none
    (.cons none (.mov (.loc 3)) (some (.o (.i (.i .h))))
    .nil))))))))))))
  (.seq (.seq (.region (.cons none (.mov (.var (.o (.i (.i .h))))) none
    (.cons none (.not (.loc 0)) none
    (.cons none (.mov (.loc 0)) none
    (.cons (some (0, false)) (.loadN 2 (.var (.o (.i .h)))) none
    (.cons (some (1, false)) (.callF 117 (.cons (.loc 0) .nil)) none
    (.cons (some (2, false)) (.not (.loc 0)) none
    (.cons none (.pick (.loc 3) (.lit (.bool true)) (.loc 0)) none
    (.cons none (.mov (.loc 0)) none
    (.cons (some (0, false)) (.loadN 2 (.var (.i (.i .h)))) none
    (.cons (some (1, false)) (.callF 117 (.cons (.loc 0) .nil)) none
    (.cons (some (2, false)) (.not (.loc 0)) none
    (.cons none (.pick (.loc 3) (.lit (.bool true)) (.loc 0)) none
    (.cons none (.mov (.loc 0)) none
    (.cons (some (0, false)) (.fieldAddr 0 (.var (.i (.i .h)))) none
    (.cons (some (1, false)) (.load1 (.loc 0)) none
    (.cons (some (2, false)) (.cmp .eql (.loc 0) (.lit (.int 3 0))) none
    (.cons none (.pick (.loc 3) (.lit (.bool true)) (.loc 0)) (some (.i (.i (.i (.o (.o .h))))))
    .nil))))))))))))))))))
  (.cond (.var (.i (.i (.i (.o (.o .h)))))) (.seq (.region (.cons none (.mov (.lit .nilslice)) (some (.o (.o (.o .h))))
    (.cons none (.mov (.lit .nilslice)) (some (.i (.o (.o .h))))
    (.cons none (.mov (.lit (.int 3 2))) (some (.o (.i (.o .h))))
    .nil))))
  .ret)
  .skip))
  (.seq (.seq (.region (.cons none (.loadN 2 (.var (.o (.i .h)))) none
    (.cons none (.callF 125 (.cons (.loc 0) .nil)) none
    (.cons none (.not (.loc 0)) (some (.o (.i (.o (.i (.o .h))))))
    .nil))))
  (.cond (.var (.o (.i (.o (.i (.o .h)))))) (.seq (.region (.cons none (.mov (.lit .nilslice)) (some (.o (.o (.o .h))))
    (.cons none (.mov (.lit .nilslice)) (some (.i (.o (.o .h))))
    (.cons none (.mov (.lit (.int 3 9))) (some (.o (.i (.o .h))))
    .nil))))
  .ret)
  .skip))
  (.seq (.region (.cons none (.mov (.var (.i (.i (.o .h))))) none
    (.cons none (.callF 76 (.cons (.loc 0) .nil)) none
    (.cons none (.mov (.var (.o (.o (.i .h))))) none
    (.cons none (.callF 76 (.cons (.loc 0) .nil)) none
    (.cons none (.build (.cons .nilslice (.cons .nilslice (.cons .nilslice .nil))) (.cons 0 1 (.loc 2) (.cons 1 1 (.loc 0) .nil))) none
    (.cons none (.box (.loc 0)) none
    (.cons none (.mov (.loc 0)) (some (.i (.i (.i .h))))
    .nil))))))))
  (.seq (.region (.cons none (.mov (.var (.i (.i (.i .h))))) none
    (.cons none (.loadN 2 (.var (.o (.i .h)))) none
    (.cons none (.loadN 2 (.var (.i (.i .h)))) none
    (.cons none (.callF 126 (.cons (.loc 2) (.cons (.loc 1) (.cons (.loc 0) .nil)))) none
    .nil)))))
  (.seq (.draw (.cons none (.mov (.var (.i (.i (.i .h))))) none (.light 0)
    (.cons none (.nilCheck (.loc 0)) none (.light 0)
    (.cons none (.fieldAddr 0 (.loc 0)) none (.light 0)
    (.cons none (.load1 (.loc 0)) none (.light 0)
    (.cons none (.lenSl (.loc 0)) none (.light 0)
    (.cons none (.callF 123 (.cons (.loc 0) .nil)) none .heavy
    (.cons none (.mov (.var (.o .h))) none (.light 1)
    (.cons none (.idxSl 2 (.loc 0) (.lit (.int 3 0))) none (.light 1)
    (.cons none (.loadN 2 (.loc 0)) none (.light 1)
    (.cons none (.buildSlice (.cons (.int 3 0) (.cons (.int 3 0) .nil)) 4 2 (.cons 0 2 (.loc 0) (.cons 2 2 (.loc 3) .nil))) none .float
    (.cons none (.mov (.var (.i (.i (.i .h))))) none (.light 1)
    (.cons none (.nilCheck (.loc 0)) none (.light 1)
    (.cons none (.fieldAddr 0 (.loc 0)) none (.light 1)
    (.cons none (.load1 (.loc 0)) none (.light 1)
    (.cons none (.mov (.var (.i (.i (.i .h))))) none (.light 1)
    (.cons none (.nilCheck (.loc 0)) none (.light 1)
    (.cons none (.fieldAddr 1 (.loc 0)) none (.light 1)
    (.cons none (.load1 (.loc 0)) none (.light 1)
    (.cons none (.buildSlice (.cons .nilslice .nil) 3 3 (.cons 0 1 (.loc 8) (.cons 1 1 (.loc 4) (.cons 2 1 (.loc 0) .nil)))) none .float
    (.cons none (.callF 127 (.cons (.loc 0) .nil)) none .heavy
    (.cons none (.mov (.var (.i (.i (.i .h))))) none (.light 2)
    (.cons none (.nilCheck (.loc 0)) none (.light 2)
    (.cons none (.fieldAddr 2 (.loc 0)) none (.light 2)
    (.cons none (.load1 (.loc 0)) none (.light 2)
    (.cons none (.mov (.loc 4)) (some (.o (.o (.o .h)))) (.light 0)
    (.cons none (.mov (.loc 1)) (some (.i (.o (.o .h)))) (.light 0)
    (.cons none (.mov (.lit (.int 3 0))) (some (.o (.i (.o .h)))) (.light 0)
    .nil))))))))))))))))))))))))))) 2)
  .ret))))))),
  [.tmp (.o (.o (.o .h))), .tmp (.i (.o (.o .h))), .tmp (.o (.i (.o .h)))], none⟩
theorem c90 : FnOk Try.prog 0 90 cf90 :=
  .of Try.func90 (n := 75) (by kernel_rfl) (far := fun t => Nat.testBit 1236950595575 t) (by kernel_rfl)
-- tallow/table.told[tallow/api.Value]
def cf91 : CFunc := ⟨(.seq (.region (.cons none (.box (.var (.i .h))) (some (.o (.i .h)))
    (.cons none (.alloc (.cons (.int 3 0) (.cons (.int 3 0) .nil)) 2) (some (.o (.o (.o .h))))
    (.cons none (.mov (.lit (.int 3 0))) (some (.i (.o (.o .h))))
    .nil))))
  (.seq (.region (.cons none (.mov (.var (.o .h))) none
    (.cons none (.loadN 2 (.var (.o (.i .h)))) none
    (.cons none (.callF 100 (.cons (.loc 1) (.cons (.loc 0) .nil))) none
    (.cons none (.mov (.loc 0)) none
    (.cons none (.extract 0 (.loc 0)) none
    (.cons none (.extract 1 (.loc 1)) none
    (.cons none (.mov (.loc 1)) (some (.o (.i (.o .h))))
    (.cons none (.mov (.loc 1)) (some (.i (.i (.o .h))))
    .nil)))))))))
  (.seq (.seq (.region (.cons none (.mov (.var (.i (.i (.o .h))))) none
    (.cons none (.not (.loc 0)) (some (.o (.o (.i (.o .h)))))
    .nil)))
  (.cond (.var (.o (.o (.i (.o .h))))) (.seq (.region (.cons none (.alloc (.cons (.int 3 0) (.cons (.int 3 0) .nil)) 2) (some (.o (.o (.i .h))))
    .nil))
  (.seq (.region (.cons none (.loadN 2 (.var (.o (.o (.i .h))))) none
    (.cons none (.store 2 (.var (.o (.o (.o .h)))) (.loc 0)) none
    (.cons none (.mov (.lit (.int 3 7))) (some (.i (.o (.o .h))))
    .nil))))
  .ret))
  .skip))
  (.seq (.region (.cons none (.mov (.var (.o (.o .h)))) none
    (.cons none (.mov (.var (.o (.i (.o .h))))) none
    (.cons none (.callV (.loc 1) (.cons (.loc 0) .nil)) none
    (.cons none (.extract 0 (.loc 0)) none
    (.cons none (.extract 1 (.loc 1)) none
    (.cons none (.store 2 (.var (.o (.o (.o .h)))) (.loc 1)) none
    (.cons none (.mov (.loc 1)) (some (.i (.o (.o .h))))
    .nil))))))))
  .ret)))),
  [.cellN (.o (.o (.o .h))) 2, .tmp (.i (.o (.o .h)))], none⟩
theorem c91 : FnOk Try.prog 0 91 cf91 :=
  .of Try.func91 (n := 25) (by kernel_rfl) (far := fun t => Nat.testBit 264151 t) (by kernel_rfl)
-- tallow/table.Get$1
def cf92 : CFunc := ⟨(.seq (.region (.cons none (.alloc (.cons (.int 3 0) (.cons (.int 3 0) .nil)) 2) (some (.i (.o .h)))
    (.cons none (.mov (.lit (.int 3 0))) (some (.o (.i .h)))
    .nil)))
  (.seq (.region (.cons none (.mov (.var (.o .h))) none
    (.cons none (.loadN 2 (.var (.i .h))) none
    (.cons none (.callF 93 (.cons (.loc 1) (.cons (.loc 0) .nil))) none
    (.cons none (.store 2 (.var (.i (.o .h))) (.loc 0)) none
    (.cons none (.mov (.lit (.int 3 0))) (some (.o (.i .h)))
    .nil))))))
  .ret)),
  [.cellN (.i (.o .h)) 2, .tmp (.o (.i .h))], none⟩
theorem c92 : FnOk Try.prog 0 92 cf92 :=
  .of Try.func92 (n := 8) (by kernel_rfl) (far := fun t => Nat.testBit 27 t) (by kernel_rfl)
-- tallow/dict.Get
def cf93 : CFunc := ⟨(.seq (.region (.cons none (.box (.var (.i .h))) (some (.i (.o .h)))
    (.cons none (.alloc (.cons (.int 3 0) (.cons (.int 3 0) .nil)) 2) (some (.o (.i .h)))
    .nil)))
  (.seq (.region (.cons none (.mov (.var (.o .h))) none
    (.cons none (.callF 124 (.cons (.loc 0) .nil)) none
    (.cons none (.mov (.loc 0)) none
    (.cons none (.extract 0 (.loc 0)) none
    (.cons none (.extract 1 (.loc 1)) none
    (.cons none (.extract 2 (.loc 2)) none
    (.cons none (.extract 3 (.loc 3)) none
    (.cons none (.mov (.loc 3)) (some (.i (.i .h)))
    (.cons none (.mov (.loc 3)) (some (.o (.o (.o .h))))
    (.cons none (.mov (.loc 3)) (some (.i (.o (.o .h))))
    (.cons none (.mov (.loc 3)) none
    .nil))))))))))))
  (.seq (.seq (.region (.cons none (.loadN 2 (.var (.i (.o .h)))) none
    (.cons none (.mov (.var (.i (.i .h)))) none
    (.cons none (.lenSl (.loc 0)) none
    (.cons none (.callF 128 (.cons (.loc 2) (.cons (.loc 0) .nil))) (some (.i (.i (.i (.o .h)))))
    .nil)))))
  (.cond (.var (.i (.i (.i (.o .h))))) (.seq (.region (.cons none (.mov (.var (.i (.i .h)))) none
    (.cons none (.fieldAddr 1 (.var (.i (.o .h)))) none
    (.cons none (.load1 (.loc 0)) none
    (.cons none (.arith .sub 3 (.loc 0) (.lit (.int 3 1))) none
    (.cons none (.idxSl 2 (.loc 3) (.loc 0)) none
    (.cons none (.loadN 2 (.loc 0)) none
    (.cons none (.store 2 (.var (.o (.i .h))) (.loc 0)) none
    .nil))))))))
  .ret)
  .skip))
  (.seq (.seq (.region (.cons none (.mov (.var (.i (.o (.o .h))))) none
    (.cons none (.loadN 2 (.var (.i (.o .h)))) none
    (.cons none (.lookup (.flat [.int, .int]) (.int 3 0) true (.loc 1) (.loc 0)) none
    (.cons none (.mov (.loc 0)) none
    (.cons none (.extract 0 (.loc 0)) none
    (.cons none (.extract 1 (.loc 1)) none
    (.cons none (.mov (.loc 1)) (some (.i (.i (.o .h))))
    (.cons none (.mov (.loc 1)) (some (.o (.o (.i .h))))
    .nil)))))))))
  (.seq (.region (.cons none (.mov (.var (.o (.o (.i .h))))) (some (.o (.o (.i (.o (.o .h))))))
    .nil))
  (.cond (.var (.o (.o (.i (.o (.o .h)))))) (.seq (.region (.cons none (.mov (.var (.o (.o (.o .h))))) none
    (.cons none (.mov (.var (.i (.i (.o .h))))) none
    (.cons none (.arith .add 3 (.loc 0) (.lit (.int 3 1))) none
    (.cons none (.idxSl 2 (.loc 2) (.loc 0)) none
    (.cons none (.loadN 2 (.loc 0)) none
    (.cons none (.store 2 (.var (.o (.i .h))) (.loc 0)) none
    .nil)))))))
  .ret)
  .skip)))
  (.seq (.region (.cons none (.build (.cons (.int 3 0) (.cons (.int 3 0) .nil)) (.cons 0 1 (.lit (.int 3 1)) .nil)) none
    (.cons none (.store 2 (.var (.o (.i .h))) (.loc 0)) none
    .nil)))
  .ret))))),
  [.cellN (.o (.i .h)) 2], none⟩
theorem c93 : FnOk Try.prog 0 93 cf93 :=
  .of Try.func93 (n := 41) (by kernel_rfl) (far := fun t => Nat.testBit 17181968123 t) (by kernel_rfl)
-- tallow/table.told[int64]
def cf96 : CFunc := ⟨(.seq (.region (.cons none (.box (.var (.i .h))) (some (.o (.i .h)))
    (.cons none (.mov (.lit (.int 3 0))) (some (.o (.o (.o .h))))
    (.cons none (.mov (.lit (.int 3 0))) (some (.i (.o (.o .h))))
    .nil))))
  (.seq (.region (.cons none (.mov (.var (.o .h))) none
    (.cons none (.loadN 2 (.var (.o (.i .h)))) none
    (.cons none (.callF 100 (.cons (.loc 1) (.cons (.loc 0) .nil))) none
    (.cons none (.mov (.loc 0)) none
    (.cons none (.extract 0 (.loc 0)) none
    (.cons none (.extract 1 (.loc 1)) none
    (.cons none (.mov (.loc 1)) (some (.o (.i (.o .h))))
    (.cons none (.mov (.loc 1)) (some (.i (.i (.o .h))))
    .nil)))))))))
  (.seq (.seq (.region (.cons none (.mov (.var (.i (.i (.o .h))))) none
    (.cons none (.not (.loc 0)) (some (.o (.o (.i (.o .h)))))
    .nil)))
  (.cond (.var (.o (.o (.i (.o .h))))) (.seq (.region (.cons none (.mov (.lit (.int 3 0))) (some (.o (.o (.i .h))))
    .nil))
  (.seq (.region (.cons none (.mov (.var (.o (.o (.i .h))))) none
    (.cons none (.mov (.loc 0)) (some (.o (.o (.o .h))))
    (.cons none (.mov (.lit (.int 3 7))) (some (.i (.o (.o .h))))
    .nil))))
  .ret))
  .skip))
  (.seq (.region (.cons none (.mov (.var (.o (.o .h)))) none
    (.cons none (.mov (.var (.o (.i (.o .h))))) none
    (.cons none (.callV (.loc 1) (.cons (.loc 0) .nil)) none
    (.cons none (.extract 0 (.loc 0)) none
    (.cons none (.extract 1 (.loc 1)) none
    (.cons none (.mov (.loc 1)) (some (.o (.o (.o .h))))
    (.cons none (.mov (.loc 1)) (some (.i (.o (.o .h))))
    .nil))))))))
  .ret)))),
  [.tmp (.o (.o (.o .h))), .tmp (.i (.o (.o .h)))], none⟩
theorem c96 : FnOk Try.prog 0 96 cf96 :=
  .of Try.func96 (n := 25) (by kernel_rfl) (far := fun t => Nat.testBit 264151 t) (by kernel_rfl)
-- tallow/table.Len$1
def cf97 : CFunc := ⟨(.seq (.region (.cons none (.mov (.lit (.int 3 0))) (some (.o (.o .h)))
    (.cons none (.mov (.lit (.int 3 0))) (some (.i (.o .h)))
    .nil)))
  (.seq (.region (.cons none (.mov (.var (.o .h))) none
    (.cons none (.callF 98 (.cons (.loc 0) .nil)) none
    (.cons none (.mov (.loc 0)) (some (.o (.o .h)))
    (.cons none (.mov (.lit (.int 3 0))) (some (.i (.o .h)))
    .nil)))))
  .ret)),
  [.tmp (.o (.o .h)), .tmp (.i (.o .h))], none⟩
theorem c97 : FnOk Try.prog 0 97 cf97 :=
  .of Try.func97 (n := 6) (by kernel_rfl) (far := fun t => Nat.testBit 13 t) (by kernel_rfl)
-- tallow/dict.Len
def cf98 : CFunc := ⟨(.seq (.region (.cons none (.mov (.lit (.int 3 0))) (some (.o (.o .h)))
    .nil))
  (.seq (.region (.cons none (.mov (.var (.o .h))) none
    (.cons none (.callF 124 (.cons (.loc 0) .nil)) none
    (.cons none (.mov (.loc 0)) none
    (.cons none (.extract 0 (.loc 0)) none
    (.cons none (.extract 1 (.loc 1)) none
    (.cons none (.extract 2 (.loc 2)) none
    (.cons none (.extract 3 (.loc 3)) none
    (.cons none (.mov (.loc 3)) (some (.i (.o .h)))
    (.cons none (.mov (.loc 3)) none
    (.cons none (.mov (.loc 3)) none
    (.cons none (.mov (.loc 3)) none
    .nil))))))))))))
  (.seq (.region (.cons none (.mov (.var (.i (.o .h)))) none
    (.cons none (.lenSl (.loc 0)) none
    (.cons none (.mov (.loc 0)) (some (.o (.o .h)))
    .nil))))
  .ret))),
  [.tmp (.o (.o .h))], none⟩
theorem c98 : FnOk Try.prog 0 98 cf98 :=
  .of Try.func98 (n := 16) (by kernel_rfl) (far := fun t => Nat.testBit 13 t) (by kernel_rfl)
-- (*tallow/pool.Pool).Take
def cf99 : CFunc := ⟨(.seq (.region (.cons none (.mov (.lit (.int 3 0))) (some (.o (.o .h)))
    .nil))
  (.seq (.seq (.region (.cons none (.mov (.var (.o .h))) none
    (.cons none (.callF 130 (.cons (.loc 0) .nil)) (some (.o (.o (.o .h))))
    .nil)))
  (.cond (.var (.o (.o (.o .h)))) (.seq (.region (.cons none (.mov (.lit (.int 3 0))) (some (.o (.o .h)))
    .nil))
  .ret)
  .skip))
  (.seq (.region (.cons none (.mov (.var (.o .h))) none
    (.cons none (.nilCheck (.loc 0)) none
    (.cons none (.fieldAddr 2 (.loc 0)) none
    (.cons none (.load1 (.loc 0)) none
    (.cons none (.mov (.loc 0)) (some (.i (.o .h)))
    .nil))))))
  (.seq (.seq (.region (.cons none (.mov (.var (.o .h))) none
    (.cons none (.nilCheck (.loc 0)) none
    (.cons none (.fieldAddr 1 (.loc 0)) none
    (.cons none (.load1 (.loc 0)) none
    (.cons none (.lenSl (.loc 0)) none
    (.cons none (.arith .sub 3 (.loc 0) (.lit (.int 3 1))) none
    (.cons none (.mov (.loc 0)) (some (.o (.i .h)))
    .nil))))))))
  (.seq (.region (.cons none (.mov (.var (.o (.i .h)))) none
    (.cons none (.cmp .geq (.loc 0) (.lit (.int 3 0))) (some (.o (.o (.i (.o .h)))))
    .nil)))
  (.cond (.var (.o (.o (.i (.o .h))))) (.seq (.region (.cons none (.mov (.var (.o .h))) none
    (.cons none (.nilCheck (.loc 0)) none
    (.cons none (.fieldAddr 1 (.loc 0)) none
    (.cons none (.load1 (.loc 0)) none
    (.cons none (.mov (.var (.o (.i .h)))) none
    (.cons none (.idxSl 1 (.loc 1) (.loc 0)) none
    (.cons none (.load1 (.loc 0)) none
    (.cons none (.mov (.loc 0)) (some (.i (.o .h)))
    .nil)))))))))
  (.region (.cons none (.mov (.var (.o .h))) none
    (.cons none (.mov (.var (.o .h))) none
    (.cons none (.nilCheck (.loc 0)) none
    (.cons none (.fieldAddr 1 (.loc 0)) none
    (.cons none (.load1 (.loc 0)) none
    (.cons none (.mov (.var (.o (.i .h)))) none
    (.cons none (.sliceSl 1 (.loc 1) none (some (.loc 0)) none) none
    (.cons none (.nilCheck (.loc 6)) none
    (.cons none (.fieldAddr 1 (.loc 0)) none
    (.cons none (.store 1 (.loc 0) (.loc 2)) none
    .nil))))))))))))
  (.region (.cons none (.mov (.var (.o .h))) none
    (.cons none (.nilCheck (.loc 0)) none
    (.cons none (.fieldAddr 2 (.loc 0)) none
    (.cons none (.load1 (.loc 0)) none
    (.cons none (.arith .add 3 (.loc 0) (.lit (.int 3 1))) none
    (.cons none (.nilCheck (.loc 4)) none
    (.cons none (.fieldAddr 2 (.loc 0)) none
    (.cons none (.store 1 (.loc 0) (.loc 2)) none
    .nil))))))))))))
  (.seq (.region (.cons none (.mov (.var (.o .h))) none
    (.cons none (.nilCheck (.loc 0)) none
    (.cons none (.fieldAddr 0 (.loc 0)) none
    (.cons none (.load1 (.loc 0)) none
    (.cons none (.mov (.var (.i (.o .h)))) none
    (.cons none (.build .nil .nil) none
    (.cons none (.update (.leaf .int) (.loc 2) (.loc 1) (.loc 0)) none
    .nil))))))))
  (.seq (.region (.cons none (.mov (.var (.i (.o .h)))) none
    (.cons none (.mov (.loc 0)) (some (.o (.o .h)))
    .nil)))
  .ret)))))),
  [.tmp (.o (.o .h))], none⟩
theorem c99 : FnOk Try.prog 0 99 cf99 :=
  .of Try.func99 (n := 49) (by kernel_rfl) (far := fun t => Nat.testBit 262237 t) (by kernel_rfl)
-- tallow/table.slots
def cf100 : CFunc := ⟨(.seq (.region (.cons none (.box (.var (.i .h))) (some (.i (.o .h)))
    (.cons none (.mov (.lit .nilslice)) (some (.o (.i .h)))
    (.cons none (.mov (.lit (.bool false))) (some (.i (.i .h)))
    .nil))))
  (.seq (.seq (.region (.cons none (.fieldAddr 0 (.var (.i (.o .h)))) none
    (.cons none (.load1 (.loc 0)) none
    (.cons none (.cmp .neq (.loc 0) (.lit (.int 3 6))) none
    (.cons none (.mov (.loc 0)) none
    (.cons (some (0, false)) (.loadN 2 (.var (.i (.o .h)))) none
    (.cons (some (1, false)) (.callF 77 (.cons (.loc 0) .nil)) none
    (.cons (some (2, false)) (.not (.loc 0)) none
    (.cons none (.pick (.loc 3) (.lit (.bool true)) (.loc 0)) (some (.o (.o (.o (.o .h)))))
    .nil)))))))))
  (.cond (.var (.o (.o (.o (.o .h))))) (.seq (.region (.cons none (.mov (.lit .nilslice)) (some (.o (.i .h)))
    (.cons none (.mov (.lit (.bool false))) (some (.i (.i .h)))
    .nil)))
  .ret)
  .skip))
  (.seq (.region (.cons none (.mov (.var (.o .h))) none
    (.cons none (.fieldAddr 1 (.var (.i (.o .h)))) none
    (.cons none (.load1 (.loc 0)) none
    (.cons none (.callF 25 (.cons (.loc 2) (.cons (.loc 0) .nil))) none
    (.cons none (.alloc (.cons (.int 3 0) (.cons (.int 3 0) (.cons .nilslice (.cons (.str 0 0) (.cons (.int 3 0) .nil))))) 5) (some (.o (.o (.o .h))))
    (.cons none (.store 5 (.loc 0) (.loc 1)) none
    .nil)))))))
  (.seq (.seq (.region (.cons none (.fieldAddr 0 (.var (.o (.o (.o .h))))) none
    (.cons none (.load1 (.loc 0)) none
    (.cons none (.cmp .neq (.loc 0) (.lit (.int 3 6))) none
    (.cons none (.mov (.loc 0)) none
    (.cons (some (0, false)) (.fieldAddr 2 (.var (.o (.o (.o .h))))) none
    (.cons (some (1, false)) (.load1 (.loc 0)) none
    (.cons (some (2, false)) (.callF 131 (.cons (.loc 0) .nil)) none
    (.cons (some (3, false)) (.not (.loc 0)) none
    (.cons none (.pick (.loc 4) (.lit (.bool true)) (.loc 0)) (some (.i (.o (.i (.i .h)))))
    .nil))))))))))
  (.cond (.var (.i (.o (.i (.i .h))))) (.seq (.region (.cons none (.mov (.lit .nilslice)) (some (.o (.i .h)))
    (.cons none (.mov (.lit (.bool false))) (some (.i (.i .h)))
    .nil)))
  .ret)
  .skip))
  (.seq (.region (.cons none (.fieldAddr 2 (.var (.o (.o (.o .h))))) none
    (.cons none (.load1 (.loc 0)) none
    (.cons none (.mov (.loc 0)) (some (.o (.i .h)))
    (.cons none (.mov (.lit (.bool true))) (some (.i (.i .h)))
    .nil)))))
  .ret))))),
  [.tmp (.o (.i .h)), .tmp (.i (.i .h))], none⟩
theorem c100 : FnOk Try.prog 0 100 cf100 :=
  .of Try.func100 (n := 30) (by kernel_rfl) (far := fun t => Nat.testBit 134234235 t) (by kernel_rfl)
-- tallow/table.SetMeta$1
def cf101 : CFunc := ⟨(.seq (.region (.cons none (.alloc (.cons (.int 3 0) (.cons (.int 3 0) .nil)) 2) (some (.i (.i .h)))
    (.cons none (.mov (.lit (.int 3 0))) (some (.o (.o (.o .h))))
    .nil)))
  (.seq (.region (.cons none (.load1 (.var (.i .h))) none
    (.cons none (.fieldAddr 1 (.var (.o (.o .h)))) none
    (.cons none (.load1 (.loc 0)) none
    (.cons none (.loadN 2 (.var (.i (.o .h)))) none
    (.cons none (.callF 79 (.cons (.loc 3) (.cons (.loc 1) (.cons (.lit (.int 3 0)) (.cons (.loc 0) .nil))))) none
    (.cons none (.extract 0 (.loc 0)) none
    (.cons none (.extract 1 (.loc 1)) none
    (.cons none (.store 2 (.var (.i (.i .h))) (.loc 1)) none
    (.cons none (.mov (.loc 1)) (some (.o (.o (.o .h))))
    .nil))))))))))
  .ret)),
  [.cellN (.i (.i .h)) 2, .tmp (.o (.o (.o .h)))], none⟩
theorem c101 : FnOk Try.prog 0 101 cf101 :=
  .of Try.func101 (n := 14) (by kernel_rfl) (far := fun t => Nat.testBit 110 t) (by kernel_rfl)
-- tallow/table.Meta$1
def cf102 : CFunc := ⟨(.seq (.region (.cons none (.alloc (.cons (.int 3 0) (.cons (.int 3 0) .nil)) 2) (some (.o (.o .h)))
    (.cons none (.mov (.lit (.int 3 0))) (some (.i (.o .h)))
    .nil)))
  (.seq (.region (.cons none (.mov (.var (.o .h))) none
    (.cons none (.idxSl 2 (.loc 0) (.lit (.int 3 0))) none
    (.cons none (.loadN 2 (.loc 0)) none
    (.cons none (.store 2 (.var (.o (.o .h))) (.loc 0)) none
    (.cons none (.mov (.lit (.int 3 0))) (some (.i (.o .h)))
    .nil))))))
  .ret)),
  [.cellN (.o (.o .h)) 2, .tmp (.i (.o .h))], none⟩
theorem c102 : FnOk Try.prog 0 102 cf102 :=
  .of Try.func102 (n := 7) (by kernel_rfl) (far := fun t => Nat.testBit 13 t) (by kernel_rfl)
-- tallow/meta.null
def cf109 : CFunc := ⟨(.seq (.region (.cons none (.alloc (.cons (.int 3 0) (.cons (.int 3 0) .nil)) 2) (some (.o .h))
    .nil))
  (.seq (.region (.cons none (.build (.cons (.int 3 0) (.cons (.int 3 0) .nil)) (.cons 0 1 (.lit (.int 3 1)) .nil)) none
    (.cons none (.store 2 (.var (.o .h)) (.loc 0)) none
    .nil)))
  .ret)),
  [.cellN (.o .h) 2], none⟩
theorem c109 : FnOk Try.prog 0 109 cf109 :=
  .of Try.func109 (n := 2) (by kernel_rfl) (far := fun t => Nat.testBit 1 t) (by kernel_rfl)
-- (*tallow/cells.Heap).Mark
def cf110 : CFunc := ⟨(.seq (.region (.cons none (.mov (.lit (.int 3 0))) (some (.o (.i .h)))
    .nil))
  (.seq (.region (.cons none (.mov (.var (.o .h))) none
    (.cons none (.mov (.var (.i .h))) none
    (.cons none (.callF 75 (.cons (.loc 1) (.cons (.loc 0) .nil))) none
    (.cons none (.mov (.loc 0)) none
    (.cons none (.extract 0 (.loc 0)) none
    (.cons none (.extract 1 (.loc 1)) none
    (.cons none (.mov (.loc 1)) (some (.i (.i .h)))
    (.cons none (.mov (.loc 1)) (some (.o (.o (.o .h))))
    .nil)))))))))
  (.seq (.seq (.region (.cons none (.mov (.var (.o (.o (.o .h))))) none
    (.cons none (.cmp .neq (.loc 0) (.lit (.int 3 0))) none
    (.cons none (.mov (.loc 0)) none
    (.cons (some (0, false)) (.mov (.var (.i (.i .h)))) none
    (.cons (some (1, false)) (.nilCheck (.loc 0)) none
    (.cons (some (2, false)) (.fieldAddr 4 (.loc 0)) none
    (.cons (some (3, false)) (.load1 (.loc 0)) none
    (.cons (some (4, false)) (.cmp .neq (.loc 0) (.lit (.int 3 0))) none
    (.cons none (.pick (.loc 5) (.lit (.bool true)) (.loc 0)) (some (.i (.i (.i (.o .h)))))
    .nil))))))))))
  (.cond (.var (.i (.i (.i (.o .h))))) (.seq (.region (.cons none (.mov (.lit (.int 3 0))) (some (.o (.i .h)))
    .nil))
  .ret)
  .skip))
  (.seq (.region (.cons none (.mov (.var (.o .h))) none
    (.cons none (.nilCheck (.loc 0)) none
    (.cons none (.fieldAddr 5 (.loc 0)) none
    (.cons none (.load1 (.loc 0)) none
    (.cons none (.arith .add 3 (.loc 0) (.lit (.int 3 1))) none
    (.cons none (.nilCheck (.loc 4)) none
    (.cons none (.fieldAddr 5 (.loc 0)) none
    (.cons none (.store 1 (.loc 0) (.loc 2)) none
    .nil)))))))))
  (.seq (.region (.cons none (.mov (.var (.i (.i .h)))) none
    (.cons none (.mov (.var (.o .h))) none
    (.cons none (.nilCheck (.loc 0)) none
    (.cons none (.fieldAddr 5 (.loc 0)) none
    (.cons none (.load1 (.loc 0)) none
    (.cons none (.nilCheck (.loc 4)) none
    (.cons none (.fieldAddr 4 (.loc 0)) none
    (.cons none (.store 1 (.loc 0) (.loc 2)) none
    .nil)))))))))
  (.seq (.region (.cons none (.mov (.var (.o .h))) none
    (.cons none (.mov (.var (.i .h))) none
    (.cons none (.callF 81 (.cons (.loc 1) (.cons (.loc 0) .nil))) none
    .nil))))
  (.seq (.region (.cons none (.mov (.var (.i (.i .h)))) none
    (.cons none (.nilCheck (.loc 0)) none
    (.cons none (.fieldAddr 4 (.loc 0)) none
    (.cons none (.load1 (.loc 0)) none
    (.cons none (.mov (.loc 0)) (some (.o (.i .h)))
    .nil))))))
  .ret))))))),
  [.tmp (.o (.i .h))], none⟩
theorem c110 : FnOk Try.prog 0 110 cf110 :=
  .of Try.func110 (n := 43) (by kernel_rfl) (far := fun t => Nat.testBit 2097267 t) (by kernel_rfl)
-- tallow/tallowlaw19.behind
def cf111 : CFunc := ⟨(.seq (.region (.cons none (.mov (.lit .nilptr)) (some (.o (.i .h)))
    (.cons none (.mov (.lit .nilptr)) (some (.i (.i .h)))
    (.cons none (.mov (.lit .nilslice)) (some (.o (.o (.o .h))))
    .nil))))
  (.seq (.region (.cons none (.callF 40 .nil) none
    (.cons none (.mov (.loc 0)) (some (.i (.o (.o .h))))
    .nil)))
  (.seq (.region (.cons none (.mov (.var (.i (.o (.o .h))))) none
    (.cons none (.callF 56 (.cons (.loc 0) .nil)) none
    (.cons none (.mov (.loc 0)) (some (.o (.i (.o .h))))
    .nil))))
  (.seq (.region (.cons none (.mov (.lit .nilslice)) (some (.i (.i (.o .h))))
    .nil))
  (.seq (.seq (.region (.cons none (.mov (.var (.o (.i (.o .h))))) none
    (.cons none (.eq .ptr false (.loc 0) (.lit .nilptr)) (some (.o (.o (.i (.o .h)))))
    .nil)))
  (.cond (.var (.o (.o (.i (.o .h))))) (.seq (.region (.cons none (.mov (.lit .nilptr)) (some (.o (.i .h)))
    (.cons none (.mov (.lit .nilptr)) (some (.i (.i .h)))
    (.cons none (.mov (.lit .nilslice)) (some (.o (.o (.o .h))))
    .nil))))
  .ret)
  .skip))
  (.seq (.seq (.region (.cons none (.mov (.lit (.int 3 0))) (some (.o (.o (.i .h))))
    .nil))
  (.block 0 (.loop (.seq (.seq (.region (.cons none (.mov (.var (.o (.o (.i .h))))) none
    (.cons none (.mov (.var (.o .h))) none
    (.cons none (.cmp .lss (.loc 1) (.loc 0)) (some (.i (.i (.i (.o .h)))))
    .nil))))
  (.cond (.var (.i (.i (.i (.o .h))))) .skip
  (.exit 0)))
  (.seq (.block 1 (.region (.cons none (.mov (.var (.i (.i (.o .h))))) none
    (.cons none (.mov (.var (.i (.o (.o .h))))) none
    (.cons none (.callF 41 (.cons (.loc 0) .nil)) none
    (.cons none (.buildSlice (.cons (.int 3 0) (.cons (.int 3 0) .nil)) 2 1 (.cons 0 2 (.loc 0) .nil)) none
    (.cons none (.append (.cons (.int 3 0) (.cons (.int 3 0) .nil)) 2 (.loc 3) (.loc 0)) none
    (.cons none (.mov (.loc 0)) (some (.i (.i (.o .h))))
    .nil))))))))
  (.region (.cons none (.mov (.var (.o (.o (.i .h))))) none
    (.cons none (.arith .add 3 (.loc 0) (.lit (.int 3 1))) none
    (.cons none (.mov (.loc 0)) (some (.o (.o (.i .h))))
    .nil)))))))))
  (.seq (.seq (.region (.cons none (.mov (.lit (.int 3 0))) (some (.i (.o (.i .h))))
    .nil))
  (.block 2 (.loop (.seq (.seq (.region (.cons none (.mov (.var (.i (.o (.i .h))))) none
    (.cons none (.mov (.var (.o .h))) none
    (.cons none (.cmp .lss (.loc 1) (.loc 0)) (some (.i (.o (.o (.o (.o .h))))))
    .nil))))
  (.cond (.var (.i (.o (.o (.o (.o .h)))))) .skip
  (.exit 2)))
  (.seq (.block 3 (.seq (.region (.cons none (.mov (.var (.i (.o (.i .h))))) none
    (.cons none (.arith .add 3 (.loc 0) (.lit (.int 3 1))) none
    (.cons none (.mov (.var (.o .h))) none
    (.cons none (.cmp .lss (.loc 1) (.loc 0)) none
    (.cons none (.mov (.loc 0)) none
    (.cons (some (0, false)) (.mov (.var (.i .h))) none
    (.cons none (.pick (.loc 1) (.lit (.bool true)) (.loc 0)) (some (.o (.i (.o (.i (.o .h))))))
    .nil))))))))
  (.cond (.var (.o (.i (.o (.i (.o .h)))))) (.seq (.region (.cons none (.mov (.var (.i (.o (.o .h))))) none
    (.cons none (.callF 41 (.cons (.loc 0) .nil)) none
    (.cons none (.alloc (.cons (.int 3 0) (.cons (.int 3 0) .nil)) 2) (some (.o (.i (.i .h))))
    (.cons none (.store 2 (.loc 0) (.loc 1)) none
    .nil)))))
  (.seq (.region (.cons none (.mov (.var (.i (.i (.o .h))))) none
    (.cons none (.mov (.var (.i (.o (.i .h))))) none
    (.cons none (.arith .add 3 (.loc 0) (.lit (.int 3 1))) none
    (.cons none (.mov (.var (.o .h))) none
    (.cons none (.arith .rem 3 (.loc 1) (.loc 0)) none
    (.cons none (.idxSl 2 (.loc 4) (.loc 0)) none
    (.cons none (.loadN 2 (.loc 0)) none
    (.cons none (.alloc (.cons (.int 3 0) (.cons (.int 3 0) .nil)) 2) (some (.i (.i (.i .h))))
    (.cons none (.store 2 (.loc 0) (.loc 1)) none
    .nil))))))))))
  (.seq (.draw (.cons none (.mov (.var (.i (.o (.o .h))))) none (.light 0)
    (.cons none (.mov (.var (.o (.i (.o .h))))) none (.light 0)
    (.cons none (.loadN 2 (.var (.o (.i (.i .h))))) none (.light 0)
    (.cons none (.loadN 2 (.var (.i (.i (.i .h))))) none (.light 0)
    (.cons none (.callF 57 (.cons (.loc 3) (.cons (.loc 2) (.cons (.loc 1) (.cons (.lit (.str 7 33888479228813151)) (.cons (.loc 0) .nil)))))) none .heavy
    (.cons none (.not (.loc 0)) none (.light 0)
    (.cons none (.mov (.loc 0)) none (.light 0)
    (.cons (some (0, false)) (.mov (.var (.i (.o (.o .h))))) none (.light 0)
    (.cons (some (1, false)) (.mov (.var (.o (.i (.o .h))))) none (.light 0)
    (.cons (some (2, false)) (.mov (.var (.i (.i (.o .h))))) none (.light 0)
    (.cons (some (3, false)) (.mov (.var (.i (.o (.i .h))))) none (.light 0)
    (.cons (some (4, false)) (.idxSl 2 (.loc 1) (.loc 0)) none (.light 0)
    (.cons (some (5, false)) (.loadN 2 (.loc 0)) none (.light 0)
    (.cons (some (6, false)) (.loadN 2 (.var (.o (.i (.i .h))))) none (.light 0)
    (.cons (some (7, false)) (.callF 60 (.cons (.loc 6) (.cons (.loc 5) (.cons (.loc 1) (.cons (.loc 0) .nil))))) none .heavy
    (.cons (some (8, false)) (.cmp .neq (.loc 0) (.lit (.int 3 0))) none (.light 0)
    (.cons none (.pick (.loc 9) (.lit (.bool true)) (.loc 0)) (some (.o (.o (.i (.o (.o (.o .h))))))) (.light 0)
    .nil))))))))))))))))) 0)
  (.cond (.var (.o (.o (.i (.o (.o (.o .h))))))) (.seq (.region (.cons none (.mov (.lit .nilptr)) (some (.o (.i .h)))
    (.cons none (.mov (.lit .nilptr)) (some (.i (.i .h)))
    (.cons none (.mov (.lit .nilslice)) (some (.o (.o (.o .h))))
    .nil))))
  .ret)
  .skip))))
  .skip)))
  (.region (.cons none (.mov (.var (.i (.o (.i .h))))) none
    (.cons none (.arith .add 3 (.loc 0) (.lit (.int 3 1))) none
    (.cons none (.mov (.loc 0)) (some (.i (.o (.i .h))))
    .nil)))))))))
  (.seq (.region (.cons none (.mov (.var (.i (.o (.o .h))))) none
    (.cons none (.mov (.var (.o (.i (.o .h))))) none
    (.cons none (.mov (.var (.i (.i (.o .h))))) none
    (.cons none (.mov (.loc 2)) (some (.o (.i .h)))
    (.cons none (.mov (.loc 2)) (some (.i (.i .h)))
    (.cons none (.mov (.loc 2)) (some (.o (.o (.o .h))))
    .nil)))))))
  .ret)))))))),
  [.tmp (.o (.i .h)), .tmp (.i (.i .h)), .tmp (.o (.o (.o .h)))], none⟩
theorem c111 : FnOk Try.prog 0 111 cf111 :=
  .of Try.func111 (n := 70) (by kernel_rfl) (far := fun t => Nat.testBit 73786977396499693555 t) (by kernel_rfl)
-- tallow/meta.event
def cf112 : CFunc := ⟨(.seq (.region (.cons none (.box (.var (.o .h))) (some (.o (.i .h)))
    (.cons none (.box (.var (.i .h))) (some (.i (.i .h)))
    (.cons none (.box (.var (.o (.o .h)))) (some (.o (.o (.o .h))))
    (.cons none (.alloc (.cons (.int 3 0) (.cons (.int 3 0) .nil)) 2) (some (.o (.i (.o .h))))
    (.cons none (.mov (.lit (.bool false))) (some (.i (.i (.o .h))))
    .nil))))))
  (.seq (.region (.cons none (.load1 (.var (.o (.i .h)))) none
    (.cons none (.loadN 2 (.var (.o (.o (.o .h))))) none
    (.cons none (.callF 50 (.cons (.loc 1) (.cons (.loc 0) .nil))) none
    (.cons none (.mov (.loc 0)) none
    (.cons none (.extract 0 (.loc 0)) none
    (.cons none (.extract 1 (.loc 1)) none
    (.cons none (.alloc (.cons (.int 3 0) (.cons (.int 3 0) .nil)) 2) (some (.o (.o (.i .h))))
    (.cons none (.store 2 (.loc 0) (.loc 2)) none
    (.cons none (.mov (.loc 2)) (some (.i (.o (.i .h))))
    .nil))))))))))
  (.seq (.seq (.region (.cons none (.mov (.var (.i (.o (.i .h))))) none
    (.cons none (.cmp .neq (.loc 0) (.lit (.int 3 0))) (some (.o (.i (.i (.o .h)))))
    .nil)))
  (.cond (.var (.o (.i (.i (.o .h))))) (.seq (.region (.cons none (.callF 109 .nil) none
    (.cons none (.store 2 (.var (.o (.i (.o .h)))) (.loc 0)) none
    (.cons none (.mov (.lit (.bool false))) (some (.i (.i (.o .h))))
    .nil))))
  .ret)
  .skip))
  (.seq (.region (.cons none (.mkFunc (.func 139) .nil (.cons (.var (.i (.i .h))) (.cons (.var (.o (.i .h))) (.cons (.var (.o (.o (.i .h)))) .nil)))) none
    (.cons none (.mov (.loc 0)) (some (.o (.i (.i .h))))
    .nil)))
  (.seq (.region (.cons none (.mov (.var (.o (.i (.i .h))))) none
    (.cons none (.mov (.var (.i (.o .h)))) none
    (.cons none (.callV (.loc 1) (.cons (.loc 0) .nil)) none
    (.cons none (.store 2 (.var (.o (.i (.o .h)))) (.loc 0)) none
    (.cons none (.mov (.lit (.bool true))) (some (.i (.i (.o .h))))
    .nil))))))
  .ret))))),
  [.cellN (.o (.i (.o .h))) 2, .tmp (.i (.i (.o .h)))], none⟩
theorem c112 : FnOk Try.prog 0 112 cf112 :=
  .of Try.func112 (n := 26) (by kernel_rfl) (far := fun t => Nat.testBit 1056639 t) (by kernel_rfl)
-- tallow/meta.way
def cf113 : CFunc := ⟨(.seq (.region (.cons none (.box (.var (.o .h))) (some (.i (.o .h)))
    (.cons none (.box (.var (.i .h))) (some (.o (.i .h)))
    (.cons none (.box (.var (.o (.o .h)))) (some (.i (.i .h)))
    (.cons none (.mov (.lit .nilfunc)) (some (.o (.o (.o .h))))
    .nil)))))
  (.seq (.region (.cons none (.mkFunc (.func 140) .nil (.cons (.var (.i (.i .h))) (.cons (.var (.i (.o .h))) (.cons (.var (.o (.i .h))) .nil)))) none
    (.cons none (.mov (.loc 0)) (some (.o (.o (.o .h))))
    .nil)))
  .ret)),
  [.tmp (.o (.o (.o .h)))], none⟩
theorem c113 : FnOk Try.prog 0 113 cf113 :=
  .of Try.func113 (n := 8) (by kernel_rfl) (far := fun t => Nat.testBit 127 t) (by kernel_rfl)
-- (*tallow/intern.Strings).Find
def cf114 : CFunc := ⟨(.seq (.region (.cons none (.box (.var (.i .h))) (some (.i (.o .h)))
    (.cons none (.alloc (.cons (.int 3 0) (.cons (.int 3 0) .nil)) 2) (some (.o (.i .h)))
    (.cons none (.mov (.lit (.bool false))) (some (.i (.i .h)))
    .nil))))
  (.seq (.seq (.region (.cons none (.mov (.var (.o .h))) none
    (.cons none (.eq .ptr false (.loc 0) (.lit .nilptr)) (some (.i (.o (.i .h))))
    .nil)))
  (.cond (.var (.i (.o (.i .h)))) (.seq (.region (.cons none (.build (.cons (.int 3 0) (.cons (.int 3 0) .nil)) .nil) none
    (.cons none (.store 2 (.var (.o (.i .h))) (.loc 0)) none
    (.cons none (.mov (.lit (.bool false))) (some (.i (.i .h)))
    .nil))))
  .ret)
  .skip))
  (.seq (.region (.cons none (.mov (.var (.o .h))) none
    (.cons none (.mkFunc (.func 141) (.cons (.loc 0) .nil) .nil) none
    (.cons none (.alloc (.cons .nilfunc .nil) 1) (some (.o (.o (.o .h))))
    (.cons none (.store 1 (.loc 0) (.loc 1)) none
    .nil)))))
  (.seq (.region (.cons none (.mkFunc (.func 142) .nil (.cons (.var (.o (.o (.o .h)))) (.cons (.var (.i (.o .h))) .nil))) none
    (.cons none (.mov (.loc 0)) (some (.i (.o (.o .h))))
    .nil)))
  (.seq (.draw (.cons none (.mov (.var (.o .h))) none (.light 0)
    (.cons none (.nilCheck (.loc 0)) none (.light 0)
    (.cons none (.fieldAddr 1 (.loc 0)) none (.light 0)
    (.cons none (.load1 (.loc 0)) none (.light 0)
    (.cons none (.load1 (.var (.i (.o .h)))) none (.light 0)
    (.cons none (.lookup (.leaf .str) (.int 3 0) true (.loc 1) (.loc 0)) none (.light 0)
    (.cons none (.mov (.loc 0)) none (.light 0)
    (.cons none (.extract 0 (.loc 0)) none (.light 0)
    (.cons none (.extract 1 (.loc 1)) none (.light 0)
    (.cons none (.mov (.loc 1)) (some (.o (.i (.o .h)))) (.light 0)
    (.cons none (.mov (.loc 1)) (some (.i (.i (.o .h)))) (.light 0)
    .nil))))))))))) 0)
  (.seq (.region (.cons none (.mov (.var (.i (.o (.o .h))))) none
    (.cons none (.mov (.var (.o (.i (.o .h))))) none
    (.cons none (.mov (.var (.i (.i (.o .h))))) none
    (.cons none (.callV (.loc 2) (.cons (.loc 1) (.cons (.loc 0) .nil))) none
    (.cons none (.extract 0 (.loc 0)) none
    (.cons none (.extract 1 (.loc 1)) none
    (.cons none (.store 2 (.var (.o (.i .h))) (.loc 1)) none
    (.cons none (.mov (.loc 1)) (some (.i (.i .h)))
    .nil)))))))))
  .ret)))))),
  [.cellN (.o (.i .h)) 2, .tmp (.i (.i .h))], none⟩
theorem c114 : FnOk Try.prog 0 114 cf114 :=
  .of Try.func114 (n := 31) (by kernel_rfl) (far := fun t => Nat.testBit 3067 t) (by kernel_rfl)
-- (*tallow/cells.Heap).there
def cf115 : CFunc := ⟨(.seq (.region (.cons none (.box (.var (.i .h))) (some (.i (.o .h)))
    (.cons none (.mov (.lit (.bool false))) (some (.o (.i .h)))
    .nil)))
  (.seq (.seq (.region (.cons none (.loadN 2 (.var (.i (.o .h)))) none
    (.cons none (.callF 117 (.cons (.loc 0) .nil)) none
    (.cons none (.not (.loc 0)) none
    (.cons none (.mov (.loc 0)) none
    (.cons (some (0, false)) (.fieldAddr 0 (.var (.i (.o .h)))) none
    (.cons (some (1, false)) (.load1 (.loc 0)) none
    (.cons (some (2, false)) (.cmp .eql (.loc 0) (.lit (.int 3 0))) none
    (.cons none (.pick (.loc 3) (.lit (.bool true)) (.loc 0)) (some (.i (.i (.i .h))))
    .nil)))))))))
  (.cond (.var (.i (.i (.i .h)))) (.seq (.region (.cons none (.mov (.lit (.bool false))) (some (.o (.i .h)))
    .nil))
  .ret)
  .skip))
  (.seq (.draw (.cons none (.mov (.var (.o .h))) none (.light 0)
    (.cons none (.nilCheck (.loc 0)) none (.light 0)
    (.cons none (.fieldAddr 1 (.loc 0)) none (.light 0)
    (.cons none (.load1 (.loc 0)) none (.light 0)
    (.cons none (.fieldAddr 1 (.var (.i (.o .h)))) none (.light 0)
    (.cons none (.load1 (.loc 0)) none (.light 0)
    (.cons none (.lookup (.leaf .int) .nilptr false (.loc 2) (.loc 0)) none (.light 0)
    (.cons none (.mov (.loc 0)) (some (.i (.i .h))) (.light 0)
    .nil)))))))) 0)
  (.seq (.draw (.cons none (.loadN 2 (.var (.i (.o .h)))) none (.light 0)
    (.cons none (.callF 77 (.cons (.loc 0) .nil)) none .heavy
    (.cons none (.not (.loc 0)) none (.light 0)
    (.cons none (.mov (.loc 0)) none (.light 0)
    (.cons (some (0, false)) (.mov (.var (.i (.i .h)))) none (.light 0)
    (.cons (some (1, false)) (.eq .ptr true (.loc 0) (.lit .nilptr)) none (.light 0)
    (.cons (some (2, false)) (.mov (.loc 0)) none (.light 0)
    (.cons (some (0, true)) (.mov (.var (.i (.i .h)))) none (.light 0)
    (.cons (some (1, true)) (.nilCheck (.loc 0)) none (.light 0)
    (.cons (some (2, true)) (.fieldAddr 0 (.loc 0)) none (.light 0)
    (.cons (some (3, true)) (.load1 (.loc 0)) none (.light 0)
    (.cons (some (4, true)) (.fieldAddr 0 (.var (.i (.o .h)))) none (.light 0)
    (.cons (some (5, true)) (.load1 (.loc 0)) none (.light 0)
    (.cons (some (6, true)) (.cmp .eql (.loc 2) (.loc 0)) none (.light 0)
    (.cons (some (10, false)) (.pick (.loc 7) (.loc 0) (.lit (.bool false))) none (.light 0)
    (.cons none (.pick (.loc 11) (.lit (.bool true)) (.loc 0)) none (.light 0)
    (.cons none (.mov (.loc 0)) (some (.o (.i .h))) (.light 0)
    .nil))))))))))))))))) 0)
  .ret)))),
  [.tmp (.o (.i .h))], none⟩
theorem c115 : FnOk Try.prog 0 115 cf115 :=
  .of Try.func115 (n := 37) (by kernel_rfl) (far := fun t => Nat.testBit 8251 t) (by kernel_rfl)
-- tallow/val.May
def cf117 : CFunc := ⟨(.seq (.region (.cons none (.box (.var (.o .h))) (some (.i .h))
    (.cons none (.mov (.lit (.bool false))) (some (.o (.o .h)))
    .nil)))
  (.seq (.region (.cons none (.mkFunc (.func 143) .nil (.cons (.var (.i .h)) .nil)) none
    (.cons none (.mov (.loc 0)) (some (.i (.o .h)))
    .nil)))
  (.seq (.seq (.region (.cons none (.fieldAddr 0 (.var (.i .h))) none
    (.cons none (.load1 (.loc 0)) (some (.o (.o (.o .h))))
    .nil)))
  (.block 0 (.seq (.seq (.region (.cons none (.cmp .eql (.var (.o (.o (.o .h)))) (.lit (.int 3 0))) none
    (.cons none (.mov (.loc 0)) (some (.i (.o (.o .h))))
    .nil)))
  (.cond (.var (.i (.o (.o .h)))) .skip
  (.region (.cons none (.cmp .eql (.var (.o (.o (.o .h)))) (.lit (.int 3 1))) none
    (.cons none (.mov (.loc 0)) (some (.i (.o (.o .h))))
    .nil)))))
  (.cond (.var (.i (.o (.o .h)))) (.seq (.region (.cons none (.mov (.var (.i (.o .h)))) none
    (.cons none (.callV (.loc 0) (.cons (.lit (.int 3 0)) (.cons (.lit (.int 3 0)) .nil))) none
    (.cons none (.mov (.loc 0)) (some (.o (.o .h)))
    .nil))))
  .ret)
  (.seq (.region (.cons none (.cmp .eql (.var (.o (.o (.o .h)))) (.lit (.int 3 2))) none
    (.cons none (.mov (.loc 0)) (some (.o (.i (.i .h))))
    .nil)))
  (.cond (.var (.o (.i (.i .h)))) (.seq (.region (.cons none (.mov (.var (.i (.o .h)))) none
    (.cons none (.callV (.loc 0) (.cons (.lit (.int 3 0)) (.cons (.lit (.int 3 1)) .nil))) none
    (.cons none (.mov (.loc 0)) (some (.o (.o .h)))
    .nil))))
  .ret)
  (.seq (.region (.cons none (.cmp .eql (.var (.o (.o (.o .h)))) (.lit (.int 3 3))) none
    (.cons none (.mov (.loc 0)) (some (.o (.i (.o (.o .h)))))
    .nil)))
  (.cond (.var (.o (.i (.o (.o .h))))) (.seq (.region (.cons none (.mov (.lit (.bool true))) (some (.o (.o .h)))
    .nil))
  .ret)
  (.seq (.region (.cons none (.cmp .eql (.var (.o (.o (.o .h)))) (.lit (.int 3 4))) none
    (.cons none (.mov (.loc 0)) (some (.o (.o (.i (.o .h)))))
    .nil)))
  (.cond (.var (.o (.o (.i (.o .h))))) (.seq (.region (.cons none (.mov (.var (.i (.o .h)))) none
    (.cons none (.callV (.loc 0) (.cons (.lit (.int 3 0)) (.cons (.lit (.int 3 12)) .nil))) none
    (.cons none (.mov (.loc 0)) (some (.o (.o .h)))
    .nil))))
  .ret)
  .skip))))))))))
  (.seq (.region (.cons none (.fieldAddr 0 (.var (.i .h))) none
    (.cons none (.load1 (.loc 0)) none
    (.cons none (.cmp .geq (.loc 0) (.lit (.int 3 5))) none
    (.cons none (.mov (.loc 0)) none
    (.cons (some (0, true)) (.fieldAddr 0 (.var (.i .h))) none
    (.cons (some (1, true)) (.load1 (.loc 0)) none
    (.cons (some (2, true)) (.cmp .leq (.loc 0) (.lit (.int 3 9))) none
    (.cons none (.pick (.loc 3) (.loc 0) (.lit (.bool false))) none
    (.cons none (.mov (.loc 0)) none
    (.cons (some (0, true)) (.mov (.var (.i (.o .h)))) none
    (.cons (some (1, true)) (.callV (.loc 0) (.cons (.lit (.int 3 1)) (.cons (.lit (.int 3 2147483647)) .nil))) none
    (.cons none (.pick (.loc 2) (.loc 0) (.lit (.bool false))) none
    (.cons none (.mov (.loc 0)) (some (.o (.o .h)))
    .nil))))))))))))))
  .ret)))),
  [.tmp (.o (.o .h))], none⟩
theorem c117 : FnOk Try.prog 0 117 cf117 :=
  .of Try.func117 (n := 34) (by kernel_rfl) (far := fun t => Nat.testBit 331983 t) (by kernel_rfl)
-- slices.DeleteFunc[[]int,int]
def cf118 : CFunc := ⟨(.seq (.region (.cons none (.mov (.lit .nilslice)) (some (.o (.i .h)))
    .nil))
  (.seq (.region (.cons none (.mov (.var (.o .h))) none
    (.cons none (.mov (.var (.i .h))) none
    (.cons none (.callF 144 (.cons (.loc 1) (.cons (.loc 0) .nil))) none
    (.cons none (.mov (.loc 0)) (some (.i (.i .h)))
    .nil)))))
  (.seq (.seq (.region (.cons none (.mov (.var (.i (.i .h)))) none
    (.cons none (.cmp .eql (.loc 0) (.lit (.int 3 (-1)))) (some (.o (.i (.i .h))))
    .nil)))
  (.cond (.var (.o (.i (.i .h)))) (.seq (.region (.cons none (.mov (.var (.o .h))) none
    (.cons none (.mov (.loc 0)) (some (.o (.i .h)))
    .nil)))
  .ret)
  .skip))
  (.seq (.seq (.region (.cons none (.mov (.var (.i (.i .h)))) none
    (.cons none (.arith .add 3 (.loc 0) (.lit (.int 3 1))) none
    (.cons none (.mov (.loc 0)) (some (.o (.o (.o .h))))
    .nil))))
  (.block 0 (.loop (.seq (.seq (.region (.cons none (.mov (.var (.o (.o (.o .h))))) none
    (.cons none (.mov (.var (.o .h))) none
    (.cons none (.lenSl (.loc 0)) none
    (.cons none (.cmp .lss (.loc 2) (.loc 0)) (some (.i (.o (.i (.o .h)))))
    .nil)))))
  (.cond (.var (.i (.o (.i (.o .h))))) .skip
  (.exit 0)))
  (.seq (.block 1 (.seq (.region (.cons none (.mov (.var (.o .h))) none
    (.cons none (.mov (.var (.o (.o (.o .h))))) none
    (.cons none (.idxSl 1 (.loc 1) (.loc 0)) none
    (.cons none (.load1 (.loc 0)) none
    (.cons none (.mov (.loc 0)) (some (.i (.o (.o .h))))
    .nil))))))
  (.seq (.region (.cons none (.mov (.var (.i .h))) none
    (.cons none (.mov (.var (.i (.o (.o .h))))) none
    (.cons none (.callV (.loc 1) (.cons (.loc 0) .nil)) none
    (.cons none (.not (.loc 0)) (some (.i (.i (.i (.i .h)))))
    .nil)))))
  (.cond (.var (.i (.i (.i (.i .h))))) (.seq (.region (.cons none (.mov (.var (.o .h))) none
    (.cons none (.mov (.var (.i (.i .h)))) none
    (.cons none (.mov (.var (.i (.o (.o .h))))) none
    (.cons none (.idxSl 1 (.loc 2) (.loc 1)) none
    (.cons none (.store 1 (.loc 0) (.loc 1)) none
    .nil))))))
  (.region (.cons none (.mov (.var (.i (.i .h)))) none
    (.cons none (.arith .add 3 (.loc 0) (.lit (.int 3 1))) none
    (.cons none (.mov (.loc 0)) (some (.i (.i .h)))
    .nil)))))
  .skip))))
  (.region (.cons none (.mov (.var (.o (.o (.o .h))))) none
    (.cons none (.arith .add 3 (.loc 0) (.lit (.int 3 1))) none
    (.cons none (.mov (.loc 0)) (some (.o (.o (.o .h))))
    .nil)))))))))
  (.seq (.region (.cons none (.mov (.var (.o .h))) none
    (.cons none (.mov (.var (.i (.i .h)))) none
    (.cons none (.sliceSl 1 (.loc 1) (some (.loc 0)) none none) none
    (.cons none (.clear (.cons (.int 3 0) .nil) 1 (.loc 0)) none
    .nil)))))
  (.seq (.region (.cons none (.mov (.var (.o .h))) none
    (.cons none (.mov (.var (.i (.i .h)))) none
    (.cons none (.sliceSl 1 (.loc 1) none (some (.loc 0)) none) none
    (.cons none (.mov (.loc 0)) (some (.o (.i .h)))
    .nil)))))
  .ret)))))),
  [.tmp (.o (.i .h))], none⟩
theorem c118 : FnOk Try.prog 0 118 cf118 :=
  .of Try.func118 (n := 42) (by kernel_rfl) (far := fun t => Nat.testBit 537399539 t) (by kernel_rfl)
-- tallow/cells.without[int]$1
def cf119 : CFunc := ⟨(.seq (.region (.cons none (.mov (.lit (.bool false))) (some (.i (.o .h)))
    .nil))
  (.seq (.region (.cons none (.load1 (.var (.i .h))) none
    (.cons none (.mov (.var (.o .h))) none
    (.cons none (.cmp .eql (.loc 1) (.loc 0)) none
    (.cons none (.mov (.loc 0)) (some (.i (.o .h)))
    .nil)))))
  .ret)),
  [.tmp (.i (.o .h))], none⟩
theorem c119 : FnOk Try.prog 0 119 cf119 :=
  .of Try.func119 (n := 7) (by kernel_rfl) (far := fun t => Nat.testBit 11 t) (by kernel_rfl)
-- slices.Index[[]int,int]
def cf120 : CFunc := ⟨(.seq (.region (.cons none (.mov (.lit (.int 3 0))) (some (.o (.i .h)))
    .nil))
  (.seq (.seq (.region (.cons none (.mov (.var (.o .h))) none
    (.cons none (.lenSl (.loc 0)) (some (.i (.o (.o .h))))
    (.cons none (.mov (.lit (.int 3 0))) (some (.o (.i (.o .h))))
    .nil))))
  (.block 0 (.loop (.seq (.region (.cons none (.cmp .lss (.var (.o (.i (.o .h)))) (.var (.i (.o (.o .h))))) (some (.i (.i (.o .h))))
    .nil))
  (.seq (.cond (.var (.i (.i (.o .h)))) .skip
  (.exit 0))
  (.seq (.block 1 (.seq (.region (.cons none (.mov (.var (.o (.i (.o .h))))) none
    (.cons none (.mov (.loc 0)) (some (.i (.i .h)))
    .nil)))
  (.seq (.region (.cons none (.mov (.var (.i .h))) none
    (.cons none (.mov (.var (.o .h))) none
    (.cons none (.mov (.var (.i (.i .h)))) none
    (.cons none (.idxSl 1 (.loc 1) (.loc 0)) none
    (.cons none (.load1 (.loc 0)) none
    (.cons none (.cmp .eql (.loc 4) (.loc 0)) (some (.o (.i (.o (.o .h)))))
    .nil)))))))
  (.cond (.var (.o (.i (.o (.o .h))))) (.seq (.region (.cons none (.mov (.var (.i (.i .h)))) none
    (.cons none (.mov (.loc 0)) (some (.o (.i .h)))
    .nil)))
  .ret)
  .skip))))
  (.region (.cons none (.arith .add 3 (.var (.o (.i (.o .h)))) (.lit (.int 3 1))) none
    (.cons none (.mov (.loc 0)) (some (.o (.i (.o .h))))
    .nil)))))))))
  (.seq (.region (.cons none (.mov (.lit (.int 3 (-1)))) (some (.o (.i .h)))
    .nil))
  .ret))),
  [.tmp (.o (.i .h))], none⟩
theorem c120 : FnOk Try.prog 0 120 cf120 :=
  .of Try.func120 (n := 19) (by kernel_rfl) (far := fun t => Nat.testBit 66483 t) (by kernel_rfl)
-- slices.ContainsFunc[[]tallow/api.Value,tallow/api.Value]
def cf121 : CFunc := ⟨(.seq (.region (.cons none (.mov (.lit (.bool false))) (some (.o (.i .h)))
    .nil))
  (.seq (.region (.cons none (.mov (.var (.o .h))) none
    (.cons none (.mov (.var (.i .h))) none
    (.cons none (.callF 145 (.cons (.loc 1) (.cons (.loc 0) .nil))) none
    (.cons none (.cmp .geq (.loc 0) (.lit (.int 3 0))) none
    (.cons none (.mov (.loc 0)) (some (.o (.i .h)))
    .nil))))))
  .ret)),
  [.tmp (.o (.i .h))], none⟩
theorem c121 : FnOk Try.prog 0 121 cf121 :=
  .of Try.func121 (n := 9) (by kernel_rfl) (far := fun t => Nat.testBit 19 t) (by kernel_rfl)
-- (*tallow/cells.Heap).Lay$1
def cf122 : CFunc := ⟨(.seq (.region (.cons none (.box (.var (.o .h))) (some (.o (.o .h)))
    (.cons none (.mov (.lit (.bool false))) (some (.i (.o .h)))
    .nil)))
  (.seq (.region (.cons none (.load1 (.var (.i .h))) none
    (.cons none (.loadN 2 (.var (.o (.o .h)))) none
    (.cons none (.callF 115 (.cons (.loc 1) (.cons (.loc 0) .nil))) none
    (.cons none (.not (.loc 0)) none
    (.cons none (.mov (.loc 0)) (some (.i (.o .h)))
    .nil))))))
  .ret)),
  [.tmp (.i (.o .h))], none⟩
theorem c122 : FnOk Try.prog 0 122 cf122 :=
  .of Try.func122 (n := 8) (by kernel_rfl) (far := fun t => Nat.testBit 15 t) (by kernel_rfl)
-- tallow/dict.integer
def cf123 : CFunc := ⟨(.seq (.region (.cons none (.alloc (.cons (.int 3 0) (.cons (.int 3 0) .nil)) 2) (some (.o (.o .h)))
    .nil))
  (.seq (.region (.cons none (.mov (.var (.o .h))) none
    (.cons none (.build (.cons (.int 3 0) (.cons (.int 3 0) .nil)) (.cons 0 1 (.lit (.int 3 3)) (.cons 1 1 (.loc 0) .nil))) none
    (.cons none (.store 2 (.var (.o (.o .h))) (.loc 0)) none
    .nil))))
  .ret)),
  [.cellN (.o (.o .h)) 2], none⟩
theorem c123 : FnOk Try.prog 0 123 cf123 :=
  .of Try.func123 (n := 5) (by kernel_rfl) (far := fun t => Nat.testBit 5 t) (by kernel_rfl)
-- tallow/dict.parts
def cf124 : CFunc := ⟨(.seq (.region (.cons none (.mov (.lit .nilslice)) (some (.o (.o .h)))
    (.cons none (.mov (.lit .nilslice)) (some (.i (.o .h)))
    (.cons none (.mov (.lit .nilmap)) (some (.o (.i .h)))
    (.cons none (.mov (.lit (.bool false))) (some (.i (.i .h)))
    .nil)))))
  (.seq (.seq (.region (.cons none (.mov (.var (.o .h))) none
    (.cons none (.lenSl (.loc 0)) none
    (.cons none (.cmp .lss (.loc 0) (.lit (.int 3 2))) none
    (.cons none (.mov (.loc 0)) none
    (.cons (some (0, false)) (.mov (.var (.o .h))) none
    (.cons (some (1, false)) (.idxSl 2 (.loc 0) (.lit (.int 3 1))) none
    (.cons (some (2, false)) (.fieldAddr 0 (.loc 0)) none
    (.cons (some (3, false)) (.load1 (.loc 0)) none
    (.cons (some (4, false)) (.cmp .neq (.loc 0) (.lit (.int 3 3))) none
    (.cons none (.pick (.loc 5) (.lit (.bool true)) (.loc 0)) none
    (.cons none (.mov (.loc 0)) none
    (.cons (some (0, false)) (.mov (.var (.o .h))) none
    (.cons (some (1, false)) (.idxSl 2 (.loc 0) (.lit (.int 3 1))) none
    (.cons (some (2, false)) (.fieldAddr 1 (.loc 0)) none
    (.cons (some (3, false)) (.load1 (.loc 0)) none
    (.cons (some (4, false)) (.cmp .lss (.loc 0) (.lit (.int 3 0))) none
    (.cons none (.pick (.loc 5) (.lit (.bool true)) (.loc 0)) none
    (.cons none (.mov (.loc 0)) none
    (.cons (some (0, false)) (.mov (.var (.o .h))) none
    (.cons (some (1, false)) (.idxSl 2 (.loc 0) (.lit (.int 3 1))) none
    (.cons (some (2, false)) (.fieldAddr 1 (.loc 0)) none
    (.cons (some (3, false)) (.load1 (.loc 0)) none
    (.cons (some (4, false)) (.mov (.var (.o .h))) none
    (.cons (some (5, false)) (.lenSl (.loc 0)) none
    (.cons (some (6, false)) (.arith .sub 3 (.loc 0) (.lit (.int 3 2))) none
    (.cons (some (7, false)) (.cmp .gtr (.loc 3) (.loc 0)) none
    (.cons none (.pick (.loc 8) (.lit (.bool true)) (.loc 0)) (some (.o (.o (.o (.i (.o .h))))))
    .nil))))))))))))))))))))))))))))
  (.cond (.var (.o (.o (.o (.i (.o .h)))))) (.seq (.region (.cons none (.mov (.lit .nilslice)) (some (.o (.o .h)))
    (.cons none (.mov (.lit .nilslice)) (some (.i (.o .h)))
    (.cons none (.mov (.lit .nilmap)) (some (.o (.i .h)))
    (.cons none (.mov (.lit (.bool false))) (some (.i (.i .h)))
    .nil)))))
  .ret)
  .skip))
  (.seq (.region (.cons none (.mov (.lit (.func (.func 146) .nil .nil))) (some (.o (.o (.o .h))))
    .nil))
  (.seq (.seq (.region (.cons none (.mov (.var (.o .h))) none
    (.cons none (.mov (.var (.o (.o (.o .h))))) none
    (.cons none (.callF 121 (.cons (.loc 1) (.cons (.loc 0) .nil))) none
    (.cons none (.mov (.loc 0)) none
    (.cons (some (0, false)) (.mov (.var (.o .h))) none
    (.cons (some (1, false)) (.idxSl 2 (.loc 0) (.lit (.int 3 0))) none
    (.cons (some (2, false)) (.loadN 2 (.loc 0)) none
    (.cons (some (3, false)) (.callF 129 (.cons (.loc 0) .nil)) none
    (.cons (some (4, false)) (.not (.loc 0)) none
    (.cons (some (5, false)) (.mov (.loc 0)) none
    (.cons (some (0, true)) (.mov (.var (.o .h))) none
    (.cons (some (1, true)) (.idxSl 2 (.loc 0) (.lit (.int 3 0))) none
    (.cons (some (2, true)) (.fieldAddr 0 (.loc 0)) none
    (.cons (some (3, true)) (.load1 (.loc 0)) none
    (.cons (some (4, true)) (.cmp .neq (.loc 0) (.lit (.int 3 6))) none
    (.cons (some (11, false)) (.pick (.loc 5) (.loc 0) (.lit (.bool false))) none
    (.cons none (.pick (.loc 12) (.lit (.bool true)) (.loc 0)) (some (.i (.o (.o (.i (.i .h))))))
    .nil))))))))))))))))))
  (.cond (.var (.i (.o (.o (.i (.i .h)))))) (.seq (.region (.cons none (.mov (.lit .nilslice)) (some (.o (.o .h)))
    (.cons none (.mov (.lit .nilslice)) (some (.i (.o .h)))
    (.cons none (.mov (.lit .nilmap)) (some (.o (.i .h)))
    (.cons none (.mov (.lit (.bool false))) (some (.i (.i .h)))
    .nil)))))
  .ret)
  .skip))
  (.seq (.region (.cons none (.mov (.var (.o .h))) none
    (.cons none (.idxSl 2 (.loc 0) (.lit (.int 3 1))) none
    (.cons none (.fieldAddr 1 (.loc 0)) none
    (.cons none (.load1 (.loc 0)) none
    (.cons none (.arith .add 3 (.lit (.int 3 2)) (.loc 0)) none
    (.cons none (.mov (.loc 0)) (some (.i (.o (.o .h))))
    .nil)))))))
  (.seq (.draw (.cons none (.mov (.var (.o .h))) none (.light 0)
    (.cons none (.mov (.var (.i (.o (.o .h))))) none (.light 0)
    (.cons none (.mov (.var (.i (.o (.o .h))))) none (.light 0)
    (.cons none (.sliceSl 2 (.loc 2) (some (.lit (.int 3 2))) (some (.loc 1)) (some (.loc 0))) none (.light 0)
    (.cons none (.mov (.var (.o .h))) none (.light 0)
    (.cons none (.mov (.var (.i (.o (.o .h))))) none (.light 0)
    (.cons none (.mov (.var (.o .h))) none (.light 0)
    (.cons none (.lenSl (.loc 0)) none (.light 0)
    (.cons none (.mov (.var (.o .h))) none (.light 0)
    (.cons none (.lenSl (.loc 0)) none (.light 0)
    (.cons none (.sliceSl 2 (.loc 5) (some (.loc 4)) (some (.loc 2)) (some (.loc 0))) none (.light 0)
    (.cons none (.mov (.loc 7)) (some (.o (.o .h))) (.light 0)
    (.cons none (.mov (.loc 1)) (some (.i (.o .h))) (.light 0)
    .nil))))))))))))) 0)
  (.seq (.seq (.region (.cons none (.mov (.var (.i (.o .h)))) none
    (.cons none (.lenSl (.loc 0)) none
    (.cons none (.arith .rem 3 (.loc 0) (.lit (.int 3 2))) none
    (.cons none (.cmp .neq (.loc 0) (.lit (.int 3 0))) none
    (.cons none (.mov (.loc 0)) none
    (.cons (some (0, false)) (.mov (.var (.o (.o .h)))) none
    (.cons (some (1, false)) (.lenSl (.loc 0)) none
    (.cons (some (2, false)) (.cmp .gtr (.loc 0) (.lit (.int 3 0))) none
    (.cons (some (3, false)) (.mov (.loc 0)) none
    (.cons (some (0, true)) (.mov (.var (.o (.o .h)))) none
    (.cons (some (1, true)) (.mov (.var (.o (.o .h)))) none
    (.cons (some (2, true)) (.lenSl (.loc 0)) none
    (.cons (some (3, true)) (.arith .sub 3 (.loc 0) (.lit (.int 3 1))) none
    (.cons (some (4, true)) (.idxSl 2 (.loc 3) (.loc 0)) none
    (.cons (some (5, true)) (.loadN 2 (.loc 0)) none
    (.cons (some (6, true)) (.callF 129 (.cons (.loc 0) .nil)) none
    (.cons (some (11, false)) (.pick (.loc 7) (.loc 0) (.lit (.bool false))) none
    (.cons none (.pick (.loc 12) (.lit (.bool true)) (.loc 0)) (some (.i (.i (.o (.i (.i (.o .h)))))))
    .nil)))))))))))))))))))
  (.cond (.var (.i (.i (.o (.i (.i (.o .h))))))) (.seq (.region (.cons none (.mov (.lit .nilslice)) (some (.o (.o .h)))
    (.cons none (.mov (.lit .nilslice)) (some (.i (.o .h)))
    (.cons none (.mov (.lit .nilmap)) (some (.o (.i .h)))
    (.cons none (.mov (.lit (.bool false))) (some (.i (.i .h)))
    .nil)))))
  .ret)
  .skip))
  (.seq (.region (.cons none .mkMap none
    (.cons none (.mov (.loc 0)) (some (.o (.i .h)))
    .nil)))
  (.seq (.seq (.region (.cons none (.mov (.lit (.int 3 0))) (some (.o (.i (.o .h))))
    .nil))
  (.block 0 (.loop (.seq (.seq (.region (.cons none (.mov (.var (.o (.i (.o .h))))) none
    (.cons none (.mov (.var (.i (.o .h)))) none
    (.cons none (.lenSl (.loc 0)) none
    (.cons none (.cmp .lss (.loc 2) (.loc 0)) (some (.o (.o (.o (.o (.o (.i .h)))))))
    .nil)))))
  (.cond (.var (.o (.o (.o (.o (.o (.i .h))))))) .skip
  (.exit 0)))
  (.seq (.block 1 (.seq (.region (.cons none (.mov (.var (.i (.o .h)))) none
    (.cons none (.mov (.var (.o (.i (.o .h))))) none
    (.cons none (.idxSl 2 (.loc 1) (.loc 0)) none
    (.cons none (.loadN 2 (.loc 0)) none
    (.cons none (.alloc (.cons (.int 3 0) (.cons (.int 3 0) .nil)) 2) (some (.i (.i (.o .h))))
    (.cons none (.store 2 (.loc 0) (.loc 1)) none
    .nil)))))))
  (.seq (.seq (.region (.cons none (.mov (.var (.o (.i .h)))) none
    (.cons none (.loadN 2 (.var (.i (.i (.o .h))))) none
    (.cons none (.lookup (.flat [.int, .int]) (.int 3 0) true (.loc 1) (.loc 0)) none
    (.cons none (.mov (.loc 0)) none
    (.cons none (.extract 0 (.loc 0)) none
    (.cons none (.extract 1 (.loc 1)) none
    (.cons none (.mov (.loc 1)) none
    (.cons none (.mov (.loc 1)) (some (.i (.o (.i .h))))
    .nil)))))))))
  (.seq (.region (.cons none (.mov (.var (.i (.o (.i .h))))) none
    (.cons none (.mov (.loc 0)) none
    (.cons (some (0, false)) (.loadN 2 (.var (.i (.i (.o .h))))) none
    (.cons (some (1, false)) (.callF 125 (.cons (.loc 0) .nil)) none
    (.cons (some (2, false)) (.not (.loc 0)) none
    (.cons none (.pick (.loc 3) (.lit (.bool true)) (.loc 0)) none
    (.cons none (.mov (.loc 0)) none
    (.cons (some (0, false)) (.mov (.var (.i (.o .h)))) none
    (.cons (some (1, false)) (.mov (.var (.o (.i (.o .h))))) none
    (.cons (some (2, false)) (.arith .add 3 (.loc 0) (.lit (.int 3 1))) none
    (.cons (some (3, false)) (.idxSl 2 (.loc 2) (.loc 0)) none
    (.cons (some (4, false)) (.loadN 2 (.loc 0)) none
    (.cons (some (5, false)) (.callF 129 (.cons (.loc 0) .nil)) none
    (.cons none (.pick (.loc 6) (.lit (.bool true)) (.loc 0)) none
    (.cons none (.mov (.loc 0)) none
    (.cons (some (0, false)) (.loadN 2 (.var (.i (.i (.o .h))))) none
    (.cons (some (1, false)) (.mov (.var (.o (.o .h)))) none
    (.cons (some (2, false)) (.lenSl (.loc 0)) none
    (.cons (some (3, false)) (.arith .add 3 (.loc 0) (.lit (.int 3 1))) none
    (.cons (some (4, false)) (.callF 128 (.cons (.loc 3) (.cons (.loc 0) .nil))) none
    (.cons none (.pick (.loc 5) (.lit (.bool true)) (.loc 0)) (some (.i (.o (.o (.o (.o (.o (.o .h))))))))
    .nil))))))))))))))))))))))
  (.cond (.var (.i (.o (.o (.o (.o (.o (.o .h)))))))) (.seq (.region (.cons none (.mov (.lit .nilslice)) (some (.o (.o .h)))
    (.cons none (.mov (.lit .nilslice)) (some (.i (.o .h)))
    (.cons none (.mov (.lit .nilmap)) (some (.o (.i .h)))
    (.cons none (.mov (.lit (.bool false))) (some (.i (.i .h)))
    .nil)))))
  .ret)
  .skip)))
  (.region (.cons none (.mov (.var (.o (.i .h)))) none
    (.cons none (.loadN 2 (.var (.i (.i (.o .h))))) none
    (.cons none (.mov (.var (.o (.i (.o .h))))) none
    (.cons none (.update (.flat [.int, .int]) (.loc 2) (.loc 1) (.loc 0)) none
    .nil))))))))
  (.region (.cons none (.mov (.var (.o (.i (.o .h))))) none
    (.cons none (.arith .add 3 (.loc 0) (.lit (.int 3 2))) none
    (.cons none (.mov (.loc 0)) (some (.o (.i (.o .h))))
    .nil)))))))))
  (.seq (.region (.cons none (.mov (.var (.o (.o .h)))) none
    (.cons none (.mov (.var (.i (.o .h)))) none
    (.cons none (.mov (.var (.o (.i .h)))) none
    (.cons none (.mov (.loc 2)) (some (.o (.o .h)))
    (.cons none (.mov (.loc 2)) (some (.i (.o .h)))
    (.cons none (.mov (.loc 2)) (some (.o (.i .h)))
    (.cons none (.mov (.lit (.bool true))) (some (.i (.i .h)))
    .nil))))))))
  .ret)))))))))),
  [.tmp (.o (.o .h)), .tmp (.i (.o .h)), .tmp (.o (.i .h)), .tmp (.i (.i .h))], none⟩
theorem c124 : FnOk Try.prog 0 124 cf124 :=
  .of Try.func124 (n := 134) (by kernel_rfl) (far := fun t => Nat.testBit 170141183480895242379932107323616529405 t) (by kernel_rfl)
-- tallow/val.Key
def cf125 : CFunc := ⟨(.seq (.region (.cons none (.box (.var (.o .h))) (some (.i .h))
    (.cons none (.mov (.lit (.bool false))) (some (.o (.o .h)))
    .nil)))
  (.seq (.region (.cons none (.fieldAddr 0 (.var (.i .h))) none
    (.cons none (.load1 (.loc 0)) none
    (.cons none (.cmp .gtr (.loc 0) (.lit (.int 3 1))) none
    (.cons none (.mov (.loc 0)) none
    (.cons (some (0, true)) (.loadN 2 (.var (.i .h))) none
    (.cons (some (1, true)) (.callF 117 (.cons (.loc 0) .nil)) none
    (.cons none (.pick (.loc 2) (.loc 0) (.lit (.bool false))) none
    (.cons none (.mov (.loc 0)) (some (.o (.o .h)))
    .nil)))))))))
  .ret)),
  [.tmp (.o (.o .h))], none⟩
theorem c125 : FnOk Try.prog 0 125 cf125 :=
  .of Try.func125 (n := 10) (by kernel_rfl) (far := fun t => Nat.testBit 7 t) (by kernel_rfl)
-- (*tallow/dict.table).put
def cf126 : CFunc := ⟨(.seq (.region (.cons none (.box (.var (.i .h))) (some (.o (.i .h)))
    (.cons none (.box (.var (.o (.o .h)))) (some (.i (.i .h)))
    .nil)))
  (.seq (.seq (.draw (.cons none (.loadN 2 (.var (.o (.i .h)))) none (.light 0)
    (.cons none (.mov (.var (.o .h))) none (.light 0)
    (.cons none (.nilCheck (.loc 0)) none (.light 0)
    (.cons none (.fieldAddr 0 (.loc 0)) none (.light 0)
    (.cons none (.load1 (.loc 0)) none (.light 0)
    (.cons none (.lenSl (.loc 0)) none (.light 0)
    (.cons none (.callF 128 (.cons (.loc 5) (.cons (.loc 0) .nil))) (some (.i (.i (.i .h)))) .heavy
    .nil))))))) 0)
  (.cond (.var (.i (.i (.i .h)))) (.seq (.region (.cons none (.mov (.var (.o .h))) none
    (.cons none (.fieldAddr 1 (.var (.o (.i .h)))) none
    (.cons none (.load1 (.loc 0)) none
    (.cons none (.arith .sub 3 (.loc 0) (.lit (.int 3 1))) none
    (.cons none (.loadN 2 (.var (.i (.i .h)))) none
    (.cons none (.callF 147 (.cons (.loc 4) (.cons (.loc 1) (.cons (.loc 0) .nil)))) none
    .nil)))))))
  .ret)
  .skip))
  (.seq (.region (.cons none (.mov (.var (.o .h))) none
    (.cons none (.loadN 2 (.var (.o (.i .h)))) none
    (.cons none (.callF 148 (.cons (.loc 1) (.cons (.loc 0) .nil))) none
    (.cons none (.mov (.loc 0)) (some (.o (.o (.o .h))))
    .nil)))))
  (.block 0 (.seq (.region (.cons none (.mov (.var (.o (.o (.o .h))))) none
    (.cons none (.cmp .geq (.loc 0) (.lit (.int 3 0))) none
    (.cons none (.mov (.loc 0)) none
    (.cons (some (0, true)) (.loadN 2 (.var (.i (.i .h)))) none
    (.cons (some (1, true)) (.callF 129 (.cons (.loc 0) .nil)) none
    (.cons none (.pick (.loc 2) (.loc 0) (.lit (.bool false))) none
    (.cons none (.mov (.loc 0)) (some (.o (.o (.i (.o (.o .h))))))
    .nil))))))))
  (.cond (.var (.o (.o (.i (.o (.o .h)))))) (.seq (.draw (.cons none (.mov (.var (.o .h))) none (.light 0)
    (.cons none (.mov (.var (.o .h))) none (.light 0)
    (.cons none (.nilCheck (.loc 0)) none (.light 0)
    (.cons none (.fieldAddr 1 (.loc 0)) none (.light 0)
    (.cons none (.load1 (.loc 0)) none (.light 0)
    (.cons none (.mov (.var (.o (.o (.o .h))))) none (.light 0)
    (.cons none (.arith .add 3 (.loc 0) (.lit (.int 3 1))) none (.light 0)
    (.cons none (.idxSl 2 (.loc 2) (.loc 0)) none (.light 0)
    (.cons none (.loadN 2 (.loc 0)) none (.light 0)
    (.cons none (.mov (.var (.o .h))) none (.light 0)
    (.cons none (.nilCheck (.loc 0)) none (.light 0)
    (.cons none (.fieldAddr 1 (.loc 0)) none (.light 0)
    (.cons none (.load1 (.loc 0)) none (.light 0)
    (.cons none (.mov (.var (.o (.o (.o .h))))) none (.light 0)
    (.cons none (.idxSl 2 (.loc 1) (.loc 0)) none (.light 0)
    (.cons none (.loadN 2 (.loc 0)) none (.light 0)
    (.cons none (.loadN 2 (.var (.o (.i .h)))) none (.light 0)
    (.cons none (.buildSlice (.cons (.int 3 0) (.cons (.int 3 0) .nil)) 6 3 (.cons 0 2 (.loc 8) (.cons 2 2 (.loc 1) (.cons 4 2 (.loc 0) .nil)))) none .float
    (.cons none (.callF 149 (.cons (.loc 17) (.cons (.loc 0) .nil))) none .heavy
    .nil))))))))))))))))))) 1)
  (.region (.cons none (.mov (.var (.o .h))) none
    (.cons none (.mov (.var (.o (.o (.o .h))))) none
    (.cons none (.callF 150 (.cons (.loc 1) (.cons (.loc 0) .nil))) none
    .nil)))))
  (.seq (.region (.cons none (.mov (.var (.o (.o (.o .h))))) none
    (.cons none (.cmp .geq (.loc 0) (.lit (.int 3 0))) none
    (.cons none (.mov (.loc 0)) (some (.i (.o (.o (.o (.o (.o .h)))))))
    .nil))))
  (.cond (.var (.i (.o (.o (.o (.o (.o .h))))))) (.seq (.draw (.cons none (.mov (.var (.o .h))) none (.light 0)
    (.cons none (.mov (.var (.o .h))) none (.light 0)
    (.cons none (.nilCheck (.loc 0)) none (.light 0)
    (.cons none (.fieldAddr 1 (.loc 0)) none (.light 0)
    (.cons none (.load1 (.loc 0)) none (.light 0)
    (.cons none (.mov (.var (.o (.o (.o .h))))) none (.light 0)
    (.cons none (.arith .add 3 (.loc 0) (.lit (.int 3 1))) none (.light 0)
    (.cons none (.idxSl 2 (.loc 2) (.loc 0)) none (.light 0)
    (.cons none (.loadN 2 (.loc 0)) none (.light 0)
    (.cons none (.loadN 2 (.var (.o (.i .h)))) none (.light 0)
    (.cons none (.buildSlice (.cons (.int 3 0) (.cons (.int 3 0) .nil)) 4 2 (.cons 0 2 (.loc 1) (.cons 2 2 (.loc 0) .nil))) none .float
    (.cons none (.callF 149 (.cons (.loc 10) (.cons (.loc 0) .nil))) none .heavy
    .nil)))))))))))) 1)
  (.draw (.cons none (.mov (.var (.o .h))) none (.light 0)
    (.cons none (.nilCheck (.loc 0)) none (.light 0)
    (.cons none (.fieldAddr 1 (.loc 0)) none (.light 0)
    (.cons none (.load1 (.loc 0)) none (.light 0)
    (.cons none (.mov (.var (.o (.o (.o .h))))) none (.light 0)
    (.cons none (.arith .add 3 (.loc 0) (.lit (.int 3 1))) none (.light 0)
    (.cons none (.loadN 2 (.var (.i (.i .h)))) none (.light 0)
    (.cons none (.idxSl 2 (.loc 3) (.loc 1)) none (.light 0)
    (.cons none (.store 2 (.loc 0) (.loc 1)) none .heavy
    .nil))))))))) 0))
  (.seq (.region (.cons none (.loadN 2 (.var (.i (.i .h)))) none
    (.cons none (.callF 129 (.cons (.loc 0) .nil)) none
    (.cons none (.mov (.loc 0)) (some (.o (.o (.o (.i (.i (.o .h)))))))
    .nil))))
  (.cond (.var (.o (.o (.o (.i (.i (.o .h))))))) (.region (.cons none (.mov (.var (.o .h))) none
    (.cons none (.loadN 2 (.var (.o (.i .h)))) none
    (.cons none (.buildSlice (.cons (.int 3 0) (.cons (.int 3 0) .nil)) 2 1 (.cons 0 2 (.loc 0) .nil)) none
    (.cons none (.callF 149 (.cons (.loc 2) (.cons (.loc 0) .nil))) none
    .nil)))))
  (.seq (.draw (.cons none (.loadN 2 (.var (.o (.i .h)))) none (.light 0)
    (.cons none (.mov (.var (.o .h))) none (.light 0)
    (.cons none (.nilCheck (.loc 0)) none (.light 0)
    (.cons none (.fieldAddr 0 (.loc 0)) none (.light 0)
    (.cons none (.load1 (.loc 0)) none (.light 0)
    (.cons none (.lenSl (.loc 0)) none (.light 0)
    (.cons none (.arith .add 3 (.loc 0) (.lit (.int 3 1))) none (.light 0)
    (.cons none (.callF 128 (.cons (.loc 6) (.cons (.loc 0) .nil))) none .heavy
    (.cons none (.mov (.loc 0)) (some (.i (.i (.i (.i (.i (.o .h))))))) (.light 0)
    .nil))))))))) 0)
  (.cond (.var (.i (.i (.i (.i (.i (.o .h))))))) (.region (.cons none (.mov (.var (.o .h))) none
    (.cons none (.loadN 2 (.var (.i (.i .h)))) none
    (.cons none (.callF 151 (.cons (.loc 1) (.cons (.loc 0) .nil))) none
    .nil))))
  (.draw (.cons none (.mov (.var (.o .h))) none (.light 0)
    (.cons none (.nilCheck (.loc 0)) none (.light 0)
    (.cons none (.fieldAddr 1 (.loc 0)) none (.light 0)
    (.cons none (.load1 (.loc 0)) none (.light 0)
    (.cons none (.loadN 2 (.var (.o (.i .h)))) none (.light 0)
    (.cons none (.loadN 2 (.var (.i (.i .h)))) none (.light 0)
    (.cons none (.buildSlice (.cons (.int 3 0) (.cons (.int 3 0) .nil)) 4 2 (.cons 0 2 (.loc 1) (.cons 2 2 (.loc 0) .nil))) none .float
    (.cons none (.append (.cons (.int 3 0) (.cons (.int 3 0) .nil)) 2 (.loc 3) (.loc 0)) none .heavy
    (.cons none (.mov (.var (.o .h))) none (.light 1)
    (.cons none (.nilCheck (.loc 0)) none (.light 0)
    (.cons none (.fieldAddr 1 (.loc 0)) none (.light 0)
    (.cons none (.store 1 (.loc 0) (.loc 3)) none .heavy
    .nil)))))))))))) 1))))))))))))),
  [], none⟩
theorem c126 : FnOk Try.prog 0 126 cf126 :=
  .of Try.func126 (n := 105) (by kernel_rfl) (far := fun t => Nat.testBit 9980891575961750520408842359 t) (by kernel_rfl)
-- slices.Concat[[]tallow/api.Value,tallow/api.Value]
def cf127 : CFunc := ⟨(.seq (.region (.cons none (.mov (.lit .nilslice)) (some (.o (.o .h)))
    .nil))
  (.seq (.region (.cons none (.mov (.lit (.int 3 0))) (some (.i (.o .h)))
    .nil))
  (.seq (.seq (.region (.cons none (.mov (.var (.o .h))) (some (.i (.i (.o .h))))
    (.cons none (.lenSl (.loc 0)) (some (.o (.o (.i .h))))
    (.cons none (.mov (.lit (.int 3 0))) (some (.i (.o (.i .h))))
    .nil))))
  (.block 0 (.loop (.seq (.region (.cons none (.cmp .lss (.var (.i (.o (.i .h)))) (.var (.o (.o (.i .h))))) (some (.o (.i (.i .h))))
    .nil))
  (.seq (.cond (.var (.o (.i (.i .h)))) .skip
  (.exit 0))
  (.seq (.block 1 (.seq (.region (.cons none (.idxSl 1 (.var (.i (.i (.o .h)))) (.var (.i (.o (.i .h))))) none
    (.cons none (.load1 (.loc 0)) none
    (.cons none (.mov (.loc 0)) (some (.i (.i .h)))
    .nil))))
  (.seq (.region (.cons none (.mov (.var (.i (.o .h)))) none
    (.cons none (.mov (.var (.i (.i .h)))) none
    (.cons none (.lenSl (.loc 0)) none
    (.cons none (.arith .add 3 (.loc 2) (.loc 0)) none
    (.cons none (.mov (.loc 0)) (some (.i (.o .h)))
    .nil))))))
  (.seq (.region (.cons none (.mov (.var (.i (.o .h)))) none
    (.cons none (.cmp .lss (.loc 0) (.lit (.int 3 0))) (some (.o (.i (.i (.o .h)))))
    .nil)))
  (.cond (.var (.o (.i (.i (.o .h))))) (.region (.cons none (.mkIface 9 (.lit (.str 16 134789072936214216453580009062074836332))) none
    (.cons none (.panic (.loc 0)) none
    .nil)))
  .skip)))))
  (.region (.cons none (.arith .add 3 (.var (.i (.o (.i .h)))) (.lit (.int 3 1))) none
    (.cons none (.mov (.loc 0)) (some (.i (.o (.i .h))))
    .nil)))))))))
  (.seq (.region (.cons none (.mov (.var (.i (.o .h)))) none
    (.cons none (.callF 152 (.cons (.lit .nilslice) (.cons (.loc 0) .nil))) none
    (.cons none (.mov (.loc 0)) (some (.o (.o (.o .h))))
    .nil))))
  (.seq (.seq (.region (.cons none (.mov (.var (.o .h))) (some (.i (.i (.o (.i .h)))))
    (.cons none (.lenSl (.loc 0)) (some (.o (.o (.i (.i .h)))))
    (.cons none (.mov (.lit (.int 3 0))) (some (.i (.o (.i (.i .h)))))
    .nil))))
  (.block 2 (.loop (.seq (.region (.cons none (.cmp .lss (.var (.i (.o (.i (.i .h))))) (.var (.o (.o (.i (.i .h)))))) (some (.o (.i (.i (.i .h)))))
    .nil))
  (.seq (.cond (.var (.o (.i (.i (.i .h))))) .skip
  (.exit 2))
  (.seq (.block 3 (.seq (.region (.cons none (.idxSl 1 (.var (.i (.i (.o (.i .h))))) (.var (.i (.o (.i (.i .h)))))) none
    (.cons none (.load1 (.loc 0)) none
    (.cons none (.mov (.loc 0)) (some (.o (.i (.o .h))))
    .nil))))
  (.region (.cons none (.mov (.var (.o (.o (.o .h))))) none
    (.cons none (.mov (.var (.o (.i (.o .h))))) none
    (.cons none (.append (.cons (.int 3 0) (.cons (.int 3 0) .nil)) 2 (.loc 1) (.loc 0)) none
    (.cons none (.mov (.loc 0)) (some (.o (.o (.o .h))))
    .nil)))))))
  (.region (.cons none (.arith .add 3 (.var (.i (.o (.i (.i .h))))) (.lit (.int 3 1))) none
    (.cons none (.mov (.loc 0)) (some (.i (.o (.i (.i .h)))))
    .nil)))))))))
  (.seq (.region (.cons none (.mov (.var (.o (.o (.o .h))))) none
    (.cons none (.mov (.loc 0)) (some (.o (.o .h)))
    .nil)))
  .ret)))))),
  [.tmp (.o (.o .h))], none⟩
theorem c127 : FnOk Try.prog 0 127 cf127 :=
  .of Try.func127 (n := 36) (by kernel_rfl) (far := fun t => Nat.testBit 504373101 t) (by kernel_rfl)
-- tallow/dict.placed
def cf128 : CFunc := ⟨(.seq (.region (.cons none (.box (.var (.o .h))) (some (.o (.o .h)))
    (.cons none (.mov (.lit (.bool false))) (some (.o (.i .h)))
    .nil)))
  (.seq (.region (.cons none (.fieldAddr 0 (.var (.o (.o .h)))) none
    (.cons none (.load1 (.loc 0)) none
    (.cons none (.cmp .eql (.loc 0) (.lit (.int 3 3))) none
    (.cons none (.mov (.loc 0)) none
    (.cons (some (0, true)) (.fieldAddr 1 (.var (.o (.o .h)))) none
    (.cons (some (1, true)) (.load1 (.loc 0)) none
    (.cons (some (2, true)) (.cmp .geq (.loc 0) (.lit (.int 3 1))) none
    (.cons none (.pick (.loc 3) (.loc 0) (.lit (.bool false))) none
    (.cons none (.mov (.loc 0)) none
    (.cons (some (0, true)) (.fieldAddr 1 (.var (.o (.o .h)))) none
    (.cons (some (1, true)) (.load1 (.loc 0)) none
    (.cons (some (2, true)) (.mov (.var (.i .h))) none
    (.cons (some (3, true)) (.cmp .leq (.loc 1) (.loc 0)) none
    (.cons none (.pick (.loc 4) (.loc 0) (.lit (.bool false))) none
    (.cons none (.mov (.loc 0)) (some (.o (.i .h)))
    .nil))))))))))))))))
  .ret)),
  [.tmp (.o (.i .h))], none⟩
theorem c128 : FnOk Try.prog 0 128 cf128 :=
  .of Try.func128 (n := 19) (by kernel_rfl) (far := fun t => Nat.testBit 23 t) (by kernel_rfl)
-- tallow/dict.null
def cf129 : CFunc := ⟨(.seq (.region (.cons none (.box (.var (.o .h))) (some (.i .h))
    (.cons none (.mov (.lit (.bool false))) (some (.o (.o .h)))
    .nil)))
  (.seq (.region (.cons none (.loadN 2 (.var (.i .h))) none
    (.cons none (.build (.cons (.int 3 0) (.cons (.int 3 0) .nil)) (.cons 0 1 (.lit (.int 3 1)) .nil)) none
    (.cons none (.eq (.flat [.int, .int]) false (.loc 1) (.loc 0)) none
    (.cons none (.mov (.loc 0)) (some (.o (.o .h)))
    .nil)))))
  .ret)),
  [.tmp (.o (.o .h))], none⟩
theorem c129 : FnOk Try.prog 0 129 cf129 :=
  .of Try.func129 (n := 6) (by kernel_rfl) (far := fun t => Nat.testBit 7 t) (by kernel_rfl)
-- (*tallow/pool.Pool).none
def cf130 : CFunc := ⟨(.seq (.region (.cons none (.mov (.lit (.bool false))) (some (.o (.o .h)))
    .nil))
  (.seq (.region (.cons none (.mov (.var (.o .h))) none
    (.cons none (.eq .ptr false (.loc 0) (.lit .nilptr)) none
    (.cons none (.mov (.loc 0)) none
    (.cons (some (0, false)) (.mov (.var (.o .h))) none
    (.cons (some (1, false)) (.nilCheck (.loc 0)) none
    (.cons (some (2, false)) (.fieldAddr 0 (.loc 0)) none
    (.cons (some (3, false)) (.load1 (.loc 0)) none
    (.cons (some (4, false)) (.eq .map false (.loc 0) (.lit .nilmap)) none
    (.cons none (.pick (.loc 5) (.lit (.bool true)) (.loc 0)) none
    (.cons none (.mov (.loc 0)) (some (.o (.o .h)))
    .nil)))))))))))
  .ret)),
  [.tmp (.o (.o .h))], none⟩
theorem c130 : FnOk Try.prog 0 130 cf130 :=
  .of Try.func130 (n := 12) (by kernel_rfl) (far := fun t => Nat.testBit 5 t) (by kernel_rfl)
-- tallow/dict.Check
def cf131 : CFunc := ⟨(.seq (.region (.cons none (.mov (.lit (.bool false))) (some (.o (.o .h)))
    .nil))
  (.seq (.region (.cons none (.mov (.var (.o .h))) none
    (.cons none (.callF 124 (.cons (.loc 0) .nil)) none
    (.cons none (.mov (.loc 0)) none
    (.cons none (.extract 0 (.loc 0)) none
    (.cons none (.extract 1 (.loc 1)) none
    (.cons none (.extract 2 (.loc 2)) none
    (.cons none (.extract 3 (.loc 3)) none
    (.cons none (.mov (.loc 3)) none
    (.cons none (.mov (.loc 3)) none
    (.cons none (.mov (.loc 3)) none
    (.cons none (.mov (.loc 3)) (some (.o (.o (.o .h))))
    .nil))))))))))))
  (.seq (.region (.cons none (.mov (.var (.o (.o (.o .h))))) none
    (.cons none (.mov (.loc 0)) (some (.o (.o .h)))
    .nil)))
  .ret))),
  [.tmp (.o (.o .h))], none⟩
theorem c131 : FnOk Try.prog 0 131 cf131 :=
  .of Try.func131 (n := 15) (by kernel_rfl) (far := fun t => Nat.testBit 69 t) (by kernel_rfl)
-- tallow/meta.event$1
def cf139 : CFunc := ⟨(.seq (.region (.cons none (.alloc (.cons (.int 3 0) (.cons (.int 3 0) .nil)) 2) (some (.i (.i .h)))
    .nil))
  (.seq (.seq (.region (.cons none (.load1 (.var (.i .h))) none
    (.cons none (.mov (.var (.o .h))) none
    (.cons none (.callF 114 (.cons (.loc 1) (.cons (.loc 0) .nil))) none
    (.cons none (.mov (.loc 0)) none
    (.cons none (.extract 0 (.loc 0)) none
    (.cons none (.extract 1 (.loc 1)) none
    (.cons none (.alloc (.cons (.int 3 0) (.cons (.int 3 0) .nil)) 2) (some (.o (.o (.o .h))))
    (.cons none (.store 2 (.loc 0) (.loc 2)) none
    (.cons none (.mov (.loc 2)) (some (.i (.o (.o .h))))
    .nil))))))))))
  (.seq (.region (.cons none (.mov (.var (.i (.o (.o .h))))) (some (.o (.i (.o (.o .h)))))
    .nil))
  (.cond (.var (.o (.i (.o (.o .h))))) (.seq (.region (.cons none (.load1 (.var (.o (.o .h)))) none
    (.cons none (.loadN 2 (.var (.i (.o .h)))) none
    (.cons none (.loadN 2 (.var (.o (.o (.o .h))))) none
    (.cons none (.callF 45 (.cons (.loc 2) (.cons (.loc 1) (.cons (.loc 0) .nil)))) none
    (.cons none (.mov (.loc 0)) none
    (.cons none (.extract 0 (.loc 0)) none
    (.cons none (.extract 1 (.loc 1)) none
    (.cons none (.alloc (.cons (.int 3 0) (.cons (.int 3 0) .nil)) 2) (some (.o (.i (.o .h))))
    (.cons none (.store 2 (.loc 0) (.loc 2)) none
    (.cons none (.mov (.loc 2)) (some (.i (.i (.o .h))))
    .nil)))))))))))
  (.seq (.region (.cons none (.mov (.var (.i (.i (.o .h))))) none
    (.cons none (.cmp .eql (.loc 0) (.lit (.int 3 0))) (some (.i (.i (.o (.i .h)))))
    .nil)))
  (.cond (.var (.i (.i (.o (.i .h))))) (.seq (.region (.cons none (.loadN 2 (.var (.o (.i (.o .h))))) none
    (.cons none (.store 2 (.var (.i (.i .h))) (.loc 0)) none
    .nil)))
  .ret)
  .skip)))
  .skip)))
  (.seq (.region (.cons none (.callF 109 .nil) none
    (.cons none (.store 2 (.var (.i (.i .h))) (.loc 0)) none
    .nil)))
  .ret))),
  [.cellN (.i (.i .h)) 2], none⟩
theorem c139 : FnOk Try.prog 0 139 cf139 :=
  .of Try.func139 (n := 28) (by kernel_rfl) (far := fun t => Nat.testBit 33620975 t) (by kernel_rfl)
-- tallow/meta.way$1
def cf140 : CFunc := ⟨(.block 0 (.loop (.seq (.seq (.region (.cons none (.mov (.var (.o .h))) none
    (.cons none (.loadN 2 (.var (.i .h))) none
    (.cons none (.callV (.loc 1) (.cons (.loc 0) .nil)) (some (.o (.o (.i .h))))
    .nil))))
  (.cond (.var (.o (.o (.i .h)))) .skip
  (.exit 0)))
  (.block 1 (.seq (.region (.cons none (.load1 (.var (.o (.o .h)))) none
    (.cons none (.load1 (.var (.i (.o .h)))) none
    (.cons none (.loadN 2 (.var (.i .h))) none
    (.cons none (.callF 63 (.cons (.loc 2) (.cons (.loc 1) (.cons (.loc 0) (.cons (.lit (.str 7 33888479228813151)) .nil))))) none
    (.cons none (.alloc (.cons (.int 3 0) (.cons (.int 3 0) .nil)) 2) (some (.i (.i .h)))
    (.cons none (.store 2 (.loc 0) (.loc 1)) none
    .nil)))))))
  (.seq (.seq (.region (.cons none (.load1 (.var (.o (.o .h)))) none
    (.cons none (.loadN 2 (.var (.i (.i .h)))) none
    (.cons none (.callF 47 (.cons (.loc 1) (.cons (.loc 0) .nil))) none
    (.cons none (.mov (.loc 0)) none
    (.cons none (.extract 0 (.loc 0)) none
    (.cons none (.extract 1 (.loc 1)) none
    (.cons none (.mov (.loc 1)) none
    (.cons none (.mov (.loc 1)) (some (.i (.o (.o .h))))
    .nil)))))))))
  (.seq (.region (.cons none (.mov (.var (.i (.o (.o .h))))) none
    (.cons none (.cmp .neq (.loc 0) (.lit (.int 3 0))) (some (.o (.o (.o (.i .h)))))
    .nil)))
  (.cond (.var (.o (.o (.o (.i .h))))) .ret
  .skip)))
  (.region (.cons none (.loadN 2 (.var (.i (.i .h)))) none
    (.cons none (.store 2 (.var (.i .h)) (.loc 0)) none
    .nil))))))))),
  [], none⟩
theorem c140 : FnOk Try.prog 0 140 cf140 :=
  .of Try.func140 (n := 24) (by kernel_rfl) (far := fun t => Nat.testBit 4195503 t) (by kernel_rfl)
-- (*tallow/intern.Strings).string
def cf141 : CFunc := ⟨(.seq (.region (.cons none (.box (.var (.i .h))) (some (.i (.o .h)))
    (.cons none (.alloc (.cons (.int 3 0) (.cons (.int 3 0) (.cons .nilslice (.cons (.str 0 0) (.cons (.int 3 0) .nil))))) 5) (some (.o (.i .h)))
    (.cons none (.mov (.lit (.bool false))) (some (.i (.i .h)))
    .nil))))
  (.seq (.seq (.region (.cons none (.mov (.var (.o .h))) none
    (.cons none (.eq .ptr false (.loc 0) (.lit .nilptr)) none
    (.cons none (.mov (.loc 0)) none
    (.cons (some (0, false)) (.fieldAddr 0 (.var (.i (.o .h)))) none
    (.cons (some (1, false)) (.load1 (.loc 0)) none
    (.cons (some (2, false)) (.cmp .neq (.loc 0) (.lit (.int 3 5))) none
    (.cons none (.pick (.loc 3) (.lit (.bool true)) (.loc 0)) none
    (.cons none (.mov (.loc 0)) none
    (.cons (some (0, false)) (.fieldAddr 1 (.var (.i (.o .h)))) none
    (.cons (some (1, false)) (.load1 (.loc 0)) none
    (.cons (some (2, false)) (.fieldAddr 1 (.var (.i (.o .h)))) none
    (.cons (some (3, false)) (.load1 (.loc 0)) none
    (.cons (some (4, false)) (.convInt 2 (.loc 0)) none
    (.cons (some (5, false)) (.convInt 3 (.loc 0)) none
    (.cons (some (6, false)) (.cmp .neq (.loc 4) (.loc 0)) none
    (.cons none (.pick (.loc 7) (.lit (.bool true)) (.loc 0)) (some (.o (.o (.o (.i .h)))))
    .nil)))))))))))))))))
  (.cond (.var (.o (.o (.o (.i .h))))) (.seq (.region (.cons none (.build (.cons (.int 3 0) (.cons (.int 3 0) (.cons .nilslice (.cons (.str 0 0) (.cons (.int 3 0) .nil))))) .nil) none
    (.cons none (.store 5 (.var (.o (.i .h))) (.loc 0)) none
    (.cons none (.mov (.lit (.bool false))) (some (.i (.i .h)))
    .nil))))
  .ret)
  .skip))
  (.seq (.draw (.cons none (.mov (.var (.o .h))) none (.light 0)
    (.cons none (.nilCheck (.loc 0)) none (.light 0)
    (.cons none (.fieldAddr 0 (.loc 0)) none (.light 0)
    (.cons none (.load1 (.loc 0)) none (.light 0)
    (.cons none (.fieldAddr 1 (.var (.i (.o .h)))) none (.light 0)
    (.cons none (.load1 (.loc 0)) none (.light 0)
    (.cons none (.callF 25 (.cons (.loc 2) (.cons (.loc 0) .nil))) none .heavy
    (.cons none (.alloc (.cons (.int 3 0) (.cons (.int 3 0) (.cons .nilslice (.cons (.str 0 0) (.cons (.int 3 0) .nil))))) 5) (some (.o (.o (.o .h)))) .float
    (.cons none (.store 5 (.loc 0) (.loc 1)) none .heavy
    .nil))))))))) 1)
  (.seq (.draw (.cons none (.loadN 5 (.var (.o (.o (.o .h))))) none (.light 0)
    (.cons none (.store 5 (.var (.o (.i .h))) (.loc 0)) none .heavy
    (.cons none (.fieldAddr 0 (.var (.o (.o (.o .h))))) none (.light 1)
    (.cons none (.load1 (.loc 0)) none (.light 1)
    (.cons none (.cmp .eql (.loc 0) (.lit (.int 3 5))) none (.light 1)
    (.cons none (.mov (.loc 0)) (some (.i (.i .h))) (.light 0)
    .nil)))))) 0)
  .ret)))),
  [.cellN (.o (.i .h)) 5, .tmp (.i (.i .h))], none⟩
theorem c141 : FnOk Try.prog 0 141 cf141 :=
  .of Try.func141 (n := 35) (by kernel_rfl) (far := fun t => Nat.testBit 4194427 t) (by kernel_rfl)
-- (*tallow/intern.Strings).Find$1
def cf142 : CFunc := ⟨(.seq (.region (.cons none (.alloc (.cons (.int 3 0) (.cons (.int 3 0) .nil)) 2) (some (.o (.o (.o .h))))
    (.cons none (.mov (.lit (.bool false))) (some (.i (.o (.o .h))))
    .nil)))
  (.seq (.region (.cons none (.mov (.var (.o .h))) none
    (.cons none (.build (.cons (.int 3 0) (.cons (.int 3 0) .nil)) (.cons 0 1 (.lit (.int 3 5)) (.cons 1 1 (.loc 0) .nil))) none
    (.cons none (.alloc (.cons (.int 3 0) (.cons (.int 3 0) .nil)) 2) (some (.o (.i (.o .h))))
    (.cons none (.store 2 (.loc 0) (.loc 1)) none
    .nil)))))
  (.seq (.region (.cons none (.load1 (.var (.o (.o .h)))) none
    (.cons none (.loadN 2 (.var (.o (.i (.o .h))))) none
    (.cons none (.callV (.loc 1) (.cons (.loc 0) .nil)) none
    (.cons none (.mov (.loc 0)) none
    (.cons none (.extract 0 (.loc 0)) none
    (.cons none (.extract 1 (.loc 1)) none
    (.cons none (.alloc (.cons (.int 3 0) (.cons (.int 3 0) (.cons .nilslice (.cons (.str 0 0) (.cons (.int 3 0) .nil))))) 5) (some (.i (.i (.o .h))))
    (.cons none (.store 5 (.loc 0) (.loc 2)) none
    (.cons none (.mov (.loc 2)) (some (.o (.o (.i .h))))
    .nil))))))))))
  (.seq (.seq (.region (.cons none (.mov (.var (.i .h))) none
    (.cons none (.not (.loc 0)) none
    (.cons none (.mov (.loc 0)) none
    (.cons (some (0, false)) (.mov (.var (.o (.o (.i .h))))) none
    (.cons (some (1, false)) (.not (.loc 0)) none
    (.cons none (.pick (.loc 2) (.lit (.bool true)) (.loc 0)) none
    (.cons none (.mov (.loc 0)) none
    (.cons (some (0, false)) (.fieldAddr 3 (.var (.i (.i (.o .h))))) none
    (.cons (some (1, false)) (.load1 (.loc 0)) none
    (.cons (some (2, false)) (.load1 (.var (.i (.o .h)))) none
    (.cons (some (3, false)) (.scmp .neq (.loc 1) (.loc 0)) none
    (.cons none (.pick (.loc 4) (.lit (.bool true)) (.loc 0)) none
    (.cons none (.mov (.loc 0)) none
    (.cons (some (0, false)) (.fieldAddr 1 (.var (.i (.i (.o .h))))) none
    (.cons (some (1, false)) (.load1 (.loc 0)) none
    (.cons (some (2, false)) (.cmp .eql (.loc 0) (.lit (.int 3 0))) none
    (.cons none (.pick (.loc 3) (.lit (.bool true)) (.loc 0)) (some (.i (.o (.i (.o (.o .h))))))
    .nil))))))))))))))))))
  (.cond (.var (.i (.o (.i (.o (.o .h)))))) (.seq (.region (.cons none (.build (.cons (.int 3 0) (.cons (.int 3 0) .nil)) .nil) none
    (.cons none (.store 2 (.var (.o (.o (.o .h)))) (.loc 0)) none
    (.cons none (.mov (.lit (.bool false))) (some (.i (.o (.o .h))))
    .nil))))
  .ret)
  .skip))
  (.seq (.region (.cons none (.loadN 2 (.var (.o (.i (.o .h))))) none
    (.cons none (.store 2 (.var (.o (.o (.o .h)))) (.loc 0)) none
    (.cons none (.mov (.lit (.bool true))) (some (.i (.o (.o .h))))
    .nil))))
  .ret))))),
  [.cellN (.o (.o (.o .h))) 2, .tmp (.i (.o (.o .h)))], none⟩
theorem c142 : FnOk Try.prog 0 142 cf142 :=
  .of Try.func142 (n := 38) (by kernel_rfl) (far := fun t => Nat.testBit 34359740367 t) (by kernel_rfl)
-- tallow/val.May$1
def cf143 : CFunc := ⟨(.seq (.region (.cons none (.mov (.lit (.bool false))) (some (.i (.i .h)))
    .nil))
  (.seq (.region (.cons none (.fieldAddr 1 (.var (.o (.o .h)))) none
    (.cons none (.load1 (.loc 0)) none
    (.cons none (.mov (.var (.o .h))) none
    (.cons none (.cmp .geq (.loc 1) (.loc 0)) none
    (.cons none (.mov (.loc 0)) none
    (.cons (some (0, true)) (.fieldAddr 1 (.var (.o (.o .h)))) none
    (.cons (some (1, true)) (.load1 (.loc 0)) none
    (.cons (some (2, true)) (.mov (.var (.i .h))) none
    (.cons (some (3, true)) (.cmp .leq (.loc 1) (.loc 0)) none
    (.cons none (.pick (.loc 4) (.loc 0) (.lit (.bool false))) none
    (.cons none (.mov (.loc 0)) (some (.i (.i .h)))
    .nil))))))))))))
  .ret)),
  [.tmp (.i (.i .h))], none⟩
theorem c143 : FnOk Try.prog 0 143 cf143 :=
  .of Try.func143 (n := 16) (by kernel_rfl) (far := fun t => Nat.testBit 39 t) (by kernel_rfl)
-- slices.IndexFunc[[]int,int]
def cf144 : CFunc := ⟨(.seq (.region (.cons none (.mov (.lit (.int 3 0))) (some (.o (.i .h)))
    .nil))
  (.seq (.seq (.region (.cons none (.mov (.var (.o .h))) none
    (.cons none (.lenSl (.loc 0)) (some (.i (.o (.o .h))))
    (.cons none (.mov (.lit (.int 3 0))) (some (.o (.i (.o .h))))
    .nil))))
  (.block 0 (.loop (.seq (.region (.cons none (.cmp .lss (.var (.o (.i (.o .h)))) (.var (.i (.o (.o .h))))) (some (.i (.i (.o .h))))
    .nil))
  (.seq (.cond (.var (.i (.i (.o .h)))) .skip
  (.exit 0))
  (.seq (.block 1 (.seq (.region (.cons none (.mov (.var (.o (.i (.o .h))))) none
    (.cons none (.mov (.loc 0)) (some (.i (.i .h)))
    .nil)))
  (.seq (.region (.cons none (.mov (.var (.i .h))) none
    (.cons none (.mov (.var (.o .h))) none
    (.cons none (.mov (.var (.i (.i .h)))) none
    (.cons none (.idxSl 1 (.loc 1) (.loc 0)) none
    (.cons none (.load1 (.loc 0)) none
    (.cons none (.callV (.loc 4) (.cons (.loc 0) .nil)) (some (.o (.i (.o (.o .h)))))
    .nil)))))))
  (.cond (.var (.o (.i (.o (.o .h))))) (.seq (.region (.cons none (.mov (.var (.i (.i .h)))) none
    (.cons none (.mov (.loc 0)) (some (.o (.i .h)))
    .nil)))
  .ret)
  .skip))))
  (.region (.cons none (.arith .add 3 (.var (.o (.i (.o .h)))) (.lit (.int 3 1))) none
    (.cons none (.mov (.loc 0)) (some (.o (.i (.o .h))))
    .nil)))))))))
  (.seq (.region (.cons none (.mov (.lit (.int 3 (-1)))) (some (.o (.i .h)))
    .nil))
  .ret))),
  [.tmp (.o (.i .h))], none⟩
theorem c144 : FnOk Try.prog 0 144 cf144 :=
  .of Try.func144 (n := 19) (by kernel_rfl) (far := fun t => Nat.testBit 66483 t) (by kernel_rfl)
-- slices.IndexFunc[[]tallow/api.Value,tallow/api.Value]
def cf145 : CFunc := ⟨(.seq (.region (.cons none (.mov (.lit (.int 3 0))) (some (.o (.i .h)))
    .nil))
  (.seq (.seq (.region (.cons none (.mov (.var (.o .h))) none
    (.cons none (.lenSl (.loc 0)) (some (.i (.o (.o .h))))
    (.cons none (.mov (.lit (.int 3 0))) (some (.o (.i (.o .h))))
    .nil))))
  (.block 0 (.loop (.seq (.region (.cons none (.cmp .lss (.var (.o (.i (.o .h)))) (.var (.i (.o (.o .h))))) (some (.i (.i (.o .h))))
    .nil))
  (.seq (.cond (.var (.i (.i (.o .h)))) .skip
  (.exit 0))
  (.seq (.block 1 (.seq (.region (.cons none (.mov (.var (.o (.i (.o .h))))) none
    (.cons none (.mov (.loc 0)) (some (.i (.i .h)))
    .nil)))
  (.seq (.region (.cons none (.mov (.var (.i .h))) none
    (.cons none (.mov (.var (.o .h))) none
    (.cons none (.mov (.var (.i (.i .h)))) none
    (.cons none (.idxSl 2 (.loc 1) (.loc 0)) none
    (.cons none (.loadN 2 (.loc 0)) none
    (.cons none (.callV (.loc 4) (.cons (.loc 0) .nil)) (some (.o (.i (.o (.o .h)))))
    .nil)))))))
  (.cond (.var (.o (.i (.o (.o .h))))) (.seq (.region (.cons none (.mov (.var (.i (.i .h)))) none
    (.cons none (.mov (.loc 0)) (some (.o (.i .h)))
    .nil)))
  .ret)
  .skip))))
  (.region (.cons none (.arith .add 3 (.var (.o (.i (.o .h)))) (.lit (.int 3 1))) none
    (.cons none (.mov (.loc 0)) (some (.o (.i (.o .h))))
    .nil)))))))))
  (.seq (.region (.cons none (.mov (.lit (.int 3 (-1)))) (some (.o (.i .h)))
    .nil))
  .ret))),
  [.tmp (.o (.i .h))], none⟩
theorem c145 : FnOk Try.prog 0 145 cf145 :=
  .of Try.func145 (n := 19) (by kernel_rfl) (far := fun t => Nat.testBit 66483 t) (by kernel_rfl)
-- tallow/dict.parts$1
def cf146 : CFunc := ⟨(.seq (.region (.cons none (.box (.var (.o .h))) (some (.i .h))
    (.cons none (.mov (.lit (.bool false))) (some (.o (.o .h)))
    .nil)))
  (.seq (.region (.cons none (.loadN 2 (.var (.i .h))) none
    (.cons none (.callF 117 (.cons (.loc 0) .nil)) none
    (.cons none (.not (.loc 0)) none
    (.cons none (.mov (.loc 0)) none
    (.cons (some (0, false)) (.fieldAddr 0 (.var (.i .h))) none
    (.cons (some (1, false)) (.load1 (.loc 0)) none
    (.cons (some (2, false)) (.cmp .eql (.loc 0) (.lit (.int 3 0))) none
    (.cons none (.pick (.loc 3) (.lit (.bool true)) (.loc 0)) none
    (.cons none (.mov (.loc 0)) (some (.o (.o .h)))
    .nil))))))))))
  .ret)),
  [.tmp (.o (.o .h))], none⟩
theorem c146 : FnOk Try.prog 0 146 cf146 :=
  .of Try.func146 (n := 11) (by kernel_rfl) (far := fun t => Nat.testBit 7 t) (by kernel_rfl)
-- (*tallow/dict.table).lay
def cf147 : CFunc := ⟨(.seq (.region (.cons none (.box (.var (.o (.o .h)))) (some (.i (.i .h)))
    .nil))
  (.seq (.region (.cons none (.mov (.var (.o .h))) none
    (.cons none (.mov (.var (.o .h))) none
    (.cons none (.nilCheck (.loc 0)) none
    (.cons none (.fieldAddr 0 (.loc 0)) none
    (.cons none (.load1 (.loc 0)) none
    (.cons none (.mov (.var (.i .h))) none
    (.cons none (.idxSl 2 (.loc 1) (.loc 0)) none
    (.cons none (.loadN 2 (.loc 0)) none
    (.cons none (.buildSlice (.cons (.int 3 0) (.cons (.int 3 0) .nil)) 2 1 (.cons 0 2 (.loc 0) .nil)) none
    (.cons none (.callF 149 (.cons (.loc 8) (.cons (.loc 0) .nil))) none
    .nil)))))))))))
  (.seq (.draw (.cons none (.mov (.var (.o .h))) none (.light 0)
    (.cons none (.nilCheck (.loc 0)) none (.light 0)
    (.cons none (.fieldAddr 0 (.loc 0)) none (.light 0)
    (.cons none (.load1 (.loc 0)) none (.light 0)
    (.cons none (.mov (.var (.i .h))) none (.light 0)
    (.cons none (.loadN 2 (.var (.i (.i .h)))) none (.light 0)
    (.cons none (.idxSl 2 (.loc 2) (.loc 1)) none (.light 0)
    (.cons none (.store 2 (.loc 0) (.loc 1)) none .heavy
    .nil)))))))) 0)
  (.seq (.seq (.region (.cons none (.mov (.var (.i .h))) none
    (.cons none (.mov (.var (.o .h))) none
    (.cons none (.nilCheck (.loc 0)) none
    (.cons none (.fieldAddr 0 (.loc 0)) none
    (.cons none (.load1 (.loc 0)) none
    (.cons none (.lenSl (.loc 0)) none
    (.cons none (.arith .sub 3 (.loc 0) (.lit (.int 3 1))) none
    (.cons none (.cmp .lss (.loc 6) (.loc 0)) (some (.o (.o (.o (.o (.o .h))))))
    .nil)))))))))
  (.cond (.var (.o (.o (.o (.o (.o .h)))))) .ret
  .skip))
  (.block 0 (.loop (.seq (.seq (.draw (.cons none (.mov (.var (.o .h))) none (.light 0)
    (.cons none (.nilCheck (.loc 0)) none (.light 0)
    (.cons none (.fieldAddr 0 (.loc 0)) none (.light 0)
    (.cons none (.load1 (.loc 0)) none (.light 0)
    (.cons none (.lenSl (.loc 0)) none (.light 0)
    (.cons none (.cmp .gtr (.loc 0) (.lit (.int 3 0))) none (.light 0)
    (.cons none (.mov (.loc 0)) none (.light 0)
    (.cons (some (0, true)) (.mov (.var (.o .h))) none (.light 0)
    (.cons (some (1, true)) (.nilCheck (.loc 0)) none (.light 0)
    (.cons (some (2, true)) (.fieldAddr 0 (.loc 0)) none (.light 0)
    (.cons (some (3, true)) (.load1 (.loc 0)) none (.light 0)
    (.cons (some (4, true)) (.mov (.var (.o .h))) none (.light 0)
    (.cons (some (5, true)) (.nilCheck (.loc 0)) none (.light 0)
    (.cons (some (6, true)) (.fieldAddr 0 (.loc 0)) none (.light 0)
    (.cons (some (7, true)) (.load1 (.loc 0)) none (.light 0)
    (.cons (some (8, true)) (.lenSl (.loc 0)) none (.light 0)
    (.cons (some (9, true)) (.arith .sub 3 (.loc 0) (.lit (.int 3 1))) none (.light 0)
    (.cons (some (10, true)) (.idxSl 2 (.loc 6) (.loc 0)) none (.light 0)
    (.cons (some (11, true)) (.loadN 2 (.loc 0)) none (.light 0)
    (.cons (some (12, true)) (.callF 129 (.cons (.loc 0) .nil)) none .heavy
    (.cons none (.pick (.loc 13) (.loc 0) (.lit (.bool false))) (some (.i (.o (.i (.o (.i .h)))))) (.light 0)
    .nil))))))))))))))))))))) 0)
  (.cond (.var (.i (.o (.i (.o (.i .h)))))) .skip
  (.exit 0)))
  (.block 1 (.draw (.cons none (.mov (.var (.o .h))) none (.light 0)
    (.cons none (.mov (.var (.o .h))) none (.light 0)
    (.cons none (.nilCheck (.loc 0)) none (.light 0)
    (.cons none (.fieldAddr 0 (.loc 0)) none (.light 0)
    (.cons none (.load1 (.loc 0)) none (.light 0)
    (.cons none (.mov (.var (.o .h))) none (.light 0)
    (.cons none (.nilCheck (.loc 0)) none (.light 0)
    (.cons none (.fieldAddr 0 (.loc 0)) none (.light 0)
    (.cons none (.load1 (.loc 0)) none (.light 0)
    (.cons none (.lenSl (.loc 0)) none (.light 0)
    (.cons none (.arith .sub 3 (.loc 0) (.lit (.int 3 1))) none (.light 0)
    (.cons none (.sliceSl 2 (.loc 6) none (some (.loc 0)) none) none (.light 0)
    (.cons none (.nilCheck (.loc 11)) none (.light 0)
    (.cons none (.fieldAddr 0 (.loc 0)) none (.light 0)
    (.cons none (.store 1 (.loc 0) (.loc 2)) none .heavy
    .nil))))))))))))))) 0))))))))),
  [], none⟩
theorem c147 : FnOk Try.prog 0 147 cf147 :=
  .of Try.func147 (n := 66) (by kernel_rfl) (far := fun t => Nat.testBit 2251800887427111 t) (by kernel_rfl)
-- (*tallow/dict.table).find
def cf148 : CFunc := ⟨(.seq (.region (.cons none (.box (.var (.i .h))) (some (.i (.o .h)))
    (.cons none (.mov (.lit (.int 3 0))) (some (.o (.i .h)))
    .nil)))
  (.seq (.seq (.region (.cons none (.mov (.lit (.int 3 0))) (some (.i (.i .h)))
    .nil))
  (.block 0 (.loop (.seq (.seq (.region (.cons none (.mov (.var (.i (.i .h)))) none
    (.cons none (.mov (.var (.o .h))) none
    (.cons none (.nilCheck (.loc 0)) none
    (.cons none (.fieldAddr 1 (.loc 0)) none
    (.cons none (.load1 (.loc 0)) none
    (.cons none (.lenSl (.loc 0)) none
    (.cons none (.cmp .lss (.loc 5) (.loc 0)) (some (.o (.i (.i .h))))
    .nil))))))))
  (.cond (.var (.o (.i (.i .h)))) .skip
  (.exit 0)))
  (.seq (.block 1 (.seq (.draw (.cons none (.mov (.var (.o .h))) none (.light 0)
    (.cons none (.nilCheck (.loc 0)) none (.light 0)
    (.cons none (.fieldAddr 1 (.loc 0)) none (.light 0)
    (.cons none (.load1 (.loc 0)) none (.light 0)
    (.cons none (.mov (.var (.i (.i .h)))) none (.light 0)
    (.cons none (.idxSl 2 (.loc 1) (.loc 0)) none (.light 0)
    (.cons none (.loadN 2 (.loc 0)) none (.light 0)
    (.cons none (.loadN 2 (.var (.i (.o .h)))) none (.light 0)
    (.cons none (.eq (.flat [.int, .int]) false (.loc 1) (.loc 0)) (some (.i (.o (.o (.i .h))))) (.light 0)
    .nil))))))))) 0)
  (.cond (.var (.i (.o (.o (.i .h))))) (.seq (.region (.cons none (.mov (.var (.i (.i .h)))) none
    (.cons none (.mov (.loc 0)) (some (.o (.i .h)))
    .nil)))
  .ret)
  .skip)))
  (.region (.cons none (.mov (.var (.i (.i .h)))) none
    (.cons none (.arith .add 3 (.loc 0) (.lit (.int 3 2))) none
    (.cons none (.mov (.loc 0)) (some (.i (.i .h)))
    .nil)))))))))
  (.seq (.region (.cons none (.mov (.lit (.int 3 (-1)))) (some (.o (.i .h)))
    .nil))
  .ret))),
  [.tmp (.o (.i .h))], none⟩
theorem c148 : FnOk Try.prog 0 148 cf148 :=
  .of Try.func148 (n := 25) (by kernel_rfl) (far := fun t => Nat.testBit 8392763 t) (by kernel_rfl)
-- (*tallow/dict.table).leave
def cf149 : CFunc := ⟨(.seq (.region (.cons none (.mov (.var (.i .h))) (some (.o (.o (.o .h))))
    (.cons none (.lenSl (.loc 0)) (some (.i (.o (.o .h))))
    (.cons none (.mov (.lit (.int 3 0))) (some (.o (.i (.o .h))))
    .nil))))
  (.block 0 (.loop (.seq (.region (.cons none (.cmp .lss (.var (.o (.i (.o .h)))) (.var (.i (.o (.o .h))))) (some (.i (.i (.o .h))))
    .nil))
  (.seq (.cond (.var (.i (.i (.o .h)))) .skip
  (.exit 0))
  (.seq (.block 1 (.seq (.region (.cons none (.idxSl 2 (.var (.o (.o (.o .h)))) (.var (.o (.i (.o .h))))) none
    (.cons none (.loadN 2 (.loc 0)) none
    (.cons none (.alloc (.cons (.int 3 0) (.cons (.int 3 0) .nil)) 2) (some (.i (.i .h)))
    (.cons none (.store 2 (.loc 0) (.loc 1)) none
    .nil)))))
  (.seq (.region (.cons none (.loadN 2 (.var (.i (.i .h)))) none
    (.cons none (.callF 77 (.cons (.loc 0) .nil)) (some (.i (.i (.i .h))))
    .nil)))
  (.cond (.var (.i (.i (.i .h)))) (.draw (.cons none (.mov (.var (.o .h))) none (.light 0)
    (.cons none (.nilCheck (.loc 0)) none (.light 0)
    (.cons none (.fieldAddr 2 (.loc 0)) none (.light 0)
    (.cons none (.load1 (.loc 0)) none (.light 0)
    (.cons none (.loadN 2 (.var (.i (.i .h)))) none (.light 0)
    (.cons none (.buildSlice (.cons (.int 3 0) (.cons (.int 3 0) .nil)) 2 1 (.cons 0 2 (.loc 0) .nil)) none .float
    (.cons none (.append (.cons (.int 3 0) (.cons (.int 3 0) .nil)) 2 (.loc 2) (.loc 0)) none .heavy
    (.cons none (.mov (.var (.o .h))) none (.light 1)
    (.cons none (.nilCheck (.loc 0)) none (.light 0)
    (.cons none (.fieldAddr 2 (.loc 0)) none (.light 0)
    (.cons none (.store 1 (.loc 0) (.loc 3)) none .heavy
    .nil))))))))))) 1)
  .skip))))
  (.region (.cons none (.arith .add 3 (.var (.o (.i (.o .h)))) (.lit (.int 3 1))) none
    (.cons none (.mov (.loc 0)) (some (.o (.i (.o .h))))
    .nil))))))))),
  [], none⟩
theorem c149 : FnOk Try.prog 0 149 cf149 :=
  .of Try.func149 (n := 25) (by kernel_rfl) (far := fun t => Nat.testBit 9187 t) (by kernel_rfl)
-- (*tallow/dict.table).take
def cf150 : CFunc := ⟨(.seq (.region (.cons none (.mov (.var (.o .h))) none
    (.cons none (.nilCheck (.loc 0)) none
    (.cons none (.fieldAddr 1 (.loc 0)) none
    (.cons none (.load1 (.loc 0)) none
    (.cons none (.lenSl (.loc 0)) none
    (.cons none (.arith .sub 3 (.loc 0) (.lit (.int 3 2))) none
    (.cons none (.mov (.loc 0)) (some (.o (.i .h)))
    .nil))))))))
  (.seq (.draw (.cons none (.mov (.var (.o .h))) none (.light 0)
    (.cons none (.nilCheck (.loc 0)) none (.light 0)
    (.cons none (.fieldAddr 1 (.loc 0)) none (.light 0)
    (.cons none (.load1 (.loc 0)) none (.light 0)
    (.cons none (.mov (.var (.i .h))) none (.light 0)
    (.cons none (.sliceSl 2 (.loc 1) (some (.loc 0)) none none) none (.light 0)
    (.cons none (.mov (.var (.o .h))) none (.light 0)
    (.cons none (.nilCheck (.loc 0)) none (.light 0)
    (.cons none (.fieldAddr 1 (.loc 0)) none (.light 0)
    (.cons none (.load1 (.loc 0)) none (.light 0)
    (.cons none (.mov (.var (.o (.i .h)))) none (.light 0)
    (.cons none (.sliceSl 2 (.loc 1) (some (.loc 0)) none none) none (.light 0)
    (.cons none (.copy 2 (.loc 6) (.loc 0)) none .heavy
    .nil))))))))))))) 0)
  (.region (.cons none (.mov (.var (.o .h))) none
    (.cons none (.mov (.var (.o .h))) none
    (.cons none (.nilCheck (.loc 0)) none
    (.cons none (.fieldAddr 1 (.loc 0)) none
    (.cons none (.load1 (.loc 0)) none
    (.cons none (.mov (.var (.o (.i .h)))) none
    (.cons none (.sliceSl 2 (.loc 1) none (some (.loc 0)) none) none
    (.cons none (.nilCheck (.loc 6)) none
    (.cons none (.fieldAddr 1 (.loc 0)) none
    (.cons none (.store 1 (.loc 0) (.loc 2)) none
    .nil))))))))))))),
  [], none⟩
theorem c150 : FnOk Try.prog 0 150 cf150 :=
  .of Try.func150 (n := 33) (by kernel_rfl) (far := fun t => Nat.testBit 19 t) (by kernel_rfl)
-- (*tallow/dict.table).grow
def cf151 : CFunc := ⟨(.seq (.region (.cons none (.box (.var (.i .h))) (some (.i (.o .h)))
    .nil))
  (.seq (.draw (.cons none (.mov (.var (.o .h))) none (.light 0)
    (.cons none (.nilCheck (.loc 0)) none (.light 0)
    (.cons none (.fieldAddr 0 (.loc 0)) none (.light 0)
    (.cons none (.load1 (.loc 0)) none (.light 0)
    (.cons none (.loadN 2 (.var (.i (.o .h)))) none (.light 0)
    (.cons none (.buildSlice (.cons (.int 3 0) (.cons (.int 3 0) .nil)) 2 1 (.cons 0 2 (.loc 0) .nil)) none .float
    (.cons none (.append (.cons (.int 3 0) (.cons (.int 3 0) .nil)) 2 (.loc 2) (.loc 0)) none .heavy
    (.cons none (.mov (.var (.o .h))) none (.light 1)
    (.cons none (.nilCheck (.loc 0)) none (.light 0)
    (.cons none (.fieldAddr 0 (.loc 0)) none (.light 0)
    (.cons none (.store 1 (.loc 0) (.loc 3)) none .heavy
    .nil))))))))))) 1)
  (.seq (.region (.cons none (.mov (.var (.o .h))) none
    (.cons none (.mov (.var (.o .h))) none
    (.cons none (.nilCheck (.loc 0)) none
    (.cons none (.fieldAddr 0 (.loc 0)) none
    (.cons none (.load1 (.loc 0)) none
    (.cons none (.lenSl (.loc 0)) none
    (.cons none (.arith .add 3 (.loc 0) (.lit (.int 3 1))) none
    (.cons none (.callF 123 (.cons (.loc 0) .nil)) none
    (.cons none (.callF 148 (.cons (.loc 7) (.cons (.loc 0) .nil))) none
    (.cons none (.mov (.loc 0)) (some (.o (.i .h)))
    .nil)))))))))))
  (.block 0 (.loop (.seq (.seq (.region (.cons none (.mov (.var (.o (.i .h)))) none
    (.cons none (.cmp .geq (.loc 0) (.lit (.int 3 0))) (some (.i (.i (.o (.i .h)))))
    .nil)))
  (.cond (.var (.i (.i (.o (.i .h))))) .skip
  (.exit 0)))
  (.seq (.block 1 (.seq (.draw (.cons none (.mov (.var (.o .h))) none (.light 0)
    (.cons none (.nilCheck (.loc 0)) none (.light 0)
    (.cons none (.fieldAddr 0 (.loc 0)) none (.light 0)
    (.cons none (.load1 (.loc 0)) none (.light 0)
    (.cons none (.mov (.var (.o .h))) none (.light 0)
    (.cons none (.nilCheck (.loc 0)) none (.light 0)
    (.cons none (.fieldAddr 1 (.loc 0)) none (.light 0)
    (.cons none (.load1 (.loc 0)) none (.light 0)
    (.cons none (.mov (.var (.o (.i .h)))) none (.light 0)
    (.cons none (.arith .add 3 (.loc 0) (.lit (.int 3 1))) none (.light 0)
    (.cons none (.idxSl 2 (.loc 2) (.loc 0)) none (.light 0)
    (.cons none (.loadN 2 (.loc 0)) none (.light 0)
    (.cons none (.buildSlice (.cons (.int 3 0) (.cons (.int 3 0) .nil)) 2 1 (.cons 0 2 (.loc 0) .nil)) none .float
    (.cons none (.append (.cons (.int 3 0) (.cons (.int 3 0) .nil)) 2 (.loc 9) (.loc 0)) none .heavy
    (.cons none (.mov (.var (.o .h))) none (.light 1)
    (.cons none (.nilCheck (.loc 0)) none (.light 0)
    (.cons none (.fieldAddr 0 (.loc 0)) none (.light 0)
    (.cons none (.store 1 (.loc 0) (.loc 3)) none .heavy
    .nil)))))))))))))))))) 1)
  (.region (.cons none (.mov (.var (.o .h))) none
    (.cons none (.mov (.var (.o (.i .h)))) none
    (.cons none (.callF 150 (.cons (.loc 1) (.cons (.loc 0) .nil))) none
    .nil))))))
  (.region (.cons none (.mov (.var (.o .h))) none
    (.cons none (.mov (.var (.o .h))) none
    (.cons none (.nilCheck (.loc 0)) none
    (.cons none (.fieldAddr 0 (.loc 0)) none
    (.cons none (.load1 (.loc 0)) none
    (.cons none (.lenSl (.loc 0)) none
    (.cons none (.arith .add 3 (.loc 0) (.lit (.int 3 1))) none
    (.cons none (.callF 123 (.cons (.loc 0) .nil)) none
    (.cons none (.callF 148 (.cons (.loc 7) (.cons (.loc 0) .nil))) none
    (.cons none (.mov (.loc 0)) (some (.o (.i .h)))
    .nil)))))))))))))))))),
  [], none⟩
theorem c151 : FnOk Try.prog 0 151 cf151 :=
  .of Try.func151 (n := 55) (by kernel_rfl) (far := fun t => Nat.testBit 33554459 t) (by kernel_rfl)
-- slices.Grow[[]tallow/api.Value,tallow/api.Value]
def cf152 : CFunc := ⟨(.seq (.region (.cons none (.mov (.lit .nilslice)) (some (.o (.i .h)))
    .nil))
  (.seq (.seq (.region (.cons none (.mov (.var (.i .h))) none
    (.cons none (.cmp .lss (.loc 0) (.lit (.int 3 0))) (some (.o (.o (.o .h))))
    .nil)))
  (.cond (.var (.o (.o (.o .h)))) (.region (.cons none (.mkIface 9 (.lit (.str 18 8838634371626034279618351153450530198413667))) none
    (.cons none (.panic (.loc 0)) none
    .nil)))
  .skip))
  (.seq (.seq (.region (.cons none (.mov (.var (.i .h))) none
    (.cons none (.mov (.var (.o .h))) none
    (.cons none (.capSl (.loc 0)) none
    (.cons none (.mov (.var (.o .h))) none
    (.cons none (.lenSl (.loc 0)) none
    (.cons none (.arith .sub 3 (.loc 2) (.loc 0)) none
    (.cons none (.arith .sub 3 (.loc 5) (.loc 0)) none
    (.cons none (.mov (.loc 0)) (some (.i .h))
    .nil)))))))))
  (.seq (.region (.cons none (.mov (.var (.i .h))) none
    (.cons none (.cmp .gtr (.loc 0) (.lit (.int 3 0))) (some (.o (.i (.o (.o .h)))))
    .nil)))
  (.cond (.var (.o (.i (.o (.o .h))))) (.region (.cons none (.mov (.var (.o .h))) none
    (.cons none (.mov (.var (.o .h))) none
    (.cons none (.capSl (.loc 0)) none
    (.cons none (.sliceSl 2 (.loc 2) none (some (.loc 0)) none) none
    (.cons none (.mov (.var (.i .h))) none
    (.cons none (.appendZ (.cons (.int 3 0) (.cons (.int 3 0) .nil)) 2 (.loc 1) (.loc 0)) none
    (.cons none (.mov (.var (.o .h))) none
    (.cons none (.lenSl (.loc 0)) none
    (.cons none (.sliceSl 2 (.loc 2) none (some (.loc 0)) none) none
    (.cons none (.mov (.loc 0)) (some (.o .h))
    .nil)))))))))))
  .skip)))
  (.seq (.region (.cons none (.mov (.var (.o .h))) none
    (.cons none (.mov (.loc 0)) (some (.o (.i .h)))
    .nil)))
  .ret)))),
  [.tmp (.o (.i .h))], none⟩
theorem c152 : FnOk Try.prog 0 152 cf152 :=
  .of Try.func152 (n := 27) (by kernel_rfl) (far := fun t => Nat.testBit 65619 t) (by kernel_rfl)
def tree : Tr CFunc := (.nod (.nod (.nod (.nod (.nod (.nod (.val (.val .leaf cf127 .leaf) cf63 .leaf) .leaf) (.val (.val (.val .leaf cf143 .leaf) cf79 .leaf) cf47 (.val .leaf cf111 .leaf))) (.nod (.nod (.val .leaf cf71 .leaf) .leaf) (.nod (.val (.val .leaf cf151 .leaf) cf87 .leaf) (.val .leaf cf119 .leaf)))) (.val (.nod (.nod (.nod (.val .leaf cf131 .leaf) .leaf) (.val .leaf cf99 .leaf)) (.nod (.val (.val .leaf cf147 .leaf) cf83 .leaf) (.val .leaf cf115 .leaf))) cf11 (.nod (.nod (.val (.val .leaf cf139 .leaf) cf75 .leaf) .leaf) (.val (.val .leaf cf91 .leaf) cf59 (.val .leaf cf123 .leaf))))) (.nod (.nod (.nod (.nod (.val (.val .leaf cf129 .leaf) cf65 .leaf) (.val .leaf cf97 .leaf)) (.val (.val (.val .leaf cf145 .leaf) cf81 .leaf) cf49 (.val .leaf cf113 .leaf))) (.val (.val .leaf cf41 .leaf) cf25 (.val (.val .leaf cf89 .leaf) cf57 (.val .leaf cf121 .leaf)))) (.nod (.nod (.nod .leaf (.val .leaf cf101 .leaf)) (.nod (.val (.val .leaf cf149 .leaf) cf85 .leaf) (.val .leaf cf117 .leaf))) (.nod (.val (.val (.val .leaf cf141 .leaf) cf77 .leaf) cf45 (.val .leaf cf109 .leaf)) (.val (.val .leaf cf93 .leaf) cf61 (.val .leaf cf125 .leaf)))))) (.nod (.nod (.nod (.nod (.nod (.val (.val .leaf cf128 .leaf) cf64 .leaf) (.val .leaf cf96 .leaf)) (.val (.val (.val .leaf cf144 .leaf) cf80 .leaf) cf48 (.val .leaf cf112 .leaf))) (.nod (.val .leaf cf40 .leaf) (.val (.val (.val .leaf cf152 .leaf) cf88 .leaf) cf56 (.val .leaf cf120 .leaf)))) (.nod (.nod (.nod .leaf (.val .leaf cf100 .leaf)) (.nod (.val (.val .leaf cf148 .leaf) cf84 .leaf) .leaf)) (.nod (.val (.val (.val .leaf cf140 .leaf) cf76 .leaf) cf44 .leaf) (.val (.val .leaf cf92 .leaf) cf60 (.val .leaf cf124 .leaf))))) (.nod (.nod (.val (.nod (.nod (.val .leaf cf130 .leaf) .leaf) (.val .leaf cf98 .leaf)) cf18 (.val (.val (.val .leaf cf146 .leaf) cf82 .leaf) cf50 (.val .leaf cf114 .leaf))) (.nod .leaf (.val (.val .leaf cf90 .leaf) cf58 (.val .leaf cf122 .leaf)))) (.nod (.nod (.val .leaf cf38 (.val .leaf cf102 .leaf)) (.nod (.val (.val .leaf cf150 .leaf) cf86 .leaf) (.val .leaf cf118 .leaf))) (.nod (.nod (.nod (.val .leaf cf142 .leaf) .leaf) (.val .leaf cf110 .leaf)) (.val .leaf cf62 (.val .leaf cf126 .leaf)))))))
theorem table : TblOk Try.prog 0 (fun f => tree.get (key f)) :=
  .of (by kernel_rfl) ⟨⟨⟨⟨⟨⟨⟨⟨trivial, c127, trivial⟩, c63, trivial⟩, trivial⟩, ⟨⟨⟨trivial, c143, trivial⟩, c79, trivial⟩, c47, ⟨trivial, c111, trivial⟩⟩⟩, ⟨⟨⟨trivial, c71, trivial⟩, trivial⟩, ⟨⟨⟨trivial, c151, trivial⟩, c87, trivial⟩, ⟨trivial, c119, trivial⟩⟩⟩⟩, ⟨⟨⟨⟨⟨trivial, c131, trivial⟩, trivial⟩, ⟨trivial, c99, trivial⟩⟩, ⟨⟨⟨trivial, c147, trivial⟩, c83, trivial⟩, ⟨trivial, c115, trivial⟩⟩⟩, c11, ⟨⟨⟨⟨trivial, c139, trivial⟩, c75, trivial⟩, trivial⟩, ⟨⟨trivial, c91, trivial⟩, c59, ⟨trivial, c123, trivial⟩⟩⟩⟩⟩, ⟨⟨⟨⟨⟨⟨trivial, c129, trivial⟩, c65, trivial⟩, ⟨trivial, c97, trivial⟩⟩, ⟨⟨⟨trivial, c145, trivial⟩, c81, trivial⟩, c49, ⟨trivial, c113, trivial⟩⟩⟩, ⟨⟨trivial, c41, trivial⟩, c25, ⟨⟨trivial, c89, trivial⟩, c57, ⟨trivial, c121, trivial⟩⟩⟩⟩, ⟨⟨⟨trivial, ⟨trivial, c101, trivial⟩⟩, ⟨⟨⟨trivial, c149, trivial⟩, c85, trivial⟩, ⟨trivial, c117, trivial⟩⟩⟩, ⟨⟨⟨⟨trivial, c141, trivial⟩, c77, trivial⟩, c45, ⟨trivial, c109, trivial⟩⟩, ⟨⟨trivial, c93, trivial⟩, c61, ⟨trivial, c125, trivial⟩⟩⟩⟩⟩⟩, ⟨⟨⟨⟨⟨⟨⟨trivial, c128, trivial⟩, c64, trivial⟩, ⟨trivial, c96, trivial⟩⟩, ⟨⟨⟨trivial, c144, trivial⟩, c80, trivial⟩, c48, ⟨trivial, c112, trivial⟩⟩⟩, ⟨⟨trivial, c40, trivial⟩, ⟨⟨⟨trivial, c152, trivial⟩, c88, trivial⟩, c56, ⟨trivial, c120, trivial⟩⟩⟩⟩, ⟨⟨⟨trivial, ⟨trivial, c100, trivial⟩⟩, ⟨⟨⟨trivial, c148, trivial⟩, c84, trivial⟩, trivial⟩⟩, ⟨⟨⟨⟨trivial, c140, trivial⟩, c76, trivial⟩, c44, trivial⟩, ⟨⟨trivial, c92, trivial⟩, c60, ⟨trivial, c124, trivial⟩⟩⟩⟩⟩, ⟨⟨⟨⟨⟨⟨trivial, c130, trivial⟩, trivial⟩, ⟨trivial, c98, trivial⟩⟩, c18, ⟨⟨⟨trivial, c146, trivial⟩, c82, trivial⟩, c50, ⟨trivial, c114, trivial⟩⟩⟩, ⟨trivial, ⟨⟨trivial, c90, trivial⟩, c58, ⟨trivial, c122, trivial⟩⟩⟩⟩, ⟨⟨⟨trivial, c38, ⟨trivial, c102, trivial⟩⟩, ⟨⟨⟨trivial, c150, trivial⟩, c86, trivial⟩, ⟨trivial, c118, trivial⟩⟩⟩, ⟨⟨⟨⟨trivial, c142, trivial⟩, trivial⟩, ⟨trivial, c110, trivial⟩⟩, ⟨trivial, c62, ⟨trivial, c126, trivial⟩⟩⟩⟩⟩⟩⟩
end
end Go.Proofs.Ythpnhdopheofcaa
