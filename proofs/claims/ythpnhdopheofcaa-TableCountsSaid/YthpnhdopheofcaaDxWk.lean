import Derived.Test.YthpnhdopheofcaaDxLt
set_option linter.unusedSimpArgs false
set_option linter.unusedVariables false
namespace Go.Dx
attribute [go_sem] beq_self_eq_true bne_self_eq_false decide_true decide_false Bool.not_true Bool.not_false Bool.false_eq_true false_and and_false not_true_eq_false not_false_eq_true
attribute [go_sem_proc] reduceCtorEq Nat.reduceEqDiff Nat.reduceAdd Nat.reduceMul Nat.reduceLeDiff Nat.reduceSub Nat.reduceLT Nat.reduceBEq Nat.reduceBNe Int.reduceBEq Int.reduceBNe Int.reduceLT Int.reduceLE Int.reduceAdd Int.reduceEq Int.reduceNe
end Go.Dx
