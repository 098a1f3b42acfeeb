/-
  For open laws: a reading instruction that is looked at in elder states too.
-/
import Derived.Test.YtfnbbbcnbfhclaaDxLv
set_option linter.unusedSimpArgs false
set_option linter.unusedVariables false
namespace Go.Dx
section
variable (tbl : Nat → Option CFunc) {ci : CI} {ls : AV} {fr : Tr AV} {dst : Option Pos} {M : Mem} {Q : Ex → Tr AV → Mem → Prop} (d : DIs) (R : List Pos) (Ms : List Mem)
@[go_sem] theorem bkW_succ (bk : Nat) (v : AV) (M' : Mem) : bkW tbl false ci (bk + 1) d R (M' :: Ms) ls fr dst M Q v = (bsW tbl ci.still ci ls fr v bk M' Ms ∧ dK tbl d R (M' :: Ms) ls fr dst Q v M) := by
  rw [← backW_succ]
  simp [bkW, dK]
@[go_sem] theorem backW_more (v : AV) (n : Nat) (M' : Mem) : backW ci ls fr v (n + 1) (M' :: Ms) = bsW (fun _ => none) ci.still ci ls fr v n M' Ms := backW_succ _ _ _ _ _ _ _ _
attribute [go_sem] true_and and_true
@[go_sem] theorem natO_zero (c : Nat) : natO (.int c 0) = some 0 := _root_.id rfl
@[go_sem] theorem natO_one (c : Nat) : natO (.int c 1) = some 1 := _root_.id rfl
@[go_sem] theorem Int.cast0 : ((0 : Nat) : Int) = 0 := _root_.id rfl
end
end Go.Dx
