/-
  The law GenKnown holds: its function returns true, whatever the world in which its listed package-level variables hold what start-up lays. The tied card. No other conditions.
-/
import Derived.Test.YtflbicbcphmgoaaGreatDoorRows
import Derived.Test.YtflbicbcphmgoaaGreatDoorTie
import Derived.Test.YtflbicbcphmgoaaGreatDoorCards
import Derived.WalkKit
import Derived.ProofKit
import Derived.LaidMore
import Derived.LaidSub
import Derived.Shelf.Vars
import Derived.OpenShut
import Derived.Stop.Joined
import Derived.Stop.LaidErr
import Derived.SevenTiedAt
import Derived.Lib.LaidTab
import Derived.Test.YtflbicbcphmgoaaGreatDoorGenKnownRun
import Derived.Test.YtflbicbcphmgoaaGreatDoorGenKnownOver
namespace Go.Proofs.YtflbicbcphmgoaaGreatDoor.genKnown
open Go.ChangeShapes Go.WideShapes Go.ChangeAt Go.RowKit
set_option linter.unusedVariables false
set_option linter.unusedSimpArgs false
set_option linter.deprecated false

/-- The tied card. -/
theorem proved : Rows.GenKnownCardSaid :=
  Claim7.holds_tied_plain_at .later [] [.data, .data, .data, .handle, .sentinel, .sentinel, .listed, .data] true (true, "a4d8b7bfe95d5923215ddfe40fbecf6498dad5a298967eac8e85305cd4304502") true
    over (fun _ h => by cases h) (by as_aux_lemma => kernel_rfl) (fun _ h => by cases h) genKnown_row_tie rfl ⟨rfl, rfl⟩ (by as_aux_lemma => kernel_rfl) rfl
    (fun f fn hf hfn => by
      obtain rfl : f = 3 := Option.some.inj ((show Tryz.prog.funcNamed "tallow/tallowlaw24.GenKnown" = some 3 by kernel_rfl).symm.trans hf) |>.symm
      obtain rfl : fn = Tryz.f3 := (Option.some.inj (Tryz.func3.symm.trans hfn)).symm
      exact ⟨by as_aux_lemma => kernel_rfl, fun j t ht => by
        rw [Tryz.params3] at ht
        simp at ht⟩)
    (by as_aux_lemma => kernel_rfl)
#print axioms proved
end Go.Proofs.YtflbicbcphmgoaaGreatDoor.genKnown
