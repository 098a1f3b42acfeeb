/-
  The law CompileKnown holds: its function returns true, whatever the world in which its listed package-level variables hold what start-up lays. The tied card. No other conditions.
-/
import Derived.Test.YtflbicbcphmgoabGreatDoorRows
import Derived.Test.YtflbicbcphmgoabGreatDoorTie
import Derived.Test.YtflbicbcphmgoabGreatDoorCards
import Derived.WalkKit
import Derived.ProofKit
import Derived.LaidMore
import Derived.LaidSub
import Derived.Shelf.Vars
import Derived.OpenShut
import Derived.Stop.Joined
import Derived.Stop.LaidErr
import Derived.SevenTiedAt
import Derived.Lib.LaidTab
import Derived.Test.YtflbicbcphmgoabGreatDoorCompileKnownRun
import Derived.Test.YtflbicbcphmgoabGreatDoorCompileKnownOver
namespace Go.Proofs.YtflbicbcphmgoabGreatDoor.compileKnown
open Go.ChangeShapes Go.WideShapes Go.ChangeAt Go.RowKit
set_option linter.unusedVariables false
set_option linter.unusedSimpArgs false
set_option linter.deprecated false

/-- The tied card. -/
theorem proved : Rows.CompileKnownCardSaid :=
  Claim7.holds_tied_plain_at .later [] [.data, .data, .data, .handle, .sentinel, .sentinel, .listed, .data] true (true, "a4dface7a9e11d270fdf110d2cb5e48c4f62d46c5d1003fdc2196fe6f3c3bd8a") true
    over (fun _ h => by cases h) (by as_aux_lemma => kernel_rfl) (fun _ h => by cases h) compileKnown_row_tie rfl ⟨rfl, rfl⟩ (by as_aux_lemma => kernel_rfl) rfl
    (fun f fn hf hfn => by
      obtain rfl : f = 3 := Option.some.inj ((show Tryz.prog.funcNamed "tallow/tallowlaw25.CompileKnown" = some 3 by kernel_rfl).symm.trans hf) |>.symm
      obtain rfl : fn = Tryz.f3 := (Option.some.inj (Tryz.func3.symm.trans hfn)).symm
      exact ⟨by as_aux_lemma => kernel_rfl, fun j t ht => by
        rw [Tryz.params3] at ht
        simp at ht⟩)
    (by as_aux_lemma => kernel_rfl)
#print axioms proved
end Go.Proofs.YtflbicbcphmgoabGreatDoor.compileKnown
