/-
  The law CallRaw holds: its function returns true, whatever the world in which its listed package-level variables hold what start-up lays. The tied card. No other conditions.
-/
import Derived.Test.YtpmfhinbmnaomaaGreatDoorRows
import Derived.Test.YtpmfhinbmnaomaaGreatDoorTie
import Derived.Test.YtpmfhinbmnaomaaGreatDoorCards
import Derived.WalkKit
import Derived.ProofKit
import Derived.LaidMore
import Derived.LaidSub
import Derived.Shelf.Vars
import Derived.OpenShut
import Derived.Stop.Joined
import Derived.Stop.LaidErr
import Derived.SevenTiedAt
import Derived.Lib.LaidTab
import Derived.Test.YtpmfhinbmnaomaaGreatDoorCallRawRun
import Derived.Test.YtpmfhinbmnaomaaGreatDoorCallRawOver
namespace Go.Proofs.YtpmfhinbmnaomaaGreatDoor.callRaw
open Go.ChangeShapes Go.WideShapes Go.ChangeAt Go.RowKit
set_option linter.unusedVariables false
set_option linter.unusedSimpArgs false
set_option linter.deprecated false

/-- The tied card. -/
theorem proved : Rows.CallRawCardSaid :=
  Claim7.holds_tied_plain_at .later [] [.data, .data, .data] true (true, "b944a20721b0df76f9813af207ed4e5ef3f26ce2a474d8fdf9b7f754bc596a3f") false
    over (fun _ h => by cases h) (by as_aux_lemma => kernel_rfl) (fun _ h => by cases h) callRaw_row_tie rfl ⟨rfl, rfl⟩ (by as_aux_lemma => kernel_rfl) rfl
    (fun f fn hf hfn => by
      obtain rfl : f = 3 := Option.some.inj ((show Tryz.prog.funcNamed "tallow/tallowlaw28.CallRaw" = some 3 by kernel_rfl).symm.trans hf) |>.symm
      obtain rfl : fn = Tryz.f3 := (Option.some.inj (Tryz.func3.symm.trans hfn)).symm
      exact ⟨by as_aux_lemma => kernel_rfl, fun j t ht => by
        rw [Tryz.params3] at ht
        rcases j with _ | _ | _ | j
        · obtain rfl : 2 = t := by simpa using ht
          kernel_rfl
        · obtain rfl : 2 = t := by simpa using ht
          kernel_rfl
        · obtain rfl : 4 = t := by simpa using ht
          kernel_rfl
        · simp at ht⟩)
    (by as_aux_lemma => kernel_rfl)
#print axioms proved
end Go.Proofs.YtpmfhinbmnaomaaGreatDoor.callRaw
