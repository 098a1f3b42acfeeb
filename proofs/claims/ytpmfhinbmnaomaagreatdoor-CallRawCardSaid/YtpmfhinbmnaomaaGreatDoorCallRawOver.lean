/-
  The law CallRaw: its row.
-/
import Derived.Test.YtpmfhinbmnaomaaGreatDoorRows
import Derived.Test.YtpmfhinbmnaomaaGreatDoorTie
import Derived.Test.YtpmfhinbmnaomaaGreatDoorCards
import Derived.WalkKit
import Derived.ProofKit
import Derived.LaidMore
import Derived.LaidSub
import Derived.Shelf.Vars
import Derived.OpenShut
import Derived.Stop.Joined
import Derived.Stop.LaidErr
import Derived.SevenTiedAt
import Derived.Lib.LaidTab
import Derived.Test.YtpmfhinbmnaomaaGreatDoorCallRawRun
import Derived.Test.YtpmfhinbmnaomaaGreatDoorCallRawWalk
namespace Go.Proofs.YtpmfhinbmnaomaaGreatDoor.callRaw
open Go.ChangeShapes Go.WideShapes Go.ChangeAt Go.RowKit
set_option linter.unusedVariables false
set_option linter.unusedSimpArgs false
set_option linter.deprecated false

set_option maxHeartbeats 1000000000 in
theorem closed : joinedFacts Tryz.prog 3 Tryz.f3 Rows.callRawSpec Rows.callRawRow = true := by
  unfold joinedFacts
  refine Dx.both ?_ (by as_aux_lemma => kernel_rfl)
  refine Dx.both ?_ (by as_aux_lemma => kernel_rfl)
  refine Dx.both ?_ (by as_aux_lemma => kernel_rfl)
  refine Dx.both ?_ (by as_aux_lemma => kernel_rfl)
  refine Dx.both ?_ (by as_aux_lemma => kernel_rfl)
  refine Dx.both ?_ (by as_aux_lemma => kernel_rfl)
  refine Dx.both ?_ (by as_aux_lemma => kernel_rfl)
  refine Dx.both ?_ (by as_aux_lemma => kernel_rfl)
  refine Dx.both ?_ (by as_aux_lemma => kernel_rfl)
  refine Dx.both ?_ (by as_aux_lemma => kernel_rfl)
  refine Dx.both ?_ (by as_aux_lemma => kernel_rfl)
  refine Dx.both ?_ (by as_aux_lemma => kernel_rfl)
  refine Dx.both ?_ (by as_aux_lemma => kernel_rfl)
  refine Dx.both ?_ (by as_aux_lemma => kernel_rfl)
  refine Dx.both ?_ (by as_aux_lemma => kernel_rfl)
  refine Dx.both ?_ (by as_aux_lemma => kernel_rfl)
  refine Dx.both ?_ (by as_aux_lemma => kernel_rfl)
  refine Dx.both ?_ (by as_aux_lemma => kernel_rfl)
  refine Dx.both ?_ (by as_aux_lemma => kernel_rfl)
  refine Dx.both ?_ (by as_aux_lemma => kernel_rfl)
  refine Dx.both ?_ (by as_aux_lemma => kernel_rfl)
  refine Dx.both ?_ (by as_aux_lemma => kernel_rfl)
  refine Dx.both ?_ (by as_aux_lemma => kernel_rfl)
  refine Dx.both ?_ (by as_aux_lemma => kernel_rfl)
  refine Dx.both ?_ (by as_aux_lemma => kernel_rfl)
  refine Dx.both ?_ (by as_aux_lemma => kernel_rfl)
  refine Dx.both ?_ (by as_aux_lemma => kernel_rfl)
  refine Dx.both ?_ (by as_aux_lemma => kernel_rfl)
  refine Dx.both ?_ (by as_aux_lemma => kernel_rfl)
  refine Dx.both ?_ (by as_aux_lemma => kernel_rfl)
  refine Dx.both ?_ (by as_aux_lemma => kernel_rfl)
  as_aux_lemma => kernel_rfl

theorem over : Rows.CallRawSaid :=
  OpenClaim.holds_of_wide 3 Tryz.f3 rfl rfl rfl rfl rfl rfl rfl ⟨rfl, rfl, rfl, rfl, rfl⟩ rfl rfl rfl rfl rfl (by kernel_rfl) Tryz.func3 closed
    (of_decide_eq_true (by kernel_rfl)) (by unfold Func.isWrapper; first | (rw [if_pos (by decide +kernel)]; kernel_rfl) | (rw [if_neg (by decide +kernel)]; exact ⟨rfl, rfl⟩))
    (fun os started H enc _ => lifted os started H enc)

end Go.Proofs.YtpmfhinbmnaomaaGreatDoor.callRaw
