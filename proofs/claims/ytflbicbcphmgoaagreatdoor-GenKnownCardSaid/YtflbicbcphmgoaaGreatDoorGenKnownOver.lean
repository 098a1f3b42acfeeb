/-
  The law GenKnown: its row.
-/
import Derived.Test.YtflbicbcphmgoaaGreatDoorRows
import Derived.Test.YtflbicbcphmgoaaGreatDoorTie
import Derived.Test.YtflbicbcphmgoaaGreatDoorCards
import Derived.WalkKit
import Derived.ProofKit
import Derived.LaidMore
import Derived.LaidSub
import Derived.Shelf.Vars
import Derived.OpenShut
import Derived.Stop.Joined
import Derived.Stop.LaidErr
import Derived.SevenTiedAt
import Derived.Lib.LaidTab
import Derived.Test.YtflbicbcphmgoaaGreatDoorGenKnownRun
import Derived.Test.YtflbicbcphmgoaaGreatDoorGenKnownWalk
namespace Go.Proofs.YtflbicbcphmgoaaGreatDoor.genKnown
open Go.ChangeShapes Go.WideShapes Go.ChangeAt Go.RowKit
set_option linter.unusedVariables false
set_option linter.unusedSimpArgs false
set_option linter.deprecated false

set_option maxHeartbeats 1000000000 in
theorem closed : joinedFacts Tryz.prog 3 Tryz.f3 Rows.genKnownSpec Rows.genKnownRow = true := by
  unfold joinedFacts
  refine Dx.both ?_ (by as_aux_lemma => kernel_rfl)
  refine Dx.both ?_ (by as_aux_lemma => kernel_rfl)
  refine Dx.both ?_ (by as_aux_lemma => kernel_rfl)
  refine Dx.both ?_ (by as_aux_lemma => kernel_rfl)
  refine Dx.both ?_ (by as_aux_lemma => kernel_rfl)
  refine Dx.both ?_ (by as_aux_lemma => kernel_rfl)
  refine Dx.both ?_ (by as_aux_lemma => kernel_rfl)
  refine Dx.both ?_ (by as_aux_lemma => kernel_rfl)
  refine Dx.both ?_ (by as_aux_lemma => kernel_rfl)
  refine Dx.both ?_ (by as_aux_lemma => kernel_rfl)
  refine Dx.both ?_ (by as_aux_lemma => kernel_rfl)
  refine Dx.both ?_ (by as_aux_lemma => kernel_rfl)
  refine Dx.both ?_ (by as_aux_lemma => kernel_rfl)
  refine Dx.both ?_ (by as_aux_lemma => kernel_rfl)
  refine Dx.both ?_ (by as_aux_lemma => kernel_rfl)
  refine Dx.both ?_ (by as_aux_lemma => kernel_rfl)
  refine Dx.both ?_ (by as_aux_lemma => kernel_rfl)
  refine Dx.both ?_ (by as_aux_lemma => kernel_rfl)
  refine Dx.both ?_ (by as_aux_lemma => kernel_rfl)
  refine Dx.both ?_ (by as_aux_lemma => kernel_rfl)
  refine Dx.both ?_ (by as_aux_lemma => kernel_rfl)
  refine Dx.both ?_ (by as_aux_lemma => kernel_rfl)
  refine Dx.both ?_ (by as_aux_lemma => kernel_rfl)
  refine Dx.both ?_ (by as_aux_lemma => kernel_rfl)
  refine Dx.both ?_ (by as_aux_lemma => kernel_rfl)
  refine Dx.both ?_ (by as_aux_lemma => kernel_rfl)
  refine Dx.both ?_ (by as_aux_lemma => kernel_rfl)
  refine Dx.both ?_ (by as_aux_lemma => kernel_rfl)
  refine Dx.both ?_ (by as_aux_lemma => kernel_rfl)
  refine Dx.both ?_ (by as_aux_lemma => kernel_rfl)
  refine Dx.both ?_ (by as_aux_lemma => kernel_rfl)
  as_aux_lemma => kernel_rfl

theorem over : Rows.GenKnownSaid :=
  OpenClaim.holds_of_wide 3 Tryz.f3 rfl rfl rfl rfl rfl rfl rfl ⟨rfl, rfl, rfl, rfl, rfl⟩ rfl rfl rfl rfl rfl (by kernel_rfl) Tryz.func3 closed
    (of_decide_eq_true (by kernel_rfl)) (by unfold Func.isWrapper; first | (rw [if_pos (by decide +kernel)]; kernel_rfl) | (rw [if_neg (by decide +kernel)]; exact ⟨rfl, rfl⟩))
    (fun os started H enc _ => lifted os started H enc)

end Go.Proofs.YtflbicbcphmgoaaGreatDoor.genKnown
