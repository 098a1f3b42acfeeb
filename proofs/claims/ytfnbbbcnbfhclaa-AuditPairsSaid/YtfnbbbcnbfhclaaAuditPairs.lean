/-
  The law AuditPairs holds: its function returns true, whatever the arguments and the world. No conditions.
-/
import Derived.Test.YtfnbbbcnbfhclaaRows
import Derived.WalkKit
import Derived.ProofKit
import Derived.OpenShut
import Derived.ShutString
import Derived.ChangeOld
import Derived.Below
import Derived.Test.YtfnbbbcnbfhclaaAu2
import Derived.Test.YtfnbbbcnbfhclaaDxAsl
set_option linter.unusedSimpArgs false
set_option linter.unusedVariables false
namespace Go.Proofs.Ytfnbbbcnbfhclaa.auditPairs
open Go.ChangeShapes Go.WideShapes Go.ChangeAt Go.RowKit
set_option linter.unusedVariables false

theorem own : ownKnob Try.prog.godebug = none := by kernel_rfl
theorem laidOut : laidOutB Try.prog = true := by kernel_rfl

/-- The contract of the law's function, at what came in. -/
theorem walk (a0 : Int) (v1 : Value) (sv : Dx.AV) (len : Nat) (xs : List (List Dx.AV)) (w : World) (w0 : (Lit.int .u8 a0).wf = true) (h : Dx.ArgSl [.i .u8] w v1 sv len xs) :
    Calls Try.prog 4 #[.int .u8 a0, v1] w fun e w' => e = .returned (.bool true) ∧ Below w.heap.size w w' := by
  obtain ⟨G, ρ, hs, hro, hrel, hx⟩ := Dx.arg_rel h
  exact Dx.open_calls table («as» := .cons (.int 4 a0) (.cons sv (.nil))) hs hro (pairs_arg (by kernel_rfl : (fun f => tree.get (Dx.key f)) 4 = some cf4) (by kernel_rfl : (fun f => tree.get (Dx.key f)) 9 = some cf9) (by kernel_rfl : (fun f => tree.get (Dx.key f)) 12 = some cf12) (by kernel_rfl : (fun f => tree.get (Dx.key f)) 14 = some kf14) rfl (by kernel_rfl : (fun f => tree.get (Dx.key f)) 15 = some cf15) (by kernel_rfl : (fun f => tree.get (Dx.key f)) 16 = some cf16) (by kernel_rfl : (fun f => tree.get (Dx.key f)) 17 = some cf17) (by kernel_rfl : (fun f => tree.get (Dx.key f)) 22 = some cf22) (by kernel_rfl : (fun f => tree.get (Dx.key f)) 23 = some cf23) (by kernel_rfl : (fun f => tree.get (Dx.key f)) 24 = some cf24) (by kernel_rfl : (fun f => tree.get (Dx.key f)) 25 = some cf25) (by kernel_rfl : (fun f => tree.get (Dx.key f)) 26 = some cf26) w0 h) hrel (⟨_, _, rfl, ⟨by decide, rfl⟩, ⟨_, _, rfl, hx, rfl⟩⟩) rfl

set_option maxRecDepth 100000 in
theorem lifted (os : Os) (started : os.Started) (H : Type) (enc : TypeId × Value → H) :
    ReturnsInHanded {} Try.checked os 4 .any (Rows.auditPairsSpec.pre6 enc Try.prog Try.f4 Rows.auditPairsRow.domain false) (Rows.auditPairsSpec.post enc Try.prog Try.f4 false true false false) := by
  refine returnsInHanded_of_change (C := Try.checked) own started (by kernel_rfl) Try.func4
    (ChangeSpec.witness6 (enc := enc) (C := Try.checked) false ⟨#[], #[.int .u8 0, .slice none 0 0], []⟩ 8 (by kernel_rfl) (by kernel_rfl) (by kernel_rfl) (by kernel_rfl)) ?_
  intro W base args ds gs before hval0 hW hcnd _
  have hval : ∀ (j : Nat) t v, Try.f4.params[j]? = some t → args[j]? = some v → Value.okWide Try.prog W .any base t v := hval0
  have hW' := hW
  obtain ⟨p, q, hA0, hV, rfl, hfz, hnd⟩ := hW
  have hA : DataW.TrodAll enc Try.prog W 0 (fun _ => true) true Try.f4.params.toList args.toList ds p := hA0
  rw [Try.params4] at hA hval
  obtain ⟨v0, vs0, d0, ds0, p0, q0, hargs, rfl, rfl, h0, r0⟩ := trodAll_cons hA
  obtain ⟨v1, vs1, d1, ds1, p1, q1, rfl, rfl, rfl, h1, r1⟩ := trodAll_cons r0
  obtain ⟨rfl, rfl, rfl⟩ := trodAll_nil r1
  obtain rfl : args = #[v0, v1] := by cases args; simp_all
  obtain ⟨rfl, rfl⟩ := trodVars_none hV
  obtain ⟨a0, rfl, rfl, rfl, w0⟩ := open_int Try.underlying5 (hval 0 5 v0 rfl rfl) h0
  have k1 := h1
  have lt1 : ∀ x ∈ p1, x.block < W.heap.size := by obtain ⟨m, hm⟩ := k1; exact DataW.trod_lt m _ _ _ hm
  obtain ⟨sv, len, xs, h⟩ := Dx.slice_arg (ks := [.i .u8]) Try.underlying33 (by kernel_rfl) (by kernel_rfl) (by decide) (hval 1 33 v1 rfl rfl) h1
  clear hA0 hval0
  refine (walk a0 v1 sv len xs W w0 h).mono fun e W' ⟨he, bel⟩ => ?_
  subst he
  exact ⟨_, rfl, _, _, _, [], _, [], hW', trodAll_mk1 (shut_bool Try.underlying4 _), (trodAll_cons_mk (shut_int Try.underlying5 w0) (trodAll_cons_mk (Below.trod laidOut (by kernel_rfl) (of_decide_eq_true (by kernel_rfl)) k1 bel lt1) trodAll_mk0)), rfl, bel.frame _, fun h => by cases h⟩

theorem over : Rows.auditPairsRow.holds Try.pinned (OpenSpec.ofChange Rows.auditPairsSpec) :=
  OpenClaim.holds_of_wide 4 Try.f4 rfl rfl rfl rfl rfl rfl rfl ⟨rfl, rfl, rfl, rfl, rfl⟩ rfl rfl rfl rfl rfl (by kernel_rfl) Try.func4 (by kernel_rfl)
    (of_decide_eq_true (by kernel_rfl)) (by unfold Func.isWrapper; first | (rw [if_pos (by decide +kernel)]; kernel_rfl) | (rw [if_neg (by decide +kernel)]; exact ⟨rfl, rfl⟩))
    (fun os started H enc _ => lifted os started H enc)

/-- The statement. -/
theorem proved : Rows.AuditPairsSaid := over
#print axioms proved
end Go.Proofs.Ytfnbbbcnbfhclaa.auditPairs
