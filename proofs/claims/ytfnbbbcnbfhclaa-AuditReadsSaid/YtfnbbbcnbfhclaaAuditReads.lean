/-
  The law AuditReads holds: its function returns true, whatever the arguments and the world. No conditions.
-/
import Derived.Test.YtfnbbbcnbfhclaaRows
import Derived.WalkKit
import Derived.ProofKit
import Derived.OpenShut
import Derived.ShutString
import Derived.ChangeOld
import Derived.Below
import Derived.Test.YtfnbbbcnbfhclaaAu
import Derived.Test.YtfnbbbcnbfhclaaDxAsl
set_option linter.unusedSimpArgs false
set_option linter.unusedVariables false
namespace Go.Proofs.Ytfnbbbcnbfhclaa.auditReads
open Go.ChangeShapes Go.WideShapes Go.ChangeAt Go.RowKit
set_option linter.unusedVariables false

theorem own : ownKnob Try.prog.godebug = none := by kernel_rfl
theorem laidOut : laidOutB Try.prog = true := by kernel_rfl

/-- The contract of the law's function, at what came in. -/
theorem walk (v0 : Value) (sv : Dx.AV) (len : Nat) (xs : List (List Dx.AV)) (a1 : Int) (w : World) (h : Dx.ArgSl [.i .i64, .i .i64, .s] w v0 sv len xs) (w1 : (Lit.int .i64 a1).wf = true) :
    Calls Try.prog 3 #[v0, .int .i64 a1] w fun e w' => e = .returned (.bool true) ∧ Below w.heap.size w w' := by
  obtain ⟨G, ρ, hs, hro, hrel, hx⟩ := Dx.arg_rel h
  exact Dx.open_calls table («as» := .cons sv (.cons (.int 3 a1) (.nil))) hs hro (reads_arg (by kernel_rfl : (fun f => tree.get (Dx.key f)) 3 = some cf3) (by kernel_rfl : (fun f => tree.get (Dx.key f)) 6 = some cf6) (by kernel_rfl : (fun f => tree.get (Dx.key f)) 7 = some cf7) (by kernel_rfl : (fun f => tree.get (Dx.key f)) 8 = some cf8) (by kernel_rfl : (fun f => tree.get (Dx.key f)) 9 = some cf9) (by kernel_rfl : (fun f => tree.get (Dx.key f)) 10 = some cf10) (by kernel_rfl : (fun f => tree.get (Dx.key f)) 11 = some cf11) (by kernel_rfl : (fun f => tree.get (Dx.key f)) 12 = some cf12) (by kernel_rfl : (fun f => tree.get (Dx.key f)) 13 = some cf13) (by kernel_rfl : (fun f => tree.get (Dx.key f)) 14 = some kf14) rfl (by kernel_rfl : (fun f => tree.get (Dx.key f)) 20 = some cf20) (by kernel_rfl : (fun f => tree.get (Dx.key f)) 21 = some cf21) (by kernel_rfl : (fun f => tree.get (Dx.key f)) 22 = some cf22) (by kernel_rfl : (fun f => tree.get (Dx.key f)) 23 = some cf23) (by kernel_rfl : (fun f => tree.get (Dx.key f)) 24 = some cf24) (by kernel_rfl : (fun f => tree.get (Dx.key f)) 25 = some cf25) (by kernel_rfl : (fun f => tree.get (Dx.key f)) 26 = some cf26) h) hrel (⟨_, _, rfl, hx, ⟨_, _, rfl, ⟨by decide, rfl⟩, rfl⟩⟩) rfl

set_option maxRecDepth 100000 in
theorem lifted (os : Os) (started : os.Started) (H : Type) (enc : TypeId × Value → H) :
    ReturnsInHanded {} Try.checked os 3 .any (Rows.auditReadsSpec.pre6 enc Try.prog Try.f3 Rows.auditReadsRow.domain false) (Rows.auditReadsSpec.post enc Try.prog Try.f3 false true false false) := by
  refine returnsInHanded_of_change (C := Try.checked) own started (by kernel_rfl) Try.func3
    (ChangeSpec.witness6 (enc := enc) (C := Try.checked) false ⟨#[], #[.slice none 0 0, .int .i64 0], []⟩ 8 (by kernel_rfl) (by kernel_rfl) (by kernel_rfl) (by kernel_rfl)) ?_
  intro W base args ds gs before hval0 hW hcnd _
  have hval : ∀ (j : Nat) t v, Try.f3.params[j]? = some t → args[j]? = some v → Value.okWide Try.prog W .any base t v := hval0
  have hW' := hW
  obtain ⟨p, q, hA0, hV, rfl, hfz, hnd⟩ := hW
  have hA : DataW.TrodAll enc Try.prog W 0 (fun _ => true) true Try.f3.params.toList args.toList ds p := hA0
  rw [Try.params3] at hA hval
  obtain ⟨v0, vs0, d0, ds0, p0, q0, hargs, rfl, rfl, h0, r0⟩ := trodAll_cons hA
  obtain ⟨v1, vs1, d1, ds1, p1, q1, rfl, rfl, rfl, h1, r1⟩ := trodAll_cons r0
  obtain ⟨rfl, rfl, rfl⟩ := trodAll_nil r1
  obtain rfl : args = #[v0, v1] := by cases args; simp_all
  obtain ⟨rfl, rfl⟩ := trodVars_none hV
  have k0 := h0
  have lt0 : ∀ x ∈ p0, x.block < W.heap.size := by obtain ⟨m, hm⟩ := k0; exact DataW.trod_lt m _ _ _ hm
  obtain ⟨sv, len, xs, h⟩ := Dx.slice_arg (ks := [.i .i64, .i .i64, .s]) Try.underlying22 (by kernel_rfl) (by kernel_rfl) (by decide) (hval 0 22 v0 rfl rfl) h0
  obtain ⟨a1, rfl, rfl, rfl, w1⟩ := open_int Try.underlying3 (hval 1 3 v1 rfl rfl) h1
  clear hA0 hval0
  refine (walk v0 sv len xs a1 W h w1).mono fun e W' ⟨he, bel⟩ => ?_
  subst he
  exact ⟨_, rfl, _, _, _, [], _, [], hW', trodAll_mk1 (shut_bool Try.underlying4 _), (trodAll_cons_mk (Below.trod laidOut (by kernel_rfl) (of_decide_eq_true (by kernel_rfl)) k0 bel lt0) (trodAll_cons_mk (shut_int Try.underlying3 w1) trodAll_mk0)), rfl, bel.frame _, fun h => by cases h⟩

theorem over : Rows.auditReadsRow.holds Try.pinned (OpenSpec.ofChange Rows.auditReadsSpec) :=
  OpenClaim.holds_of_wide 3 Try.f3 rfl rfl rfl rfl rfl rfl rfl ⟨rfl, rfl, rfl, rfl, rfl⟩ rfl rfl rfl rfl rfl (by kernel_rfl) Try.func3 (by kernel_rfl)
    (of_decide_eq_true (by kernel_rfl)) (by unfold Func.isWrapper; first | (rw [if_pos (by decide +kernel)]; kernel_rfl) | (rw [if_neg (by decide +kernel)]; exact ⟨rfl, rfl⟩))
    (fun os started H enc _ => lifted os started H enc)

/-- The statement. -/
theorem proved : Rows.AuditReadsSaid := over
#print axioms proved
end Go.Proofs.Ytfnbbbcnbfhclaa.auditReads
